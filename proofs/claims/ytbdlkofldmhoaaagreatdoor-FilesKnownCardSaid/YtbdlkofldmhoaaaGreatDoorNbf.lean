/- A part of the proof: FilesKnown holds. -/
import Derived.Test.YtbdlkofldmhoaaaGreatDoorNbe
set_option maxRecDepth 100000
namespace Go.Proofs.YtbdlkofldmhoaaaGreatDoor
open Go Go.HL Go.Wk
attribute [local irreducible] ptrW ifW brW andW rdT alW letJ stW muW biW vaW imW callT cvalT app callW invW callVW sizeT oW nilF oneK loopW rfW funW begW roundK exW idxW Gr Put
def slF (y:Sl):Value := .slice y.base y.len y.cap
theorem litF {σ:H} {b:Nat} (l:List ByteArray) (h:σ b=some (.cells ⟨l.map Value.string⟩ 9 (0,0))):RowsAt σ 1 (strRows l) ⟨some ⟨b,0,none⟩,l.length,l.length⟩:=by
 refine⟨by rw[strRows_len],.inr ⟨b,0,_,_,_,rfl,h,fun i r hr => ?_⟩⟩
 unfold strRows at hr
 rw[List.getElem?_map]at hr
 cases hi:l[i]? with
 | none=>rw[hi]at hr;cases hr
 | some s =>
  rw[hi]at hr;cases hr
  refine⟨rfl,?_⟩
  have:(l.map Value.string)[i]? = some (.string s):=by rw[List.getElem?_map,hi];rfl
  rw[Nat.zero_add,Nat.mul_one]
  rw[drop_of this];rfl
structure KAc (σ0:H) (bf:Nat) (A:AT) (B:Nat->Prop) (τ σ:H) (L:List (List ByteArray)) (ys:List Sl):Prop where
 fs:FsAt σ bf A B
 off:Off τ σ B
 gr:Gr σ0 τ
 len:ys.length=L.length
 acc : ∀ (i:Nat) l y,L[i]? = some l->ys[i]? = some y->RowsAt τ 1 (strRows l) y/\y.len<=y.cap
def LLF (τ:H) (L:List (List ByteArray)) (x:Sl):Prop := ∃ys:List Sl,ys.length=L.length/\RowsAt τ 1 (ys.map fun y=>[slF y]) x /\ ∀ (i:Nat) l y,L[i]? = some l->ys[i]? = some y->RowsAt τ 1 (strRows l) y/\y.len<=y.cap
section
variable {σ0 τ σ : H} {bf : Nat} {A : AT} {B : Nat -> Prop} {L : List (List ByteArray)} {ys : List Sl}
theorem LLF.len {x:Sl} (h:LLF τ L x):x.len=L.length:=by
 obtain⟨ys,h1,h2,_⟩:=h
 rw[h2.1,List.length_map,h1]
theorem LLF.row {x:Sl} (h:LLF τ L x) {i:Nat} {l:List ByteArray} (hi:L[i]? = some l) : ∃g o y,x.base=some ⟨g,o,none⟩/\i<x.len/\rdC g (o+i * 1) τ=some (slF y)/\RowsAt τ 1 (strRows l) y/\y.len<=y.cap:=by
 have hl:=h.len
 obtain⟨ys,h1,h2,h3⟩:=h
 have hlt:i<L.length:=by
  rcases Nat.lt_or_ge i L.length with h | h
  ·exact h
  ·rw[List.getElem?_eq_none h]at hi;cases hi
 obtain⟨y,hy⟩ : ∃y,ys[i]? = some y:=⟨_,List.getElem?_eq_getElem (by omega)⟩
 obtain⟨g,o,a1,_,a3⟩:=h2.rdA (i:=i) (r:=[slF y]) (by rw[List.getElem?_map,hy];rfl) (by decide)
 exact⟨g,o,y,a1,by omega,by simpa using a3 0 _ rfl,(h3 i l y hi hy).1,(h3 i l y hi hy).2⟩
theorem acc_f (h:KAc σ0 bf A B τ σ L ys) {l:List ByteArray} {g:Nat->H->Prop} (hg:∀b τ' σ',KAc σ0 bf A B τ' σ' (l::L) (⟨some ⟨b,0,none⟩,l.length,l.length⟩::ys)->g b σ'):alW (.cells ⟨l.map Value.string⟩ 9 (0,0)) g σ:=by
 refine al_i ?_
 intro b σ1 g1 e1 n1
 obtain⟨a,c,d,e,f⟩:=h
 have nt:τ b=none:=none_of c.1 n1
 have G:Gr τ (τ.put b (.cells ⟨l.map Value.string⟩ 9 (0,0))):=Gr.put nt _
 refine hg b (τ.put b (.cells ⟨l.map Value.string⟩ 9 (0,0))) σ1 ⟨a.gr g1,(c.gr g1).add e1 (a.fresh n1),d.trans G,by simp[e],fun i l' y p q => ?_⟩
 cases i with
 | zero=>cases p;cases q;exact⟨litF l (H.put_same _ _ _),Nat.le_refl _⟩
 | succ i=>exact⟨(f i l' y p q).1.gr G,(f i l' y p q).2⟩
theorem tab_f (h:KAc σ0 bf A B τ σ L ys) {t:TypeId} {g:Nat->H->Prop} (hg:∀b τ' σ',FsAt σ' bf A B->Off τ' σ' B->Gr σ0 τ'->LLF τ' L.reverse ⟨some ⟨b,0,none⟩,L.length,L.length⟩->g b σ'):alW (.cells ⟨ys.reverse.map slF⟩ t (0,0)) g σ:=by
 refine al_i ?_
 intro b σ1 g1 e1 n1
 obtain⟨a,c,d,e,f⟩:=h
 have nt:τ b=none:=none_of c.1 n1
 have G:Gr τ (τ.put b (.cells ⟨ys.reverse.map slF⟩ t (0,0))):=Gr.put nt _
 refine hg b (τ.put b (.cells ⟨ys.reverse.map slF⟩ t (0,0))) σ1 (a.gr g1) ((c.gr g1).add e1 (a.fresh n1)) (d.trans G) ⟨ys.reverse,by rw[List.length_reverse,List.length_reverse,e],⟨by rw[List.length_map,List.length_reverse,e],.inr ⟨b,0,_,_,_,rfl,H.put_same _ _ _,fun i r hr => ?_⟩⟩,fun i l y p q => ?_⟩
 ·rw[List.getElem?_map]at hr
  cases hy:ys.reverse[i]? with
  | none=>rw[hy]at hr;cases hr
  | some y =>
   rw[hy]at hr;cases hr
   refine⟨rfl,?_⟩
   have:(ys.reverse.map slF)[i]? = some (slF y):=by rw[List.getElem?_map,hy];rfl
   rw[Nat.zero_add,Nat.mul_one,drop_of this];rfl
 ·have hlt : i < L.length := by
   rcases Nat.lt_or_ge i L.length with h | h
   ·exact h
   ·rw[List.getElem?_eq_none (by rw[List.length_reverse];exact h)]at p;cases p
  rw[List.getElem?_reverse hlt]at p
  rw[List.getElem?_reverse (by omega),e]at q
  exact⟨(f _ _ _ p q).1.gr G,(f _ _ _ p q).2⟩
theorem s_callNone {nm:ByteArray} {x:Sl} (hF:FsAt σ bf A B) (ht:toolsL.any (fun t=>sEq nm t)=false) {K:KH} (hK:∀σ',Gr σ σ'->K (.string ⟨⟨[110,111,110,101]⟩⟩) σ') :
 callW Tryz.prog 12 [.pointer (some ⟨bf,0,none⟩),.string nm,.slice x.base x.len x.cap] K σ:=by
 refine c12 _ _ _ ?_
 unfold g12
 refine call_i (s_fiNone hF nm _ _ ht ?_)
 unfold dnF
 (refine app_of rfl ?_;try dsimp only)
 refine al_i ?_;intro b8 σ2 g2 e2 n2
 refine st_i2 e2 sz_DoneF (by rfl) (by rfl) ?_;intro σ3 p3
 exact br_t rfl (hK σ3 (g2.putF p3 n2))
theorem c_any {N:Nat} {r:ByteArray×ByteArray×List ByteArray} {x:Sl} (hF:FsAt σ bf A B) (hO:Off τ σ B) (hx:RowsAt τ 1 (strRows r.2.2) x) (hc:x.len<=x.cap) (ok:OkRow r) (hI:Inv A/\Bd N A) (hN:N<=100000000000) (hz:(callP A r.2.1 r.2.2).1.size<=1000000000000) {K:KH}
 (hK:∀σ' B',FsAt σ' bf (callP A r.2.1 r.2.2).2 B'->Sep σ B σ' B'->(Inv (callP A r.2.1 r.2.2).2/\Bd (N+1049576) (callP A r.2.1 r.2.2).2)->K (.string (callP A r.2.1 r.2.2).1) σ') :
 callW Tryz.prog 12 [.pointer (some ⟨bf,0,none⟩),.string r.2.1,.slice x.base x.len x.cap] K σ:=by
 obtain⟨want,nm,args⟩:=r
 obtain⟨k1,k2,k3,k4,k5⟩:=ok
 simp only at k1 k2 k3 k4 k5 hx hz hK ⊢
 have ha:ArgOk τ args x:=⟨hx,hc,k3,k2⟩
 have hp:Pot N A:=Pot.of hI.1 hI.2
 cases ht:toolsL.any (fun t=>sEq nm t) with
 | false =>
  rw[call_none ht]at hK
  exact s_callNone hF ht fun σ' g=>hK σ' B (hF.gr g) (Sep.gr g) ⟨hI.1,hI.2.mono (by omega)⟩
 | true =>
  unfold toolsL at ht
  simp only[List.any_cons,List.any_nil,Bool.or_false,Bool.or_eq_true]at ht
  rcases ht with h | h | h | h | h | h | h | h | h
  ·obtain rfl:=sEq_iff.1 h
   exact c_mkdir hF hO ha hp (by omega) hz fun σ' B' f s p=>hK σ' B' f s ⟨p.inv,p.bd'.mono (by omega)⟩
  ·obtain rfl:=sEq_iff.1 h
   exact c_rmdir hF hO ha hI (by omega) hz fun σ' B' f s p=>hK σ' B' f s ⟨p.1,p.2.mono (by omega)⟩
  ·obtain rfl:=sEq_iff.1 h
   exact c_touch hF hO ha hp (by omega) hz fun σ' B' f s p=>hK σ' B' f s ⟨p.inv,p.bd'.mono (by omega)⟩
  ·obtain rfl:=sEq_iff.1 h
   exact c_chmod hF hO ha k4 (k5 rfl) hI hz fun σ' B' f s p=>hK σ' B' f s ⟨p.1,p.2.mono (by omega)⟩
  ·obtain rfl:=sEq_iff.1 h
   exact c_ln hF hO ha hI (by omega) hz fun σ' B' f s p=>hK σ' B' f s ⟨p.1,p.2.mono (by omega)⟩
  ·obtain rfl:=sEq_iff.1 h
   exact c_rm hF hO ha hI (by omega) hz fun σ' B' f s p=>hK σ' B' f s ⟨p.1,p.2.mono (by omega)⟩
  ·obtain rfl:=sEq_iff.1 h
   exact c_mv hF hO ha hI (by omega) hz fun σ' B' f s p=>hK σ' B' f s ⟨p.1,p.2.mono (by omega)⟩
  ·obtain rfl:=sEq_iff.1 h
   exact c_cp hF hO ha hp (by omega) hz fun σ' B' f s p=>hK σ' B' f s ⟨p.inv,p.bd'.mono (by omega)⟩
  ·obtain rfl:=sEq_iff.1 h
   exact c_ls hF hO ha hI (by omega) hz fun σ' B' f s p=>hK σ' B' f s (by
    have e:(callP A ⟨⟨[108,115]⟩⟩ args).2=A:=p
    rw[e];exact⟨hI.1,hI.2.mono (by omega)⟩)
end
theorem s_FilesKnown {σ:H} {K:KH} (hK:∀σ',Gr σ σ'->K (.bool true) σ'):callW Tryz.prog 3 [] K σ:=by
 refine c3 ?_
 unfold g3
 obtain⟨i0,d0⟩:=newT_ok (qi:=40) (qb:=60) (by decide)
 have o1:=mkdirF_ok i0 d0 (by decide) ⟨⟨[47]⟩⟩ ⟨⟨[100]⟩⟩
 have o2:=writeF_ok o1.inv o1.bd (by decide) ⟨⟨[47]⟩⟩ ⟨⟨[100,47,102]⟩⟩ ⟨⟨[104,105]⟩⟩ false (by decide)
 have o3:=symlinkF_ok o2.inv o2.bd (by decide) ⟨⟨[47]⟩⟩ ⟨⟨[100]⟩⟩ ⟨⟨[108]⟩⟩
 refine call_i (s_New 40 60 (fun h=>by cases h) ?_)
 intro _ bf s1 B1 F1 g1 hf1
 have O1:=Off.new g1 hf1
 refine app_P (j_i (fun j => ∀σ' B',FsAt σ' bf kq3 B'->Off σ σ' B'->j (some ⟨bf,0,none⟩) false σ') ?_ ?_)
 case refine_2 =>
  intro j hj
  refine br_f rfl (call_i (s_Mkdir i0 d0 (by decide) F1 _ _ ?_))
  intro s2 B2 F2 S2
  rw[show((newT 40 60).mkdirF ⟨⟨[47]⟩⟩ ⟨⟨[100]⟩⟩).1=0 from kq1_z]
  refine app_I (br_f rfl (call_i (s_Write o1.inv o1.bd (by decide) F2 _ _ _ _ (by decide) ?_)))
  intro s3 B3 F3 S3
  rw[show(((newT 40 60).mkdirF ⟨⟨[47]⟩⟩ ⟨⟨[100]⟩⟩).2.writeF ⟨⟨[47]⟩⟩ ⟨⟨[100,47,102]⟩⟩ ⟨⟨[104,105]⟩⟩ false).1=0 from kq2_z]
  refine app_I (br_f rfl (call_i (s_Symlink o2.inv o2.bd (by decide) F3 _ _ _ ?_)))
  intro s4 B4 F4 S4
  rw[show((((newT 40 60).mkdirF ⟨⟨[47]⟩⟩ ⟨⟨[100]⟩⟩).2.writeF ⟨⟨[47]⟩⟩ ⟨⟨[100,47,102]⟩⟩ ⟨⟨[104,105]⟩⟩ false).2.symlinkF ⟨⟨[47]⟩⟩ ⟨⟨[100]⟩⟩ ⟨⟨[108]⟩⟩).1=0 from kq3_z]
  exact app_I (hj s4 B4 F4 (((O1.sep S2).sep S3).sep S4))
 ·intro σ0 B0 F0 O0
  refine br_f rfl ?_
  have h0:KAc σ bf kq3 B0 σ σ0 [] []:=⟨F0,O0,Gr.refl _,rfl,fun i l y p _=>by simp at p⟩
  refine acc_f h0 (l:=[⟨⟨[48]⟩⟩,⟨⟨[109,107,100,105,114]⟩⟩,⟨⟨[45,112]⟩⟩,⟨⟨[97,47,98,47,99]⟩⟩]) ?_
  intro b1 τ1 σ1 h1
  refine acc_f h1 (l:=[⟨⟨[49,109,107,100,105,114,58,32,97,58,32,54,10]⟩⟩,⟨⟨[109,107,100,105,114]⟩⟩,⟨⟨[97]⟩⟩]) ?_
  intro b2 τ2 σ2 h2
  refine acc_f h2 (l:=[⟨⟨[48]⟩⟩,⟨⟨[99,112]⟩⟩,⟨⟨[45,114]⟩⟩,⟨⟨[100]⟩⟩,⟨⟨[101]⟩⟩]) ?_
  intro b3 τ3 σ3 h3
  refine acc_f h3 (l:=[⟨⟨[48,102,10]⟩⟩,⟨⟨[108,115]⟩⟩,⟨⟨[101]⟩⟩]) ?_
  intro b4 τ4 σ4 h4
  refine acc_f h4 (l:=[⟨⟨[49,99,112,58,32,100,58,32,55,10]⟩⟩,⟨⟨[99,112]⟩⟩,⟨⟨[100]⟩⟩,⟨⟨[120]⟩⟩]) ?_
  intro b5 τ5 σ5 h5
  refine acc_f h5 (l:=[⟨⟨[48]⟩⟩,⟨⟨[99,112]⟩⟩,⟨⟨[100,47,102]⟩⟩,⟨⟨[103]⟩⟩]) ?_
  intro b6 τ6 σ6 h6
  refine acc_f h6 (l:=[⟨⟨[48,97,10,100,10,101,10,103,10,108,10]⟩⟩,⟨⟨[108,115]⟩⟩,⟨⟨[45,97]⟩⟩]) ?_
  intro b7 τ7 σ7 h7
  refine acc_f h7 (l:=[⟨⟨[48]⟩⟩,⟨⟨[109,118]⟩⟩,⟨⟨[103]⟩⟩,⟨⟨[100]⟩⟩]) ?_
  intro b8 τ8 σ8 h8
  refine acc_f h8 (l:=[⟨⟨[48,102,10,103,10]⟩⟩,⟨⟨[108,115]⟩⟩,⟨⟨[100]⟩⟩]) ?_
  intro b9 τ9 σ9 h9
  refine acc_f h9 (l:=[⟨⟨[48,102,10,103,10]⟩⟩,⟨⟨[108,115]⟩⟩,⟨⟨[45,49]⟩⟩,⟨⟨[108]⟩⟩]) ?_
  intro b10 τ10 σ10 h10
  refine acc_f h10 (l:=[⟨⟨[50,99,104,109,111,100,58,32,117,115,97,103,101,10]⟩⟩,⟨⟨[99,104,109,111,100]⟩⟩,⟨⟨[56]⟩⟩,⟨⟨[100]⟩⟩]) ?_
  intro b11 τ11 σ11 h11
  refine acc_f h11 (l:=[⟨⟨[49,108,110,58,32,100,47,102,58,32,54,10]⟩⟩,⟨⟨[108,110]⟩⟩,⟨⟨[45,115]⟩⟩,⟨⟨[120]⟩⟩,⟨⟨[100,47,102]⟩⟩]) ?_
  intro b12 τ12 σ12 h12
  refine acc_f h12 (l:=[⟨⟨[48]⟩⟩,⟨⟨[108,110]⟩⟩,⟨⟨[45,115,102]⟩⟩,⟨⟨[120]⟩⟩,⟨⟨[100,47,102]⟩⟩]) ?_
  intro b13 τ13 σ13 h13
  refine acc_f h13 (l:=[⟨⟨[49,114,109,58,32,110,111,110,101,58,32,53,10]⟩⟩,⟨⟨[114,109]⟩⟩,⟨⟨[110,111,110,101]⟩⟩]) ?_
  intro b14 τ14 σ14 h14
  refine acc_f h14 (l:=[⟨⟨[48]⟩⟩,⟨⟨[114,109]⟩⟩,⟨⟨[45,102]⟩⟩,⟨⟨[110,111,110,101]⟩⟩]) ?_
  intro b15 τ15 σ15 h15
  refine acc_f h15 (l:=[⟨⟨[48]⟩⟩,⟨⟨[114,109]⟩⟩,⟨⟨[45,102]⟩⟩]) ?_
  intro b16 τ16 σ16 h16
  refine acc_f h16 (l:=[⟨⟨[50,114,109,58,32,117,115,97,103,101,10]⟩⟩,⟨⟨[114,109]⟩⟩]) ?_
  intro b17 τ17 σ17 h17
  refine acc_f h17 (l:=[⟨⟨[49,114,109,58,32,100,58,32,55,10]⟩⟩,⟨⟨[114,109]⟩⟩,⟨⟨[100]⟩⟩]) ?_
  intro b18 τ18 σ18 h18
  refine acc_f h18 (l:=[⟨⟨[49,114,109,100,105,114,58,32,100,58,32,50,48,10]⟩⟩,⟨⟨[114,109,100,105,114]⟩⟩,⟨⟨[100]⟩⟩]) ?_
  intro b19 τ19 σ19 h19
  refine acc_f h19 (l:=[⟨⟨[49,114,109,100,105,114,58,32,108,58,32,56,10]⟩⟩,⟨⟨[114,109,100,105,114]⟩⟩,⟨⟨[108]⟩⟩]) ?_
  intro b20 τ20 σ20 h20
  refine acc_f h20 (l:=[⟨⟨[49,99,112,58,32,100,58,32,50,10]⟩⟩,⟨⟨[99,112]⟩⟩,⟨⟨[45,114]⟩⟩,⟨⟨[100]⟩⟩,⟨⟨[100,47,110,101,119]⟩⟩]) ?_
  intro b21 τ21 σ21 h21
  refine acc_f h21 (l:=[⟨⟨[49,99,112,58,32,100,58,32,50,10]⟩⟩,⟨⟨[99,112]⟩⟩,⟨⟨[45,114]⟩⟩,⟨⟨[100]⟩⟩,⟨⟨[108]⟩⟩]) ?_
  intro b22 τ22 σ22 h22
  refine acc_f h22 (l:=[⟨⟨[49,99,112,58,32,101,58,32,54,10]⟩⟩,⟨⟨[99,112]⟩⟩,⟨⟨[45,114]⟩⟩,⟨⟨[101]⟩⟩,⟨⟨[100,47,103]⟩⟩]) ?_
  intro b23 τ23 σ23 h23
  refine acc_f h23 (l:=[⟨⟨[48]⟩⟩,⟨⟨[116,111,117,99,104]⟩⟩,⟨⟨[116]⟩⟩,⟨⟨[100,47,103]⟩⟩]) ?_
  intro b24 τ24 σ24 h24
  refine acc_f h24 (l:=[⟨⟨[48]⟩⟩,⟨⟨[99,104,109,111,100]⟩⟩,⟨⟨[43,120]⟩⟩,⟨⟨[116]⟩⟩]) ?_
  intro b25 τ25 σ25 h25
  refine acc_f h25 (l:=[⟨⟨[48]⟩⟩,⟨⟨[99,104,109,111,100]⟩⟩,⟨⟨[45,120]⟩⟩,⟨⟨[116]⟩⟩]) ?_
  intro b26 τ26 σ26 h26
  refine acc_f h26 (l:=[⟨⟨[48]⟩⟩,⟨⟨[99,104,109,111,100]⟩⟩,⟨⟨[55,53,53]⟩⟩,⟨⟨[116]⟩⟩,⟨⟨[100]⟩⟩]) ?_
  intro b27 τ27 σ27 h27
  refine acc_f h27 (l:=[⟨⟨[49,99,104,109,111,100,58,32,110,111,58,32,53,10]⟩⟩,⟨⟨[99,104,109,111,100]⟩⟩,⟨⟨[54,52,52]⟩⟩,⟨⟨[110,111]⟩⟩]) ?_
  intro b28 τ28 σ28 h28
  refine acc_f h28 (l:=[⟨⟨[50,109,107,100,105,114,58,32,117,115,97,103,101,10]⟩⟩,⟨⟨[109,107,100,105,114]⟩⟩]) ?_
  intro b29 τ29 σ29 h29
  refine acc_f h29 (l:=[⟨⟨[50,109,107,100,105,114,58,32,117,115,97,103,101,10]⟩⟩,⟨⟨[109,107,100,105,114]⟩⟩,⟨⟨[45,120]⟩⟩,⟨⟨[121]⟩⟩]) ?_
  intro b30 τ30 σ30 h30
  refine acc_f h30 (l:=[⟨⟨[48]⟩⟩,⟨⟨[109,107,100,105,114]⟩⟩,⟨⟨[45,45]⟩⟩,⟨⟨[45,120]⟩⟩]) ?_
  intro b31 τ31 σ31 h31
  refine acc_f h31 (l:=[⟨⟨[48]⟩⟩,⟨⟨[108,115]⟩⟩,⟨⟨[45,45]⟩⟩,⟨⟨[45,120]⟩⟩]) ?_
  intro b32 τ32 σ32 h32
  refine acc_f h32 (l:=[⟨⟨[49,108,115,58,32,110,111,58,32,53,10]⟩⟩,⟨⟨[108,115]⟩⟩,⟨⟨[110,111]⟩⟩]) ?_
  intro b33 τ33 σ33 h33
  refine acc_f h33 (l:=[⟨⟨[49,116,10,100,58,10,102,10,103,10,108,115,58,32,110,111,58,32,53,10]⟩⟩,⟨⟨[108,115]⟩⟩,⟨⟨[100]⟩⟩,⟨⟨[116]⟩⟩,⟨⟨[110,111]⟩⟩]) ?_
  intro b34 τ34 σ34 h34
  refine acc_f h34 (l:=[⟨⟨[48]⟩⟩,⟨⟨[108,110]⟩⟩,⟨⟨[100,47,103]⟩⟩,⟨⟨[104]⟩⟩]) ?_
  intro b35 τ35 σ35 h35
  refine acc_f h35 (l:=[⟨⟨[49,108,110,58,32,100,50,58,32,55,10]⟩⟩,⟨⟨[108,110]⟩⟩,⟨⟨[100]⟩⟩,⟨⟨[100,50]⟩⟩]) ?_
  intro b36 τ36 σ36 h36
  refine acc_f h36 (l:=[⟨⟨[50,108,110,58,32,117,115,97,103,101,10]⟩⟩,⟨⟨[108,110]⟩⟩,⟨⟨[97]⟩⟩,⟨⟨[98]⟩⟩,⟨⟨[99]⟩⟩]) ?_
  intro b37 τ37 σ37 h37
  refine acc_f h37 (l:=[⟨⟨[49,109,118,58,32,116,58,32,56,10]⟩⟩,⟨⟨[109,118]⟩⟩,⟨⟨[100]⟩⟩,⟨⟨[104]⟩⟩,⟨⟨[116]⟩⟩]) ?_
  intro b38 τ38 σ38 h38
  refine acc_f h38 (l:=[⟨⟨[49,109,118,58,32,110,111,58,32,53,10]⟩⟩,⟨⟨[109,118]⟩⟩,⟨⟨[110,111]⟩⟩,⟨⟨[116]⟩⟩]) ?_
  intro b39 τ39 σ39 h39
  refine acc_f h39 (l:=[⟨⟨[48]⟩⟩,⟨⟨[109,118]⟩⟩,⟨⟨[116]⟩⟩,⟨⟨[104]⟩⟩,⟨⟨[100]⟩⟩]) ?_
  intro b40 τ40 σ40 h40
  refine acc_f h40 (l:=[⟨⟨[48,102,10,103,10,104,10,116,10]⟩⟩,⟨⟨[108,115]⟩⟩,⟨⟨[100]⟩⟩]) ?_
  intro b41 τ41 σ41 h41
  refine acc_f h41 (l:=[⟨⟨[110,111,110,101]⟩⟩,⟨⟨[99,97,116]⟩⟩]) ?_
  intro b42 τ42 σ42 h42
  refine tab_f h42 ?_
  intro bt τ σ5 F5 O5 gτ hL
  have hL:LLF τ (knownFi.map rowF) ⟨some ⟨bt,0,none⟩,42,42⟩:=hL
  clear F0 O0
  have hrows:=List.all_eq_true.1 knownFi_rows
  refine loop_i ?_
  intro R hR
  have hlen:knownFi.length=42:=by decide +kernel
  have key : ∀ (k i:Nat) (A:AT) (s:H) (B:Nat->Prop),k+i=42->playP (knownFi.drop i) A=true->(Inv A/\Bd (1000+i * 1049576) A)->FsAt s bf A B->Off τ s B->R (some ⟨bf,0,none⟩) ⟨some ⟨bt,0,none⟩,42,42⟩ ((42:Nat):Int) (i:Int) s:=by
   intro k
   induction k with
   | zero =>
    intro i A s B hk _ _ F O
    refine hR _ _ _ _ _ (br_f (by simp only[decide_eq_false_iff_not];omega) ?_)
    obtain⟨i1,d1⟩:=newT_ok (qi:=3) (qb:=4) (by decide)
    have p1:=writeF_ok i1 d1 (by decide) ⟨⟨[47]⟩⟩ ⟨⟨[97]⟩⟩ ⟨⟨[97,98,99]⟩⟩ false (by decide)
    refine call_i (s_New 3 4 (fun h=>by cases h) ?_)
    intro _ bz z1 D1 Z1 gz hfz
    have Q1:Off s z1 D1:=Off.new gz hfz
    refine app_P (j_i (fun j => ∀σ' B',FsAt σ' bz kz1 B'->Off s σ' B'->j (some ⟨bz,0,none⟩) false σ') ?_ ?_)
    case refine_2 =>
     intro j hj
     refine br_f rfl (call_i (s_Write i1 d1 (by decide) Z1 _ _ _ _ (by decide) ?_))
     intro z2 D2 Z2 T2
     rw[show((newT 3 4).writeF ⟨⟨[47]⟩⟩ ⟨⟨[97]⟩⟩ ⟨⟨[97,98,99]⟩⟩ false).1=0 from kz1_z]
     exact app_I (hj z2 D2 Z2 (Q1.sep T2))
    intro z2 D2 Z2 Q2
    have hsr:=List.all_eq_true.1 smallFi_rows
    obtain⟨m1,hp1⟩:=play_cons smallFi_ok
    obtain⟨m2,hp2⟩:=play_cons hp1
    obtain⟨m3,_⟩:=play_cons hp2
    simp only at m1 m2 m3
    have Kz:Inv kz1/\Bd 1000 kz1:=⟨p1.inv,p1.bd.mono (by decide)⟩
    refine br_f rfl (al_i ?_);intro b67 z3 g3 e3 n3
    refine call_i (c_any (r:=(⟨⟨[51,99,112,58,32,97,58,32,49,48,10]⟩⟩,⟨⟨[99,112]⟩⟩,[⟨⟨[97]⟩⟩,⟨⟨[98]⟩⟩])) (Z2.gr g3) ((Q2.gr g3).add e3 (Z2.fresh n3)) (strF2 (H.put_same _ _ _)) (Nat.le_refl _) (okRow_of (hsr _ (.head _))) Kz (by decide) (by show(callP kz1 ⟨⟨[99,112]⟩⟩ [⟨⟨[97]⟩⟩,⟨⟨[98]⟩⟩]).1.size<=_;rw[m1];decide) ?_)
    simp only
    rw[m1]
    intro z4 D4 Z4 T4 K4
    have Q4:=(Q2.gr g3).sep T4
    refine app_S (br_t (strEq_iff.2 rfl) (al_i ?_));intro b69 z5 g5 e5 n5
    refine call_i (c_any (r:=(⟨⟨[51,109,107,100,105,114,58,32,121,58,32,49,48,10]⟩⟩,⟨⟨[109,107,100,105,114]⟩⟩,[⟨⟨[120]⟩⟩,⟨⟨[121]⟩⟩,⟨⟨[122]⟩⟩])) (Z4.gr g5) ((Q4.gr g5).add e5 (Z4.fresh n5)) (strF3 (H.put_same _ _ _)) (Nat.le_refl _) (okRow_of (hsr _ (.tail _ (.head _)))) K4 (by decide) (by show(callP (callP kz1 ⟨⟨[99,112]⟩⟩ [⟨⟨[97]⟩⟩,⟨⟨[98]⟩⟩]).2 ⟨⟨[109,107,100,105,114]⟩⟩ [⟨⟨[120]⟩⟩,⟨⟨[121]⟩⟩,⟨⟨[122]⟩⟩]).1.size<=_;rw[m2];decide) ?_)
    simp only
    rw[m2]
    intro z6 D6 Z6 T6 K6
    have Q6:=(Q4.gr g5).sep T6
    refine app_S (br_t (strEq_iff.2 rfl) ?_)
    refine call_i (c_any (x:=⟨none,0,0⟩) (r:=(⟨⟨[48,97,10,120,10]⟩⟩,⟨⟨[108,115]⟩⟩,[])) Z6 Q6 ⟨rfl,.inl rfl⟩ (Nat.le_refl _) (okRow_of (hsr _ (.tail _ (.tail _ (.head _))))) K6 (by decide) (by show(callP (callP (callP kz1 ⟨⟨[99,112]⟩⟩ [⟨⟨[97]⟩⟩,⟨⟨[98]⟩⟩]).2 ⟨⟨[109,107,100,105,114]⟩⟩ [⟨⟨[120]⟩⟩,⟨⟨[121]⟩⟩,⟨⟨[122]⟩⟩]).2 ⟨⟨[108,115]⟩⟩ []).1.size<=_;rw[m3];decide) ?_)
    simp only
    rw[m3]
    intro z7 D7 Z7 T7 _
    exact app_S (br_t (strEq_iff.2 rfl) (call_i (s_works19 (app_B (hK z7 (gτ.trans (O.1.trans (Q6.sep T7).1)))))))
   | succ k ih =>
    intro i A s B hk hp hI F O
    obtain⟨row,hr⟩ : ∃row,knownFi[i]? = some row:=⟨_,List.getElem?_eq_getElem (by omega)⟩
    have ok:=okRow_of (hrows row (List.mem_of_getElem? hr))
    rw[drop_of hr]at hp
    obtain⟨m1,hp1⟩:=play_cons hp
    obtain⟨g,o,y,a1,a2,a3,a4,a5⟩:=hL.row (i:=i) (l:=rowF row) (by rw[List.getElem?_map,hr];rfl)
    have a1:(some (⟨bt,0,none⟩:Addr))=some ⟨g,o,none⟩:=a1
    have hyl:=sLen a4
    have hyl:y.len=row.2.2.length+2:=hyl
    obtain⟨g1,o1,c1,c2,c3⟩:=sRow (a4.gr O.1) (i:=1) (s:=row.2.1) rfl
    obtain⟨g0,o0,d1,d2,d3⟩:=sRow (a4.gr O.1) (i:=0) (s:=row.1) rfl
    refine hR _ _ _ _ _ (br_t (by simp only[decide_eq_true_eq];omega) ?_)
    rw[a1]
    refine ptr_i (if_i ⟨by omega,by show(i:Int)<42;omega⟩ (rd_Y (y:=y) (by rw[Int.toNat_natCast];exact rdC_gr O.1 a3) ?_))
    have hsub:RowsAt τ 1 (strRows row.2.2) ⟨slBase y.base 2 y.cap 1,y.len - 2,y.cap - 2⟩:=by
     have:=a4.sub a5 (k:=2) (e:=row.2.2.length+2) (by omega) (by rw[strRows_len];exact Nat.le_refl _) (y.cap - 2)
     rw[List.take_of_length_le (by rw[strRows_len];exact Nat.le_refl _)]at this
     rw[hyl];exact this
    rw[c1]
    refine ptr_i (if_i ⟨by decide,by omega⟩ (rd_S c3 (if_i ⟨bnd_none,bnd_some (by decide) (by omega)⟩ (ptr_i (if_i ⟨by decide,by omega⟩ ?_)))))
    have hd:g0=g1/\o0=o1:=by
     rw[c1]at d1;injection d1 with d1;injection d1 with u1 u2;exact⟨u1.symm,u2.symm⟩
    obtain⟨rfl,rfl⟩:=hd
    rw[<-c1]
    refine rd_S d3 (call_i (c_any (x:=⟨slBase y.base 2 y.cap 1,y.len - 2,y.cap - 2⟩) (r:=row) F O hsub (by show y.len - 2<=y.cap - 2;omega) ok hI (by omega) (by rw[m1];exact Nat.le_trans ok.want (by decide)) ?_))
    rw[m1]
    intro s2 B2 F2 S2 I2
    have O2:=O.sep S2
    obtain⟨g2,o2,e1,e2,e3⟩:=sRow (a4.gr O2.1) (i:=0) (s:=row.1) rfl
    have hd2:g2=g0/\o2=o0:=by
     rw[c1]at e1;injection e1 with e1;injection e1 with u1 u2;exact⟨u1.symm,u2.symm⟩
    obtain⟨rfl,rfl⟩:=hd2
    refine app_S (and_i e3 (br_f (strSame _) ?_))
    rw[<-a1,wrap_id (x:=(i:Int)+1) (by omega) (by omega),show(i:Int)+1=((i+1:Nat):Int)from by omega]
    exact ih (i+1) _ s2 B2 (by omega) hp1 ⟨I2.1,I2.2.mono (by omega)⟩ F2 O2
  exact key 42 0 kq3 σ5 B0 (by omega) knownFi_ok ⟨o3.inv,o3.bd.mono (by decide)⟩ F5 O5
end Go.Proofs.YtbdlkofldmhoaaaGreatDoor

