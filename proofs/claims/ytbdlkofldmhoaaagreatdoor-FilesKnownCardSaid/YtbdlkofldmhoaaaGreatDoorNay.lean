/- A part of the proof: FilesKnown holds. -/
import Derived.Test.YtbdlkofldmhoaaaGreatDoorNax
import Derived.Laws.Runes
set_option maxRecDepth 100000
namespace Go.Proofs.YtbdlkofldmhoaaaGreatDoor
open Go Go.HL Go.Wk Go.RowKit Go.Maps Go.Sort Go.Shelf
theorem ext_below {σ:H} {w w':World} (hw:σ.le w) (hb:Below w.heap.size w w'):Ext σ w σ w' :=
 ⟨fun b o h=>(hb.block b (hw.lt h)).trans (hw b o h),hb.size,fun b hlt _=>hb.block b hlt,fun b o h hn=>by rw[h]at hn;(cases hn),hb.os,hb.tape,hb.output⟩
theorem ext_below_put {σ:H} {w w':World} {g:Nat} {o:Obj} (hw:σ.le w) (hb:Below w.heap.size w w') (hg:w.heap.size<=g) (ho:w'.heap[g]? = some o):Ext σ w (σ.put g o) w':=by
 refine⟨fun b o' h => ?_,hb.size,fun b hlt _=>hb.block b hlt,fun b o' h hn => ?_,hb.os,hb.tape,hb.output⟩
 ·by_cases e:b=g
  ·subst e;rw[H.put_same]at h;cases h;exact ho
  ·rw[H.put_other _ _ e]at h;exact(hb.block b (hw.lt h)).trans (hw b o' h)
 ·by_cases e:b=g
  ·subst e;exact hg
  ·rw[H.put_other _ _ e]at h;rw[h]at hn;cases hn
def StrSl (σ:H) (x:Sl) (l:List ByteArray):Prop:=x.len=l.length/\(l=[] \/ ∃g cur,x.base=some ⟨g,0,none⟩/\σ g=some (.cells ⟨cur⟩ 9 (0,0))/\cur.take l.length=l.map Value.string)
def sortK (l:List ByteArray):List ByteArray:=((l.map fun s=>s.data.toList).mergeSort (fun x y=>decide (x<=y))).map fun x=>⟨⟨x⟩⟩
theorem x_Sorted {σ:H} {b2 e:Nat} {ents:List (ByteArray×Int)} {t:TypeId} (h2:σ b2=some (.cells ⟨[.map (some e)]⟩ t (0,0))) (hm:MapAt σ e (encL kkS valI ents)) (hk:∀s∈keysL ents,s.size<=maxLen) (hn:ents.length * 16<=140737488355328) {K:KH}
 (hK:∀x σ',RNew σ σ' 9 1 (strRows (sortK (keysL ents))) x->K (.slice x.base x.len x.cap) σ'):callW Tryz.prog 137 [.func (.func 179) ⟨[]⟩ ⟨[.pointer (some ⟨b2,0,none⟩)]⟩] K σ:=by
 obtain⟨es,c,he,hl,hst⟩:=hm
 intro w hw
 let R:Value->Option (DataW Unit×List MemPlace):=fun _=>some (.nil,[])
 have hsz:es.size=ents.length:=by
  have:=congrArg List.length hl
  simpa[encL]using this
 have hkey : ∀x∈es.toList,∃s∈keysL ents,x.key = .string s:=by
  intro x hx
  have:(x.key,x.val)∈encL kkS valI ents:=by rw[<-hl];exact List.mem_map.2 ⟨x,hx,rfl⟩
  obtain⟨⟨s,v⟩,h1,h3⟩:=List.mem_map.1 this
  refine⟨s,List.mem_map.2 ⟨_,h1,rfl⟩,?_⟩
  exact(Prod.mk.inj h3).1.symm
 have hrd : ∀x∈es.toList,∀s,x.key = .string s->s.size<=maxLen->Go.WideElems.rd Tryz.prog 9 R x=some (.string s.data.toList,.nil):=by
  intro x _ s hs hle
  unfold Go.WideElems.rd keyOf mapKey
  rw[hs,und_string]
  simp[hle,R]
 have hown:w.ownsMap Tryz.prog 9 R e es.size (.map ((es.toList.map (Go.WideElems.rg Tryz.prog 9 R)).foldr DataW.insert [])):=by
  refine⟨es,c,hw e _ he,⟨?_,hst,?_⟩,Nat.le_refl _,rfl⟩
  ·rw[hsz];unfold maxLen;omega
  ·intro x hx
   obtain⟨s,h1,h3⟩:=hkey x hx
   exact⟨_,hrd x hx s h3 (hk s h1)⟩
 have hms:Maps.size (.map ((es.toList.map (Go.WideElems.rg Tryz.prog 9 R)).foldr DataW.insert []))=ents.length:=by
  rw[Maps.size_eq,(Go.WideShapes.sorted_perm _).length_eq];simp[hsz]
 have hperm:(strKeys (.map ((es.toList.map (Go.WideElems.rg Tryz.prog 9 R)).foldr DataW.insert []))).Perm ((keysL ents).map fun s=>s.data.toList):=by
  have h1:(strKeys (.map ((es.toList.map (Go.WideElems.rg Tryz.prog 9 R)).foldr DataW.insert []))).Perm ((es.toList.map (Go.WideElems.rg Tryz.prog 9 R)).map fun p=>strOf p.1):=(Go.WideShapes.sorted_perm _).map _
  have h3:((es.toList.map (Go.WideElems.rg Tryz.prog 9 R)).map fun p=>strOf p.1)=(keysL ents).map fun s=>s.data.toList:=by
   have h4:es.toList.map (fun e=>e.key)=(keysL ents).map Value.string:=by
    have:=congrArg (List.map Prod.fst) hl
    simp only[List.map_map,encL]at this
    rw[keysL,List.map_map]
    exact this
   have h5:((es.toList.map (Go.WideElems.rg Tryz.prog 9 R)).map fun p=>strOf p.1)=(es.toList.map (fun e=>e.key)).map fun v=>(match v with | .string s=>s.data.toList | _=>[]):=by
    rw[List.map_map,List.map_map]
    refine List.map_congr_left ?_
    intro x hx
    obtain⟨s,h1,h3⟩:=hkey x hx
    simp only[Function.comp]
    rw[h3,Go.WideElems.rg_of (hrd x hx s h3 (hk s h1))]
    rfl
   rw[h5,h4,List.map_map]
   rfl
  rw[<-h3];exact h1
 have hcell:w.cell? ⟨b2,0,none⟩=some (.map (some e)):=by simp[World.cell?,hw b2 _ h2]
 have hseq:=AnyZ.keys_gives (ρ:=Tryz.keys138_ren) { Tryz.keys138 with } Fence.wide 2 trivial rfl (by omega) b2 e es.size (.map ((es.toList.map (Go.WideElems.rg Tryz.prog 9 R)).foldr DataW.insert [])) (R:=R) w (hw.lt h2) hcell hown
 have hcall:=AnyZ.sorted_in Tryz.sorted137 Fence.wide 5 trivial trivial trivial trivial rfl (by omega) (Tryz.sorts137 _) (enters_of Tryz.func117 (by kernel_rfl) rfl) 179 #[.pointer (some ⟨b2,0,none⟩)] trivial (enters_of Tryz.func179 (by kernel_rfl) rfl) _ _ (by rw[hms];unfold maxLen;omega) (by rw[hms];exact hn) w hseq
 refine callsIn_wide.2 ((callsIn_wide.1 hcall).mono ?_)
 rintro en w' ⟨v,ss,rfl,hS,hrow,hnil,hbel⟩
 have hsrt:ss.mergeSort (fun x y=>decide (x<=y))=((keysL ents).map fun s=>s.data.toList).mergeSort (fun x y=>decide (x<=y)):=mergeSort_of_perm (hS.trans hperm)
 have henc:(ss.mergeSort (fun x y=>decide (x<=y))).map encStr=(sortK (keysL ents)).map Value.string:=by
  rw[hsrt];unfold sortK;rw[List.map_map];rfl
 have hlen:ss.length=(sortK (keysL ents)).length:=by
  have:=congrArg List.length henc
  simpa using this
 have hflat : ∀l:List ByteArray,(strRows l).flatten=l.map Value.string:=by
  intro l
  induction l with
  | nil=>rfl
  | cons a r ih =>
   have ih:(r.map fun s=>[Value.string s]).flatten=r.map Value.string:=ih
   simp[strRows,ih]
 have hone : ∀l:List ByteArray,∀r∈strRows l,r.length=1:=by
  intro l r hr
  obtain⟨s,_,rfl⟩:=List.mem_map.1 hr;rfl
 obtain⟨_,⟨rfl,hz⟩ | ⟨g,cap,cur,rfl,hbg,hcur,hnc,_,hcs,htake⟩⟩:=hrow
 ·have:sortK (keysL ents)=[]:=by apply List.eq_nil_of_length_eq_zero;rw[<-hlen,hz]
  rw[this]at hK
  exact⟨_,rfl,σ,ext_below hw hbel,hK ⟨none,0,0⟩ σ (RNew.nil _ _ _)⟩
 ·have hng : σ g = none := by
   cases hg:σ g with
   | none=>rfl
   | some o=>have:=hw.lt hg;omega
  refine⟨_,rfl,σ.put g (.cells cur 9 (0,0)),ext_below_put hw hbel hbg hcur,hK ⟨some ⟨g,0,none⟩,ss.length,cap⟩ _ ⟨Gr.put hng _,⟨by show ss.length=_;rw[hlen];simp[strRows],hone _,.inr ⟨g,cur.toList,rfl,H.put_same _ _ _,by rw[Array.length_toList];exact hcs,hnc,?_⟩⟩,fun g' hg'=>by cases hg';exact hng⟩⟩
  rw[hflat,<- henc];simpa using htake
theorem x_Sorted_nil {σ:H} {b2:Nat} {t:TypeId} (h2:σ b2=some (.cells ⟨[.map none]⟩ t (0,0))) {K:KH}
 (hK:K (.slice none 0 0) σ):callW Tryz.prog 137 [.func (.func 179) ⟨[]⟩ ⟨[.pointer (some ⟨b2,0,none⟩)]⟩] K σ:=by
 intro w hw
 have hcell:w.cell? ⟨b2,0,none⟩=some (.map none):=by simp[World.cell?,hw b2 _ h2]
 have hseq:=AnyZ.keys_gives_nil (ρ:=Tryz.keys138_ren) { Tryz.keys138 with } Fence.wide 2 trivial rfl b2 w (hw.lt h2) hcell
 have hcall:=AnyZ.sorted_in Tryz.sorted137 Fence.wide 5 trivial trivial trivial trivial rfl (by omega) (Tryz.sorts137 _) (enters_of Tryz.func117 (by kernel_rfl) rfl) 179 #[.pointer (some ⟨b2,0,none⟩)] trivial (enters_of Tryz.func179 (by kernel_rfl) rfl) _ 0 (Nat.zero_le _) (by omega) w hseq
 refine callsIn_wide.2 ((callsIn_wide.1 hcall).mono ?_)
 rintro en w' ⟨v,ss,rfl,hS,hrow,hnil,hbel⟩
 have:v = .slice none 0 0:=hnil.2 hS
 subst this
 exact⟨_,rfl,σ,ext_below hw hbel,hK⟩
theorem sortK_eq (l:List ByteArray):sortK l=sortN l:=by unfold sortK sortN;rw[sortB_merge]
attribute [local irreducible] ptrW ifW brW andW rdT alW letJ stW muW biW vaW imW callT cvalT app callW invW callVW sizeT oW nilF oneK loopW rfW funW begW roundK exW idxW Gr Put
theorem s_Keys (m:Option Nat) {σ:H} {K:KH} (hK:∀b σ',Gr σ σ'->σ' b=some (.cells ⟨[.map m]⟩ 113 (0,0))->K (.func (.func 179) ⟨[]⟩ ⟨[.pointer (some ⟨b,0,none⟩)]⟩) σ'):callW Tryz.prog 138 [.map m] K σ:=by
 refine c138 _ ?_
 unfold g138
 refine al_i ?_
 intro b σ' hg hb _
 exact hK b σ' hg hb
theorem strSl_of {σ:H} {x:Sl} {l:List ByteArray} (h:RowsOwn σ 9 1 (strRows l) x):StrSl σ x l:=by
 have hflat : ∀l:List ByteArray,(strRows l).flatten=l.map Value.string:=by
  intro l
  induction l with
  | nil=>rfl
  | cons a r ih =>
   have ih:(r.map fun s=>[Value.string s]).flatten=r.map Value.string:=ih
   simp[strRows,ih]
 obtain⟨h1,h2,⟨_,_,h3⟩ | ⟨g,cur,a1,a2,a3,a4,a5⟩⟩:=h
 ·have:l=[]:=by simpa[strRows]using h3
  exact⟨by rw[h1];simp[strRows],.inl this⟩
 ·have hl:x.len=l.length:=by rw[h1];simp[strRows]
  refine⟨hl,.inr ⟨g,cur,a1,a2,?_⟩⟩
  rw[hflat,Nat.mul_one,hl]at a5;exact a5
theorem s_NamesR {σ:H} {bt:Nat} {A:AT} {B:Nat->Prop} (hA:TabAt σ bt A B) (dir:Int) (hk:∀n,A.get dir=some n->(∀s∈keysL n.ents,s.size<=1000)/\n.ents.length<=1099511627776) {K:KH}
 (hK:∀x σ',RNew σ σ' 9 1 (strRows (AT.names A dir)) x->K (.slice x.base x.len x.cap) σ'):callW Tryz.prog 70 [.pointer (some ⟨bt,0,none⟩),.int .i64 dir] K σ:=by
 obtain⟨T,hT,hO,rfl,hB⟩:=hA
 refine c70 _ _ ?_
 unfold g70
 refine call_i (s_get hT dir (app_P ?_))
 unfold AT.names at hK
 simp only[<-sortK_eq]at hK
 rw[abs_get]at hK hk
 cases hn:T.get dir with
 | none =>
  rw[hn]at hK
  exact br_t rfl (hK ⟨none,0,0⟩ σ (RNew.nil _ _ _))
 | some n =>
  rw[hn]at hK hk
  obtain⟨hk1,hk2⟩:=hk _ rfl
  have hN:=hT.get hn
  have cN:=hN.cells
  unfold Nd.cells at cN
  refine br_f rfl ?_
  (repeat (first|refine ptr_i ?_|refine z2 ?_|(refine al_i ?_;intro _ _ _ _ _)|refine z4 ?_|refine z5 ?_|(refine z6 ?_;intro _ _)|refine app_P ?_|refine app_I ?_|refine app_S ?_|refine app_B ?_|refine app_M ?_|refine app_L ?_|refine app_U ?_|refine app_R ?_|(refine app_of rfl ?_;try dsimp only)))
  refine call_i (s_Keys _ ?_)
  intro b2 σ1 g1 e1
  refine app_R ?_
  cases he:n.eb with
  | none =>
   rw[he]at e1
   refine call_i (x_Sorted_nil e1 ?_)
   refine app_L ?_
   have:sortK (keysL n.abs.ents)=[]:=by
    have:n.abs.ents=[]:=hN.none he
    simp[sortK,keysL,this]
   refine hK ⟨none,0,0⟩ σ1 ?_
   show RNew σ σ1 9 1 (strRows (sortK (keysL n.abs.ents))) ⟨none,0,0⟩
   rw[this]
   exact RNew.nil' g1 _ _
  | some e =>
   rw[he]at e1
   refine call_i (x_Sorted e1 ((hN.ents e he).gr g1) (fun s hs => ?_) ?_ ?_)
   ·have:=hk1 s hs
    unfold maxLen;omega
   ·have:n.ents.length<=1099511627776:=hk2
    omega
   ·intro x σ2 hx
    refine app_L ?_
    exact hK x σ2 (hx.since g1)
theorem s_Names {σ:H} {bt:Nat} {A:AT} {B:Nat->Prop} (hA:TabAt σ bt A B) (dir:Int) (hk:∀n,A.get dir=some n->(∀s∈keysL n.ents,s.size<=1000)/\n.ents.length<=1099511627776) {K:KH}
 (hK:∀x σ',Gr σ σ'->StrSl σ' x (AT.names A dir)->K (.slice x.base x.len x.cap) σ'):callW Tryz.prog 70 [.pointer (some ⟨bt,0,none⟩),.int .i64 dir] K σ :=
 s_NamesR hA dir hk fun x σ' h=>hK x σ' h.1 (strSl_of h.2.1)
end Go.Proofs.YtbdlkofldmhoaaaGreatDoor

set_option maxRecDepth 100000
namespace Go.Proofs.YtbdlkofldmhoaaaGreatDoor
open Go Go.HL Go.Wk
attribute [local irreducible] ptrW ifW brW andW rdT alW letJ stW muW biW vaW imW callT cvalT app callW invW callVW sizeT oW nilF oneK loopW rfW funW begW roundK exW idxW Gr Put
def sl0:ByteArray:=⟨⟨[47,0]⟩⟩
theorem idx_i {s:ByteArray} {i:Nat} {c:UInt8} {g:UInt8->H->Prop} {σ:H} (h:s[i]? = some c) (hg:g c σ):idxW s (i:Int) g σ:=by
 unfold idxW
 rw[if_pos (by omega)]
 have:((i:Int)).toNat=i:=by omega
 rw[this,h]
 exact hg
theorem x_ValidRune (r:Int) {σ:H} {K:KH} (hK:K (.bool (Utf8.valid r)) σ):callW Tryz.prog 238 [.int .i32 r] K σ:=by
 refine c238 _ ?_
 unfold g238
 refine j_i (fun j => ∀x:Bool,x=decide (0<=r/\r<55296)->j r x σ) ?_ ?_
 ·intro x hx
  by_cases h:0<=r/\r<55296
  ·refine br_t (by simp[hx,h]) ?_
   have:Utf8.valid r=true:=by simp[Utf8.valid,h]
   rw[this]at hK;exact hK
  ·refine br_f (by simp[hx,h]) ?_
   refine j_i (fun j => ∀y:Bool,y=Utf8.valid r->j y σ) ?_ ?_
   ·intro y hy
    cases hv:Utf8.valid r with
    | true=>rw[hv]at hK hy;exact br_t hy hK
    | false=>rw[hv]at hK hy;exact br_f hy hK
   ·intro j hj
    by_cases h2:57343<r
    ·refine br_t (by simpa using h2) (hj _ ?_)
     by_cases h3:r<=1114111
     ·have:Utf8.valid r=true:=by simp[Utf8.valid,h3];omega
      rw[this];simpa using h3
     ·have:Utf8.valid r=false:=by simp[Utf8.valid];omega
      rw[this];simpa using h3
    ·refine br_f (by simpa using h2) (hj _ ?_)
     have:Utf8.valid r=false:=by simp[Utf8.valid];omega
     rw[this]
 ·intro j hj
  by_cases h:0<=r
  ·exact br_t (by simpa using h) (hj _ (by simp[h]))
  ·exact br_f (by simpa using h) (hj _ (by simp[h]))
theorem und_i32:Tryz.prog.underlying 21=some (.int .i32):=by kernel_rfl
theorem conv_i (r:Int) {F:ByteArray->H->Prop} {σ:H} (h:F (Utf8.encode r) σ):vaW Tryz.prog (convert 21 9 (.int .i32 r)) kS F σ:=by
 unfold vaW invW
 intro w hw
 have:=run_convert_int_string (P:=Tryz.prog) w 21 9 .i32 r (by rw[und_i32];rfl) und_string
 simp only[valS,Sem.run_bind,this,Result.andThen_ok,Sem.run_pure]
 exact⟨σ,Ext.refl hw,app_S h⟩
theorem ascii_ok : ∀n:Fin 128,decide (firstIdx sl0 (IntKind.u8.wrap ((n.val:Nat):Int)).toNat.toUInt8>=0)=(((n.val:Nat):Int)==47||((n.val:Nat):Int)==0):=by decide
theorem x_IndexRune (r:Int) {σ:H} {K:KH} (hK:∀n:Int,(decide (n>=0)=(r==47||r==0))->K (.int .i64 n) σ):callW Tryz.prog 214 [.string sl0,.int .i32 r] K σ:=by
 refine callW.drop (K':=fun v σ' => ∃n:Int,v = .int .i64 n/\decide (n>=0)=(r==47||r==0)/\Gr σ σ') ?_ (fun v σ' ⟨n,hv,hn,hg⟩=>⟨σ,hg,hv ▸ hK n hn⟩)
 refine c214 _ _ ?_
 unfold g214
 refine j_i (fun j => ∀x:Bool,x=decide (0<=r/\r<128)->j sl0 r x σ) ?_ ?_
 case refine_2 =>
  intro j hj
  by_cases h:0<=r
  ·exact br_t (by simpa using h) (hj _ (by simp[h]))
  ·exact br_f (by simpa using h) (hj _ (by simp[h]))
 intro x hx
 by_cases h:0<=r/\r<128
 ·refine br_t (by simp[hx,h]) ?_
  refine call_i (x_IndexByte _ _ (app_I ⟨_,rfl,?_,Gr.refl _⟩))
  obtain⟨n,rfl⟩ : ∃n:Nat,r=n:=⟨r.toNat,by omega⟩
  exact ascii_ok ⟨n,by omega⟩
 refine br_f (by simp[hx,h]) ?_
 have hno:(r==47||r==0)=false:=by simp;omega
 have hm1:decide ((-1:Int)>=0)=(r==47||r==0):=by rw[hno];decide
 by_cases h5:r=65533
 ·refine br_t (by simpa using h5) ?_
  refine range_str und_string sl0 ?_
  intro b σ1 g1 e1 n1
  refine loop_i ?_
  intro R hR
  have k2 : ∀σ',Gr σ σ'->σ' b=some (.stringIter sl0 2)->R (some ⟨b,0,none⟩) σ':=by
   intro σ' hg hb
   refine hR _ _ (next_str hb (fun _=>⟨_,rfl,hm1,hg⟩) (fun hlt=>absurd hlt (by decide)))
  have k1 : ∀σ',Gr σ σ'->σ' b=some (.stringIter sl0 1)->R (some ⟨b,0,none⟩) σ':=by
   intro σ' hg hb
   refine hR _ _ (next_str hb (fun hlt=>absurd (by decide) hlt) (fun _ σ2 hp => ?_))
   refine br_f (by decide) ?_
   exact k2 σ2 (hg.putF hp n1) hp.same
  refine hR _ _ (next_str e1 (fun hlt=>absurd (by decide) hlt) (fun _ σ2 hp => ?_))
  refine br_f (by decide) ?_
  exact k1 σ2 (g1.putF hp n1) hp.same
 refine br_f (by simpa using h5) ?_
 refine call_i (x_ValidRune r (app_B ?_))
 cases hv:Utf8.valid r with
 | false=>exact br_t rfl ⟨_,rfl,hm1,Gr.refl _⟩
 | true =>
  refine br_f rfl (conv_i r ?_)
  have h128:128<=r:=by
   simp[Utf8.valid]at hv;omega
  obtain⟨f1,f2,f3⟩:=encode_facts r hv h128
  have hl:IntKind.i64.wrap (((Utf8.encode r).size:Int) - 1)=(((Utf8.encode r).size - 1:Nat):Int):=by
   rw[wrap_id (by omega) (by omega)];omega
  rw[hl]
  refine loop_i ?_
  intro R hR
  refine hR _ _ _ _ _ ?_
  by_cases h2:(Utf8.encode r).size=2
  ·refine br_t (by rw[h2];decide) ?_
   refine j_i (fun _=>True) trivial ?_
   intro j _
   have hf:=f3 (by omega)
   have hget:(Utf8.encode r)[(Utf8.encode r).size - 1]? = some ((Utf8.encode r)[(Utf8.encode r).size - 1]'(by omega)):=by simp
   have hi1:sl0[(Utf8.encode r).size - 1]? = some 0:=by rw[h2];decide
   refine idx_i hi1 (idx_i hget ?_)
   refine br_t (by simp;omega) ?_
   refine if_i ?_ ?_
   ·simp only[h2];exact⟨trivial,by unfold bndOk;decide⟩
   refine idx_i hget ?_
   refine call_i (x_IndexByte _ _ (app_I ?_))
   have he:sl0.extract (IntKind.i64.wrap ((((Utf8.encode r).size - 1:Nat):Int)+1)).toNat sl0.size=⟨⟨[]⟩⟩:=by simp only[h2];decide
   rw[he]
   exact br_t rfl ⟨_,rfl,hm1,Gr.refl _⟩
  ·have hs2:sl0.size=2:=rfl
   refine br_f (by rw[hs2];simp;omega) ⟨_,rfl,hm1,Gr.refl _⟩
theorem dec_step (s:ByteArray) (i:Nat) (hi:i<s.size):1<=(Utf8.decode s i).2/\i+(Utf8.decode s i).2<=s.size /\
 ((((Utf8.decode s i).1:Nat):Int)==47||(((Utf8.decode s i).1:Nat):Int)==0)=((s.toList.drop i).take (Utf8.decode s i).2).any fun c=>c==47||c==0:=by
 have hget : ∀k,i+k<s.size->s.toList[i+k]? = some (s.get! (i+k)):=by
  intro k hk
  rw[ByteArray.toList_eq]
  have:s.get! (i+k)=s.data[i+k]'hk:=by
   show s.data[i+k]! = _
   exact getElem!_pos s.data (i+k) hk
  rw[this]
  simp[hk]
 have hlen:s.toList.length=s.size:=by rw[ByteArray.toList_eq];simp
 have taken : ∀w,i+w<=s.size->(s.toList.drop i).take w=(List.range w).map fun k=>s.get! (i+k):=by
  intro w hw
  apply List.ext_getElem?
  intro k
  by_cases hk:k<w
  ·rw[List.getElem?_take,if_pos hk,List.getElem?_drop,hget k (by omega)]
   simp[hk]
  ·rw[List.getElem?_take,if_neg hk]
   simp[hk]
 have hbig : ∀k,128<=(s.get! (i+k)).toNat->((s.get! (i+k))==47||(s.get! (i+k))==0)=false:=by
  intro k hk
  cases hc:((s.get! (i+k))==47||(s.get! (i+k))==0) with
  | false=>rfl
  | true =>
   simp only[Bool.or_eq_true,beq_iff_eq]at hc
   rcases hc with hc | hc<;>(rw[hc]at hk;exact absurd hk (by decide))
 have hall : ∀w,i+w<=s.size->(∀k,k<w->128<=(s.get! (i+k)).toNat)->((s.toList.drop i).take w).any (fun c=>c==47||c==0)=false:=by
  intro w hw hk
  rw[taken w hw,List.any_map,List.any_eq_false]
  intro k hkm
  have:=hbig k (hk k (List.mem_range.1 hkm))
  simp only[Function.comp]
  rw[this];simp
 have hcont : ∀k,(decide (i+k<s.size)&&(s.get! (i+k)).toNat / 64==2)=true->i+k<s.size/\128<=(s.get! (i+k)).toNat:=by
  intro k h
  simp only[Bool.and_eq_true,decide_eq_true_eq,beq_iff_eq]at h
  exact⟨h.1,by omega⟩
 unfold Utf8.decode
 simp only
 by_cases h0:(s.get! (i+0)).toNat<128
 ·rw[if_pos h0]
  refine⟨by simp,by simp;omega,?_⟩
  simp only
  rw[taken 1 (by omega)]
  simp only[List.range_one,List.map_cons,List.map_nil,List.any_cons,List.any_nil,Bool.or_false]
  have e1:((((s.get! (i+0)).toNat:Nat):Int)==47)=(s.get! (i+0)==47):=by
   rw[Bool.eq_iff_iff];simp only[beq_iff_eq]
   constructor
   ·intro h;apply UInt8.toNat_inj.1;show(s.get! (i+0)).toNat=47;omega
   ·intro h;rw[h];rfl
  have e2:((((s.get! (i+0)).toNat:Nat):Int)==0)=(s.get! (i+0)==0):=by
   rw[Bool.eq_iff_iff];simp only[beq_iff_eq]
   constructor
   ·intro h;apply UInt8.toNat_inj.1;show(s.get! (i+0)).toNat=0;omega
   ·intro h;rw[h];rfl
  rw[e1,e2]
 rw[if_neg h0]
 have h0':128<=(s.get! (i+0)).toNat:=by omega
 have one : ∀c:Nat,128<=c->1<=((c,1):Nat×Nat).2/\i+((c,1):Nat×Nat).2<=s.size/\((((((c,1):Nat×Nat).1:Nat):Int)==47||((((c,1):Nat×Nat).1:Nat):Int)==0)=((s.toList.drop i).take ((c,1):Nat×Nat).2).any fun c=>c==47||c==0):=by
  intro c hc
  refine⟨by simp,by simp;omega,?_⟩
  rw [hall 1 (by omega) (fun k hk => by have : k = 0 := by omega
                                        subst this;exact h0')]
  simp;omega
 have many : ∀c w:Nat,128<=c->1<=w->i+w<=s.size->(∀k,k<w->128<=(s.get! (i+k)).toNat)->1<=((c,w):Nat×Nat).2/\i+((c,w):Nat×Nat).2<=s.size/\((((((c,w):Nat×Nat).1:Nat):Int)==47||((((c,w):Nat×Nat).1:Nat):Int)==0)=((s.toList.drop i).take ((c,w):Nat×Nat).2).any fun c=>c==47||c==0):=by
  intro c w hc hw1 hw hk
  refine⟨hw1,hw,?_⟩
  rw[hall w hw hk]
  simp;omega
 split
 ·rename_i h1
  simp only[Bool.and_eq_true]at h1
  have c1:=hcont 1 (by simpa using h1.2)
  split
  ·rename_i h2
   exact many _ 2 h2 (by omega) (by omega) (fun k hk=>by
    rcases(by omega:k=0\/k=1)with e | e<;>subst e
    ·exact h0'
    ·exact c1.2)
  ·exact one _ (by decide)
 ·split
  ·rename_i h1
   simp only[Bool.and_eq_true]at h1
   have c1:=hcont 1 (by simpa using h1.1.2)
   have c2:=hcont 2 (by simpa using h1.2)
   split
   ·rename_i h2
    simp only[Bool.and_eq_true,decide_eq_true_eq]at h2
    exact many _ 3 (by omega) (by omega) (by omega) (fun k hk=>by
     rcases(by omega:k=0\/k=1\/k=2)with e | e | e<;>subst e
     ·exact h0'
     ·exact c1.2
     ·exact c2.2)
   ·exact one _ (by decide)
  ·split
   ·rename_i h1
    simp only[Bool.and_eq_true]at h1
    have c1:=hcont 1 (by simpa using h1.1.1.2)
    have c2:=hcont 2 (by simpa using h1.1.2)
    have c3:=hcont 3 (by simpa using h1.2)
    split
    ·rename_i h2
     simp only[Bool.and_eq_true,decide_eq_true_eq]at h2
     exact many _ 4 (by omega) (by omega) (by omega) (fun k hk=>by
      rcases(by omega:k=0\/k=1\/k=2\/k=3)with e | e | e | e<;>subst e
      ·exact h0'
      ·exact c1.2
      ·exact c2.2
      ·exact c3.2)
    ·exact one _ (by decide)
   ·exact one _ (by decide)
theorem app_RB {v:Value} {x:Bool} {F:Value->Bool->H->Prop} {σ:H} (h2:F v x σ):HL.app (.tup [.sc .raw,.sc .bool]) F (.tuple ⟨[v,.bool x]⟩) σ:=by
 unfold HL.app;exact h2
def setL:List Value:=(List.range 256).map fun i => .bool (i==47||i==0)
theorem sz_set:sizeT Tryz.prog 188=some 256:=by kernel_rfl
theorem x_makeSet {σ:H} {K:KH} (hK:K (.tuple ⟨[.agg ⟨setL⟩,.bool true]⟩) σ):callW Tryz.prog 169 [.string sl0] K σ:=by
 refine pure_i _ hK (c169 _ ?_)
 unfold g169
 refine al_i ?_
 intro b σ1 g1 e1 n1
 refine loop_i ?_
 intro R hR
 refine hR _ _ _ _ (br_t (by decide) (idx_i (i:=0) (c:=47) (by decide) (br_f (by decide) (ptr_i (if_i (by decide) ?_)))))
 refine st_i2 e1 sz_bool (by rfl) (by rfl) ?_
 intro σ2 p2
 refine hR _ _ _ _ (br_t (by decide) (idx_i (i:=1) (c:=0) (by decide) (br_f (by decide) (ptr_i (if_i (by decide) ?_)))))
 refine st_i2 p2.same sz_bool (by rfl) (by rfl) ?_
 intro σ3 p3
 have e3:σ3 b=some (.cells ⟨setL⟩ 188 (0,0)):=by rw[p3.same];rfl
 have g3:Gr σ σ3:=(g1.putF p2 n1).putF p3 n1
 refine hR _ _ _ _ (br_f (by decide) (ptr_i ?_))
 refine rd_R (rdA_of' e3 (by rfl)) ?_
 refine st_i2 e3 sz_set (by rfl) (by rfl) ?_
 intro σ4 p4
 have e4:σ4 b=some (.cells ⟨setL⟩ 188 (0,0)):=by rw[p4.same];rfl
 refine ptr_i (rd_R (rdA_of' e4 (by rfl)) ?_)
 exact⟨rfl,g3.putF p4 n1⟩
theorem x_IndexAny (s:ByteArray) (hs:s.size<=1000000) {σ:H} {K:KH} (hK:∀n:Int,decide (n>=0)=badByte s->K (.int .i64 n) σ):callW Tryz.prog 180 [.string s,.string sl0] K σ:=by
 refine callW.drop (K':=fun v σ' => ∃n:Int,v = .int .i64 n/\decide (n>=0)=badByte s/\Gr σ σ') ?_ (fun v σ' ⟨n,hv,hn,hg⟩=>⟨σ,hg,hv ▸ hK n hn⟩)
 refine c180 _ _ ?_
 unfold g180
 refine br_f (by rw[strEq,ByteArray.toList_eq,ByteArray.toList_eq];rfl) (br_f (by decide) ?_)
 refine j_i (fun j => ∀σ',Gr σ σ'->j s sl0 σ') ?_ ?_
 ·intro σ0 g0
  refine range_str und_string s ?_
  intro b σ1 g1 e1 n1
  refine loop_i ?_
  intro R hR
  have key : ∀k i σ',s.size - i<=k->i<=s.size->Gr σ0 σ'->σ' b=some (.stringIter s i)->((s.toList.take i).any fun c=>c==47||c==0)=false->R sl0 (some ⟨b,0,none⟩) σ':=by
   intro k
   induction k with
   | zero =>
    intro i σ' hk hi hg hb hf
    refine hR _ _ _ (next_str hb (fun _=>⟨_,rfl,?_,g0.trans hg⟩) (fun hlt=>by omega))
    have:s.toList.take i=s.toList:=by rw[List.take_of_length_le];rw[ByteArray.toList_eq];simp;omega
    rw[this]at hf
    unfold badByte;rw[<-ByteArray.toList_eq];rw[hf];decide
   | succ k ih =>
    intro i σ' hk hi hg hb hf
    refine hR _ _ _ (next_str hb (fun hlt=>⟨_,rfl,?_,g0.trans hg⟩) (fun hlt σ2 hp => ?_))
    ·have:s.toList.take i=s.toList:=by rw[List.take_of_length_le];rw[ByteArray.toList_eq];simp;omega
     rw[this]at hf
     unfold badByte;rw[<-ByteArray.toList_eq];rw[hf];decide
    ·obtain⟨d1,d2,d3⟩:=dec_step s i hlt
     have hg2:Gr σ0 σ2:=hg.putF hp n1
     refine call_i (x_IndexRune _ ?_)
     intro n hn
     refine app_I ?_
     cases hc:((((Utf8.decode s i).1:Nat):Int)==47||(((Utf8.decode s i).1:Nat):Int)==0) with
     | true =>
      rw[hc]at hn d3
      refine br_t hn ⟨_,rfl,?_,g0.trans hg2⟩
      have hb:badByte s=true:=by
       unfold badByte;rw[<-ByteArray.toList_eq]
       obtain⟨c,h1,h2⟩:=List.any_eq_true.1 d3.symm
       exact List.any_eq_true.2 ⟨c,List.mem_of_mem_drop (List.mem_of_mem_take h1),h2⟩
      rw[hb];simp
     | false =>
      rw[hc]at hn d3
      refine br_f hn ?_
      refine ih (i+(Utf8.decode s i).2) σ2 (by omega) d2 hg2 hp.same ?_
      rw[List.take_add,List.any_append,hf,<- d3];rfl
  exact key _ 0 σ1 (Nat.le_refl _) (by omega) g1 e1 rfl
 ·intro j hj
  refine call_i ?_
  refine c215 _ ?_
  unfold g215
  refine app_B ?_
  by_cases h8:8<s.size
  ·refine br_t (by simp;omega) ?_
   refine call_i (x_makeSet ?_)
   refine app_RB ?_
   refine al_i ?_
   intro b σ1 g1 e1 n1
   refine st_i2 e1 sz_set (by rfl) (by rfl) ?_
   intro σ2 p2
   have e2:σ2 b=some (.cells ⟨setL⟩ 188 (0,0)):=by rw[p2.same];rfl
   have g2:Gr σ σ2:=g1.putF p2 n1
   refine br_t rfl ?_
   refine loop_i ?_
   intro R hR
   have hlen:s.toList.length=s.size:=by rw[ByteArray.toList_eq];simp
   have key : ∀k i:Nat,s.size - i<=k->i<=s.size->((s.toList.take i).any fun c=>c==47||c==0)=false->R s (some ⟨b,0,none⟩) (i:Int) σ2:=by
    intro k
    induction k with
    | zero =>
     intro i hk hi hf
     refine hR _ _ _ _ (br_f (by simp;omega) ⟨_,rfl,?_,g2⟩)
     have:s.toList.take i=s.toList:=by rw[List.take_of_length_le];omega
     rw[this]at hf
     unfold badByte;rw[<-ByteArray.toList_eq];rw[hf];decide
    | succ k ih =>
     intro i hk hi hf
     by_cases hlt:i<s.size
     ·refine hR _ _ _ _ (br_t (by simp;omega) ?_)
      have hget:s[i]? = some s[i]:=by simp[hlt]
      refine idx_i hget ?_
      refine call_i ?_
      refine c208 _ _ ?_
      unfold g208
      have hb256:(s[i]).toNat<256:=UInt8.toNat_lt _
      refine ptr_i (if_i ⟨by omega,by omega⟩ ?_)
      refine rd_B (x:=(s[i].toNat==47||s[i].toNat==0)) (rdC_of e2 ?_) (app_B ?_)
      ·have:(0+(((s[i]).toNat:Int)).toNat * 1)=(s[i]).toNat:=by omega
       rw[this]
       simp[setL,hb256]
      ·have hc : (s[i].toNat == 47 || s[i].toNat == 0) = (s[i] == 47 || s[i] == 0) := by
        have q : ∀n:UInt8,(s[i].toNat==n.toNat)=(s[i]==n):=by
         intro n;rw[Bool.eq_iff_iff];simp only[beq_iff_eq];exact UInt8.toNat_inj
        have q1:=q 47
        have q2:=q 0
        rw[<-q1,<- q2];rfl
       rw[hc]
       have hli:s.toList[i]? = some s[i]:=by
        rw[ByteArray.toList_eq];simp[hlt,ByteArray.getElem_eq_getElem_data]
       cases hv:(s[i]==47||s[i]==0) with
       | true =>
        refine br_t rfl ⟨_,rfl,?_,g2⟩
        have hb:badByte s=true:=by
         unfold badByte;rw[<-ByteArray.toList_eq]
         exact List.any_eq_true.2 ⟨s[i],List.mem_of_getElem? hli,hv⟩
        rw[hb];simp
       | false =>
        refine br_f rfl ?_
        rw[wrap_id (by omega) (by omega)]
        refine ih (i+1) (by omega) (by omega) ?_
        rw[List.take_add_one,List.any_append,hf,hli]
        simpa using hv
     ·refine hR _ _ _ _ (br_f (by simp;omega) ⟨_,rfl,?_,g2⟩)
      have:s.toList.take i=s.toList:=by rw[List.take_of_length_le];omega
      rw[this]at hf
      unfold badByte;rw[<-ByteArray.toList_eq];rw[hf];decide
   exact key _ 0 (Nat.le_refl _) (by omega) rfl
  ·exact br_f (by simp;omega) (hj σ (Gr.refl _))
theorem cAny:CAny:=by
 intro s hs σ K hK
 refine c141 _ _ ?_
 unfold g141
 refine call_i (x_IndexAny s hs ?_)
 intro n hn
 refine app_I ?_
 rw[hn]
 exact hK
end Go.Proofs.YtbdlkofldmhoaaaGreatDoor

namespace Go.Wk
open Go Go.HL
theorem splitL_none {c:UInt8} : ∀ {l:List UInt8},c∉l->splitL c l=[l]:=by
 intro l
 induction l with
 | nil=>intro _;rfl
 | cons x l ih =>
  intro h
  simp only[List.mem_cons,not_or]at h
  have hx:(x==c)=false:=by simpa using fun e=>h.1 e.symm
  simp only[splitL,hx,ih h.2]
theorem splitL_some {c:UInt8} {b:List UInt8} : ∀ {a:List UInt8},c∉a->splitL c (a++c::b)=a::splitL c b:=by
 intro a
 induction a with
 | nil=>intro _;simp[splitL]
 | cons x a ih =>
  intro h
  simp only[List.mem_cons,not_or]at h
  have hx:(x==c)=false:=by simpa using fun e=>h.1 e.symm
  simp only[List.cons_append,splitL,hx,ih h.2]
theorem splitL_ne {c:UInt8} : ∀l:List UInt8,splitL c l≠[]:=by
 intro l
 induction l with
 | nil=>simp[splitL]
 | cons x l ih =>
  simp only[splitL]
  cases (x==c) with
  | true=>simp
  | false =>
   cases h:splitL c l with
   | nil=>simp
   | cons=>simp
theorem toList_at (s:ByteArray) (i:Nat) (h:i<s.size):s.data.toList[i]? = some s[i]! := by
 rw[getElem!_pos s i h]
 have:s[i]=s.data[i]:=rfl
 rw[this];simp
theorem firstIdx_split (s:ByteArray) (c:UInt8):(firstIdx s c = -1/\c∉s.data.toList) \/ ∃i:Nat,firstIdx s c=(i:Int)/\i<s.size/\c∉s.data.toList.take i/\s.data.toList=s.data.toList.take i++c::s.data.toList.drop (i+1):=by
 have hlen:s.data.toList.length=s.size:=rfl
 unfold firstIdx
 cases hf:(List.range s.size).find? fun i=>s[i]! == c with
 | none =>
  refine .inl ⟨rfl,fun hm => ?_⟩
  obtain⟨i,hi,he⟩:=List.getElem_of_mem hm
  have h1:=List.find?_eq_none.1 hf i (by simpa[hlen]using hi)
  have h2:=toList_at s i (by omega)
  rw[List.getElem?_eq_getElem hi,he]at h2
  simp at h2
  exact h1 (by simp[h2])
 | some i =>
  rw[List.find?_range_eq_some]at hf
  obtain⟨h1,h2,h3⟩:=hf
  have hi:i<s.size:=by simpa using h2
  refine .inr ⟨i,rfl,hi,fun hm => ?_,?_⟩
  ·obtain⟨j,hj,he⟩:=List.getElem_of_mem hm
   have hj':j<i:=by have:=hj;simp at this;omega
   have h4:=h3 j hj'
   have h5:=toList_at s j (by omega)
   rw[List.getElem_take]at he
   rw[List.getElem?_eq_getElem (by omega),he]at h5
   simp at h5
   simp[h5]at h4
  ·have h5:=toList_at s i hi
   have hc:s[i]! = c:=by simpa using h1
   rw[hc]at h5
   have h6:s.data.toList.drop i=c::s.data.toList.drop (i+1):=by
    rw[List.drop_eq_getElem_cons (by omega)]
    rw[List.getElem?_eq_getElem (by omega)]at h5
    simp only[Option.some.injEq]at h5
    rw[h5]
   rw[<-h6,List.take_append_drop]
def partsOf (c:UInt8) (s:ByteArray):List ByteArray:=(splitL c s.data.toList).map fun l=>(⟨⟨l⟩⟩:ByteArray)
theorem partsOf_none {c:UInt8} {s:ByteArray} (h:firstIdx s c<0):partsOf c s=[s]:=by
 rcases firstIdx_split s c with⟨_,h1⟩ | ⟨i,h1,_⟩
 ·unfold partsOf;rw[splitL_none h1];rfl
 ·omega
theorem extract_toList (s:ByteArray) (a b:Nat):(s.extract a b).data.toList=(s.data.toList.take b).drop a:=by
 rw[ByteArray.data_extract,Array.toList_extract,List.extract_eq_drop_take']
theorem partsOf_some {c:UInt8} {s:ByteArray} (h:0<=firstIdx s c):(firstIdx s c).toNat<s.size/\partsOf c s=s.extract 0 (firstIdx s c).toNat::partsOf c (s.extract ((firstIdx s c).toNat+1) s.size):=by
 rcases firstIdx_split s c with⟨h0,_⟩ | ⟨i,h1,h2,h3,h4⟩
 ·omega
 ·have:(firstIdx s c).toNat=i:=by omega
  rw[this]
  refine⟨h2,?_⟩
  have hl:s.data.toList.length=s.size:=rfl
  unfold partsOf
  rw[extract_toList,show s.data.toList.take s.size=s.data.toList by rw[<-hl,List.take_length]]
  conv=>lhs;rw[h4]
  rw[splitL_some h3]
  simp only[List.map_cons,List.cons.injEq,and_true]
  have:(s.extract 0 i)=⟨⟨(s.extract 0 i).data.toList⟩⟩:=rfl
  rw[this,extract_toList];rfl
def lasts:List ByteArray->List (ByteArray×Bool)
 | []=>[]
 | x::r=>(x,r.isEmpty)::lasts r
theorem partsB_eq (s:ByteArray):partsB s=(partsOf 47 s).filter okPart:=rfl

section
variable {A : AT} {go : Int -> ByteArray -> Int -> Int × Pl × Int} {follow : Bool} {name : ByteArray} {rest : List ByteArray} {p : Pl} {h : Int}
theorem steps_none (h1:p.there=false):A.steps go follow (name::rest) p h=(5,Pl.z,h):=by rw[AT.steps,if_pos h1]
theorem steps_notdir (h1:p.there=true) (h2:A.kind p.ino≠2):A.steps go follow (name::rest) p h=(8,Pl.z,h):=by rw[AT.steps,if_neg (by simp[h1]),if_pos h2]
theorem steps_up (h1:p.there=true) (h2:A.kind p.ino=2) (h3:sEq name ⟨⟨[46,46]⟩⟩=true):A.steps go follow (name::rest) p h=A.steps go follow rest ⟨A.upOf p.ino,⟨⟨[]⟩⟩,A.upOf p.ino,true⟩ h:=by
 rw[AT.steps,if_neg (by simp[h1]),if_neg (by simp[h2]),if_pos h3]
theorem steps_long (h1:p.there=true) (h2:A.kind p.ino=2) (h3:sEq name ⟨⟨[46,46]⟩⟩=false) (h4:name.size>56):A.steps go follow (name::rest) p h=(3,Pl.z,h):=by
 rw[AT.steps,if_neg (by simp[h1]),if_neg (by simp[h2]),if_neg (by simp[h3]),if_pos h4]
theorem steps_name (h1:p.there=true) (h2:A.kind p.ino=2) (h3:sEq name ⟨⟨[46,46]⟩⟩=false) (h4:¬name.size>56) (h5:(A.find p.ino name).isSome=false\/(rest.isEmpty && !follow)=true\/A.kind ((A.find p.ino name).getD 0)≠3) :
 A.steps go follow (name::rest) p h=A.steps go follow rest ⟨p.ino,name,(A.find p.ino name).getD 0,(A.find p.ino name).isSome⟩ h:=by
 rw[AT.steps,if_neg (by simp[h1]),if_neg (by simp[h2]),if_neg (by simp[h3]),if_neg h4]
 simp only
 rw[if_pos h5]
theorem steps_loop (h1:p.there=true) (h2:A.kind p.ino=2) (h3:sEq name ⟨⟨[46,46]⟩⟩=false) (h4:¬name.size>56) (h5:¬ ((A.find p.ino name).isSome=false\/(rest.isEmpty && !follow)=true\/A.kind ((A.find p.ino name).getD 0)≠3)) (h6:h - 1<0) :
 A.steps go follow (name::rest) p h=(9,Pl.z,h - 1):=by
 rw[AT.steps,if_neg (by simp[h1]),if_neg (by simp[h2]),if_neg (by simp[h3]),if_neg h4]
 simp only
 rw[if_neg h5,if_pos h6]
theorem steps_err (h1:p.there=true) (h2:A.kind p.ino=2) (h3:sEq name ⟨⟨[46,46]⟩⟩=false) (h4:¬name.size>56) (h5:¬ ((A.find p.ino name).isSome=false\/(rest.isEmpty && !follow)=true\/A.kind ((A.find p.ino name).getD 0)≠3)) (h6:¬h - 1<0)
 (h7:(go p.ino (A.data ((A.find p.ino name).getD 0)) (h - 1)).1≠0) :
 A.steps go follow (name::rest) p h=((go p.ino (A.data ((A.find p.ino name).getD 0)) (h - 1)).1,Pl.z,(go p.ino (A.data ((A.find p.ino name).getD 0)) (h - 1)).2.2):=by
 rw[AT.steps,if_neg (by simp[h1]),if_neg (by simp[h2]),if_neg (by simp[h3]),if_neg h4]
 simp only
 rw[if_neg h5,if_neg h6,if_pos h7]
theorem steps_link (h1:p.there=true) (h2:A.kind p.ino=2) (h3:sEq name ⟨⟨[46,46]⟩⟩=false) (h4:¬name.size>56) (h5:¬ ((A.find p.ino name).isSome=false\/(rest.isEmpty && !follow)=true\/A.kind ((A.find p.ino name).getD 0)≠3)) (h6:¬h - 1<0)
 (h7:(go p.ino (A.data ((A.find p.ino name).getD 0)) (h - 1)).1=0) :
 A.steps go follow (name::rest) p h=A.steps go follow rest (go p.ino (A.data ((A.find p.ino name).getD 0)) (h - 1)).2.1 (go p.ino (A.data ((A.find p.ino name).getD 0)) (h - 1)).2.2:=by
 rw[AT.steps,if_neg (by simp[h1]),if_neg (by simp[h2]),if_neg (by simp[h3]),if_neg h4]
 simp only
 rw[if_neg h5,if_neg h6,if_neg (by simp[h7])]
end
theorem steps_hops {A:AT} {go:Int->ByteArray->Int->Int×Pl×Int} {follow:Bool} (hgo:∀d s x,0<=x -> -1<=(go d s x).2.2/\(go d s x).2.2<=x/\((go d s x).1=0->0<=(go d s x).2.2)) : ∀ (l:List ByteArray) (p:Pl) (h:Int),0<=h -> -1<=(A.steps go follow l p h).2.2/\(A.steps go follow l p h).2.2<=h/\((A.steps go follow l p h).1=0->0<=(A.steps go follow l p h).2.2):=by
 intro l
 induction l with
 | nil=>intro p h hh;simp[AT.steps];omega
 | cons n r ih =>
  intro p h hh
  cases h1:p.there with
  | false=>rw[steps_none h1];exact⟨by show(-1:Int)<=h;omega,Int.le_refl _,fun _=>hh⟩
  | true =>
   by_cases h2:A.kind p.ino=2
   case neg=>rw[steps_notdir h1 h2];exact⟨by show(-1:Int)<=h;omega,Int.le_refl _,fun _=>hh⟩
   cases h3:sEq n ⟨⟨[46,46]⟩⟩ with
   | true=>rw[steps_up h1 h2 h3];exact ih _ h hh
   | false =>
    by_cases h4:n.size>56
    ·rw[steps_long h1 h2 h3 h4];exact⟨by show(-1:Int)<=h;omega,Int.le_refl _,fun _=>hh⟩
    by_cases h5:(A.find p.ino n).isSome=false\/(r.isEmpty && !follow)=true\/A.kind ((A.find p.ino n).getD 0)≠3
    ·rw[steps_name h1 h2 h3 h4 h5];exact ih _ h hh
    by_cases h6:h - 1<0
    ·rw[steps_loop h1 h2 h3 h4 h5 h6];exact⟨by show(-1:Int)<=h - 1;omega,by show h - 1<=h;omega,fun e=>by cases e⟩
    have hg:=hgo p.ino (A.data ((A.find p.ino n).getD 0)) (h - 1) (by omega)
    by_cases h7:(go p.ino (A.data ((A.find p.ino n).getD 0)) (h - 1)).1=0
    ·rw[steps_link h1 h2 h3 h4 h5 h6 h7]
     have:=ih (go p.ino (A.data ((A.find p.ino n).getD 0)) (h - 1)).2.1 _ (hg.2.2 h7)
     exact⟨this.1,by omega,this.2.2⟩
    ·rw[steps_err h1 h2 h3 h4 h5 h6 h7];exact⟨hg.1,Int.le_trans hg.2.1 (by omega),fun e=>absurd e h7⟩
theorem walk_hops (A:AT) : ∀ (f:Nat) (d:Int) (s:ByteArray) (fo:Bool) (h:Int),0<=h -> -1<=(A.walk f d s fo h).2.2/\(A.walk f d s fo h).2.2<=h/\((A.walk f d s fo h).1=0->0<=(A.walk f d s fo h).2.2):=by
 intro f
 induction f with
 | zero=>intro d s fo h hh;exact⟨by show(-1:Int)<=h;omega,Int.le_refl _,fun e=>by cases e⟩
 | succ f ih =>
  intro d s fo h hh
  rw[AT.walk]
  by_cases hm:mayE s≠0
  ·rw[if_pos hm];exact⟨by show(-1:Int)<=h;omega,Int.le_refl _,fun _=>hh⟩
  ·rw[if_neg hm]
   exact steps_hops (fun d s x hx=>ih d s true x hx) _ _ _ hh
end Go.Wk

set_option maxRecDepth 100000
namespace Go.Proofs.YtbdlkofldmhoaaaGreatDoor
open Go Go.HL Go.Wk
attribute [local irreducible] ptrW ifW brW andW rdT alW letJ stW muW biW vaW imW callT cvalT app callW invW callVW sizeT oW nilF oneK loopW rfW funW begW roundK exW idxW Gr Put
theorem x_sliIndexByte (s:ByteArray) (c:UInt8) {σ:H} {K:KH} (hK:K (.int .i64 (firstIdx s c)) σ):callW Tryz.prog 88 [.string s,.int .u8 (c.toNat:Int)] K σ:=by
 refine c88 _ _ ?_
 unfold g88
 refine x_IBS s _ ?_
 have:((c.toNat:Int)).toNat.toUInt8=c:=by simp
 rw[this];exact hK
theorem firstIdx_self (c:UInt8):firstIdx ⟨⟨[c]⟩⟩ c=0:=by
 rcases firstIdx_split ⟨⟨[c]⟩⟩ c with⟨_,h⟩ | ⟨i,h,h2,_⟩
 ·simp at h
 ·have:i<1:=h2
  omega
theorem x_Index1 (s:ByteArray) (c:UInt8) {σ:H} {K:KH} (hK:K (.int .i64 (firstIdx s c)) σ):callW Tryz.prog 242 [.string s,.string ⟨⟨[c]⟩⟩] K σ:=by
 refine c242 _ _ ?_
 unfold g242
 refine call_i (c252 _ _ ?_)
 unfold g252
 refine j_i (fun j => ∀b:Bool,(b=true->s=⟨⟨[c]⟩⟩)->j s ⟨⟨[c]⟩⟩ (((⟨⟨[c]⟩⟩:ByteArray).size:Nat):Int) b σ) ?_ ?_
 ·intro b hb
  cases b with
  | true =>
   refine br_t rfl (app_I ?_)
   have:=hb rfl
   subst this
   rw[firstIdx_self]at hK;exact hK
  | false =>
   refine br_f rfl (br_t rfl (idx_l (c:=c) (by decide) rfl ?_))
   exact call_i (x_sliIndexByte s c (app_I (app_I hK)))
 ·intro j hj
  refine br_f rfl (hj _ ?_)
  intro h;exact(strEq_iff.1 h).symm
section
variable {ι : Type}
theorem x_split1 {c:UInt8} {y:Value} {b5 b4 b6:Nat} {t5 t4 t6:TypeId} {D:Nat->Prop} {I:List ByteArray->H->Prop} {S:H->Prop} (C:Cl Tryz.prog y D (fun(a:ByteArray) args _=>args=[.string a]) I S) (d4:D b4) (d5:D b5) (d6:D b6) (n45:b5≠b4) (n46:b6≠b4) {K:KH} (hK1:∀σ',I [] σ'->K (.tuple ⟨[]⟩) σ') (hK2:∀σ',S σ'->K (.tuple ⟨[]⟩) σ')
 {σ:H} {s:ByteArray} (h5:σ b5=some (.cells ⟨[.string ⟨⟨[c]⟩⟩]⟩ t5 (0,0))) (h4:σ b4=some (.cells ⟨[.string s]⟩ t4 (0,0))) (h6:σ b6=some (.cells ⟨[.int .i64 0]⟩ t6 (0,0))) (hs:s.size<=1000000000) (hI:I (partsOf c s) σ) :
 callW Tryz.prog 241 [y,.pointer (some ⟨b5,0,none⟩),.pointer (some ⟨b4,0,none⟩),.pointer (some ⟨b6,0,none⟩)] K σ:=by
 refine c241 _ _ _ _ ?_
 unfold g241
 (repeat (first|refine ptr_i ?_|refine z2 ?_|(refine al_i ?_;intro _ _ _ _ _)|refine z4 ?_|refine z5 ?_|(refine z6 ?_;intro _ _)|refine app_P ?_|refine app_I ?_|refine app_S ?_|refine app_B ?_|refine app_M ?_|refine app_L ?_|refine app_U ?_|refine app_R ?_|(refine app_of rfl ?_;try dsimp only)))
 refine br_f rfl ?_
 refine loop_i ?_
 intro R hR
 have key : ∀ (n:Nat) (s:ByteArray) (σ:H),s.size<=n->s.size<=1000000000->σ b5=some (.cells ⟨[.string ⟨⟨[c]⟩⟩]⟩ t5 (0,0))->σ b4=some (.cells ⟨[.string s]⟩ t4 (0,0))->σ b6=some (.cells ⟨[.int .i64 0]⟩ t6 (0,0))->I (partsOf c s) σ ->
  R y (some ⟨b5,0,none⟩) (some ⟨b4,0,none⟩) (some ⟨b6,0,none⟩) σ:=by
  intro n
  induction n with
  | zero =>
   intro s σ hn hs h5 h4 h6 hI
   refine hR _ _ _ _ _ ?_
   (repeat (first|refine ptr_i ?_|refine z2 ?_|(refine al_i ?_;intro _ _ _ _ _)|refine z4 ?_|refine z5 ?_|(refine z6 ?_;intro _ _)|refine app_P ?_|refine app_I ?_|refine app_S ?_|refine app_B ?_|refine app_M ?_|refine app_L ?_|refine app_U ?_|refine app_R ?_|(refine app_of rfl ?_;try dsimp only)))
   refine call_i (x_Index1 s c (app_I ?_))
   by_cases hi:firstIdx s c<0
   ·refine br_t (by simpa using hi) ?_
    (repeat (first|refine ptr_i ?_|refine z2 ?_|(refine al_i ?_;intro _ _ _ _ _)|refine z4 ?_|refine z5 ?_|(refine z6 ?_;intro _ _)|refine app_P ?_|refine app_I ?_|refine app_S ?_|refine app_B ?_|refine app_M ?_|refine app_L ?_|refine app_U ?_|refine app_R ?_|(refine app_of rfl ?_;try dsimp only)))
    rw[partsOf_none hi]at hI
    refine cvalv_i (C.call s [] _ σ _ hI rfl ?_ ?_)
    ·intro σ' h _;exact app_B (hK1 σ' h)
    ·intro σ' h _;exact app_B (hK2 σ' h)
   ·have:=(partsOf_some (c:=c) (s:=s) (by omega)).1
    omega
  | succ n ih =>
   intro s σ hn hs h5 h4 h6 hI
   refine hR _ _ _ _ _ ?_
   (repeat (first|refine ptr_i ?_|refine z2 ?_|(refine al_i ?_;intro _ _ _ _ _)|refine z4 ?_|refine z5 ?_|(refine z6 ?_;intro _ _)|refine app_P ?_|refine app_I ?_|refine app_S ?_|refine app_B ?_|refine app_M ?_|refine app_L ?_|refine app_U ?_|refine app_R ?_|(refine app_of rfl ?_;try dsimp only)))
   refine call_i (x_Index1 s c (app_I ?_))
   by_cases hi:firstIdx s c<0
   ·refine br_t (by simpa using hi) ?_
    (repeat (first|refine ptr_i ?_|refine z2 ?_|(refine al_i ?_;intro _ _ _ _ _)|refine z4 ?_|refine z5 ?_|(refine z6 ?_;intro _ _)|refine app_P ?_|refine app_I ?_|refine app_S ?_|refine app_B ?_|refine app_M ?_|refine app_L ?_|refine app_U ?_|refine app_R ?_|(refine app_of rfl ?_;try dsimp only)))
    rw[partsOf_none hi]at hI
    refine cvalv_i (C.call s [] _ σ _ hI rfl ?_ ?_)
    ·intro σ' h _;exact app_B (hK1 σ' h)
    ·intro σ' h _;exact app_B (hK2 σ' h)
   ·obtain⟨hlt,hp⟩:=partsOf_some (c:=c) (s:=s) (by omega)
    rw[hp]at hI
    refine br_f (by simpa using hi) ?_
    (repeat (first|refine ptr_i ?_|refine z2 ?_|(refine al_i ?_;intro _ _ _ _ _)|refine z4 ?_|refine z5 ?_|(refine z6 ?_;intro _ _)|refine app_P ?_|refine app_I ?_|refine app_S ?_|refine app_B ?_|refine app_M ?_|refine app_L ?_|refine app_U ?_|refine app_R ?_|(refine app_of rfl ?_;try dsimp only)))
    have w0:IntKind.i64.wrap (firstIdx s c+0)=firstIdx s c:=by rw[wrap_id (by omega) (by omega)];omega
    have w1:IntKind.i64.wrap (firstIdx s c+(((⟨⟨[c]⟩⟩:ByteArray).size:Nat):Int))=firstIdx s c+1:=by
     show IntKind.i64.wrap (firstIdx s c+1)=_
     rw[wrap_id (by omega) (by omega)]
    rw[w0]
    refine if_i ⟨bnd_some (by omega) (by omega),bnd_none⟩ ?_
    refine cvalv_i (C.call _ _ _ σ _ hI rfl ?_ ?_)
    ·intro σ' h ho
     refine app_B (br_f rfl ?_)
     have h5':=ho _ _ d5 h5
     have h4':=ho _ _ d4 h4
     have h6':=ho _ _ d6 h6
     (repeat (first|refine ptr_i ?_|refine z2 ?_|(refine al_i ?_;intro _ _ _ _ _)|refine z4 ?_|refine z5 ?_|(refine z6 ?_;intro _ _)|refine app_P ?_|refine app_I ?_|refine app_S ?_|refine app_B ?_|refine app_M ?_|refine app_L ?_|refine app_U ?_|refine app_R ?_|(refine app_of rfl ?_;try dsimp only)))
     rw[w1]
     refine if_i ⟨bnd_none,bnd_some (by omega) (by omega)⟩ ?_
     (repeat (first|refine ptr_i ?_|refine z2 ?_|(refine al_i ?_;intro _ _ _ _ _)|refine z4 ?_|refine z5 ?_|(refine z6 ?_;intro _ _)|refine app_P ?_|refine app_I ?_|refine app_S ?_|refine app_B ?_|refine app_M ?_|refine app_L ?_|refine app_U ?_|refine app_R ?_|(refine app_of rfl ?_;try dsimp only)))
     rename_i σ2 p2
     have e1:(firstIdx s c+1).toNat=(firstIdx s c).toNat+1:=by omega
     rw[e1]at p2
     have hsz:(s.extract ((firstIdx s c).toNat+1) s.size).size=s.size - ((firstIdx s c).toNat+1):=by rw[ByteArray.size_extract];omega
     refine ih _ σ2 (by rw[hsz];omega) (by rw[hsz];omega) (p2.get n45 h5') p2.same (p2.get n46 h6') (C.put _ _ _ _ _ h d4 p2)
    ·intro σ' h _;exact app_B (br_t rfl (hK2 σ' h))
 exact key s.size s σ (Nat.le_refl _) hs h5 h4 h6 hI
end
theorem x_SplitSeq (s sep:ByteArray) {σ:H} {K:KH} (hK:∀b4 b5 b6 σ',Gr σ σ'->σ b4=none->σ b5=none->σ b6=none->b5≠b4->b6≠b4->σ' b4=some (.cells ⟨[.string s]⟩ 9 (0,0))->σ' b5=some (.cells ⟨[.string sep]⟩ 9 (0,0))->σ' b6=some (.cells ⟨[.int .i64 0]⟩ 3 (0,0))->K (.func (.func 241) ⟨[]⟩ ⟨[.pointer (some ⟨b5,0,none⟩),.pointer (some ⟨b4,0,none⟩),.pointer (some ⟨b6,0,none⟩)]⟩) σ') :
 callW Tryz.prog 182 [.string s,.string sep] K σ:=by
 refine c182 _ _ ?_
 unfold g182
 refine call_i (c216 _ _ _ ?_)
 unfold g216
 refine al_i ?_;intro b4 σ1 g1 e1 n1
 refine al_i ?_;intro b5 σ2 g2 e2 n2
 refine al_i ?_;intro b6 σ3 g3 e3 n3
 refine app_R ?_
 exact hK b4 b5 b6 σ3 (by repeat (first | exact Gr.refl _ | assumption | refine Gr.trans ?_ ‹_› | refine Gr.putF ?_ ‹_› (none_of ?_ ‹_›))) n1 (none_of g1 n2) (none_of (g1.trans g2) n3) (ne_fr n2 (by repeat (first | exact io ‹_› | exact mS ‹_› | refine gS ‹_› ?_ | refine pS ‹_› ?_))).symm (ne_fr n3 (by repeat (first | exact io ‹_› | exact mS ‹_› | refine gS ‹_› ?_ | refine pS ‹_› ?_))).symm (by exact gA) (by exact gA) (by exact gA)
theorem go_split1:isGo Tryz.prog 241=true:=by kernel_rfl
theorem go_names1:isGo Tryz.prog 181=true:=by kernel_rfl
theorem x_names (path:ByteArray) {σ:H} {K:KH} (hK:∀b2 σ',Gr σ σ'->σ b2=none->σ' b2=some (.cells ⟨[.string path]⟩ 9 (0,0))->K (.func (.func 181) ⟨[]⟩ ⟨[.pointer (some ⟨b2,0,none⟩)]⟩) σ'):callW Tryz.prog 147 [.string path] K σ:=by
 refine c147 _ ?_
 unfold g147
 refine al_i ?_;intro b2 σ1 g1 e1 n1
 exact hK b2 σ1 g1 n1 e1
def pendOk (σ:H) (b4 b5:Nat):Option ByteArray->Prop
 | none=>σ b5=some (.cells ⟨[.bool false]⟩ 4 (0,0)) /\ ∃x,σ b4=some (.cells ⟨[.string x]⟩ 9 (0,0))
 | some a=>σ b5=some (.cells ⟨[.bool true]⟩ 4 (0,0))/\σ b4=some (.cells ⟨[.string a]⟩ 9 (0,0))
def pendL:Option ByteArray->List ByteArray
 | none=>[]
 | some a=>[a]
theorem pendOk.keep {σ σ':H} {b4 b5:Nat} {p:Option ByteArray} (h:pendOk σ b4 b5 p) (h4:∀o,σ b4=some o->σ' b4=some o) (h5:∀o,σ b5=some o->σ' b5=some o):pendOk σ' b4 b5 p:=by
 cases p with
 | none=>obtain⟨h1,x,h2⟩:=h;exact⟨h5 _ h1,x,h4 _ h2⟩
 | some a=>exact⟨h5 _ h.1,h4 _ h.2⟩
theorem okPart_eq (a:ByteArray):okPart a = !(strEq a ⟨⟨[]⟩⟩||strEq a ⟨⟨[46]⟩⟩):=by unfold okPart;rw[sEq_eq,sEq_eq];simp
theorem x_names1 {σ:H} {fy:Fn} {ay cy:Array Value} {b2:Nat} {path:ByteArray} {t:TypeId} (h2:σ b2=some (.cells ⟨[.string path]⟩ t (0,0))) (hs:path.size<=1000000000) {K:KH}
 (hC:∀D:Nat->Prop,(∀b,D b->σ b=none) -> ∃I S,Cl Tryz.prog (.func fy ay cy) D (fun(a:ByteArray×Bool) args _=>args=[.string a.1,.bool a.2]) I S/\(∀σ',Gr σ σ'->(∀b,D b->(σ' b).isSome=true)->I (lasts (partsB path)) σ')/\(∀σ',I [] σ'->K (.tuple ⟨[]⟩) σ')/\(∀σ',S σ'->K (.tuple ⟨[]⟩) σ')) :
 callW Tryz.prog 181 [.func fy ay cy,.pointer (some ⟨b2,0,none⟩)] K σ:=by
 refine c181 _ _ ?_
 unfold g181
 refine one_f ?_
 refine al_i ?_;intro b3 σ1 g1 e1 n1
 refine al_i ?_;intro b4 σ2 g2 e2 n2
 refine al_i ?_;intro b5 σ3 g3 e3 n3
 have n43:b4≠b3:=(ne_fr n2 (by repeat (first | exact io ‹_› | exact mS ‹_› | refine gS ‹_› ?_ | refine pS ‹_› ?_))).symm
 have n53:b5≠b3:=(ne_fr n3 (by repeat (first | exact io ‹_› | exact mS ‹_› | refine gS ‹_› ?_ | refine pS ‹_› ?_))).symm
 have n54:b5≠b4:=(ne_fr n3 (by repeat (first | exact io ‹_› | exact mS ‹_› | refine gS ‹_› ?_ | refine pS ‹_› ?_))).symm
 have f4:σ b4=none:=none_of g1 n2
 have f5:σ b5=none:=none_of (g1.trans g2) n3
 have hg3:Lng σ σ3:=⟨by repeat (first | exact Gr.refl _ | assumption | refine Gr.trans ?_ ‹_› | refine Gr.putF ?_ ‹_› (none_of ?_ ‹_›))⟩
 have k2:=hg3.gr.get h2
 (refine st_i2 (by exact gA) szA (by rfl) (by rfl) ?_;intro _ _)
 rename_i σ4 p4
 (refine st_i2 (by exact gA) szA (by rfl) (by rfl) ?_;intro _ _)
 rename_i σ5 p5
 have hg5:Lng σ σ5:=⟨(hg3.gr.putF p4 f4).putF p5 f5⟩
 have k5:σ5 b5=some (.cells ⟨[.bool false]⟩ 4 (0,0)):=p5.same
 have k4:σ5 b4=some (.cells ⟨[.string ⟨⟨[]⟩⟩]⟩ 9 (0,0)):=p5.get n54.symm p4.same
 have k3:σ5 b3=some (.cells ⟨[.func fy ay cy]⟩ 154 (0,0)):=p5.get n53.symm (p4.get n43.symm (by exact gA))
 have k2q:=hg5.gr.get h2
 clear p4 p5 e2 e3 k2 hg3
 refine j_i (fun j => ∀ (I:List (ByteArray×Bool)->H->Prop) (S:H->Prop) (D:Nat->Prop),Cl Tryz.prog (.func fy ay cy) D (fun(a:ByteArray×Bool) args _=>args=[.string a.1,.bool a.2]) I S->(∀σ',I [] σ'->K (.tuple ⟨[]⟩) σ')->(∀σ',S σ'->K (.tuple ⟨[]⟩) σ') -> ∀σ' p,σ' b3=some (.cells ⟨[.func fy ay cy]⟩ 154 (0,0))->pendOk σ' b4 b5 p->I (lasts (pendL p)) σ'->j (some ⟨b3,0,none⟩) (some ⟨b4,0,none⟩) (some ⟨b5,0,none⟩) σ') ?_ ?_
 ·intro I S D C hK1 hK2 σ' p h3 hp hI
  cases p with
  | none =>
   obtain⟨h5,x,h4⟩:=hp
   (repeat (first|refine ptr_i ?_|refine z2 ?_|(refine al_i ?_;intro _ _ _ _ _)|refine z4 ?_|refine z5 ?_|(refine z6 ?_;intro _ _)|refine app_P ?_|refine app_I ?_|refine app_S ?_|refine app_B ?_|refine app_M ?_|refine app_L ?_|refine app_U ?_|refine app_R ?_|(refine app_of rfl ?_;try dsimp only)))
   exact br_f rfl (hK1 σ' hI)
  | some a =>
   obtain⟨h5,h4⟩:=hp
   (repeat (first|refine ptr_i ?_|refine z2 ?_|(refine al_i ?_;intro _ _ _ _ _)|refine z4 ?_|refine z5 ?_|(refine z6 ?_;intro _ _)|refine app_P ?_|refine app_I ?_|refine app_S ?_|refine app_B ?_|refine app_M ?_|refine app_L ?_|refine app_U ?_|refine app_R ?_|(refine app_of rfl ?_;try dsimp only)))
   refine br_t rfl ?_
   (repeat (first|refine ptr_i ?_|refine z2 ?_|(refine al_i ?_;intro _ _ _ _ _)|refine z4 ?_|refine z5 ?_|(refine z6 ?_;intro _ _)|refine app_P ?_|refine app_I ?_|refine app_S ?_|refine app_B ?_|refine app_M ?_|refine app_L ?_|refine app_U ?_|refine app_R ?_|(refine app_of rfl ?_;try dsimp only)))
   refine cvalv_i (C.call (a,true) [] _ σ' _ hI rfl ?_ ?_)
   ·intro σ'' h _;exact app_B (hK1 σ'' h)
   ·intro σ'' h _;exact app_B (hK2 σ'' h)
 ·intro j hj
  (repeat (first|refine ptr_i ?_|refine z2 ?_|(refine al_i ?_;intro _ _ _ _ _)|refine z4 ?_|refine z5 ?_|(refine z6 ?_;intro _ _)|refine app_P ?_|refine app_I ?_|refine app_S ?_|refine app_B ?_|refine app_M ?_|refine app_L ?_|refine app_U ?_|refine app_R ?_|(refine app_of rfl ?_;try dsimp only)))
  refine call_i (x_SplitSeq _ _ ?_)
  intro q4 q5 q6 σ6 g6 m4 m5 m6 nq1 nq2 u4 u5 u6
  refine app_R (fun_i ?_)
  refine rf_i go_split1 ?_
  intro l obj σ7 nl pl hobj hY
  have hg6:Gr σ σ6:=hg5.gr.trans g6
  have fl:σ l=none:=none_of hg6 nl
  have hg7:Gr σ σ7:=hg6.putF pl fl
  have ql4:q4≠l:=ne_fr nl (isSome_of u4)
  have ql5:q5≠l:=ne_fr nl (isSome_of u5)
  have ql6:q6≠l:=ne_fr nl (isSome_of u6)
  have bl3:b3≠l:=ne_fr nl (isSome_of (g6.get k3))
  have bl4:b4≠l:=ne_fr nl (isSome_of (g6.get k4))
  have bl5:b5≠l:=ne_fr nl (isSome_of (g6.get k5))
  have q43:b3≠q4:=ne_fr m4 (isSome_of k3)
  have q44:b4≠q4:=ne_fr m4 (isSome_of k4)
  have q45:b5≠q4:=ne_fr m4 (isSome_of k5)
  have q53:b3≠q5:=ne_fr m5 (isSome_of k3)
  have q54:b4≠q5:=ne_fr m5 (isSome_of k4)
  have q55:b5≠q5:=ne_fr m5 (isSome_of k5)
  have q63:b3≠q6:=ne_fr m6 (isSome_of k3)
  have q64:b4≠q6:=ne_fr m6 (isSome_of k4)
  have q65:b5≠q6:=ne_fr m6 (isSome_of k5)
  obtain⟨I,S,C,hI0,hK1,hK2⟩:=hC (fun b=>σ b=none/\(σ7 b).isSome=true) (fun b h=>h.1)
  have v4:=pl.get ql4 u4
  have v5:=pl.get ql5 u5
  have v6:=pl.get ql6 u6
  have w3:=pl.get bl3 (g6.get k3)
  have w4:=pl.get bl4 (g6.get k4)
  have w5:=pl.get bl5 (g6.get k5)
  have d3:σ b3=none/\(σ7 b3).isSome=true:=⟨n1,isSome_of w3⟩
  have d4:σ b4=none/\(σ7 b4).isSome=true:=⟨f4,isSome_of w4⟩
  have d5:σ b5=none/\(σ7 b5).isSome=true:=⟨f5,isSome_of w5⟩
  have dl:σ l=none/\(σ7 l).isSome=true:=⟨fl,isSome_of pl.same⟩
  have dq4:σ q4=none/\(σ7 q4).isSome=true:=⟨none_of hg5.gr m4,isSome_of v4⟩
  have dq5:σ q5=none/\(σ7 q5).isSome=true:=⟨none_of hg5.gr m5,isSome_of v5⟩
  have dq6:σ q6=none/\(σ7 q6).isSome=true:=⟨none_of hg5.gr m6,isSome_of v6⟩
  let D':Nat->Prop:=fun b=>b=q4\/b=q5\/b=q6
  have hD' : ∀b,D' b->b≠b3/\b≠b4/\b≠b5/\b≠l/\(σ b=none/\(σ7 b).isSome=true):=by
   rintro b (rfl | rfl | rfl)
   ·exact⟨q43.symm,q44.symm,q45.symm,ql4,dq4⟩
   ·exact⟨q53.symm,q54.symm,q55.symm,ql5,dq5⟩
   ·exact⟨q63.symm,q64.symm,q65.symm,ql6,dq6⟩
  let I':List ByteArray->H->Prop:=fun r σ' => ∃p,I (lasts (pendL p++r.filter okPart)) σ'/\σ' b3=some (.cells ⟨[.func fy ay cy]⟩ 154 (0,0))/\pendOk σ' b4 b5 p/\σ' l=some (obj .ready none)
  let S':H->Prop:=fun σ'=>S σ'/\σ' l=some (obj .done (some .ret))
  have C':Cl Tryz.prog (yv l) D' (fun(a:ByteArray) args _=>args=[.string a]) I' S':=by
   refine⟨?_,?_,?_,?_,?_⟩
   ·rintro r τ b o τ' ⟨p,h1,h3,hp,h5⟩ hb hput
    obtain⟨a1,a2,a3,a4,a5⟩:=hD' b hb
    exact⟨p,C.put _ _ _ _ _ h1 a5 hput,hput.get a1.symm h3,hp.keep (fun _ h=>hput.get a2.symm h) (fun _ h=>hput.get a3.symm h),hput.get a4.symm h5⟩
   ·rintro τ b o τ' ⟨h1,h5⟩ hb hput
    obtain⟨a1,a2,a3,a4,a5⟩:=hD' b hb
    exact⟨C.putS _ _ _ _ h1 a5 hput,hput.get a4.symm h5⟩
   ·rintro r τ τ' ⟨p,h1,h3,hp,h5⟩ hg
    exact⟨p,C.gr _ _ _ h1 hg,hg.get h3,hp.keep (fun _ h=>hg.get h) (fun _ h=>hg.get h),hg.get h5⟩
   ·rintro τ τ' ⟨h1,h5⟩ hg
    exact⟨C.grS _ _ h1 hg,hg.get h5⟩
   ·rintro a r args τ K' ⟨p,h1,h3,hp,h5⟩ rfl hT hF
    refine yv_call (hY _ _ _ ⟨h5,?_⟩)
    show begW l obj _ τ
    refine beg_i h5 ?_
    intro τ1 pb
    have i1:=C.put _ _ _ _ _ h1 dl pb
    have x3:=pb.get bl3 h3
    have xp:pendOk τ1 b4 b5 p:=hp.keep (fun _ h=>pb.get bl4 h) (fun _ h=>pb.get bl5 h)
    have xl:τ1 l=some (obj .busy none):=pb.same
    have own1:OwnK D' τ τ1:=(OwnK.refl D' τ).put pb (fun h=>(hD' l h).2.2.2.1 rfl)
    refine j_i (fun j => ∀t:Bool,(t = !okPart a)->j (some ⟨b3,0,none⟩) (some ⟨b4,0,none⟩) (some ⟨b5,0,none⟩) a t τ1) ?_ ?_
    ·intro t ht
     cases hok:okPart a with
     | false =>
      rw[hok]at ht;subst ht
      refine br_t rfl (round_i xl ?_)
      intro τ2 pr
      refine hT τ2 ⟨p,?_,pr.get bl3 x3,xp.keep (fun _ h=>pr.get bl4 h) (fun _ h=>pr.get bl5 h),pr.same⟩ (own1.put pr (fun h=>(hD' l h).2.2.2.1 rfl))
      have:=C.put _ _ _ _ _ i1 dl pr
      simpa[List.filter_cons,hok]using this
     | true =>
      rw[hok]at ht;subst ht
      refine br_f rfl ?_
      refine j_i (fun j=>(∀τ2 x,I (lasts (a::r.filter okPart)) τ2->OwnK D' τ τ2->τ2 b3=some (.cells ⟨[.func fy ay cy]⟩ 154 (0,0))->τ2 b4=some (.cells ⟨[.string x]⟩ 9 (0,0))->(∃u,τ2 b5=some (.cells ⟨[.bool u]⟩ 4 (0,0)))->τ2 l=some (obj .busy none)->j (some ⟨b4,0,none⟩) (some ⟨b5,0,none⟩) a false τ2)/\(∀τ2,S τ2->OwnK D' τ τ2->τ2 l=some (obj .busy none)->j (some ⟨b4,0,none⟩) (some ⟨b5,0,none⟩) a true τ2)) ?_ ?_
      ·refine⟨?_,?_⟩
       ·intro τ2 x j1 j2 j3 j4 ⟨u,j5⟩ j6
        refine br_f rfl ?_
        (refine st_i2 (by exact gA) szA (by rfl) (by rfl) ?_;intro _ _)
        rename_i τ3 r3
        have j5':=r3.get n54 j5
        (refine st_i2 (by exact gA) szA (by rfl) (by rfl) ?_;intro _ _)
        rename_i τ4 r4
        have j6':τ4 l=some (obj .busy none):=r4.get bl5.symm (r3.get bl4.symm j6)
        refine round_i j6' ?_
        intro τ5 r5
        refine hT τ5 ⟨some a,C.put _ _ _ _ _ (C.put _ _ _ _ _ (C.put _ _ _ _ _ j1 d4 r3) d5 r4) dl r5,r5.get bl3 (r4.get n53.symm (r3.get n43.symm j3)),⟨r5.get bl5 r4.same,r5.get bl4 (r4.get n54.symm r3.same)⟩,r5.same⟩ (((j2.put r3 (fun h=>(hD' b4 h).2.1 rfl)).put r4 (fun h=>(hD' b5 h).2.2.1 rfl)).put r5 (fun h=>(hD' l h).2.2.2.1 rfl))
       ·intro τ2 j1 j2 j6
        refine br_t rfl (round_i j6 ?_)
        intro τ3 r3
        exact hF τ3 ⟨C.putS _ _ _ _ j1 dl r3,r3.same⟩ (j2.put r3 (fun h=>(hD' l h).2.2.2.1 rfl))
      ·rintro j ⟨hj1,hj2⟩
       simp only[List.filter_cons,hok,if_true]at i1
       cases p with
       | none =>
        obtain⟨y5,x,y4⟩:=xp
        (repeat (first|refine ptr_i ?_|refine z2 ?_|(refine al_i ?_;intro _ _ _ _ _)|refine z4 ?_|refine z5 ?_|(refine z6 ?_;intro _ _)|refine app_P ?_|refine app_I ?_|refine app_S ?_|refine app_B ?_|refine app_M ?_|refine app_L ?_|refine app_U ?_|refine app_R ?_|(refine app_of rfl ?_;try dsimp only)))
        exact br_f rfl (hj1 τ1 x i1 own1 x3 y4 ⟨_,y5⟩ xl)
       | some a0 =>
        obtain⟨y5,y4⟩:=xp
        (repeat (first|refine ptr_i ?_|refine z2 ?_|(refine al_i ?_;intro _ _ _ _ _)|refine z4 ?_|refine z5 ?_|(refine z6 ?_;intro _ _)|refine app_P ?_|refine app_I ?_|refine app_S ?_|refine app_B ?_|refine app_M ?_|refine app_L ?_|refine app_U ?_|refine app_R ?_|(refine app_of rfl ?_;try dsimp only)))
        refine br_t rfl ?_
        (repeat (first|refine ptr_i ?_|refine z2 ?_|(refine al_i ?_;intro _ _ _ _ _)|refine z4 ?_|refine z5 ?_|(refine z6 ?_;intro _ _)|refine app_P ?_|refine app_I ?_|refine app_S ?_|refine app_B ?_|refine app_M ?_|refine app_L ?_|refine app_U ?_|refine app_R ?_|(refine app_of rfl ?_;try dsimp only)))
        refine cvalv_i (C.call (a0,false) _ _ τ1 _ i1 rfl ?_ ?_)
        ·intro τ2 z1 z2
         exact app_B (hj1 τ2 a0 z1 (own1.trans fun b o hb h=>z2 b o (hD' b hb).2.2.2.2 h) (z2 _ _ d3 x3) (z2 _ _ d4 y4) ⟨_,z2 _ _ d5 y5⟩ (z2 _ _ dl xl))
        ·intro τ2 z1 z2
         exact app_B (hj2 τ2 z1 (own1.trans fun b o hb h=>z2 b o (hD' b hb).2.2.2.2 h) (z2 _ _ dl xl))
    ·intro j hj
     have e:=okPart_eq a
     cases h1:strEq a ⟨⟨[]⟩⟩ with
     | true=>exact br_t rfl (hj true (by rw[e,h1];rfl))
     | false=>exact br_f rfl (hj _ (by rw[e,h1];simp))
  refine x_split1 (c:=47) C' (.inl rfl) (.inr (.inl rfl)) (.inr (.inr rfl)) nq1 nq2 ?_ ?_ v5 v4 v6 hs ?_
  ·rintro τ ⟨p,h1,h3,hp,h5⟩
   refine end_n h5 (by intro h;cases h) ?_
   intro τ1 pr
   simp only[List.filter_nil,List.append_nil]at h1
   exact hj I S _ C hK1 hK2 τ1 p (pr.get bl3 h3) (hp.keep (fun _ h=>pr.get bl4 h) (fun _ h=>pr.get bl5 h)) (C.put _ _ _ _ _ h1 dl pr)
  ·rintro τ ⟨h1,h5⟩
   refine end_r h5 (by intro h;cases h) ?_
   intro τ1 pr
   exact hK2 τ1 (C.putS _ _ _ _ h1 dl pr)
  ·refine⟨none,?_,w3,⟨w5,_,w4⟩,pl.same⟩
   have:=hI0 σ7 hg7 (fun b h=>h.2)
   rw[partsB_eq]at this
   exact this
def FsAt (σ:H) (bf:Nat) (A:AT) (B:Nat->Prop):Prop := ∃bt B0,σ bf=some (.cells ⟨[.pointer (some ⟨bt,0,none⟩)]⟩ 62 (0,0))/\TabAt σ bt A B0 /\ ¬B0 bf /\ ∀b,B b↔(B0 b\/b=bf)
section
variable {σ σ' : H} {bf : Nat} {A : AT} {B : Nat -> Prop} {b : Nat} {o : Obj}
theorem FsAt.gr (h:FsAt σ bf A B) (hg:Gr σ σ'):FsAt σ' bf A B:=by
 obtain⟨bt,B0,h1,h2,h3,h4⟩:=h;exact⟨bt,B0,hg.get h1,h2.gr hg,h3,h4⟩
theorem FsAt.put (h:FsAt σ bf A B) (hp:Put σ b o σ') (hn:¬B b):FsAt σ' bf A B:=by
 obtain⟨bt,B0,h1,h2,h3,h4⟩:=h
 exact⟨bt,B0,hp.get (fun e=>hn ((h4 b).2 (.inr e.symm))) h1,h2.put hp (fun e=>hn ((h4 b).2 (.inl e))),h3,h4⟩
theorem FsAt.has (h:FsAt σ bf A B) (hb:B b) : ∃o,σ b=some o:=by
 obtain⟨bt,B0,h1,h2,h3,h4⟩:=h
 rcases(h4 b).1 hb with e | e
 ·exact h2.some e
 ·subst e;exact⟨_,h1⟩
theorem FsAt.fresh (h:FsAt σ bf A B) (hb:σ b=none) : ¬B b:=by
 intro hB;obtain⟨o,ho⟩:=h.has hB;rw[hb]at ho;cases ho
end
def inV (n:IN):List Value:=[.int .i64 n.kind,.int .i64 n.mode,.string n.data,.int .i64 n.links]
section
variable {σ : H} {bt : Nat} {A : AT} {B : Nat -> Prop}
theorem t_Node (h:TabAt σ bt A B) (i:Int) {K:KH} (hK:K (.tuple ⟨[.agg ⟨inV (A.ino i)⟩,.bool (A.get i).isSome]⟩) σ):callW Tryz.prog 30 [.pointer (some ⟨bt,0,none⟩),.int .i64 i] K σ:=by
 obtain⟨T,h1,h2,rfl,h4⟩:=h
 refine s_Node h1 i ?_
 have e1:T.node i=inV (T.abs.ino i):=by
  unfold Tb.node AT.ino;rw[abs_get];cases T.get i<;>rfl
 have e2:(T.abs.get i).isSome=(T.get i).isSome:=by rw[abs_get];cases T.get i<;>rfl
 rw[e1,<- e2];exact hK
theorem t_Find (h:TabAt σ bt A B) (d:Int) (s:ByteArray) {K:KH} (hK:K (.tuple ⟨[.int .i64 ((A.find d s).getD 0),.bool (A.find d s).isSome]⟩) σ):callW Tryz.prog 143 [.pointer (some ⟨bt,0,none⟩),.int .i64 d,.string s] K σ:=by
 obtain⟨T,h1,h2,rfl,h4⟩:=h
 rw[abs_find]at hK
 exact s_Find h1 d s hK
theorem t_Up (h:TabAt σ bt A B) (d:Int) {K:KH} (hK:K (.int .i64 (A.upOf d)) σ):callW Tryz.prog 72 [.pointer (some ⟨bt,0,none⟩),.int .i64 d] K σ:=by
 obtain⟨T,h1,h2,rfl,h4⟩:=h
 rw[abs_up]at hK
 exact s_Up h1 d hK
end
theorem ino_kind (A:AT) (i:Int):(A.ino i).kind=A.kind i:=by unfold AT.ino AT.kind;cases A.get i<;>rfl
theorem ino_data (A:AT) (i:Int):(A.ino i).data=A.data i:=by unfold AT.ino AT.data;cases A.get i<;>rfl
section
variable {σ : H} {bf : Nat} {A : AT} {B : Nat -> Prop}
theorem s_none (h:FsAt σ bf A B) {K:KH} (hK:K (.bool false) σ):callW Tryz.prog 32 [.pointer (some ⟨bf,0,none⟩)] K σ:=by
 obtain⟨bt,B0,h1,h2,h3,h4⟩:=h
 refine c32 _ ?_
 unfold g32
 refine br_f rfl ?_
 (repeat (first|refine ptr_i ?_|refine z2 ?_|(refine al_i ?_;intro _ _ _ _ _)|refine z4 ?_|refine z5 ?_|(refine z6 ?_;intro _ _)|refine app_P ?_|refine app_I ?_|refine app_S ?_|refine app_B ?_|refine app_M ?_|refine app_L ?_|refine app_U ?_|refine app_R ?_|(refine app_of rfl ?_;try dsimp only)))
 exact hK
theorem s_kind (h:FsAt σ bf A B) (i:Int) {K:KH} (hK:K (.int .i64 (A.kind i)) σ):callW Tryz.prog 84 [.pointer (some ⟨bf,0,none⟩),.int .i64 i] K σ:=by
 obtain⟨bt,B0,h1,h2,h3,h4⟩:=h
 refine pure_i _ hK (c84 _ _ ?_)
 unfold g84
 (repeat (first|refine ptr_i ?_|refine z2 ?_|(refine al_i ?_;intro _ _ _ _ _)|refine z4 ?_|refine z5 ?_|(refine z6 ?_;intro _ _)|refine app_P ?_|refine app_I ?_|refine app_S ?_|refine app_B ?_|refine app_M ?_|refine app_L ?_|refine app_U ?_|refine app_R ?_|(refine app_of rfl ?_;try dsimp only)))
 refine call_i (t_Node h2 i ?_)
 unfold inV
 rw[ino_kind]
 (repeat (first|refine ptr_i ?_|refine z2 ?_|(refine al_i ?_;intro _ _ _ _ _)|refine z4 ?_|refine z5 ?_|(refine z6 ?_;intro _ _)|refine app_P ?_|refine app_I ?_|refine app_S ?_|refine app_B ?_|refine app_M ?_|refine app_L ?_|refine app_U ?_|refine app_R ?_|(refine app_of rfl ?_;try dsimp only)))
 exact⟨rfl,by repeat (first | exact Gr.refl _ | assumption | refine Gr.trans ?_ ‹_› | refine Gr.putF ?_ ‹_› (none_of ?_ ‹_›))⟩
end
theorem s_may (path:ByteArray) {σ:H} {K:KH} (hK:K (.int .i64 (mayE path)) σ):callW Tryz.prog 146 [.string path] K σ:=by
 refine c146 _ ?_
 unfold g146
 unfold mayE at hK
 rw[sEq_eq]at hK
 cases h1:strEq path ⟨⟨[]⟩⟩ with
 | true=>rw[h1]at hK;exact br_t rfl hK
 | false =>
  rw[h1]at hK
  refine br_f rfl ?_
  by_cases h2:path.size>255
  ·refine br_t (by simp;omega) ?_
   simpa[h2]using hK
  ·refine br_f (by simp;omega) (call_i (iByte _ _ _ ?_))
   intro n hn
   refine app_I ?_
   simp only[h2,if_false,Bool.false_eq_true]at hK
   cases h3:hasNul path with
   | true =>
    rw[h3]at hn hK
    exact br_t (by simp at hn ⊢;omega) hK
   | false =>
    rw[h3]at hn hK
    exact br_f (by simp at hn ⊢;omega) hK
def plC (p:Pl):List Value:=[.int .i64 p.dir,.string p.name,.int .i64 p.ino,.bool p.there]
theorem sz_place:sizeT Tryz.prog 65=some 4:=by kernel_rfl
theorem sz_Errno:sizeT Tryz.prog 26=some 1:=by kernel_rfl
theorem mayE_size {path:ByteArray} (h:mayE path=0):path.size<=255 /\ ∃c r,path.data.toList=c::r:=by
 unfold mayE at h
 cases h1:sEq path ⟨⟨[]⟩⟩ with
 | true=>rw[h1]at h;simp at h
 | false =>
  rw[h1]at h
  by_cases h2:path.size>255
  ·simp[h2]at h
  ·refine⟨by omega,?_⟩
   cases hl:path.data.toList with
   | nil =>
    exfalso
    have:sEq path ⟨⟨[]⟩⟩=true:=by unfold sEq;rw[hl];rfl
    rw[h1]at this;cases this
   | cons c r=>exact⟨c,r,rfl⟩
theorem lasts_cons {names:List ByteArray} {a:ByteArray×Bool} {r:List (ByteArray×Bool)} (h:a::r=lasts names) : ∃n rest,names=n::rest/\a=(n,rest.isEmpty)/\r=lasts rest:=by
 cases names with
 | nil=>cases h
 | cons n rest=>simp only[lasts,List.cons.injEq]at h;exact⟨n,rest,rfl,h.1,h.2⟩
theorem headIs_cons {s:ByteArray} {c d:UInt8} {r:List UInt8} (h:s.data.toList=d::r):headIs c s=(d==c):=by unfold headIs;rw[h]
theorem byte_eq (c d:UInt8):(((c.toNat:Int):Int)==(d.toNat:Int))=(c==d):=by
 cases h:(c==d) with
 | true=>have:=eq_of_beq h;subst this;simp
 | false =>
  have:c≠d:=by simpa using h
  simp only[beq_eq_false_iff_ne]
  intro e
  exact this (UInt8.toNat_inj.1 (by omega))
structure WkBase (σ:H) (bf bh b6 b7 b8 b9 b10:Nat) (A:AT) (B:Nat->Prop) (follow:Bool) (τ:H):Prop where
 fs:FsAt τ bf A B
 k6:τ b6=some (.cells ⟨[.pointer (some ⟨bf,0,none⟩)]⟩ 22 (0,0))
 k7:τ b7=some (.cells ⟨[.bool follow]⟩ 4 (0,0))
 k8:τ b8=some (.cells ⟨[.pointer (some ⟨bh,0,none⟩)]⟩ 130 (0,0))
 k9:τ b9=some (.cells ⟨[.int .i64 0,.string ⟨⟨[]⟩⟩,.int .i64 0,.bool false]⟩ 65 (0,0))
 k10:τ b10=some (.cells ⟨[.int .i64 0]⟩ 26 (0,0))
 keep : ∀b o,b≠bh->σ b=some o->τ b=some o
section
variable {σ τ τ' : H} {bf bh b6 b7 b8 b9 b10 : Nat} {A : AT} {B : Nat -> Prop} {follow : Bool} {b : Nat} {o : Obj}
theorem WkBase.gr (h:WkBase σ bf bh b6 b7 b8 b9 b10 A B follow τ) (hg:Gr τ τ'):WkBase σ bf bh b6 b7 b8 b9 b10 A B follow τ' :=
 ⟨h.fs.gr hg,hg.get h.k6,hg.get h.k7,hg.get h.k8,hg.get h.k9,hg.get h.k10,fun b o h1 h2=>hg.get (h.keep b o h1 h2)⟩
theorem WkBase.put (h:WkBase σ bf bh b6 b7 b8 b9 b10 A B follow τ) (hp:Put τ b o τ') (n:b≠b6/\b≠b7/\b≠b8/\b≠b9/\b≠b10) (hB:¬B b) (hs:b≠bh->σ b=none):WkBase σ bf bh b6 b7 b8 b9 b10 A B follow τ' :=
 ⟨h.fs.put hp hB,hp.get n.1.symm h.k6,hp.get n.2.1.symm h.k7,hp.get n.2.2.1.symm h.k8,hp.get n.2.2.2.1.symm h.k9,hp.get n.2.2.2.2.symm h.k10,fun c oc h1 h2=>hp.get (fun e=>by subst e;rw[hs h1]at h2;cases h2) (h.keep c oc h1 h2)⟩
end
theorem gr_of_keep {σ τ:H} {bh:Nat} {o:Obj} (h1:τ bh=some o) (h2:∀b o,b≠bh->σ b=some o->τ b=some o):Gr (σ.put bh o) τ:=by
 unfold Gr
 intro b ob hb
 by_cases e:b=bh
 ·subst e;rw[H.put_same]at hb;cases hb;exact h1
 ·rw[H.put_other _ _ e]at hb;exact h2 b ob e hb
set_option maxHeartbeats 1000000 in
theorem s_walk {A:AT} : ∀ (f:Nat) {σ:H} {bf:Nat} {B:Nat->Prop} (_:FsAt σ bf A B) (at_:Int) (path:ByteArray) (follow:Bool) {bh:Nat} {h:Int} (_:σ bh=some (.cells ⟨[.int .i64 h]⟩ 3 (0,0))) (_:¬B bh) (_:0<=h) (_:h<f) (_:h<=100) {K:KH}
 (_:∀σ',Put σ bh (.cells ⟨[.int .i64 (A.walk f at_ path follow h).2.2]⟩ 3 (0,0)) σ'->K (.tuple ⟨[.agg ⟨plC (A.walk f at_ path follow h).2.1⟩,.int .i64 (A.walk f at_ path follow h).1]⟩) σ'),
 callW Tryz.prog 83 [.pointer (some ⟨bf,0,none⟩),.int .i64 at_,.string path,.bool follow,.pointer (some ⟨bh,0,none⟩)] K σ:=by
 intro f
 induction f with
 | zero=>intro σ bf B hF at_ path follow bh h hh hb h0 h1;omega
 | succ f ihf =>
  intro σ bf B hF at_ path follow bh h hh hb h0 h1 h100 K hK
  refine callW.pureP ?_ hK
  clear hK
  refine c83 _ _ _ _ _ ?_
  unfold g83
  refine al_i ?_;intro b6 σ1 g1 e1 n1
  refine al_i ?_;intro b7 σ2 g2 e2 n2
  refine al_i ?_;intro b8 σ3 g3 e3 n3
  refine al_i ?_;intro b9 σ4 g4 e4 n4
  refine al_i ?_;intro b10 σ5 g5 e5 n5
  have hg5:Lng σ σ5:=⟨by repeat (first | exact Gr.refl _ | assumption | refine Gr.trans ?_ ‹_› | refine Gr.putF ?_ ‹_› (none_of ?_ ‹_›))⟩
  refine call_i (s_may path (app_I ?_))
  have hsame:σ.put bh (.cells ⟨[.int .i64 h]⟩ 3 (0,0))=σ:=by
   funext k
   by_cases e:k=bh
   ·subst e;rw[H.put_same,hh]
   ·rw[H.put_other _ _ e]
  rw[AT.walk]
  by_cases hm:mayE path=0
  case neg =>
   rw[if_pos hm]
   refine br_t (by simpa using hm) ?_
   (refine st_i2 (by exact gA) szA (by rfl) (by rfl) ?_;intro _ _)
   rename_i σ6 p6
   have n910:b10≠b9:=(ne_fr n5 (by repeat (first | exact io ‹_› | exact mS ‹_› | refine gS ‹_› ?_ | refine pS ‹_› ?_))).symm
   have e5':=p6.get n910 e5
   (refine st_i2 (by exact gA) szA (by rfl) (by rfl) ?_;intro _ _)
   rename_i σ7 p7
   have e9:=p7.get n910.symm p6.same
   have e10:=p7.same
   refine rd_G (rdA_of' e9 (by rfl)) ?_
   show _ 
   (refine app_of rfl ?_;try dsimp only)
   refine rd_I (rdC_of e10 (by rfl)) ?_
   refine⟨rfl,?_⟩
   rw[hsame]
   exact(hg5.gr.putF p6 (none_of (by repeat (first | exact Gr.refl _ | assumption | refine Gr.trans ?_ ‹_› | refine Gr.putF ?_ ‹_› (none_of ?_ ‹_›))) n4)).putF p7 (none_of (by repeat (first | exact Gr.refl _ | assumption | refine Gr.trans ?_ ‹_› | refine Gr.putF ?_ ‹_› (none_of ?_ ‹_›))) n5)
  rw[if_neg (by simpa using hm)]
  refine br_f (by simpa using hm) ?_
  obtain⟨hsz,c,cr,hl⟩:=mayE_size hm
  have hc47:((c.toNat:Int)==47)=(c==47):=byte_eq c 47
  have k6:σ5 b6=some (.cells ⟨[.pointer (some ⟨bf,0,none⟩)]⟩ 22 (0,0)):=by exact gA
  have k7:σ5 b7=some (.cells ⟨[.bool follow]⟩ 4 (0,0)):=by exact gA
  have k8:σ5 b8=some (.cells ⟨[.pointer (some ⟨bh,0,none⟩)]⟩ 130 (0,0)):=by exact gA
  have k9:σ5 b9=some (.cells ⟨[.int .i64 0,.string ⟨⟨[]⟩⟩,.int .i64 0,.bool false]⟩ 65 (0,0)):=by exact gA
  have k10:σ5 b10=some (.cells ⟨[.int .i64 0]⟩ 26 (0,0)):=by exact gA
  have f6:σ b6=none:=n1
  have f7:σ b7=none:=none_of (by repeat (first | exact Gr.refl _ | assumption | refine Gr.trans ?_ ‹_› | refine Gr.putF ?_ ‹_› (none_of ?_ ‹_›))) n2
  have f8:σ b8=none:=none_of (by repeat (first | exact Gr.refl _ | assumption | refine Gr.trans ?_ ‹_› | refine Gr.putF ?_ ‹_› (none_of ?_ ‹_›))) n3
  have f9:σ b9=none:=none_of (by repeat (first | exact Gr.refl _ | assumption | refine Gr.trans ?_ ‹_› | refine Gr.putF ?_ ‹_› (none_of ?_ ‹_›))) n4
  have f10:σ b10=none:=none_of (by repeat (first | exact Gr.refl _ | assumption | refine Gr.trans ?_ ‹_› | refine Gr.putF ?_ ‹_› (none_of ?_ ‹_›))) n5
  have hhs:(σ bh).isSome=true:=isSome_of hh
  have h6:bh≠b6:=ne_fr f6 hhs
  have h7:bh≠b7:=ne_fr f7 hhs
  have h8:bh≠b8:=ne_fr f8 hhs
  have h9:bh≠b9:=ne_fr f9 hhs
  have h10:bh≠b10:=ne_fr f10 hhs
  have n910:b10≠b9:=(ne_fr n5 (by repeat (first | exact io ‹_› | exact mS ‹_› | refine gS ‹_› ?_ | refine pS ‹_› ?_))).symm
  clear e1 e2 e3 e4 e5 g1 g2 g3 g4 g5 n1 n2 n3 n4 n5
  have hbase5:WkBase σ bf bh b6 b7 b8 b9 b10 A B follow σ5:=⟨hF.gr hg5.gr,k6,k7,k8,k9,k10,fun b o _ hb=>hg5.gr.get hb⟩
  have hh5:=hg5.gr.get hh
  refine j_i (fun j => ∀a:Int,a=(if headIs 47 path then 1 else at_)->j a path (some ⟨b6,0,none⟩) (some ⟨b7,0,none⟩) (some ⟨b8,0,none⟩) (some ⟨b9,0,none⟩) (some ⟨b10,0,none⟩) σ5) ?_ ?_
  case refine_2 =>
   intro j hj
   refine idx_l (c:=c) (by decide) (by rw[hl];rfl) ?_
   rw[hc47]
   rw[headIs_cons hl]at hj
   cases hc:(c==47) with
   | true =>
    obtain⟨bt,B0,q1,q2,q3,q4⟩:=hF
    have q1':=hg5.gr.get q1
    refine br_t rfl ?_
    (repeat (first|refine ptr_i ?_|refine z2 ?_|(refine al_i ?_;intro _ _ _ _ _)|refine z4 ?_|refine z5 ?_|(refine z6 ?_;intro _ _)|refine app_P ?_|refine app_I ?_|refine app_S ?_|refine app_B ?_|refine app_M ?_|refine app_L ?_|refine app_U ?_|refine app_R ?_|(refine app_of rfl ?_;try dsimp only)))
    exact call_i (s_Root _ (app_I (hj 1 (by rw[hc];rfl))))
   | false=>exact br_f rfl (hj at_ (by rw[hc];rfl))
  intro a ha
  rw[<-ha]
  refine al_i ?_;intro b25 σ6 g6 e6 n6
  have f25:σ b25=none:=none_of hg5.gr n6
  have m25:b25≠b6/\b25≠b7/\b25≠b8/\b25≠b9/\b25≠b10:=⟨(ne_fr n6 (isSome_of k6)).symm,(ne_fr n6 (isSome_of k7)).symm,(ne_fr n6 (isSome_of k8)).symm,(ne_fr n6 (isSome_of k9)).symm,(ne_fr n6 (isSome_of k10)).symm⟩
  have h25:bh≠b25:=ne_fr f25 hhs
  have B25 : ¬B b25:=hF.fresh f25
  (refine st_i2 (by exact gA) szA (by rfl) (by rfl) ?_;intro _ _)
  rename_i σ7 p7
  have hbase7:WkBase σ bf bh b6 b7 b8 b9 b10 A B follow σ7:=(hbase5.gr g6).put p7 m25 B25 (fun _=>f25)
  have hh7:=p7.get h25 (g6.get hh5)
  have e25:σ7 b25=some (.cells ⟨plC ⟨a,⟨⟨[]⟩⟩,a,true⟩⟩ 65 (0,0)):=p7.same
  clear p7 e6
  generalize hres:A.steps (fun d s h'=>A.walk f d s true h') follow (partsB path) ⟨a,⟨⟨[]⟩⟩,a,true⟩ h=res
  refine j_i (fun j => ∀τ p h',res=(0,p,h')->WkBase σ bf bh b6 b7 b8 b9 b10 A B follow τ->τ b25=some (.cells ⟨plC p⟩ 65 (0,0))->τ bh=some (.cells ⟨[.int .i64 h']⟩ 3 (0,0))->j (some ⟨b9,0,none⟩) (some ⟨b10,0,none⟩) (some ⟨b25,0,none⟩) τ) ?_ ?_
  ·intro τ p h' hr hbs ep eh
   unfold plC at ep
   have y9:=hbs.k9
   have y10:=hbs.k10
   refine ptr_i ?_
   refine rd_G (rdA_of' ep (by rfl)) ?_
   (refine app_of rfl ?_;try dsimp only)
   (refine st_i2 (by exact gA) szA (by rfl) (by rfl) ?_;intro _ _)
   rename_i τ1 r1
   have y10':=r1.get n910 y10
   (refine st_i2 (by exact gA) szA (by rfl) (by rfl) ?_;intro _ _)
   rename_i τ2 r2
   have z9:=r2.get n910.symm r1.same
   have z10:=r2.same
   refine ptr_i (rd_G (rdA_of' z9 (by rfl)) ?_)
   (refine app_of rfl ?_;try dsimp only)
   refine ptr_i (rd_I (rdC_of z10 (by rfl)) ?_)
   rw[hr]
   refine⟨rfl,gr_of_keep (r2.get h10 (r1.get h9 eh)) (fun b o hn hb=>r2.get ?_ (r1.get ?_ (hbs.keep b o hn hb)))⟩
   ·intro e;subst e;rw[f10]at hb;cases hb
   ·intro e;subst e;rw[f9]at hb;cases hb
  intro j26 hj26
  refine call_i (x_names path ?_)
  intro b2 σ8 g8 n8 e8
  refine app_R (fun_i ?_)
  refine rf_i go_names1 ?_
  intro l obj σ9 nl pl hobj hY
  have hbase8:=hbase7.gr g8
  have fl:σ l=none:=by
   cases hx:σ l with
   | none=>rfl
   | some o =>
    exfalso
    by_cases e:l=bh
    ·subst e;have:=g8.get hh7;rw[nl]at this;cases this
    ·have:=hbase8.keep l o e hx;rw[nl]at this;cases this
  have ml:l≠b6/\l≠b7/\l≠b8/\l≠b9/\l≠b10:=⟨(ne_fr nl (isSome_of hbase8.k6)).symm,(ne_fr nl (isSome_of hbase8.k7)).symm,(ne_fr nl (isSome_of hbase8.k8)).symm,(ne_fr nl (isSome_of hbase8.k9)).symm,(ne_fr nl (isSome_of hbase8.k10)).symm⟩
  have hl':bh≠l:=ne_fr fl hhs
  have Bl : ¬B l:=hF.fresh fl
  have l25:b25≠l:=ne_fr nl (isSome_of (g8.get e25))
  have lb2:b2≠l:=ne_fr nl (isSome_of e8)
  have hbase9:=hbase8.put pl ml Bl (fun _=>fl)
  have hh9:=pl.get hl' (g8.get hh7)
  have e25':=pl.get l25 (g8.get e25)
  refine x_names1 (pl.get lb2 e8) (by omega) ?_
  intro D hD
  have hD' : ∀b,D b->(b≠b6/\b≠b7/\b≠b8/\b≠b9/\b≠b10)/\b≠b25/\b≠l/\b≠bh /\ ¬B b/\σ b=none:=by
   intro b hb
   have hn:=hD b hb
   have fb:σ b=none:=by
    cases hx:σ b with
    | none=>rfl
    | some o =>
     exfalso
     by_cases e:b=bh
     ·subst e;rw[hn]at hh9;cases hh9
     ·have:=hbase9.keep b o e hx;rw[hn]at this;cases this
   exact⟨⟨(ne_fr hn (isSome_of hbase9.k6)).symm,(ne_fr hn (isSome_of hbase9.k7)).symm,(ne_fr hn (isSome_of hbase9.k8)).symm,(ne_fr hn (isSome_of hbase9.k9)).symm,(ne_fr hn (isSome_of hbase9.k10)).symm⟩,(ne_fr hn (isSome_of e25')).symm,(ne_fr hn (isSome_of pl.same)).symm,(ne_fr hn (isSome_of hh9)).symm,hF.fresh fb,fb⟩
  let I:List (ByteArray×Bool)->H->Prop:=fun r τ => ∃names p h',r=lasts names/\A.steps (fun d s h'=>A.walk f d s true h') follow names p h'=res/\0<=h'/\h'<=h/\WkBase σ bf bh b6 b7 b8 b9 b10 A B follow τ/\τ b25=some (.cells ⟨plC p⟩ 65 (0,0))/\τ bh=some (.cells ⟨[.int .i64 h']⟩ 3 (0,0))/\τ l=some (obj .ready none) /\ ∀b,D b->(τ b).isSome=true
  let S:H->Prop:=fun τ => ∃e h',res=(e,Pl.z,h')/\τ b9=some (.cells ⟨plC Pl.z⟩ 65 (0,0))/\τ b10=some (.cells ⟨[.int .i64 e]⟩ 26 (0,0))/\τ bh=some (.cells ⟨[.int .i64 h']⟩ 3 (0,0))/\τ l=some (obj .done (some .ret)) /\ ∀b o,b≠bh->σ b=some o->τ b=some o
  refine⟨I,S,⟨?_,?_,?_,?_,?_⟩,?_,?_,?_⟩
  ·rintro r τ b o τ' ⟨names,p,h',y1,y2,y3,y4,y5,y6,y7,y8,y9⟩ hb hp
   obtain⟨a1,a2,a3,a4,a5,a6⟩:=hD' b hb
   exact⟨names,p,h',y1,y2,y3,y4,y5.put hp a1 a5 (fun _=>a6),hp.get a2.symm y6,hp.get a4.symm y7,hp.get a3.symm y8,fun c hc=>hp.isSome (y9 c hc)⟩
  ·rintro τ b o τ' ⟨e,h',y1,y2,y3,y4,y5,y6⟩ hb hp
   obtain⟨a1,a2,a3,a4,a5,a6⟩:=hD' b hb
   exact⟨e,h',y1,hp.get a1.2.2.2.1.symm y2,hp.get a1.2.2.2.2.symm y3,hp.get a4.symm y4,hp.get a3.symm y5,fun c oc h1 h2=>hp.get (fun e=>by subst e;rw[a6]at h2;cases h2) (y6 c oc h1 h2)⟩
  ·rintro r τ τ' ⟨names,p,h',y1,y2,y3,y4,y5,y6,y7,y8,y9⟩ hg
   exact⟨names,p,h',y1,y2,y3,y4,y5.gr hg,hg.get y6,hg.get y7,hg.get y8,fun c hc=>hg.isSome (y9 c hc)⟩
  ·rintro τ τ' ⟨e,h',y1,y2,y3,y4,y5,y6⟩ hg
   exact⟨e,h',y1,hg.get y2,hg.get y3,hg.get y4,hg.get y5,fun c oc h1 h2=>hg.get (y6 c oc h1 h2)⟩
  ·rintro it r args τ K' ⟨names,p,h',y1,y2,y3,y4,y5,y6,y7,y8,y9⟩ rfl hT hFa
   obtain⟨nm,rest,rfl,rfl,rfl⟩:=lasts_cons y1
   refine yv_call (hY _ _ _ ⟨y8,?_⟩)
   show begW l obj _ τ
   refine beg_i y8 ?_
   intro τ1 pb
   have z5:=y5.put pb ml Bl (fun _=>fl)
   have z6:=pb.get l25 y6
   have z7:=pb.get hl' y7
   have z8:τ1 l=some (obj .busy none):=pb.same
   have nDl : ¬D l:=fun hd=>(hD' l hd).2.2.1 rfl
   have nD25 : ¬D b25:=fun hd=>(hD' b25 hd).2.1 rfl
   have nDh : ¬D bh:=fun hd=>(hD' bh hd).2.2.2.1 rfl
   have nD9 : ¬D b9:=fun hd=>(hD' b9 hd).1.2.2.2.1 rfl
   have nD10 : ¬D b10:=fun hd=>(hD' b10 hd).1.2.2.2.2 rfl
   have own1:OwnK D τ τ1:=(OwnK.refl D τ).put pb nDl
   clear y5 y6 y7 y8 y1 pb hbase9 hbase8 hbase7 hbase5
   have herr : ∀τ2 (e h2:Int),WkBase σ bf bh b6 b7 b8 b9 b10 A B follow τ2->τ2 bh=some (.cells ⟨[.int .i64 h2]⟩ 3 (0,0))->τ2 l=some (obj .busy none)->res=(e,Pl.z,h2)->OwnK D τ τ2 ->
    stW Tryz.prog 65 (.pointer (some ⟨b9,0,none⟩)) (.agg ⟨[.int .i64 0,.string ⟨⟨[]⟩⟩,.int .i64 0,.bool false]⟩) (stW Tryz.prog 26 (.pointer (some ⟨b10,0,none⟩)) (.int .i64 e) (roundK l obj K' (some .ret) false .done)) τ2:=by
    intro τ2 e h2 q1 q2 q3 q4 q5
    have v9:=q1.k9
    have v10:=q1.k10
    (refine st_i2 (by exact gA) szA (by rfl) (by rfl) ?_;intro _ _)
    rename_i τ3 r3
    have v10':=r3.get n910 v10
    (refine st_i2 (by exact gA) szA (by rfl) (by rfl) ?_;intro _ _)
    rename_i τ4 r4
    refine round_i (r4.get ml.2.2.2.2 (r3.get ml.2.2.2.1 q3)) ?_
    intro τ5 r5
    refine hFa τ5 ⟨e,h2,q4,r5.get ml.2.2.2.1.symm (r4.get n910.symm r3.same),r5.get ml.2.2.2.2.symm r4.same,r5.get hl' (r4.get h10 (r3.get h9 q2)),r5.same,fun b o hn hb=>r5.get ?_ (r4.get ?_ (r3.get ?_ (q1.keep b o hn hb)))⟩ (((q5.put r3 nD9).put r4 nD10).put r5 nDl)
    ·intro e;subst e;rw[fl]at hb;cases hb
    ·intro e;subst e;rw[f10]at hb;cases hb
    ·intro e;subst e;rw[f9]at hb;cases hb
   have hnext : ∀τ2 (q:Pl) (h2:Int),WkBase σ bf bh b6 b7 b8 b9 b10 A B follow τ2->τ2 b25=some (.cells ⟨plC q⟩ 65 (0,0))->τ2 bh=some (.cells ⟨[.int .i64 h2]⟩ 3 (0,0))->τ2 l=some (obj .busy none)->A.steps (fun d s h'=>A.walk f d s true h') follow rest q h2=res->0<=h2->h2<=h->OwnK D τ τ2->roundK l obj K' none true .ready τ2:=by
    intro τ2 q h2 q1 q2 q3 q4 q5 q6 q7 q8
    refine round_i q4 ?_
    intro τ3 r3
    exact hT τ3 ⟨rest,q,h2,rfl,q5,q6,q7,q1.put r3 ml Bl (fun _=>fl),r3.get l25 q2,r3.get hl' q3,r3.same,fun c hc=>r3.isSome (by obtain⟨o,ho⟩:=Option.isSome_iff_exists.1 (y9 c hc);exact isSome_of (q8 c o hc ho))⟩ (q8.put r3 nDl)
   clear hT hFa
   unfold plC at z6
   refine rd_B (rdC_of z6 (by rfl)) ?_
   cases ht:p.there with
   | false =>
    rw[steps_none ht]at y2
    exact br_t rfl (herr τ1 5 h' z5 z7 z8 y2.symm own1)
   | true =>
    rw[ht]at z6
    refine br_f rfl (ptr_i (rd_P (rdC_of z5.k6 (by rfl)) ?_))
    refine rd_I (rdC_of z6 (by rfl)) ?_
    refine call_i (s_kind z5.fs _ (app_I ?_))
    by_cases h2:A.kind p.ino=2
    case neg =>
     rw[steps_notdir ht h2]at y2
     exact br_t (by simpa using h2) (herr τ1 8 h' z5 z7 z8 y2.symm own1)
    refine br_f (by simpa using h2) ?_
    obtain⟨bt,B0,t1,t2,t3,t4⟩:=z5.fs
    cases h3:strEq nm ⟨⟨[46,46]⟩⟩ with
    | true =>
     rw[steps_up ht h2 (by rw[sEq_eq];exact h3)]at y2
     refine br_t rfl (ptr_i (rd_P (rdC_of z5.k6 (by rfl)) (ptr_i (rd_P (rdC_of t1 (by rfl)) (rd_I (rdC_of z6 (by rfl)) ?_)))))
     refine call_i (t_Up t2 _ (app_I ?_))
     (refine st_i2 (by exact gA) szA (by rfl) (by rfl) ?_;intro _ _)
     rename_i τ2 r2
     exact hnext τ2 ⟨A.upOf p.ino,⟨⟨[]⟩⟩,A.upOf p.ino,true⟩ h' (z5.put r2 m25 B25 (fun _=>f25)) r2.same (r2.get h25 z7) (r2.get l25.symm z8) y2 y3 y4 (own1.put r2 nD25)
    | false =>
     have h3':sEq nm ⟨⟨[46,46]⟩⟩=false:=by rw[sEq_eq];exact h3
     refine br_f rfl ?_
     by_cases h4:nm.size>56
     ·rw[steps_long ht h2 h3' h4]at y2
      exact br_t (by simp;omega) (herr τ1 3 h' z5 z7 z8 y2.symm own1)
     refine br_f (by simp;omega) (rd_I (rdC_of z6 (by rfl)) ?_)
     (refine st_i2 (by exact gA) szA (by rfl) (by rfl) ?_;intro _ _)
     rename_i τ2 r2
     have u5:=z5.put r2 m25 B25 (fun _=>f25)
     have u7:=r2.get h25 z7
     have u8:=r2.get l25.symm z8
     have own2:=own1.put r2 nD25
     obtain⟨bt,B0,t1,t2,t3,t4⟩:=u5.fs
     refine ptr_i (rd_P (rdC_of u5.k6 (by rfl)) (ptr_i (rd_P (rdC_of t1 (by rfl)) (rd_I (rdC_of r2.same (by rfl)) ?_))))
     refine call_i (t_Find t2 _ _ (app_IB ?_))
     have u6:=r2.same
     (refine st_i2 (by exact gA) szA (by rfl) (by rfl) ?_;intro _ _)
     rename_i τ3 r3
     have u6':=r3.same
     (refine st_i2 (by exact gA) szA (by rfl) (by rfl) ?_;intro _ _)
     rename_i τ4 r4
     have v5:=(u5.put r3 m25 B25 (fun _=>f25)).put r4 m25 B25 (fun _=>f25)
     have v7:=r4.get h25 (r3.get h25 u7)
     have v8:=r4.get l25.symm (r3.get l25.symm u8)
     have own4:=(own2.put r3 nD25).put r4 nD25
     have v6:τ4 b25=some (.cells ⟨plC ⟨p.ino,nm,(A.find p.ino nm).getD 0,(A.find p.ino nm).isSome⟩⟩ 65 (0,0)):=r4.same
     clear u5 u7 u8 u6 u6' own2 r2 r3 r4 z5 z7 z8 own1 t1 t2 t3 t4
     refine j_i (fun j=>((A.find p.ino nm).isSome=false\/(rest.isEmpty && !follow)=true\/A.kind ((A.find p.ino nm).getD 0)≠3->j (some ⟨b6,0,none⟩) (some ⟨b8,0,none⟩) (some ⟨b9,0,none⟩) (some ⟨b10,0,none⟩) (some ⟨b25,0,none⟩) true τ4)/\(¬ ((A.find p.ino nm).isSome=false\/(rest.isEmpty && !follow)=true\/A.kind ((A.find p.ino nm).getD 0)≠3)->j (some ⟨b6,0,none⟩) (some ⟨b8,0,none⟩) (some ⟨b9,0,none⟩) (some ⟨b10,0,none⟩) (some ⟨b25,0,none⟩) false τ4)) ?_ ?_
     ·refine⟨fun h5 => ?_,fun h5 => ?_⟩
      ·rw[steps_name ht h2 h3' h4 h5]at y2
       exact br_t rfl (hnext τ4 _ h' v5 v6 v7 v8 y2 y3 y4 own4)
      ·refine br_f rfl (ptr_i (rd_P (rdC_of v5.k8 (by rfl)) (ptr_i (rd_I (rdC_of v7 (by rfl)) (ptr_i ?_)))))
       (refine st_i2 (by exact gA) szA (by rfl) (by rfl) ?_;intro _ _)
       rename_i τ5 r5
       have w1:IntKind.i64.wrap (h' - 1)=h' - 1:=wrap_id (by omega) (by omega)
       rw[w1]at r5
       have w5:=v5.put r5 ⟨h6,h7,h8,h9,h10⟩ hb (fun e=>absurd rfl e)
       have w7:τ5 bh=some (.cells ⟨[.int .i64 (h' - 1)]⟩ 3 (0,0)):=r5.same
       have w8:=r5.get hl'.symm v8
       have w6:=r5.get h25.symm v6
       have own5:=own4.put r5 nDh
       refine ptr_i (rd_P (rdC_of w5.k8 (by rfl)) (ptr_i (rd_I (rdC_of w7 (by rfl)) ?_)))
       by_cases hz:h' - 1<0
       ·rw[steps_loop ht h2 h3' h4 h5 hz]at y2
        exact br_t (by simpa using hz) (herr τ5 9 (h' - 1) w5 w7 w8 y2.symm own5)
       refine br_f (by simpa using hz) ?_
       obtain⟨bt,B0,t1,t2,t3,t4⟩:=w5.fs
       refine ptr_i (rd_P (rdC_of w5.k6 (by rfl)) (ptr_i (rd_P (rdC_of t1 (by rfl)) (ptr_i (rd_I (rdC_of w6 (by rfl)) ?_)))))
       refine call_i (t_Node t2 _ ?_)
       unfold inV
       (refine app_of rfl ?_;try dsimp only)
       refine al_i ?_;intro b110 τ6 g6' e110 n110
       have n110':σ b110=none:=by
        cases hx:σ b110 with
        | none=>rfl
        | some o =>
         exfalso
         by_cases e:b110=bh
         ·subst e;rw[n110]at w7;cases w7
         ·have:=w5.keep b110 o e hx;rw[n110]at this;cases this
       (refine st_i2 (by exact gA) szA (by rfl) (by rfl) ?_;intro _ _)
       rename_i τ7 r7
       have mm:b110≠b6/\b110≠b7/\b110≠b8/\b110≠b9/\b110≠b10:=⟨(ne_fr n110 (isSome_of w5.k6)).symm,(ne_fr n110 (isSome_of w5.k7)).symm,(ne_fr n110 (isSome_of w5.k8)).symm,(ne_fr n110 (isSome_of w5.k9)).symm,(ne_fr n110 (isSome_of w5.k10)).symm⟩
       have q5:=(w5.gr g6').put r7 mm (hF.fresh n110') (fun _=>n110')
       have m25':b25≠b110:=ne_fr n110 (isSome_of w6)
       have mh:bh≠b110:=ne_fr n110 (isSome_of w7)
       have mL:l≠b110:=ne_fr n110 (isSome_of w8)
       have q6:=r7.get m25' (g6'.get w6)
       have q7:=r7.get mh (g6'.get w7)
       have q8:=r7.get mL (g6'.get w8)
       have nD110 : ¬D b110:=by
        intro hd
        obtain⟨o,ho⟩:=Option.isSome_iff_exists.1 (y9 _ hd)
        have:=own5 _ _ hd ho
        rw[n110]at this;cases this
       have own7:=(own5.trans (OwnK.gr g6')).put r7 nD110
       have q110:τ7 b110=some (.cells ⟨[.int .i64 (A.ino ((A.find p.ino nm).getD 0)).kind,.int .i64 (A.ino ((A.find p.ino nm).getD 0)).mode,.string (A.ino ((A.find p.ino nm).getD 0)).data,.int .i64 (A.ino ((A.find p.ino nm).getD 0)).links]⟩ 73 (0,0)):=r7.same
       unfold plC at q6
       refine ptr_i (rd_P (rdC_of q5.k6 (by rfl)) (ptr_i (rd_I (rdC_of q6 (by rfl)) (rd_S (rdC_of q110 (by rfl)) (ptr_i (rd_P (rdC_of q5.k8 (by rfl)) ?_))))))
       rw[ino_data]
       have hw:=walk_hops A f p.ino (A.data ((A.find p.ino nm).getD 0)) true (h' - 1) (by omega)
       refine call_i (ihf q5.fs _ _ _ q7 hb (by omega) (by omega) (by omega) ?_)
       intro τ8 r8
       have x5:=q5.put r8 ⟨h6,h7,h8,h9,h10⟩ hb (fun e=>absurd rfl e)
       have x6:=r8.get h25.symm q6
       have x7:=r8.same
       have x8:=r8.get hl'.symm q8
       have own8:=own7.put r8 nDh
       clear q5 q6 q7 q8 own7 r8 r7 w5 w6 w7 w8 v5 v6 v7 v8 q110
       unfold plC
       (refine app_of rfl ?_;try dsimp only)
       refine al_i ?_;intro b126 τ9 g9 e126 n126
       (refine st_i2 (by exact gA) szA (by rfl) (by rfl) ?_;intro _ _)
       rename_i τ10 r10
       have n126':σ b126=none:=by
        cases hx:σ b126 with
        | none=>rfl
        | some o =>
         exfalso
         by_cases e:b126=bh
         ·subst e;rw[n126]at x7;cases x7
         ·have:=x5.keep b126 o e hx;rw[n126]at this;cases this
       have mm':b126≠b6/\b126≠b7/\b126≠b8/\b126≠b9/\b126≠b10:=⟨(ne_fr n126 (isSome_of x5.k6)).symm,(ne_fr n126 (isSome_of x5.k7)).symm,(ne_fr n126 (isSome_of x5.k8)).symm,(ne_fr n126 (isSome_of x5.k9)).symm,(ne_fr n126 (isSome_of x5.k10)).symm⟩
       have nD126 : ¬D b126:=by
        intro hd
        obtain⟨o,ho⟩:=Option.isSome_iff_exists.1 (y9 _ hd)
        have:=own8 _ _ hd ho
        rw[n126]at this;cases this
       have a5:=(x5.gr g9).put r10 mm' (hF.fresh n126') (fun _=>n126')
       have a6:=r10.get (ne_fr n126 (isSome_of x6)) (g9.get x6)
       have a7:=r10.get (ne_fr n126 (isSome_of x7)) (g9.get x7)
       have a8:=r10.get (ne_fr n126 (isSome_of x8)) (g9.get x8)
       have own10:=(own8.trans (OwnK.gr g9)).put r10 nD126
       by_cases he:(A.walk f p.ino (A.data ((A.find p.ino nm).getD 0)) true (h' - 1)).1=0
       ·rw[steps_link ht h2 h3' h4 h5 hz he]at y2
        refine br_f (by simpa using he) ?_
        refine rd_G (rdA_of' r10.same (by rfl)) ?_
        (refine app_of rfl ?_;try dsimp only)
        (refine st_i2 (by exact gA) szA (by rfl) (by rfl) ?_;intro _ _)
        rename_i τ11 r11
        exact hnext τ11 _ _ (a5.put r11 m25 B25 (fun _=>f25)) r11.same (r11.get h25 a7) (r11.get l25.symm a8) y2 (hw.2.2 he) (Int.le_trans hw.2.1 (by omega)) (own10.put r11 nD25)
       ·rw[steps_err ht h2 h3' h4 h5 hz he]at y2
        exact br_t (by simpa using he) (herr τ10 _ _ a5 a7 a8 y2.symm own10)
     ·rintro j ⟨hj1,hj2⟩
      unfold plC at v6
      refine rd_B (rdC_of v6 (by rfl)) ?_
      cases hfd:(A.find p.ino nm).isSome with
      | false=>exact br_t rfl (hj1 (.inl hfd))
      | true =>
       have hkd : ∀t:Bool,t=(A.kind ((A.find p.ino nm).getD 0) != 3)->(rest.isEmpty && !follow)=false->j (some ⟨b6,0,none⟩) (some ⟨b8,0,none⟩) (some ⟨b9,0,none⟩) (some ⟨b10,0,none⟩) (some ⟨b25,0,none⟩) t τ4:=by
        intro t ht' hr'
        by_cases hk:A.kind ((A.find p.ino nm).getD 0)=3
        ·have:t=false:=by rw[ht'];simpa using hk
         subst this
         refine hj2 ?_
         rintro (h | h | h)
         ·rw[hfd]at h;cases h
         ·rw[hr']at h;cases h
         ·exact h hk
        ·have:t=true:=by rw[ht'];simpa using hk
         subst this
         exact hj1 (.inr (.inr hk))
       refine br_f rfl ?_
       cases hre:rest.isEmpty with
       | true =>
        refine br_t rfl (ptr_i (rd_B (rdC_of v5.k7 (by rfl)) ?_))
        cases follow with
        | false=>exact br_t rfl (hj1 (.inr (.inl (by rw[hre];rfl))))
        | true =>
         refine br_f rfl (ptr_i (rd_P (rdC_of v5.k6 (by rfl)) (rd_I (rdC_of v6 (by rfl)) ?_)))
         exact call_i (s_kind v5.fs _ (app_I (hkd _ rfl (by rw[hre];rfl))))
       | false =>
        refine br_f rfl (ptr_i (rd_P (rdC_of v5.k6 (by rfl)) (rd_I (rdC_of v6 (by rfl)) ?_)))
        exact call_i (s_kind v5.fs _ (app_I (hkd _ rfl (by rw[hre];rfl))))
  ·intro τ hg hDs
   exact⟨partsB path,_,h,rfl,hres,h0,Int.le_refl _,hbase9.gr hg,hg.get e25',hg.get hh9,hg.get pl.same,hDs⟩
  ·rintro τ ⟨names,p,h',y1,y2,y3,y4,y5,y6,y7,y8,y9⟩
   cases names with
   | cons x xs=>cases y1
   | nil =>
    refine end_n y8 (by intro h;cases h) ?_
    intro τ1 r1
    simp only[AT.steps]at y2
    exact hj26 τ1 p h' y2.symm (y5.put r1 ml Bl (fun _=>fl)) (r1.get l25 y6) (r1.get hl' y7)
  ·rintro τ ⟨e,h',y1,y2,y3,y4,y5,y6⟩
   refine end_r y5 (by intro h;cases h) ?_
   intro τ1 r1
   have z9:=r1.get ml.2.2.2.1.symm y2
   have z10:=r1.get ml.2.2.2.2.symm y3
   unfold plC at z9
   refine ptr_i (rd_G (rdA_of' z9 (by rfl)) ?_)
   (refine app_of rfl ?_;try dsimp only)
   refine ptr_i (rd_I (rdC_of z10 (by rfl)) ?_)
   rw[y1]
   refine⟨rfl,gr_of_keep (r1.get hl' y4) (fun b o hn hb=>r1.get ?_ (y6 b o hn hb))⟩
   intro e;subst e;rw[fl]at hb;cases hb
end Go.Proofs.YtbdlkofldmhoaaaGreatDoor

namespace Go.Wk
open Go Go.HL
section
variable {κ α : Type}
def sumF (f:α->Nat):List (κ×α)->Nat
 | []=>0
 | (_,v)::r=>f v+sumF f r
theorem sumF_up [BEq κ] (f:α->Nat) (k:κ) (v:α) : ∀l:List (κ×α),sumF f (up k v l)+((lk k l).map f).getD 0=sumF f l+f v:=by
 intro l
 induction l with
 | nil=>simp[up,lk,sumF]
 | cons x l ih =>
  obtain⟨i,u⟩:=x
  simp only[up,lk]
  cases (k==i) with
  | true=>simp[sumF];omega
  | false=>simp only[sumF];omega
theorem sumF_rm [BEq κ] (f:α->Nat) (k:κ) : ∀l:List (κ×α),sumF f (rm k l)+((lk k l).map f).getD 0=sumF f l:=by
 intro l
 induction l with
 | nil=>simp[rm,lk,sumF]
 | cons x l ih =>
  obtain⟨i,u⟩:=x
  simp only[rm,lk]
  cases (k==i) with
  | true=>simp[sumF];omega
  | false=>simp only[sumF];omega
theorem sumF_ge [BEq κ] {f:α->Nat} {k:κ} {v:α} : ∀ {l:List (κ×α)},lk k l=some v->f v<=sumF f l:=by
 intro l
 induction l with
 | nil=>intro h;simp[lk]at h
 | cons x l ih =>
  obtain⟨i,u⟩:=x
  intro h
  simp only[lk]at h
  simp only[sumF]
  cases hk:(k==i) with
  | true=>simp only[hk]at h;cases h;omega
  | false=>simp only[hk]at h;have:=ih h;omega
theorem lk_of_mem [BEq κ] [LawfulBEq κ] {k:κ} {v:α} : ∀ {l:List (κ×α)},(keysL l).Nodup->(k,v)∈l->lk k l=some v:=by
 intro l
 induction l with
 | nil=>intro _ h;simp at h
 | cons x l ih =>
  obtain⟨i,u⟩:=x
  intro hn h
  simp only[keysL,List.map_cons,List.nodup_cons]at hn
  simp only[lk]
  rcases List.mem_cons.1 h with e | e
  ·cases e;simp
  ·have : (k == i) = false := by
    cases hb:(k==i) with
    | false=>rfl
    | true =>
     have:=eq_of_beq hb;subst this
     exact absurd (List.mem_map.2 ⟨_,e,rfl⟩) hn.1
   simp only[this]
   exact ih hn.2 e
theorem sumF_pos {f:α->Nat} {l:List (κ×α)} (h:0<sumF f l) : ∃k v,(k,v)∈l/\0<f v:=by
 induction l with
 | nil=>simp[sumF]at h
 | cons x l ih =>
  obtain⟨i,u⟩:=x
  simp only[sumF]at h
  by_cases hu:0<f u
  ·exact⟨i,u,by simp,hu⟩
  ·obtain⟨k,v,h1,h2⟩:=ih (by omega)
   exact⟨k,v,List.mem_cons_of_mem _ h1,h2⟩
theorem sumF_pos_lk [BEq κ] [LawfulBEq κ] {f:α->Nat} {l:List (κ×α)} (hn:(keysL l).Nodup) (h:0<sumF f l) : ∃k v,lk k l=some v/\0<f v:=by
 obtain⟨k,v,h1,h2⟩:=sumF_pos h
 exact⟨k,v,lk_of_mem hn h1,h2⟩
theorem sumF_len (l:List (κ×α)):sumF (fun _=>1) l=l.length:=by
 induction l with
 | nil=>rfl
 | cons x l ih=>obtain⟨i,u⟩:=x;simp only[sumF,ih,List.length_cons];omega
theorem sumF_two [BEq κ] [LawfulBEq κ] {f:α->Nat} {i j:κ} {u v:α} : ∀ {l:List (κ×α)},(keysL l).Nodup->lk i l=some u->lk j l=some v->i≠j->f u+f v<=sumF f l:=by
 intro l
 induction l with
 | nil=>intro _ h;simp[lk]at h
 | cons x l ih =>
  obtain⟨k,w⟩:=x
  intro hn h1 h2 hne
  simp only[keysL,List.map_cons,List.nodup_cons]at hn
  simp only[lk]at h1 h2
  simp only[sumF]
  cases hi:(i==k) with
  | true =>
   have:=eq_of_beq hi;subst this
   have hj:(j==i)=false:=by
    cases hb:(j==i) with
    | false=>rfl
    | true=>exact absurd (eq_of_beq hb).symm hne
   simp only[hi]at h1;simp only[hj]at h2;cases h1
   have:=sumF_ge (f:=f) h2;omega
  | false =>
   simp only[hi]at h1
   cases hj:(j==k) with
   | true=>simp only[hj]at h2;cases h2;have:=sumF_ge (f:=f) h1;omega
   | false=>simp only[hj]at h2;have:=ih hn.2 h1 h2 hne;omega
end
def one (j:Int) (v:Int):Nat:=if v=j then 1 else 0
def cntE (j:Int) (n:AN):Nat:=sumF (one j) n.ents
def AT.refs (A:AT) (j:Int):Nat:=sumF (cntE j) A.nodes
def AT.bytes (A:AT):Nat:=sumF (fun n=>n.data.size) A.nodes
def AT.isDir (A:AT) (k:Int):Prop := ∃n,A.get k=some n/\n.kind=2
structure Inv (A:AT):Prop where
 nodup:(keysL A.nodes).Nodup
 enod : ∀i n,A.get i=some n->(keysL n.ents).Nodup
 root : ∃n,A.get 1=some n/\n.kind=2/\n.up=1
 low : ∀i n,A.get i=some n->1<=i/\i<=A.last
 like : ∀i n,A.get i=some n->likeE n.kind n.mode n.data=0
 file : ∀i n,A.get i=some n->n.kind≠2->n.ents=[]
 ent : ∀i n s j,A.get i=some n->lk s n.ents=some j->namedE s=0/\j≠1 /\ ∃m,A.get j=some m/\(m.kind=2->m.up=i)
 links : ∀i n,A.get i=some n->i≠1->n.links=A.refs i/\0<A.refs i/\(n.kind=2->A.refs i=1)
 deep : ∀i,A.isDir i -> ∃d,A.deep 12 i=some d
 ui:A.ui=A.nodes.length
 ub:A.ub=A.bytes
 uq:A.ui<=A.qi/\A.qi<=1048576
 bq:A.ub<=A.qb/\A.qb<=1073741824
theorem AT.get_set (A:AT) (i j:Int) (n:AN):(A.set i n).get j=if j=i then some n else A.get j:=by
 unfold AT.set AT.get;simp only[lk_up]
 by_cases h:j=i<;>simp[h]
theorem AT.get_set_self (A:AT) (i:Int) (n:AN):(A.set i n).get i=some n:=by rw[AT.get_set];simp
theorem AT.get_set_ne (A:AT) {i j:Int} (n:AN) (h:j≠i):(A.set i n).get j=A.get j:=by rw[AT.get_set];simp[h]
theorem AT.sum_set (A:AT) (f:AN->Nat) (i:Int) (n:AN):sumF f (A.set i n).nodes+((A.get i).map f).getD 0=sumF f A.nodes+f n:=sumF_up f i n A.nodes
theorem wr_id {x:Int} (h1:-9223372036854775808<=x) (h2:x<=9223372036854775807):wr x=x:=by
 unfold wr;rw[IntKind.wrap_i64];omega
section
variable {A : AT}
theorem Inv.find (h:Inv A) {d:Int} {s:ByteArray} {j:Int} (hf:A.find d s=some j) : ∃n,A.get d=some n/\n.kind=2/\lk s n.ents=some j/\j≠1 /\ ∃m,A.get j=some m/\(m.kind=2->m.up=d):=by
 unfold AT.find at hf
 cases hn:A.get d with
 | none=>rw[hn]at hf;cases hf
 | some n =>
  rw[hn]at hf
  have hf:lk s n.ents=some j:=hf
  have h2:n.kind=2:=by
   apply Classical.byContradiction
   intro hk
   rw[h.file d n hn hk]at hf;simp[lk]at hf
  obtain⟨_,h3,h4⟩:=h.ent d n s j hn hf
  exact⟨n,rfl,h2,hf,h3,h4⟩
theorem Inv.isDir_up (h:Inv A) {k:Int} (hk:A.isDir k):A.isDir (A.upOf k):=by
 obtain⟨n,hn,h2⟩:=hk
 have hu:A.upOf k=n.up:=by unfold AT.upOf;rw[hn];rfl
 rw[hu]
 by_cases h1:k=1
 ·subst h1
  obtain⟨r,hr,hr2,hr3⟩:=h.root
  rw[hn]at hr;cases hr
  rw[hr3];exact⟨n,hn,h2⟩
 ·obtain⟨_,hpos,_⟩:=h.links k n hn h1
  obtain⟨p,m,hp,hc⟩:=sumF_pos_lk h.nodup hpos
  have hp:A.get p=some m:=hp
  obtain⟨s,v,hs,hv⟩:=sumF_pos_lk (h.enod p m hp) hc
  have hv:v=k:=by
   unfold one at hv
   by_cases e:v=k
   ·exact e
   ·simp[e]at hv
  subst hv
  obtain⟨_,_,m',hm',hup⟩:=h.ent p m s v hp hs
  rw[hn]at hm';cases hm'
  rw[hup h2]
  refine⟨m,hp,?_⟩
  apply Classical.byContradiction
  intro hk
  rw[h.file p m hp hk]at hs;simp[lk]at hs
theorem Inv.root_dir (h:Inv A):A.isDir 1:=by
 obtain⟨n,h1,h2,_⟩:=h.root;exact⟨n,h1,h2⟩
theorem Inv.named (h:Inv A) {k:Int} (hk:A.isDir k) (h1:k≠1) : ∃s,A.find (A.upOf k) s=some k:=by
 obtain⟨n,hn,h2⟩:=hk
 have hu:A.upOf k=n.up:=by unfold AT.upOf;rw[hn];rfl
 rw[hu]
 obtain⟨_,hpos,_⟩:=h.links k n hn h1
 obtain⟨p,m,hp,hc⟩:=sumF_pos_lk h.nodup hpos
 have hp:A.get p=some m:=hp
 obtain⟨s,v,hs,hv⟩:=sumF_pos_lk (h.enod p m hp) hc
 have hv:v=k:=by
  unfold one at hv
  by_cases e:v=k
  ·exact e
  ·simp[e]at hv
 subst hv
 obtain⟨_,_,m',hm',hup⟩:=h.ent p m s v hp hs
 rw[hn]at hm';cases hm'
 rw[hup h2]
 exact⟨s,by unfold AT.find;rw[hp];exact hs⟩
theorem deep_same {A':AT} (h:Inv A) (hu:∀k,A.isDir k->A'.upOf k=A.upOf k) : ∀ (f:Nat) (k:Int),A.isDir k->A'.deep f k=A.deep f k:=by
 intro f
 induction f with
 | zero=>intro k _;rfl
 | succ f ih =>
  intro k hk
  unfold AT.deep
  rw[hu k hk,ih _ (h.isDir_up hk)]
theorem deep_mono : ∀ {f:Nat} {k d:Int},A.deep f k=some d->A.deep (f+1) k=some d:=by
 intro f
 induction f with
 | zero=>intro k d h;cases h
 | succ f ih =>
  intro k d h
  unfold AT.deep at h ⊢
  by_cases e:k=1
  ·rw[if_pos e]at h ⊢;exact h
  ·rw[if_neg e]at h ⊢
   cases hd:A.deep f (A.upOf k) with
   | none=>rw[hd]at h;cases h
   | some x=>rw[hd]at h;rw[ih hd];exact h
theorem deep_bound : ∀ {f:Nat} {k d:Int},A.deep f k=some d->1<=d/\d<=f:=by
 intro f
 induction f with
 | zero=>intro k d h;cases h
 | succ f ih =>
  intro k d h
  unfold AT.deep at h
  by_cases e:k=1
  ·rw[if_pos e]at h;cases h;omega
  ·rw[if_neg e]at h
   cases hd:A.deep f (A.upOf k) with
   | none=>rw[hd]at h;cases h
   | some x =>
    rw[hd]at h;have:=ih hd
    simp only[Option.map_some,Option.some.injEq]at h;omega
theorem deep_low : ∀ {f:Nat} {k d:Int},A.deep f k=some d -> ∀g:Nat,d<=g->A.deep g k=some d:=by
 intro f
 induction f with
 | zero=>intro k d h;cases h
 | succ f ih =>
  intro k d h g hg
  have hb:=deep_bound h
  cases g with
  | zero=>omega
  | succ g =>
   unfold AT.deep at h ⊢
   by_cases e:k=1
   ·rw[if_pos e]at h ⊢;exact h
   ·rw[if_neg e]at h ⊢
    cases hd:A.deep f (A.upOf k) with
    | none=>rw[hd]at h;cases h
    | some x =>
     rw[hd]at h
     simp only[Option.map_some,Option.some.injEq]at h;subst h
     rw[ih hd g (by omega)];rfl
end
end Go.Wk

namespace Go.Wk
open Go Go.HL
variable {A : AT}
theorem AT.firstE_z {e:Int} {es:List Int} (h:firstE (e::es)=0):e=0/\firstE es=0:=by
 unfold firstE at h
 by_cases he:e=0
 ·rw[if_pos he]at h;exact⟨he,h⟩
 ·rw[if_neg he]at h;exact absurd h he
theorem AT.dirE_z {d:Int} (h:A.dirE d=0):A.isDir d:=by
 unfold AT.dirE at h
 cases hn:A.get d with
 | none=>rw[hn]at h;cases h
 | some n =>
  rw[hn]at h
  refine⟨n,hn,?_⟩
  cases hk:(n.kind==2) with
  | true=>simpa using hk
  | false=>simp[hk]at h
theorem AT.dirE_of {d:Int} (h:A.isDir d):A.dirE d=0:=by
 obtain⟨n,h1,h2⟩:=h
 unfold AT.dirE;rw[h1];simp[h2]
theorem AT.fileE_z {d:Int} (h:A.fileE d=0) : ∃n,A.get d=some n/\n.kind=1:=by
 unfold AT.fileE at h
 cases hn:A.get d with
 | none=>rw[hn]at h;cases h
 | some n =>
  rw[hn]at h
  refine⟨n,rfl,?_⟩
  by_cases h2:n.kind=2
  ·simp[h2]at h
  ·by_cases h1:n.kind=1
   ·exact h1
   ·simp[h1,h2]at h
theorem Inv.refs_none (h:Inv A) {i:Int} (hi:A.get i=none):A.refs i=0:=by
 apply Classical.byContradiction
 intro hne
 obtain⟨p,m,hp,hc⟩:=sumF_pos_lk h.nodup (Nat.pos_of_ne_zero hne)
 have hp:A.get p=some m:=hp
 obtain⟨s,v,hs,hv⟩:=sumF_pos_lk (h.enod p m hp) hc
 have hv:v=i:=by
  unfold one at hv
  by_cases e:v=i
  ·exact e
  ·simp[e]at hv
 subst hv
 obtain⟨_,_,m',hm',_⟩:=h.ent p m s v hp hs
 rw[hi]at hm';cases hm'
theorem Inv.fresh (h:Inv A) {i:Int} (hi:A.last<i):A.get i=none:=by
 cases hg:A.get i with
 | none=>rfl
 | some n=>have:=h.low i n hg;omega
theorem Inv.last_pos (h:Inv A):1<=A.last:=by
 obtain⟨n,h1,_⟩:=h.root
 exact(h.low 1 n h1).2
theorem Inv.size_le (h:Inv A) {i:Int} {n:AN} (hn:A.get i=some n):(n.data.size:Int)<=A.ub:=by
 have:=sumF_ge (f:=fun n:AN=>n.data.size) hn
 rw[h.ub];unfold AT.bytes;omega
theorem deep_on {A':AT} {S:Int->Prop} (hS:∀k,S k->k≠1->S (A.upOf k)) (hu:∀k,S k->k≠1->A'.upOf k=A.upOf k) : ∀ (f:Nat) (k:Int),S k->A'.deep f k=A.deep f k:=by
 intro f
 induction f with
 | zero=>intro k _;rfl
 | succ f ih =>
  intro k hk
  unfold AT.deep
  by_cases e:k=1
  ·rw[if_pos e,if_pos e]
  ·rw[if_neg e,if_neg e,hu k hk e,ih _ (hS k hk e)]
structure Bd (N:Nat) (A:AT):Prop where
 last:A.last<=N
 links : ∀i n,A.get i=some n->n.links<=N
 ents : ∀i n,A.get i=some n->n.ents.length<=N
theorem Bd.mono {N M:Nat} (h:Bd N A) (hl:N<=M):Bd M A :=
 ⟨by have:=h.last;omega,fun i n hn=>by have:=h.links i n hn;omega,fun i n hn=>by have:=h.ents i n hn;omega⟩
section
variable {dir : Int} {name : ByteArray} {kind mode : Int} {data : ByteArray}
theorem makeE_z (he:A.makeE dir name kind mode data=0):A.isDir dir/\namedE name=0/\likeE kind mode data=0/\A.find dir name=none/\A.roomE 1 (data.size:Int)=0:=by
 unfold AT.makeE at he
 obtain⟨_,he⟩:=AT.firstE_z he
 obtain⟨h1,he⟩:=AT.firstE_z he
 obtain⟨h2,he⟩:=AT.firstE_z he
 obtain⟨h3,he⟩:=AT.firstE_z he
 obtain⟨h4,he⟩:=AT.firstE_z he
 obtain⟨h5,he⟩:=AT.firstE_z he
 refine⟨AT.dirE_z h1,h2,h3,?_,h5⟩
 cases hf:A.find dir name with
 | none=>rfl
 | some j=>rw[hf]at h4;simp at h4
def newN (dir kind mode:Int) (data:ByteArray):AN:=⟨kind,mode,data,1,if kind==2 then dir else 0,[]⟩
theorem made_eq (h:Inv A) (hl:A.last<4611686018427387904) {nd:AN} (hd:A.get dir=some nd) :
 A.made dir name kind mode data={ (({ A with last:=A.last+1 }.set (A.last+1) (newN dir kind mode data)).set dir { nd with ents:=up name (A.last+1) nd.ents })with ui:=wr (A.ui+1),ub:=wr (A.ub+data.size) }:=by
 have hp:=h.last_pos
 have hw:wr (A.last+1)=A.last+1:=wr_id (by omega) (by omega)
 have hne:dir≠A.last+1:=by have:=(h.low dir nd hd).2;omega
 unfold AT.made
 rw[hw]
 have hg:({ A with last:=A.last+1,nodes:=up (A.last+1) ⟨kind,mode,data,1,if kind==2 then dir else 0,[]⟩ A.nodes }:AT).get dir=some nd:=by
  have:=AT.get_set_ne A (newN dir kind mode data) hne
  rw[hd]at this;exact this
 simp only[AT.ent,hg]
 rfl
theorem made_get (h:Inv A) (hl:A.last<4611686018427387904) {nd:AN} (hd:A.get dir=some nd) (j:Int) :
 (A.made dir name kind mode data).get j=if j=dir then some { nd with ents:=up name (A.last+1) nd.ents }else if j=A.last+1 then some (newN dir kind mode data)else A.get j:=by
 rw[made_eq h hl hd]
 show((({ A with last:=A.last+1 }:AT).set (A.last+1) (newN dir kind mode data)).set dir { nd with ents:=up name (A.last+1) nd.ents }).get j=_
 rw[AT.get_set,AT.get_set];rfl
theorem roomE_z {i n:Int} (h:A.roomE i n=0):wr (A.ui+i)<=A.qi/\wr (A.ub+n)<=A.qb:=by
 unfold AT.roomE at h
 by_cases hc:wr (A.ui+i)<=A.qi/\wr (A.ub+n)<=A.qb
 ·exact hc
 ·rw[if_neg hc]at h;cases h
theorem Inv.ui_pos (h:Inv A):1<=A.ui:=by
 obtain⟨n,h1,_⟩:=h.root
 have:=sumF_ge (f:=fun _:AN=>1) h1
 rw[sumF_len]at this
 rw[h.ui];omega
theorem Inv.ub_pos (h:Inv A):0<=A.ub:=by rw[h.ub];omega
theorem Inv.made {N:Nat} (h:Inv A) (hb:Bd N A) (hN:N<4611686018427387904) (hs:data.size<4611686018427387904) (he:A.makeE dir name kind mode data=0) (hdp:kind=2 -> ∃d,A.deep 11 dir=some d) :
 Inv (A.made dir name kind mode data)/\Bd (N+1) (A.made dir name kind mode data):=by
 obtain⟨⟨nd,hd,hd2⟩,hnm,hlk,hfn,hrm⟩:=makeE_z he
 have hl:A.last<4611686018427387904:=by have:=hb.last;omega
 have hG:=made_get (name:=name) (kind:=kind) (mode:=mode) (data:=data) h hl hd
 have hE:=made_eq (name:=name) (kind:=kind) (mode:=mode) (data:=data) h hl hd
 have hp:=h.last_pos
 have hdl:=(h.low dir nd hd)
 have hne:dir≠A.last+1:=by omega
 have hfr:A.get (A.last+1)=none:=h.fresh (by omega)
 have hfn':lk name nd.ents=none:=by unfold AT.find at hfn;rw[hd]at hfn;exact hfn
 have hup:h.ui_pos=h.ui_pos:=rfl
 have hui:=h.ui_pos
 have hub:=h.ub_pos
 obtain⟨hq1,hq2⟩:=h.uq
 obtain⟨hq3,hq4⟩:=h.bq
 obtain⟨hr1,hr2⟩:=roomE_z hrm
 have w1:wr (A.ui+1)=A.ui+1:=wr_id (by omega) (by omega)
 have w2:wr (A.ub+(data.size:Int))=A.ub+data.size:=wr_id (by omega) (by omega)
 rw[w1]at hr1;rw[w2]at hr2
 have hsum : ∀f:AN->Nat,sumF f (A.made dir name kind mode data).nodes+f nd=sumF f A.nodes+f (newN dir kind mode data)+f { nd with ents:=up name (A.last+1) nd.ents }:=by
  intro f
  rw[hE]
  show sumF f ((({ A with last:=A.last+1 }:AT).set (A.last+1) (newN dir kind mode data)).set dir { nd with ents:=up name (A.last+1) nd.ents }).nodes+_=_
  have h1:=AT.sum_set (({ A with last:=A.last+1 }:AT).set (A.last+1) (newN dir kind mode data)) f dir { nd with ents:=up name (A.last+1) nd.ents }
  have h2:=AT.sum_set ({ A with last:=A.last+1 }:AT) f (A.last+1) (newN dir kind mode data)
  have g1:(({ A with last:=A.last+1 }:AT).set (A.last+1) (newN dir kind mode data)).get dir=some nd:=by rw[AT.get_set_ne _ _ hne];exact hd
  have g2:({ A with last:=A.last+1 }:AT).get (A.last+1)=none:=hfr
  rw[g1]at h1;rw[g2]at h2
  simp only[Option.map_some,Option.getD_some,Option.map_none,Option.getD_none]at h1 h2
  have h3:sumF f ({ A with last:=A.last+1 }:AT).nodes=sumF f A.nodes:=rfl
  omega
 have hcE : ∀j,cntE j { nd with ents:=up name (A.last+1) nd.ents }=cntE j nd+one j (A.last+1):=by
  intro j
  have:=sumF_up (one j) name (A.last+1) nd.ents
  rw[hfn']at this
  simpa[cntE]using this
 have hrefs : ∀j,(A.made dir name kind mode data).refs j=A.refs j+one j (A.last+1):=by
  intro j
  have:=hsum (cntE j)
  rw[hcE j]at this
  have h0:cntE j (newN dir kind mode data)=0:=rfl
  unfold AT.refs
  omega
 have hr0:A.refs (A.last+1)=0:=h.refs_none hfr
 have hex : ∀j m,A.get j=some m -> ∃m',(A.made dir name kind mode data).get j=some m'/\m'.kind=m.kind/\m'.up=m.up/\m'.mode=m.mode/\m'.data=m.data/\m'.links=m.links:=by
  intro j m hm
  rw[hG]
  by_cases e:j=dir
  ·subst e;rw[if_pos rfl];rw[hd]at hm;cases hm;exact⟨_,rfl,rfl,rfl,rfl,rfl,rfl⟩
  ·rw[if_neg e]
   by_cases e2:j=A.last+1
   ·subst e2;rw[hfr]at hm;cases hm
   ·rw[if_neg e2];exact⟨m,hm,rfl,rfl,rfl,rfl,rfl⟩
 have hcase : ∀j m,(A.made dir name kind mode data).get j=some m->(j=dir/\m={ nd with ents:=up name (A.last+1) nd.ents })\/(j=A.last+1/\m=newN dir kind mode data)\/(j≠dir/\j≠A.last+1/\A.get j=some m):=by
  intro j m hm
  rw[hG]at hm
  by_cases e:j=dir
  ·rw[if_pos e]at hm;cases hm;exact .inl ⟨e,rfl⟩
  ·rw[if_neg e]at hm
   by_cases e2:j=A.last+1
   ·rw[if_pos e2]at hm;cases hm;exact .inr (.inl ⟨e2,rfl⟩)
   ·rw[if_neg e2]at hm;exact .inr (.inr ⟨e,e2,hm⟩)
 have hlast:(A.made dir name kind mode data).last=A.last+1:=by rw[hE];rfl
 have hupO : ∀k,A.isDir k->(A.made dir name kind mode data).upOf k=A.upOf k:=by
  rintro k ⟨n,hn,_⟩
  obtain⟨m',h1,_,h3,_⟩:=hex k n hn
  unfold AT.upOf;rw[h1,hn];simp[h3]
 have hknd:kind=1\/kind=2\/kind=3\/True := .inr (.inr (.inr trivial))
 refine⟨⟨?_,?_,?_,?_,?_,?_,?_,?_,?_,?_,?_,?_,?_⟩,⟨?_,?_,?_⟩⟩
 ·rw[hE];exact nodup_up (nodup_up h.nodup)
 ·intro j m hm
  rcases hcase j m hm with⟨_,rfl⟩ | ⟨_,rfl⟩ | ⟨_,_,hm⟩
  ·exact nodup_up (h.enod dir nd hd)
  ·exact List.nodup_nil
  ·exact h.enod j m hm
 ·obtain⟨r,hr,hr2,hr3⟩:=h.root
  obtain⟨m',h1,h2,h3,_⟩:=hex 1 r hr
  exact⟨m',h1,by rw[h2,hr2],by rw[h3,hr3]⟩
 ·intro j m hm
  rw[hlast]
  rcases hcase j m hm with⟨rfl,_⟩ | ⟨rfl,_⟩ | ⟨_,_,hm⟩
  ·omega
  ·omega
  ·have:=h.low j m hm;omega
 ·intro j m hm
  rcases hcase j m hm with⟨rfl,rfl⟩ | ⟨_,rfl⟩ | ⟨_,_,hm⟩
  ·exact h.like _ nd hd
  ·exact hlk
  ·exact h.like j m hm
 ·intro j m hm hk
  rcases hcase j m hm with⟨rfl,rfl⟩ | ⟨_,rfl⟩ | ⟨_,_,hm⟩
  ·exact absurd hd2 hk
  ·rfl
  ·exact h.file j m hm hk
 ·intro j m s t hm hs'
  rcases hcase j m hm with⟨rfl,rfl⟩ | ⟨_,rfl⟩ | ⟨_,_,hm⟩
  ·simp only[lk_up]at hs'
   by_cases e:s=name
   ·subst e
    simp at hs';subst hs'
    refine⟨hnm,by omega,newN j kind mode data,by rw[hG,if_neg (fun x=>hne x.symm),if_pos rfl],fun hk => ?_⟩
    have hk:kind=2:=hk
    simp[newN,hk]
   ·have e':(s==name)=false:=by simpa using e
    rw[e']at hs'
    obtain⟨q1,q2,m',q3,q4⟩:=h.ent j nd s t hd hs'
    obtain⟨m'',h1,h2,h3,_⟩:=hex t m' q3
    exact⟨q1,q2,m'',h1,fun hk=>by rw[h3];exact q4 (by rw[<-h2];exact hk)⟩
  ·simp[newN,lk]at hs'
  ·obtain⟨q1,q2,m',q3,q4⟩:=h.ent j m s t hm hs'
   obtain⟨m'',h1,h2,h3,_⟩:=hex t m' q3
   exact⟨q1,q2,m'',h1,fun hk=>by rw[h3];exact q4 (by rw[<-h2];exact hk)⟩
 ·intro j m hm h1
  rw[hrefs]
  have ho : ∀j,j≠A.last+1->one j (A.last+1)=0:=by intro j hj;unfold one;rw[if_neg (fun x=>hj x.symm)]
  rcases hcase j m hm with⟨rfl,rfl⟩ | ⟨rfl,rfl⟩ | ⟨_,hj,hm⟩
  ·rw[ho _ hne];exact h.links _ nd hd h1
  ·rw[hr0];unfold one;simp[newN]
  ·rw[ho _ hj];exact h.links j m hm h1
 ·rintro k ⟨m,hm,hk⟩
  rcases hcase k m hm with⟨rfl,rfl⟩ | ⟨rfl,rfl⟩ | ⟨_,_,hm⟩
  ·rw[deep_same h hupO 12 k ⟨nd,hd,hd2⟩];exact h.deep k ⟨nd,hd,hd2⟩
  ·have hk:kind=2:=hk
   obtain⟨d,hdd⟩:=hdp hk
   refine⟨d+1,?_⟩
   unfold AT.deep
   rw[if_neg (by omega)]
   have:(A.made dir name kind mode data).upOf (A.last+1)=dir:=by
    unfold AT.upOf;rw[hm];simp[newN,hk]
   rw[this,deep_same h hupO 11 dir ⟨nd,hd,hd2⟩,hdd];rfl
  ·rw[deep_same h hupO 12 k ⟨m,hm,hk⟩];exact h.deep k ⟨m,hm,hk⟩
 ·have:=hsum (fun _=>1)
  rw[sumF_len,sumF_len]at this
  have e:(A.made dir name kind mode data).ui=A.ui+1:=by rw[hE];exact w1
  rw[e,h.ui];omega
 ·have:=hsum (fun n=>n.data.size)
  have e:(A.made dir name kind mode data).ub=A.ub+data.size:=by rw[hE];exact w2
  have e2:(newN dir kind mode data).data.size=data.size:=rfl
  rw[e,h.ub];unfold AT.bytes;simp only[e2]at this;omega
 ·have e:(A.made dir name kind mode data).ui=A.ui+1:=by rw[hE];exact w1
  have e2:(A.made dir name kind mode data).qi=A.qi:=by rw[hE];rfl
  rw[e,e2];exact⟨hr1,hq2⟩
 ·have e:(A.made dir name kind mode data).ub=A.ub+data.size:=by rw[hE];exact w2
  have e2:(A.made dir name kind mode data).qb=A.qb:=by rw[hE];rfl
  rw[e,e2];exact⟨hr2,hq4⟩
 ·rw[hlast];have:=hb.last;omega
 ·intro j m hm
  rcases hcase j m hm with⟨rfl,rfl⟩ | ⟨_,rfl⟩ | ⟨_,_,hm⟩
  ·have:=hb.links _ nd hd;simp only;omega
  ·simp[newN];omega
  ·have:=hb.links j m hm;omega
 ·intro j m hm
  rcases hcase j m hm with⟨rfl,rfl⟩ | ⟨_,rfl⟩ | ⟨_,_,hm⟩
  ·have:=hb.ents _ nd hd
   simp only
   rw[enc_up_new nd.ents name _ hfn'];simp;omega
  ·simp[newN]
  ·have:=hb.ents j m hm;omega
end
end Go.Wk

set_option maxRecDepth 100000
namespace Go.Proofs.YtbdlkofldmhoaaaGreatDoor
open Go Go.HL Go.Wk
attribute [local irreducible] ptrW ifW brW andW rdT alW letJ stW muW biW vaW imW callT cvalT app callW invW callVW sizeT oW nilF oneK loopW rfW funW begW roundK exW idxW Gr Put
theorem x_HasPrefix (s p:ByteArray) {σ:H} {K:KH} (hK:K (.bool (p.data.toList.isPrefixOf s.data.toList)) σ):callW Tryz.prog 82 [.string s,.string p] K σ:=by
 have hls:s.data.toList.length=s.size:=rfl
 have hlp:p.data.toList.length=p.size:=rfl
 refine c82 _ _ ?_
 unfold g82
 refine call_i (c145 _ _ ?_)
 unfold g145
 by_cases h:p.size<=s.size
 ·refine br_t (by simp;omega) (if_i ⟨bnd_some (by omega) (by omega),bnd_none⟩ (app_B ?_))
  have e:strEq (s.extract 0 (((p.size:Nat):Int).toNat)) p=p.data.toList.isPrefixOf s.data.toList:=by
   unfold strEq
   rw[ByteArray.toList_eq,ByteArray.toList_eq,extract_toList]
   simp only[Int.toNat_natCast,List.drop_zero]
   rw[Bool.eq_iff_iff,beq_iff_eq,List.isPrefixOf_iff_prefix,List.prefix_iff_eq_take,hlp]
   exact eq_comm
  rw[e];exact hK
 ·refine br_f (by simp;omega) (app_B ?_)
  have e:p.data.toList.isPrefixOf s.data.toList=false:=by
   rw[<-Bool.not_eq_true,List.isPrefixOf_iff_prefix]
   intro hp
   have:=hp.length_le
   omega
  rw[e]at hK;exact hK
theorem prefix_head (s:ByteArray) (c:UInt8):([c].isPrefixOf s.data.toList)=headIs c s:=by
 unfold headIs
 cases s.data.toList with
 | nil=>rfl
 | cons x r => 
  simp only[List.isPrefixOf]
  rw[Bool.and_true]
  exact BEq.comm
theorem sEq_nil {s:ByteArray} (h:sEq s ⟨⟨[]⟩⟩=false) : ∃c r,s.data.toList=c::r:=by
 cases hl:s.data.toList with
 | nil => exfalso; have : sEq s ⟨⟨[]⟩⟩ = true := by unfold sEq; rw [hl]; rfl
          rw[h]at this;cases this
 | cons c r=>exact⟨c,r,rfl⟩
theorem s_locate {A:AT} {σ:H} {bf:Nat} {B:Nat->Prop} (hF:FsAt σ bf A B) (cwd path:ByteArray) (follow:Bool) {K:KH}
 (hK:K (.tuple ⟨[.agg ⟨plC (A.locate cwd path follow).2⟩,.int .i64 (A.locate cwd path follow).1]⟩) σ) :
 callW Tryz.prog 29 [.pointer (some ⟨bf,0,none⟩),.string cwd,.string path,.bool follow] K σ:=by
 generalize hres:A.locate cwd path follow=res at hK
 refine pure_i _ hK (c29 _ _ _ _ ?_)
 clear hK
 unfold g29
 refine al_i ?_;intro b5 σ1 g1 e1 n1
 have hF1:=hF.gr g1
 refine call_i (s_none hF1 (app_B (br_f rfl ?_)))
 obtain⟨bt,B0,q1,q2,q3,q4⟩:=id hF
 have q1':=g1.get q1
 (repeat (first|refine ptr_i ?_|refine z2 ?_|(refine al_i ?_;intro _ _ _ _ _)|refine z4 ?_|refine z5 ?_|(refine z6 ?_;intro _ _)|refine app_P ?_|refine app_I ?_|refine app_S ?_|refine app_B ?_|refine app_M ?_|refine app_L ?_|refine app_U ?_|refine app_R ?_|(refine app_of rfl ?_;try dsimp only)))
 refine call_i (s_Root _ (app_I ?_))
 refine al_i ?_;intro b15 σ2 g2 e2 n2
 have f15:σ b15=none:=none_of g1 n2
 have n515:b5≠b15:=ne_fr n2 (isSome_of e1)
 (refine st_i2 (by exact gA) szA (by rfl) (by rfl) ?_;intro _ _)
 rename_i σ3 p3
 have hF3:=(hF1.gr g2).put p3 (hF.fresh f15)
 have hg3:Lng σ σ3:=⟨(g1.trans g2).putF p3 f15⟩
 have k5:=p3.get n515 (g2.get e1)
 have k15:σ3 b15=some (.cells ⟨[.int .i64 8]⟩ 3 (0,0)):=p3.same
 clear p3 e1 e2
 have herr : ∀ (e:Int) σ4,Gr σ σ4->σ4 b5=some (.cells ⟨[.int .i64 0,.string ⟨⟨[]⟩⟩,.int .i64 0,.bool false]⟩ 65 (0,0))->res=(e,Pl.z) ->
  stW Tryz.prog 65 (.pointer (some ⟨b5,0,none⟩)) (.agg ⟨[.int .i64 0,.string ⟨⟨[]⟩⟩,.int .i64 0,.bool false]⟩) (rdT (rdA 4 b5 0) (.one (.agg [(.int .i64),.str,(.int .i64),.bool])) (fun(r16:Int) (r17:ByteArray) (r18:Int) (r19:Bool) =>
   (fun u σ'=>u=(.tuple ⟨[.agg ⟨plC res.2⟩,.int .i64 res.1]⟩:Value)/\Gr σ σ') (.tuple ⟨[.agg ⟨[.int .i64 r16,.string r17,.int .i64 r18,.bool r19]⟩,.int .i64 e]⟩))) σ4:=by
  intro e σ4 hg h5 he
  (refine st_i2 (by exact gA) szA (by rfl) (by rfl) ?_;intro _ _)
  rename_i σ5 p5
  refine rd_G (rdA_of' p5.same (by rfl)) ?_
  (refine app_of rfl ?_;try dsimp only)
  rw[he]
  exact⟨rfl,hg.putF p5 n1⟩
 unfold AT.locate at hres
 cases he:sEq path ⟨⟨[]⟩⟩ with
 | true =>
  rw[he]at hres
  refine br_t (by rw[<-sEq_eq];exact he) ?_
  exact herr 5 σ3 hg3.gr k5 hres.symm
 | false =>
  rw[he]at hres
  refine br_f (by rw[<-sEq_eq];exact he) ?_
  obtain⟨c,cr,hl⟩:=sEq_nil he
  have hc47:((c.toNat:Int)==47)=(c==47):=byte_eq c 47
  have hhd:=headIs_cons (c:=47) hl
  simp only[Bool.false_eq_true,if_false]at hres
  refine j_i (fun j => ∀a σ4,Gr σ σ4->FsAt σ4 bf A B->σ4 b5=some (.cells ⟨[.int .i64 0,.string ⟨⟨[]⟩⟩,.int .i64 0,.bool false]⟩ 65 (0,0))->σ4 b15=some (.cells ⟨[.int .i64 8]⟩ 3 (0,0))->res=((A.walk 10 a path follow 8).1,(A.walk 10 a path follow 8).2.1)->j (some ⟨bf,0,none⟩) path follow (some ⟨b5,0,none⟩) a (some ⟨b15,0,none⟩) σ4) ?_ ?_
  ·intro a σ4 hg h1 h5 h15 heq
   refine call_i (s_walk 10 h1 a path follow h15 (hF.fresh f15) (by decide) (by decide) (by decide) ?_)
   intro σ5 p5
   have h5':=p5.get n515 h5
   unfold plC
   (refine app_of rfl ?_;try dsimp only)
   (refine st_i2 (by exact gA) szA (by rfl) (by rfl) ?_;intro _ _)
   rename_i σ6 p6
   refine ptr_i (rd_G (rdA_of' p6.same (by rfl)) ?_)
   (refine app_of rfl ?_;try dsimp only)
   rw[heq]
   exact⟨rfl,(hg.putF p5 f15).putF p6 n1⟩
  ·intro j hj
   refine idx_l (c:=c) (by decide) (by rw[hl];rfl) ?_
   have hc47':((c.toNat:Int) != 47) = !(c==47):=by rw[bne,hc47]
   rw[hc47']
   cases hc:(c==47) with
   | true =>
    refine br_f rfl (hj 1 σ3 hg3.gr hF3 k5 k15 ?_)
    rw[hhd,hc]at hres;exact hres.symm
   | false =>
    rw[hhd,hc]at hres
    simp only[Bool.false_eq_true,if_false]at hres
    refine br_t rfl (call_i (x_HasPrefix _ _ (app_B ?_)))
    show brW (!([47].isPrefixOf cwd.data.toList)) _ _ _
    rw[prefix_head]
    cases hcw:headIs 47 cwd with
    | false =>
     rw[hcw]at hres
     exact br_t rfl (herr 5 σ3 hg3.gr k5 hres.symm)
    | true =>
     rw[hcw]at hres
     simp only[Bool.true_eq_false,if_false]at hres
     refine br_f rfl (call_i (s_walk 10 hF3 1 cwd true k15 (hF.fresh f15) (by decide) (by decide) (by decide) ?_))
     intro σ5 p5
     have h5':=p5.get n515 k5
     have hF5:=hF3.put p5 (hF.fresh f15)
     have hg5:Lng σ σ5:=⟨hg3.gr.putF p5 f15⟩
     have k15':=p5.same
     clear p5
     generalize hw:A.walk 10 1 cwd true 8=w at *
     obtain⟨we,wp,wh⟩:=w
     unfold plC
     simp only at *
     (refine app_of rfl ?_;try dsimp only)
     refine al_i ?_;intro b49 σ6 g6 e6 n6
     have f49:σ b49=none:=none_of hg5.gr n6
     have n549:b5≠b49:=ne_fr n6 (isSome_of h5')
     have n1549:b15≠b49:=ne_fr n6 (isSome_of k15')
     (refine st_i2 (by exact gA) szA (by rfl) (by rfl) ?_;intro _ _)
     rename_i σ7 p7
     have h7:=p7.get n549 (g6.get h5')
     have hF7:=(hF5.gr g6).put p7 (hF.fresh f49)
     have hg7:Lng σ σ7:=⟨(hg5.gr.trans g6).putF p7 f49⟩
     have k7:=p7.get n1549 (g6.get k15')
     by_cases hwe:we=0
     case neg =>
      rw[if_pos hwe]at hres
      exact br_t (by simpa using hwe) (herr we σ7 hg7.gr h7 hres.symm)
     subst hwe
     simp only[ne_eq,not_true_eq_false,if_false]at hres
     refine br_f rfl (rd_B (rdC_of p7.same (by rfl)) ?_)
     cases hth:wp.there with
     | false =>
      rw[hth]at hres
      exact br_t rfl (herr 5 σ7 hg7.gr h7 hres.symm)
     | true =>
      rw[hth]at hres
      simp only[Bool.true_eq_false,if_false]at hres
      refine br_f rfl (rd_I (rdC_of p7.same (by rfl)) (call_i (s_kind hF7 _ (app_I ?_))))
      by_cases hk:A.kind wp.ino=2
      case neg =>
       rw[if_pos hk]at hres
       exact br_t (by simpa using hk) (herr 8 σ7 hg7.gr h7 hres.symm)
      refine br_f (by simpa using hk) (rd_I (rdC_of p7.same (by rfl)) ?_)
      (refine st_i2 (by exact gA) szA (by rfl) (by rfl) ?_;intro _ _)
      rename_i σ8 p8
      refine hj wp.ino σ8 (hg7.gr.putF p8 f15) (hF7.put p8 (hF.fresh f15)) (p8.get n515 h7) p8.same ?_
      rw[if_neg (by simpa using hk)]at hres;exact hres.symm
theorem FsAt.lift {σ σ':H} {bf bt:Nat} {A':AT} {B B0 B0':Nat->Prop} (q1:σ bf=some (.cells ⟨[.pointer (some ⟨bt,0,none⟩)]⟩ 62 (0,0))) (q3:¬B0 bf) (q4:∀b,B b↔(B0 b\/b=bf)) (hT:TabAt σ' bt A' B0') (hS:Sep σ B0 σ' B0') : ∃B',FsAt σ' bf A' B'/\Sep σ B σ' B':=by
 obtain⟨h1,h2⟩:=hS bf _ q1 q3
 refine⟨fun b=>B0' b\/b=bf,⟨bt,B0',h1,hT,h2,fun _=>Iff.rfl⟩,?_⟩
 intro b o hb hn
 have n0 : ¬B0 b:=fun h=>hn ((q4 b).2 (.inl h))
 have nf:b≠bf:=fun h=>hn ((q4 b).2 (.inr h))
 obtain⟨k1,k2⟩:=hS b o hb n0
 refine⟨k1,?_⟩
 rintro (h | h)
 ·exact k2 h
 ·exact nf h
section
variable {σ : H} {bf : Nat} {A : AT} {B : Nat -> Prop}
theorem s_with (hF:FsAt σ bf A B) (cwd path:ByteArray) (follow:Bool) (f:Value) {K:KH}
 (h1:(A.with_ cwd path follow).1≠0 -> ∀σ',Gr σ σ'->K (.int .i64 (A.with_ cwd path follow).1) σ')
 (h2:(A.with_ cwd path follow).1=0 -> ∀σ',Gr σ σ'->cvalT Tryz.prog f [.int .i64 (A.with_ cwd path follow).2.1,.agg ⟨inV (A.with_ cwd path follow).2.2⟩] kI (fun x=>K (.int .i64 x)) σ') :
 callW Tryz.prog 68 [.pointer (some ⟨bf,0,none⟩),.string cwd,.string path,.bool follow,f] K σ:=by
 generalize hres:A.with_ cwd path follow=res at h1 h2
 unfold AT.with_ at hres
 refine c68 _ _ _ _ _ ?_
 unfold g68
 refine call_i (s_locate hF cwd path follow ?_)
 generalize A.locate cwd path follow=r at hres
 obtain⟨re,rp⟩:=r
 simp only at hres
 unfold plC
 (refine app_of rfl ?_;try dsimp only)
 refine al_i ?_;intro b11 σ1 g1 e1 n1
 (refine st_i2 (by exact gA) szA (by rfl) (by rfl) ?_;intro _ _)
 rename_i σ2 p2
 have hg2:Lng σ σ2:=⟨g1.putF p2 n1⟩
 have hF2:=(hF.gr g1).put p2 (hF.fresh n1)
 have k11:=p2.same
 clear p2
 by_cases he:re=0
 case neg =>
  rw[if_pos he]at hres;subst hres
  exact br_t (by simpa using he) (h1 he σ2 hg2.gr)
 subst he
 simp only[ne_eq,not_true_eq_false,if_false]at hres
 refine br_f rfl ?_
 obtain⟨bt,B0,q1,q2,q3,q4⟩:=id hF2
 (repeat (first|refine ptr_i ?_|refine z2 ?_|(refine al_i ?_;intro _ _ _ _ _)|refine z4 ?_|refine z5 ?_|(refine z6 ?_;intro _ _)|refine app_P ?_|refine app_I ?_|refine app_S ?_|refine app_B ?_|refine app_M ?_|refine app_L ?_|refine app_U ?_|refine app_R ?_|(refine app_of rfl ?_;try dsimp only)))
 refine call_i (t_Node q2 _ ?_)
 unfold inV
 (refine app_of rfl ?_;try dsimp only)
 refine al_i ?_;intro b21 σ3 g3 e3 n3
 have n1121:b11≠b21:=ne_fr n3 (isSome_of k11)
 (refine st_i2 (by exact gA) szA (by rfl) (by rfl) ?_;intro _ _)
 rename_i σ4 p4
 have hg4:Lng σ σ4:=⟨(hg2.gr.trans g3).putF p4 (none_of hg2.gr n3)⟩
 have k11':=p4.get n1121 (g3.get k11)
 have k21:=p4.same
 clear p4 g3 e3
 refine j_i (fun j => ∀t:Bool,((t=true/\res=(5,0,IN.z))\/(t=false/\res=(0,rp.ino,A.ino rp.ino)))->j f (some ⟨b11,0,none⟩) (some ⟨b21,0,none⟩) t σ4) ?_ ?_
 ·rintro t (⟨rfl,hr⟩ | ⟨rfl,hr⟩)
  ·subst hr
   exact br_t rfl (h1 (by decide) σ4 hg4.gr)
  ·subst hr
   refine br_f rfl (ptr_i (rd_I (rdC_of k11' (by rfl)) (ptr_i (rd_G (rdA_of' k21 (by rfl)) ?_))))
   have:=h2 rfl σ4 hg4.gr
   unfold inV at this
   (refine app_of rfl ?_;try dsimp only)
   exact this
 ·intro j hj
  refine rd_B (rdC_of k11' (by rfl)) ?_
  cases hth:rp.there with
  | false =>
   rw[hth]at hres
   exact br_t rfl (hj true (.inl ⟨rfl,hres.symm⟩))
  | true =>
   rw[hth]at hres
   simp only[Bool.true_eq_false,if_false]at hres
   refine br_f rfl (hj _ ?_)
   cases hg:A.get rp.ino with
   | none=>rw[hg]at hres;exact .inl ⟨rfl,hres.symm⟩
   | some n =>
    rw[hg]at hres
    refine .inr ⟨rfl,?_⟩
    rw[<-hres];unfold AT.ino;rw[hg];rfl
theorem with_err {cwd path:ByteArray} {follow:Bool} (h:(A.with_ cwd path follow).1≠0):(A.with_ cwd path follow).2.2=IN.z:=by
 unfold AT.with_ at h ⊢
 simp only at h ⊢
 split at h
 ·rename_i h1;rw[if_pos h1]
 ·rename_i h1
  rw[if_neg h1]
  split at h
  ·rename_i h2;rw[if_pos h2]
  ·rename_i h2
   rw[if_neg h2]
   split at h
   ·rfl
   ·exact absurd rfl h
theorem go_StatF1:isGo Tryz.prog 89=true:=by kernel_rfl
theorem go_ReadF1:isGo Tryz.prog 225=true:=by kernel_rfl
theorem go_ListF1:isGo Tryz.prog 69=true:=by kernel_rfl
theorem go_ChmodF1:isGo Tryz.prog 94=true:=by kernel_rfl
theorem go_MkdirF1:isGo Tryz.prog 26=true:=by kernel_rfl
theorem go_SymlinkF1:isGo Tryz.prog 34=true:=by kernel_rfl
theorem s_Stat (hF:FsAt σ bf A B) (cwd path:ByteArray) (follow:Bool) {K:KH}
 (hK:K (.tuple ⟨[.agg ⟨inV (A.stat cwd path follow).2⟩,.int .i64 (A.stat cwd path follow).1]⟩) σ) :
 callW Tryz.prog 35 [.pointer (some ⟨bf,0,none⟩),.string cwd,.string path,.bool follow] K σ:=by
 refine pure_i _ hK (c35 _ _ _ _ ?_)
 clear hK
 unfold g35
 unfold AT.stat
 simp only
 refine al_i ?_;intro b5 σ1 g1 e1 n1
 refine call_i (s_with (hF.gr g1) cwd path follow _ ?_ ?_)
 ·intro he σ2 g2
  refine app_I ?_
  rw[with_err he]
  have k5:=g2.get e1
  refine rd_G (rdA_of' k5 (by rfl)) ?_
  (refine app_of rfl ?_;try dsimp only)
  (refine st_i2 (by exact gA) szA (by rfl) (by rfl) ?_;intro _ _)
  rename_i σ3 p3
  refine rd_G (rdA_of' p3.same (by rfl)) ?_
  (refine app_of rfl ?_;try dsimp only)
  exact⟨rfl,(g1.trans g2).putF p3 n1⟩
 ·intro he σ2 g2
  rw[he]
  generalize (A.with_ cwd path follow).2.2=n
  have k5:=g2.get e1
  unfold inV
  refine cval_i go_StatF1 (c89 _ _ _ _ _ _ ?_)
  unfold g89
  refine al_i ?_;intro b7 σ3 g3 e3 n3
  refine rd_G (rdA_of' e3 (by rfl)) ?_
  (refine app_of rfl ?_;try dsimp only)
  have k5':=g3.get k5
  (refine st_i2 (by exact gA) szA (by rfl) (by rfl) ?_;intro _ _)
  rename_i σ4 p4
  refine app_I (app_I ?_)
  refine rd_G (rdA_of' p4.same (by rfl)) ?_
  (refine app_of rfl ?_;try dsimp only)
  have k:=p4.same
  (refine st_i2 (by exact gA) szA (by rfl) (by rfl) ?_;intro _ _)
  rename_i σ5 p5
  refine rd_G (rdA_of' p5.same (by rfl)) ?_
  (refine app_of rfl ?_;try dsimp only)
  exact⟨rfl,((((g1.trans g2).trans g3).putF p4 n1).putF p5 n1)⟩
theorem s_Read (hF:FsAt σ bf A B) (cwd path:ByteArray) {K:KH}
 (hK:K (.tuple ⟨[.string (A.read cwd path).2,.int .i64 (A.read cwd path).1]⟩) σ) :
 callW Tryz.prog 194 [.pointer (some ⟨bf,0,none⟩),.string cwd,.string path] K σ:=by
 refine pure_i _ hK (c194 _ _ _ ?_)
 clear hK
 unfold g194
 unfold AT.read
 simp only
 refine al_i ?_;intro b4 σ1 g1 e1 n1
 have fin : ∀σ2 (e:Int) (s:ByteArray),Lng σ σ2->σ2 b4=some (.cells ⟨[.string s]⟩ 9 (0,0))->(rdT (rdC b4 0) kS (fun(x6:ByteArray) =>
  stW Tryz.prog 9 (.pointer (some ⟨b4,0,none⟩)) (.string x6) (rdT (rdC b4 0) kS (fun(r7:ByteArray) =>
   (fun u σ'=>u=(.tuple ⟨[.string s,.int .i64 e]⟩:Value)/\Gr σ σ') (.tuple ⟨[.string r7,.int .i64 e]⟩))))) σ2:=by
  intro σ2 e s hg k
  refine rd_S (rdC_of k (by rfl)) ?_
  (refine st_i2 (by exact gA) szA (by rfl) (by rfl) ?_;intro _ _)
  rename_i σ3 p3
  refine rd_S (rdC_of p3.same (by rfl)) ?_
  exact⟨rfl,hg.gr.putF p3 n1⟩
 refine call_i (s_with (hF.gr g1) cwd path true _ ?_ ?_)
 ·intro he σ2 g2
  refine app_I ?_
  rw[if_pos he]
  exact fin σ2 _ _ ⟨g1.trans g2⟩ (g2.get e1)
 ·intro he σ2 g2
  rw[he]
  simp only[ne_eq,not_true_eq_false,if_false]
  generalize (A.with_ cwd path true).2.2=n
  have k4:=g2.get e1
  unfold inV
  refine cval_i go_ReadF1 (c225 _ _ _ _ _ _ ?_)
  unfold g225
  refine al_i ?_;intro b7 σ3 g3 e3 n3
  refine rd_I (rdC_of e3 (by rfl)) ?_
  by_cases hk:n.kind=2
  ·rw[if_pos hk]
   refine br_t (by simpa using hk) (app_I (app_I ?_))
   exact fin σ3 _ _ ⟨(g1.trans g2).trans g3⟩ (g3.get k4)
  ·rw[if_neg hk]
   refine br_f (by simpa using hk) (rd_S (rdC_of e3 (by rfl)) ?_)
   have k4':=g3.get k4
   (refine st_i2 (by exact gA) szA (by rfl) (by rfl) ?_;intro _ _)
   rename_i σ4 p4
   refine app_I (app_I ?_)
   exact fin σ4 _ _ ⟨((g1.trans g2).trans g3).putF p4 n1⟩ p4.same
theorem sz_strs:sizeT Tryz.prog 30=some 1:=by kernel_rfl
theorem namedE_size {s:ByteArray} (h:namedE s=0):s.size<=56:=by
 unfold namedE at h
 by_cases hl:s.size>56
 ·rw[if_pos hl]at h;cases h
 ·omega
theorem names_ok {N:Nat} (hI:Inv A) (hB:Bd N A) (hN:N<=1000000000000) (dir:Int) : ∀n,A.get dir=some n->(∀s∈keysL n.ents,s.size<=1000)/\n.ents.length<=1099511627776:=by
 intro n hn
 refine⟨fun s hs => ?_,by have:=hB.ents dir n hn;omega⟩
 cases hl:lk s n.ents with
 | none=>exact absurd hs (lk_none_iff.1 hl)
 | some j=>have:=namedE_size (hI.ent dir n s j hn hl).1;omega
theorem StrSl.gr {σ σ':H} {x:Sl} {l:List ByteArray} (h:StrSl σ x l) (hg:Gr σ σ'):StrSl σ' x l:=by
 obtain⟨h1,h2⟩:=h
 refine⟨h1,?_⟩
 rcases h2 with h2 | ⟨g,cur,e1,e2,e3⟩
 ·exact .inl h2
 ·exact .inr ⟨g,cur,e1,hg.get e2,e3⟩
theorem s_ListR {N:Nat} (hI:Inv A) (hB:Bd N A) (hN:N<=1000000000000) (hF:FsAt σ bf A B) (cwd path:ByteArray) {K:KH}
 (hK:∀x σ',RNew σ σ' 9 1 (strRows (A.listF cwd path).2) x->K (.tuple ⟨[.slice x.base x.len x.cap,.int .i64 (A.listF cwd path).1]⟩) σ') :
 callW Tryz.prog 23 [.pointer (some ⟨bf,0,none⟩),.string cwd,.string path] K σ:=by
 refine c23 _ _ _ ?_
 unfold g23
 unfold AT.listF at hK
 simp only at hK
 refine al_i ?_;intro b4 σ1 g1 e1 n1
 refine al_i ?_;intro b5 σ2 g2 e2 n2
 have f5:σ b5=none:=none_of g1 n2
 (repeat (first|refine ptr_i ?_|refine z2 ?_|(refine al_i ?_;intro _ _ _ _ _)|refine z4 ?_|refine z5 ?_|(refine z6 ?_;intro _ _)|refine app_P ?_|refine app_I ?_|refine app_S ?_|refine app_B ?_|refine app_M ?_|refine app_L ?_|refine app_U ?_|refine app_R ?_|(refine app_of rfl ?_;try dsimp only)))
 have nb : ∀ {τ:H} {x:Sl} {l:List ByteArray} {cs:List Value} {t:TypeId} {fz:Nat×Nat},RowsOwn τ 9 1 (strRows l) x->τ b5=some (.cells ⟨cs⟩ t fz)->t≠9->x.base≠some ⟨b5,0,none⟩:=by
  intro τ x l cs t fz h hb ht e
  obtain⟨_,_,⟨q,_⟩ | ⟨g,cur,q1,q2,_⟩⟩:=h
  ·rw[q]at e;cases e
  ·rw[q1]at e;cases e;rw[hb]at q2;cases q2;exact ht rfl
 have fin : ∀ σ3 (e : Int) (x : Sl) (l : List ByteArray), Lng σ σ3 -> σ3 b5 = some (.cells ⟨[.slice x.base x.len x.cap]⟩ 30 (0, 0)) -> RNew σ σ3 9 1 (strRows l) x -> (∀ x σ', RNew σ σ' 9 1 (strRows l) x -> K (.tuple ⟨[.slice x.base x.len x.cap, .int .i64 e]⟩) σ') -> (rdT (rdC b5 0) kL (fun (x8 : Sl) =>
      stW Tryz.prog 30 (.pointer (some ⟨b5,0,none⟩)) (.slice x8.base x8.len x8.cap) (rdT (rdC b5 0) kL (fun(r9:Sl) =>
       K (.tuple ⟨[.slice r9.base r9.len r9.cap,.int .i64 e]⟩))))) σ3:=by
  intro σ3 e x l hg k hs hk
  refine rd_L (rdC_of k (by rfl)) ?_
  refine st_i2 k sz_strs (by rfl) (by rfl) ?_;intro σ4 p4
  refine rd_L (rdC_of p4.same (by rfl)) ?_
  exact hk x σ4 (hs.putF p4 f5 (nb hs.2.1 k (by decide)))
 refine call_i (s_with ((hF.gr g1).gr g2) cwd path true _ ?_ ?_)
 ·intro he σ3 g3
  refine app_I ?_
  rw[if_pos he]at hK
  exact fin σ3 _ ⟨none,0,0⟩ [] ⟨(g1.trans g2).trans g3⟩ (g3.get e2) (RNew.nil' ((g1.trans g2).trans g3) _ _) hK
 ·intro he σ3 g3
  rw[he]at hK
  simp only[ne_eq,not_true_eq_false,if_false]at hK
  have k5:=g3.get e2
  have k4:=(g2.trans g3).get e1
  unfold inV
  refine cval_i go_ListF1 (c69 _ _ _ _ _ _ _ ?_)
  unfold g69
  refine al_i ?_;intro b8 σ4 g4 e4 n4
  refine rd_I (rdC_of e4 (by rfl)) ?_
  by_cases hk:(A.with_ cwd path true).2.2.kind=2
  case neg =>
   rw[if_pos hk]at hK
   refine br_t (by simpa using hk) (app_I (app_I ?_))
   exact fin σ4 _ ⟨none,0,0⟩ [] ⟨((g1.trans g2).trans g3).trans g4⟩ (g4.get k5) (RNew.nil' (((g1.trans g2).trans g3).trans g4) _ _) hK
  rw[if_neg (by simpa using hk)]at hK
  refine br_f (by simpa using hk) ?_
  obtain⟨bt,B0,q1,q2,q3,q4⟩:=id hF
  have hg4:Lng σ σ4:=⟨((g1.trans g2).trans g3).trans g4⟩
  refine ptr_i (rd_P (rdC_of (g4.get k4) (by rfl)) (ptr_i (rd_P (rdC_of (hg4.gr.get q1) (by rfl)) ?_)))
  refine call_i (s_NamesR (q2.gr hg4.gr) _ (names_ok hI hB hN _) ?_)
  intro x σ5 hx
  have g5:=hx.1
  refine app_L ?_
  have k5':=(g4.trans g5).get k5
  refine st_i2 k5' sz_strs (by rfl) (by rfl) ?_;intro σ6 p6
  refine app_I (app_I ?_)
  exact fin σ6 0 x _ ⟨(hg4.gr.trans g5).putF p6 f5⟩ p6.same ((hx.since hg4.gr).putF p6 f5 (nb hx.2.1 k5' (by decide))) hK
end
end Go.Proofs.YtbdlkofldmhoaaaGreatDoor

namespace Go.Wk
open Go Go.HL
theorem splitL_mem {c:UInt8} : ∀ {L l:List UInt8},l∈splitL c L->c∉l /\ ∀x∈l,x∈L:=by
 intro L
 induction L with
 | nil=>intro l h;simp[splitL]at h;subst h;simp
 | cons x r ih =>
  intro l h
  unfold splitL at h
  cases hx:(x==c) with
  | true =>
   rw[hx]at h
   simp only[List.mem_cons]at h
   rcases h with e | e
   ·subst e;simp
   ·obtain⟨h1,h2⟩:=ih e;exact⟨h1,fun y hy=>List.mem_cons_of_mem _ (h2 y hy)⟩
  | false =>
   rw[hx]at h
   have hxc:c≠x:=by intro e;subst e;simp at hx
   cases hs:splitL c r with
   | nil=>rw[hs]at h;simp at h;subst h;exact⟨by simpa using hxc,by simp⟩
   | cons a t =>
    rw[hs]at h
    simp only[List.mem_cons]at h
    rcases h with e | e
    ·subst e
     obtain⟨h1,h2⟩:=ih (l:=a) (by rw[hs];simp)
     refine⟨by simp[hxc,h1],fun y hy => ?_⟩
     rcases List.mem_cons.1 hy with e | e
     ·rw[e];simp
     ·exact List.mem_cons_of_mem _ (h2 y e)
    ·obtain⟨h1,h2⟩:=ih (l:=l) (by rw[hs];simp[e]);exact⟨h1,fun y hy=>List.mem_cons_of_mem _ (h2 y hy)⟩
def nameOk (s:ByteArray):Prop:=s≠⟨⟨[]⟩⟩/\s≠⟨⟨[46]⟩⟩/\badByte s=false
theorem sEq_false {a b:ByteArray} (h:a≠b):sEq a b=false:=by
 cases hs:sEq a b with
 | false=>rfl
 | true=>exact absurd (sEq_iff.1 hs) h
theorem partsB_ok {path:ByteArray} (h:hasNul path=false) : ∀n∈partsB path,nameOk n:=by
 intro n hn
 unfold partsB at hn
 rw[List.mem_filter]at hn
 obtain⟨h1,h2⟩:=hn
 obtain⟨l,hl,rfl⟩:=List.mem_map.1 h1
 obtain⟨h3,h4⟩:=splitL_mem hl
 unfold okPart at h2
 simp only[Bool.and_eq_true,Bool.not_eq_true']at h2
 refine⟨fun e => ?_,fun e => ?_,?_⟩
 ·have:=h2.1;rw[e]at this;exact absurd this (by decide)
 ·have:=h2.2;rw[e]at this;exact absurd this (by decide)
 ·unfold badByte
  rw[List.any_eq_false]
  intro x hx hb
  simp only[Bool.or_eq_true,beq_iff_eq]at hb
  rcases hb with e | e
  ·subst e;exact h3 hx
  ·subst e
   have:hasNul path=true:=by unfold hasNul;rw[List.any_eq_true];exact⟨0,h4 0 hx,by simp⟩
   rw[h]at this;cases this
theorem mayE_nul {path:ByteArray} (h:mayE path=0):hasNul path=false:=by
 unfold mayE at h
 cases h1:sEq path ⟨⟨[]⟩⟩ with
 | true=>rw[h1]at h;simp at h
 | false =>
  rw[h1]at h
  by_cases h2:path.size>255
  ·simp[h2]at h
  ·cases h3:hasNul path with
   | false=>rfl
   | true=>simp[h2,h3]at h
def PlOk (A:AT) (p:Pl):Prop:=A.isDir p.dir/\((p.name=⟨⟨[]⟩⟩/\p.there=true/\p.ino=p.dir)\/(nameOk p.name/\p.name≠⟨⟨[46,46]⟩⟩/\p.name.size<=56/\A.find p.dir p.name=if p.there then some p.ino else none))
theorem kind_dir {A:AT} {i:Int} (h:A.kind i=2):A.isDir i:=by
 unfold AT.kind at h
 cases hn:A.get i with
 | none=>rw[hn]at h;simp at h
 | some n=>rw[hn]at h;exact⟨n,hn,by simpa using h⟩
theorem dir_kind {A:AT} {i:Int} (h:A.isDir i):A.kind i=2:=by
 obtain⟨n,h1,h2⟩:=h
 unfold AT.kind;rw[h1];simpa using h2
theorem PlOk.self {A:AT} {d:Int} (h:A.isDir d):PlOk A ⟨d,⟨⟨[]⟩⟩,d,true⟩:=⟨h,.inl ⟨rfl,rfl,rfl⟩⟩
theorem PlOk.named {A:AT} {p:Pl} (h:PlOk A p) (hn:p.name≠⟨⟨[]⟩⟩):namedE p.name=0/\A.find p.dir p.name=if p.there then some p.ino else none:=by
 obtain⟨_,h | ⟨⟨a1,a2,a3⟩,a4,a5,a6⟩⟩:=h
 ·exact absurd h.1 hn
 ·refine⟨?_,a6⟩
  unfold namedE
  rw[if_neg (by omega),sEq_false a1,sEq_false a2,sEq_false a4,a3];rfl
theorem PlOk.notThere {A:AT} {p:Pl} (h:PlOk A p) (hn:p.there=false):p.name≠⟨⟨[]⟩⟩:=by
 obtain⟨_,h | ⟨⟨a1,_⟩,_⟩⟩:=h
 ·rw[h.2.1]at hn;cases hn
 ·exact a1
theorem steps_place {A:AT} (hI:Inv A) {go:Int->ByteArray->Int->Int×Pl×Int} {follow:Bool} (hgo:∀d s x,A.isDir d->(go d s x).1=0->PlOk A (go d s x).2.1) : ∀ (l:List ByteArray) (p:Pl) (h:Int),(∀n∈l,nameOk n)->PlOk A p->(A.steps go follow l p h).1=0->PlOk A (A.steps go follow l p h).2.1:=by
 intro l
 induction l with
 | nil=>intro p h _ hp _;exact hp
 | cons n r ih =>
  intro p h hl hp he
  have hl' : ∀n∈r,nameOk n:=fun m hm=>hl m (List.mem_cons_of_mem _ hm)
  cases h1:p.there with
  | false=>rw[steps_none h1]at he;cases he
  | true =>
   by_cases h2:A.kind p.ino=2
   case neg=>rw[steps_notdir h1 h2]at he;cases he
   have hd:=kind_dir h2
   cases h3:sEq n ⟨⟨[46,46]⟩⟩ with
   | true =>
    rw[steps_up h1 h2 h3]at he ⊢
    exact ih _ h hl' (PlOk.self (hI.isDir_up hd)) he
   | false =>
    by_cases h4:n.size>56
    ·rw[steps_long h1 h2 h3 h4]at he;cases he
    by_cases h5:(A.find p.ino n).isSome=false\/(r.isEmpty && !follow)=true\/A.kind ((A.find p.ino n).getD 0)≠3
    ·rw[steps_name h1 h2 h3 h4 h5]at he ⊢
     refine ih _ h hl' ⟨hd,.inr ⟨hl n (List.mem_cons_self ..),fun e => ?_,by show n.size<=56;omega,?_⟩⟩ he
     ·have e:n=⟨⟨[46,46]⟩⟩:=e
      rw[e]at h3;exact absurd h3 (by decide)
     ·show A.find p.ino n=_
      cases A.find p.ino n<;>rfl
    by_cases h6:h - 1<0
    ·rw[steps_loop h1 h2 h3 h4 h5 h6]at he;cases he
    by_cases h7:(go p.ino (A.data ((A.find p.ino n).getD 0)) (h - 1)).1=0
    ·rw[steps_link h1 h2 h3 h4 h5 h6 h7]at he ⊢
     exact ih _ _ hl' (hgo _ _ _ hd h7) he
    ·rw[steps_err h1 h2 h3 h4 h5 h6 h7]at he;exact absurd he h7
theorem walk_place {A:AT} (hI:Inv A) : ∀ (f:Nat) (d:Int) (s:ByteArray) (fo:Bool) (h:Int),A.isDir d->(A.walk f d s fo h).1=0->PlOk A (A.walk f d s fo h).2.1:=by
 intro f
 induction f with
 | zero=>intro d s fo h _ he;cases he
 | succ f ih =>
  intro d s fo h hd he
  rw[AT.walk]at he ⊢
  by_cases hm:mayE s=0
  case neg=>rw[if_pos hm]at he;exact absurd he hm
  rw[if_neg (by simpa using hm)]at he ⊢
  refine steps_place hI (fun d s x hd he=>ih d s true x hd he) _ _ _ (partsB_ok (mayE_nul hm)) (PlOk.self ?_) he
  cases headIs 47 s with
  | true=>exact hI.root_dir
  | false=>exact hd
theorem locate_place {A:AT} (hI:Inv A) (cwd path:ByteArray) (follow:Bool) (he:(A.locate cwd path follow).1=0):PlOk A (A.locate cwd path follow).2:=by
 unfold AT.locate at he ⊢
 cases h1:sEq path ⟨⟨[]⟩⟩ with
 | true=>rw[h1]at he;simp at he
 | false =>
  rw[h1]at he
  simp only[Bool.false_eq_true,if_false]at he ⊢
  cases h2:headIs 47 path with
  | true=>rw[h2]at he;exact walk_place hI 10 1 path follow 8 hI.root_dir he
  | false =>
   rw[h2]at he
   simp only[Bool.false_eq_true,if_false]at he ⊢
   cases h3:headIs 47 cwd with
   | false=>rw[h3]at he;simp at he
   | true =>
    rw[h3]at he
    simp only[Bool.true_eq_false,if_false]at he ⊢
    by_cases h4:(A.walk 10 1 cwd true 8).1=0
    case neg=>rw[if_pos h4]at he;exact absurd he h4
    rw[if_neg (by simpa using h4)]at he ⊢
    cases h5:(A.walk 10 1 cwd true 8).2.1.there with
    | false=>rw[h5]at he;simp at he
    | true =>
     rw[h5]at he
     simp only[Bool.true_eq_false,if_false]at he ⊢
     by_cases h6:A.kind (A.walk 10 1 cwd true 8).2.1.ino=2
     case neg=>rw[if_pos h6]at he;simp at he
     rw[if_neg (by simpa using h6)]at he ⊢
     exact walk_place hI 10 _ path follow 8 (kind_dir h6) he
theorem PlOk.get {A:AT} (hI:Inv A) {p:Pl} (h:PlOk A p) (ht:p.there=true) : ∃n,A.get p.ino=some n:=by
 obtain⟨hd,h | ⟨_,_,_,h⟩⟩:=h
 ·obtain⟨n,hn,_⟩:=hd;rw[h.2.2];exact⟨n,hn⟩
 ·rw[ht]at h
  obtain⟨_,_,_,_,_,m,hm,_⟩:=hI.find h
  exact⟨m,hm⟩
theorem Inv.deep13 {A:AT} (hI:Inv A) {d:Int} (h:A.isDir d) : ∃x,A.deep 13 d=some x/\A.deep 12 d=some x/\1<=x/\x<=12:=by
 obtain⟨x,hx⟩:=hI.deep d h
 exact⟨x,deep_mono hx,hx,deep_bound hx⟩
end Go.Wk

set_option maxRecDepth 100000
namespace Go.Proofs.YtbdlkofldmhoaaaGreatDoor
open Go Go.HL Go.Wk
attribute [local irreducible] ptrW ifW brW andW rdT alW letJ stW muW biW vaW imW callT cvalT app callW invW callVW sizeT oW nilF oneK loopW rfW funW begW roundK exW idxW Gr Put
theorem s_New (qi qb:Int) {σ:H} {K:KH} (hN:newOk qi qb=false->K (.pointer none) σ)
 (hK:newOk qi qb=true -> ∀bf σ' B',FsAt σ' bf (newT qi qb) B'->Gr σ σ'->(∀b,B' b->σ b=none)->K (.pointer (some ⟨bf,0,none⟩)) σ') :
 callW Tryz.prog 8 [.agg ⟨[.int .i64 qi,.int .i64 qb]⟩] K σ:=by
 refine callW.drop (K':=fun v σ'=>(newOk qi qb=false/\v = .pointer none/\Gr σ σ')\/(newOk qi qb=true/\K v σ')) ?_ ?_
 case refine_2 =>
  rintro v σ' (⟨h1,h2,h3⟩ | ⟨h1,h2⟩)
  ·exact⟨σ,h3,h2 ▸ hN h1⟩
  ·exact⟨σ',Gr.refl _,h2⟩
 refine c8 _ _ ?_
 unfold g8
 refine al_i ?_;intro b3 σ1 g1 e1 n1
 refine rd_G (rdA_of' e1 (by rfl)) ?_
 (refine app_of rfl ?_;try dsimp only)
 refine call_i (s_NewT qi qb ?_ ?_)
 ·intro h
  exact app_P (br_t rfl (.inl ⟨h,rfl,g1⟩))
 ·intro h bt σ2 B' hbt hT g2 hfr
  refine app_P (br_f rfl ?_)
  refine al_i ?_;intro b7 σ3 g3 e3 n3
  refine .inr ⟨h,hK h b7 σ3 (fun b=>B' b\/b=b7) ⟨bt,B',e3,hT.gr g3,hT.fresh n3,fun _=>Iff.rfl⟩ ((g1.trans g2).trans g3) ?_⟩
  rintro b (hb | rfl)
  ·exact none_of g1 (hfr b hb)
  ·exact none_of (g1.trans g2) n3
section
variable {σ : H} {bf : Nat} {A : AT} {B : Nat -> Prop}
theorem s_deep (hF:FsAt σ bf A B) {dir d:Int} {f:Nat} (hd:A.deep f dir=some d) (hf:f<=1000) {K:KH} (hK:K (.int .i64 d) σ):callW Tryz.prog 27 [.pointer (some ⟨bf,0,none⟩),.int .i64 dir] K σ:=by
 obtain⟨bt,B0,q1,q2,q3,q4⟩:=id hF
 refine c27 _ _ ?_
 unfold g27
 refine loop_i ?_
 intro R hR
 have key : ∀ (f:Nat) (dir d n:Int),A.deep f dir=some d->1<=n->n+f<=2000->K (.int .i64 (n+d - 1)) σ->R (some ⟨bf,0,none⟩) dir n σ:=by
  intro f
  induction f with
  | zero=>intro dir d n h;cases h
  | succ f ih =>
   intro dir d n h h1 h2 hk
   refine hR _ _ _ _ ?_
   (repeat (first|refine ptr_i ?_|refine z2 ?_|(refine al_i ?_;intro _ _ _ _ _)|refine z4 ?_|refine z5 ?_|(refine z6 ?_;intro _ _)|refine app_P ?_|refine app_I ?_|refine app_S ?_|refine app_B ?_|refine app_M ?_|refine app_L ?_|refine app_U ?_|refine app_R ?_|(refine app_of rfl ?_;try dsimp only)))
   refine call_i (s_Root _ (app_I ?_))
   unfold AT.deep at h
   by_cases e:dir=1
   ·rw[if_pos e]at h;cases h
    refine br_f (by simpa using e) ?_
    have:n+1 - 1=n:=by omega
    rw[this]at hk;exact hk
   ·rw[if_neg e]at h
    refine br_t (by simpa using e) ?_
    (repeat (first|refine ptr_i ?_|refine z2 ?_|(refine al_i ?_;intro _ _ _ _ _)|refine z4 ?_|refine z5 ?_|(refine z6 ?_;intro _ _)|refine app_P ?_|refine app_I ?_|refine app_S ?_|refine app_B ?_|refine app_M ?_|refine app_L ?_|refine app_U ?_|refine app_R ?_|(refine app_of rfl ?_;try dsimp only)))
    refine call_i (t_Up q2 _ (app_I ?_))
    cases hx:A.deep f (A.upOf dir) with
    | none=>rw[hx]at h;cases h
    | some x =>
     rw[hx]at h
     simp only[Option.map_some,Option.some.injEq]at h
     subst h
     rw[wrap_id (by omega) (by omega)]
     refine ih _ x (n+1) hx (by omega) (by omega) ?_
     have:n+1+x - 1=n+(x+1) - 1:=by omega
     rw[this];exact hk
 refine key f dir d 1 hd (by omega) (by omega) ?_
 have:1+d - 1=d:=by omega
 rw[this];exact hK
theorem s_fresh (hF:FsAt σ bf A B) (cwd path:ByteArray) (f:Value) {K:KH}
 (h1:(A.freshP cwd path).1≠0 -> ∀σ',Gr σ σ'->K (.int .i64 (A.freshP cwd path).1) σ')
 (h2:(A.freshP cwd path).1=0 -> ∀σ',Gr σ σ'->cvalT Tryz.prog f [.agg ⟨plC (A.freshP cwd path).2⟩] kI (fun x=>K (.int .i64 x)) σ') :
 callW Tryz.prog 25 [.pointer (some ⟨bf,0,none⟩),.string cwd,.string path,f] K σ:=by
 generalize hres:A.freshP cwd path=res at h1 h2
 unfold AT.freshP at hres
 refine c25 _ _ _ _ ?_
 unfold g25
 refine call_i (s_locate hF cwd path false ?_)
 generalize A.locate cwd path false=r at hres
 obtain⟨re,rp⟩:=r
 simp only at hres
 unfold plC
 (refine app_of rfl ?_;try dsimp only)
 refine al_i ?_;intro b10 σ1 g1 e1 n1
 (refine st_i2 (by exact gA) szA (by rfl) (by rfl) ?_;intro _ _)
 rename_i σ2 p2
 have hg2:Lng σ σ2:=⟨g1.putF p2 n1⟩
 have k:=p2.same
 by_cases he:re=0
 case neg =>
  rw[if_pos he]at hres;subst hres
  exact br_t (by simpa using he) (h1 he σ2 hg2.gr)
 subst he
 simp only[ne_eq,not_true_eq_false,if_false]at hres
 refine br_f rfl (rd_B (rdC_of k (by rfl)) ?_)
 cases hth:rp.there with
 | true =>
  rw[hth]at hres
  simp only[if_true]at hres;subst hres
  exact br_t rfl (h1 (by decide) σ2 hg2.gr)
 | false =>
  rw[hth]at hres
  simp only[Bool.false_eq_true,if_false]at hres;subst hres
  refine br_f rfl (rd_G (rdA_of' k (by rfl)) ?_)
  have:=h2 rfl σ2 hg2.gr
  unfold plC at this
  (refine app_of rfl ?_;try dsimp only)
  exact this
theorem freshP_ok (hI:Inv A) {cwd path:ByteArray} (h:(A.freshP cwd path).1=0):PlOk A (A.freshP cwd path).2/\(A.freshP cwd path).2.there=false:=by
 unfold AT.freshP at h ⊢
 simp only at h ⊢
 by_cases he:(A.locate cwd path false).1=0
 case neg=>rw[if_pos he]at h;exact absurd h he
 rw[if_neg (by simpa using he)]at h ⊢
 cases ht:(A.locate cwd path false).2.there with
 | true=>rw[ht]at h;simp at h
 | false=>exact⟨locate_place hI _ _ _ he,ht⟩
theorem f_Make {N:Nat} (hI:Inv A) (hB:Bd N A) (hN:N<=1000000000000) {bt:Nat} {B0:Nat->Prop} (q1:σ bf=some (.cells ⟨[.pointer (some ⟨bt,0,none⟩)]⟩ 62 (0,0))) (q2:TabAt σ bt A B0) (q3:¬B0 bf) (q4:∀b,B b↔(B0 b\/b=bf)) (dir:Int) (name:ByteArray) (kind mode:Int) (data:ByteArray) {K:KH}
 (hK:∀σ' B',FsAt σ' bf (A.makeR dir name kind mode data).2.2 B'->Sep σ B σ' B'->K (.tuple ⟨[.int .i64 (A.makeR dir name kind mode data).1,.int .i64 (A.makeR dir name kind mode data).2.1]⟩) σ') :
 callW Tryz.prog 28 [.pointer (some ⟨bt,0,none⟩),.int .i64 dir,.string name,.int .i64 kind,.int .i64 mode,.string data] K σ:=by
 refine s_Make iByte cAny q2 dir name kind mode data ?_ ?_
 ·have:=hB.last
  have:=hI.last_pos
  rw[wr_id (by omega) (by omega)]
  exact hI.fresh (by omega)
 ·intro σ' B' hT hS
  obtain⟨B1,h1,h2⟩:=FsAt.lift q1 q3 q4 hT hS
  exact hK σ' B1 h1 h2
theorem s_Mkdir {N:Nat} (hI:Inv A) (hB:Bd N A) (hN:N<=1000000000000) (hF:FsAt σ bf A B) (cwd path:ByteArray) {K:KH}
 (hK:∀σ' B',FsAt σ' bf (A.mkdirF cwd path).2 B'->Sep σ B σ' B'->K (.int .i64 (A.mkdirF cwd path).1) σ') :
 callW Tryz.prog 9 [.pointer (some ⟨bf,0,none⟩),.string cwd,.string path] K σ:=by
 refine c9 _ _ _ ?_
 unfold g9
 unfold AT.mkdirF at hK
 simp only at hK
 refine al_i ?_;intro b4 σ1 g1 e1 n1
 (repeat (first|refine ptr_i ?_|refine z2 ?_|(refine al_i ?_;intro _ _ _ _ _)|refine z4 ?_|refine z5 ?_|(refine z6 ?_;intro _ _)|refine app_P ?_|refine app_I ?_|refine app_S ?_|refine app_B ?_|refine app_M ?_|refine app_L ?_|refine app_U ?_|refine app_R ?_|(refine app_of rfl ?_;try dsimp only)))
 refine call_i (s_fresh (hF.gr g1) cwd path _ ?_ ?_)
 ·intro he σ2 g2
  refine app_I ?_
  rw[if_pos he]at hK
  exact hK σ2 B ((hF.gr g1).gr g2) (Sep.gr (g1.trans g2))
 ·intro he σ2 g2
  rw[if_neg (by simpa using he)]at hK
  obtain⟨⟨hd,hp⟩,ht⟩:=freshP_ok hI he
  generalize (A.freshP cwd path).2=p at *
  unfold plC
  refine cval_i go_MkdirF1 (c26 _ _ _ _ _ ?_)
  unfold g26
  refine al_i ?_;intro b6 σ3 g3 e3 n3
  have hg3:Lng σ σ3:=⟨(g1.trans g2).trans g3⟩
  have k4:=(g2.trans g3).get e1
  have hF3:=hF.gr hg3.gr
  refine ptr_i (rd_P (rdC_of k4 (by rfl)) (rd_I (rdC_of e3 (by rfl)) ?_))
  obtain⟨d,hd13,_,hd1,hd2⟩:=hI.deep13 hd
  rw[hd13]at hK
  simp only[Option.getD_some]at hK
  refine call_i (s_deep hF3 hd13 (by decide) (app_I ?_))
  by_cases hdd:d>=12
  ·rw[if_pos hdd]at hK
   exact br_t (by simpa using hdd) (app_I (app_I (hK σ3 B hF3 (Sep.gr hg3.gr))))
  ·rw[if_neg hdd]at hK
   obtain⟨bt,B0,q1,q2,q3,q4⟩:=id hF3
   refine br_f (by simpa using hdd) (ptr_i (rd_P (rdC_of k4 (by rfl)) (ptr_i (rd_P (rdC_of q1 (by rfl)) (rd_I (rdC_of e3 (by rfl)) (rd_S (rdC_of e3 (by rfl)) ?_))))))
   refine call_i (f_Make hI hB hN q1 q2 q3 q4 _ _ _ _ _ ?_)
   intro σ4 B4 hF4 hS
   exact app_II (app_I (app_I (hK σ4 B4 hF4 (hS.of_gr hg3.gr))))
theorem s_Symlink {N:Nat} (hI:Inv A) (hB:Bd N A) (hN:N<=1000000000000) (hF:FsAt σ bf A B) (cwd target path:ByteArray) {K:KH}
 (hK:∀σ' B',FsAt σ' bf (A.symlinkF cwd target path).2 B'->Sep σ B σ' B'->K (.int .i64 (A.symlinkF cwd target path).1) σ') :
 callW Tryz.prog 11 [.pointer (some ⟨bf,0,none⟩),.string cwd,.string target,.string path] K σ:=by
 refine c11 _ _ _ _ ?_
 unfold g11
 unfold AT.symlinkF at hK
 simp only at hK
 refine al_i ?_;intro b5 σ1 g1 e1 n1
 refine al_i ?_;intro b6 σ2 g2 e2 n2
 have hg2:Lng σ σ2:=⟨g1.trans g2⟩
 have hF2:=hF.gr hg2.gr
 (repeat (first|refine ptr_i ?_|refine z2 ?_|(refine al_i ?_;intro _ _ _ _ _)|refine z4 ?_|refine z5 ?_|(refine z6 ?_;intro _ _)|refine app_P ?_|refine app_I ?_|refine app_S ?_|refine app_B ?_|refine app_M ?_|refine app_L ?_|refine app_U ?_|refine app_R ?_|(refine app_of rfl ?_;try dsimp only)))
 refine call_i (s_none hF2 (app_B (br_f rfl ?_)))
 refine j_i (fun j => ∀t:Bool,t = !linkOk target->j cwd path (some ⟨b5,0,none⟩) (some ⟨b6,0,none⟩) t σ2) ?_ ?_
 ·intro t ht
  cases hl:linkOk target with
  | false =>
   rw[hl]at ht hK;subst ht
   exact br_t rfl (hK σ2 B hF2 (Sep.gr hg2.gr))
  | true =>
   rw[hl]at ht hK;subst ht
   simp only[Bool.true_eq_false,if_false]at hK
   refine br_f rfl ?_
   (repeat (first|refine ptr_i ?_|refine z2 ?_|(refine al_i ?_;intro _ _ _ _ _)|refine z4 ?_|refine z5 ?_|(refine z6 ?_;intro _ _)|refine app_P ?_|refine app_I ?_|refine app_S ?_|refine app_B ?_|refine app_M ?_|refine app_L ?_|refine app_U ?_|refine app_R ?_|(refine app_of rfl ?_;try dsimp only)))
   refine call_i (s_fresh hF2 cwd path _ ?_ ?_)
   ·intro he σ3 g3
    refine app_I ?_
    rw[if_pos he]at hK
    exact hK σ3 B (hF2.gr g3) (Sep.gr (hg2.gr.trans g3))
   ·intro he σ3 g3
    rw[if_neg (by simpa using he)]at hK
    generalize (A.freshP cwd path).2=p at *
    unfold plC
    refine cval_i go_SymlinkF1 (c34 _ _ _ _ _ _ ?_)
    unfold g34
    refine al_i ?_;intro b7 σ4 g4 e4 n4
    have hg4:Lng σ σ4:=⟨(hg2.gr.trans g3).trans g4⟩
    have k5:=((g2.trans g3).trans g4).get e1
    have k6:=(g3.trans g4).get e2
    obtain⟨bt,B0,q1,q2,q3,q4⟩:=hF.gr hg4.gr
    refine ptr_i (rd_P (rdC_of k5 (by rfl)) (ptr_i (rd_P (rdC_of q1 (by rfl)) (rd_I (rdC_of e4 (by rfl)) (rd_S (rdC_of e4 (by rfl)) (ptr_i (rd_S (rdC_of k6 (by rfl)) ?_)))))))
    refine call_i (f_Make hI hB hN q1 q2 q3 q4 _ _ _ _ _ ?_)
    intro σ5 B5 hF5 hS
    exact app_II (app_I (app_I (hK σ5 B5 hF5 (hS.of_gr hg4.gr))))
 ·intro j hj
  unfold linkOk at hj
  rw[sEq_eq]at hj
  refine rd_S (rdC_of e2 (by rfl)) ?_
  cases h1:strEq target ⟨⟨[]⟩⟩ with
  | true=>rw[h1]at hj;exact br_t rfl (hj true rfl)
  | false =>
   rw[h1]at hj
   refine br_f rfl (rd_S (rdC_of e2 (by rfl)) ?_)
   by_cases h2:target.size<=255
   ·refine br_f (by simp;omega) (rd_S (rdC_of e2 (by rfl)) (call_i (iByte _ _ _ ?_)))
    intro n hn
    refine app_I (hj _ ?_)
    have:decide (n>=0) = !decide (n<0):=by by_cases h:n<0<;>simp[h]<;>omega
    rw[this,hn];simp[h2]
   ·exact br_t (by simp;omega) (hj true (by simp[h2]))
theorem s_Write {N:Nat} (hI:Inv A) (hB:Bd N A) (hN:N<=1000000000000) (hF:FsAt σ bf A B) (cwd path data:ByteArray) (more:Bool) (hd:data.size<=1000000000000000) {K:KH}
 (hK:∀σ' B',FsAt σ' bf (A.writeF cwd path data more).2 B'->Sep σ B σ' B'->K (.int .i64 (A.writeF cwd path data more).1) σ') :
 callW Tryz.prog 10 [.pointer (some ⟨bf,0,none⟩),.string cwd,.string path,.string data,.bool more] K σ:=by
 refine c10 _ _ _ _ _ ?_
 unfold g10
 unfold AT.writeF at hK
 simp only at hK
 refine call_i (s_locate hF cwd path true ?_)
 generalize A.locate cwd path true=r at hK
 obtain⟨re,p⟩:=r
 simp only at hK
 unfold plC
 (refine app_of rfl ?_;try dsimp only)
 refine al_i ?_;intro b11 σ1 g1 e1 n1
 (refine st_i2 (by exact gA) szA (by rfl) (by rfl) ?_;intro _ _)
 rename_i σ2 p2
 have hg2:Lng σ σ2:=⟨g1.putF p2 n1⟩
 have hF2:=hF.gr hg2.gr
 have k:=p2.same
 clear p2
 by_cases he:re=0
 case neg =>
  rw[if_pos he]at hK
  exact br_t (by simpa using he) (hK σ2 B hF2 (Sep.gr hg2.gr))
 subst he
 simp only[ne_eq,not_true_eq_false,if_false]at hK
 refine br_f rfl (rd_B (rdC_of k (by rfl)) ?_)
 obtain⟨bt,B0,q1,q2,q3,q4⟩:=id hF2
 cases hth:p.there with
 | false =>
  rw[hth]at hK
  simp only[if_true]at hK
  refine br_t rfl (ptr_i (rd_P (rdC_of q1 (by rfl)) (rd_I (rdC_of k (by rfl)) (rd_S (rdC_of k (by rfl)) ?_))))
  refine call_i (f_Make hI hB hN q1 q2 q3 q4 _ _ _ _ _ ?_)
  intro σ3 B3 hF3 hS
  exact app_II (hK σ3 B3 hF3 (hS.of_gr hg2.gr))
 | true =>
  rw[hth]at hK
  simp only[Bool.true_eq_false,if_false]at hK
  refine br_f rfl (ptr_i (rd_P (rdC_of q1 (by rfl)) (rd_I (rdC_of k (by rfl)) ?_)))
  refine call_i (t_Node q2 _ ?_)
  unfold inV
  (refine app_of rfl ?_;try dsimp only)
  refine al_i ?_;intro b29 σ3 g3 e3 n3
  have n1129:b11≠b29:=ne_fr n3 (isSome_of k)
  (refine st_i2 (by exact gA) szA (by rfl) (by rfl) ?_;intro _ _)
  rename_i σ4 p4
  have hg4:Lng σ σ4:=⟨(hg2.gr.trans g3).putF p4 (none_of hg2.gr n3)⟩
  have k':=p4.get n1129 (g3.get k)
  have k29:=p4.same
  clear p4
  refine rd_I (rdC_of k29 (by rfl)) ?_
  rw[ino_kind]
  by_cases hk2:A.kind p.ino=2
  ·rw[if_pos hk2]at hK
   exact br_t (by simpa using hk2) (hK σ4 B (hF.gr hg4.gr) (Sep.gr hg4.gr))
  ·rw[if_neg hk2]at hK
   refine br_f (by simpa using hk2) ?_
   obtain⟨bt,B0,q1,q2,q3,q4⟩:=hF.gr hg4.gr
   refine j_i (fun j=>j (some ⟨bf,0,none⟩) (if more then A.data p.ino++data else data) (some ⟨b11,0,none⟩) σ4) ?_ ?_
   ·refine ptr_i (rd_P (rdC_of q1 (by rfl)) (ptr_i (rd_I (rdC_of k' (by rfl)) ?_)))
    refine call_i (s_WriteT q2 _ _ ?_)
    intro σ5 B5 hT hS
    obtain⟨B6,h1,h2⟩:=FsAt.lift q1 q3 q4 hT hS
    exact app_I (hK σ5 B6 h1 (h2.of_gr hg4.gr))
   ·intro j hj
    cases more with
    | false=>exact br_f rfl hj
    | true =>
     refine br_t rfl (rd_S (rdC_of k29 (by rfl)) ?_)
     rw[ino_data]
     refine if_i ?_ hj
     have hsz:(A.data p.ino).size<=1073741824:=by
      unfold AT.data
      cases hg:A.get p.ino with
      | none=>decide
      | some n =>
       have h1:=hI.size_le hg
       have h2:=hI.bq
       show n.data.size<=_
       omega
     show(A.data p.ino).size+data.size<=_
     omega
theorem s_Chmod (hF:FsAt σ bf A B) (cwd path:ByteArray) (mode:Int) {K:KH}
 (hK:∀σ' B',FsAt σ' bf (A.chmodF cwd path mode).2 B'->Sep σ B σ' B'->K (.int .i64 (A.chmodF cwd path mode).1) σ') :
 callW Tryz.prog 39 [.pointer (some ⟨bf,0,none⟩),.string cwd,.string path,.int .i64 mode] K σ:=by
 refine c39 _ _ _ _ ?_
 unfold g39
 unfold AT.chmodF at hK
 simp only at hK
 refine al_i ?_;intro b5 σ1 g1 e1 n1
 refine al_i ?_;intro b6 σ2 g2 e2 n2
 have hg2:Lng σ σ2:=⟨g1.trans g2⟩
 have hF2:=hF.gr hg2.gr
 (repeat (first|refine ptr_i ?_|refine z2 ?_|(refine al_i ?_;intro _ _ _ _ _)|refine z4 ?_|refine z5 ?_|(refine z6 ?_;intro _ _)|refine app_P ?_|refine app_I ?_|refine app_S ?_|refine app_B ?_|refine app_M ?_|refine app_L ?_|refine app_U ?_|refine app_R ?_|(refine app_of rfl ?_;try dsimp only)))
 refine call_i (s_none hF2 (app_B (br_f rfl ?_)))
 refine j_i (fun j => ∀t:Bool,(t=true↔mode<0\/mode>511)->j cwd path (some ⟨b5,0,none⟩) (some ⟨b6,0,none⟩) t σ2) ?_ ?_
 ·intro t ht
  cases t with
  | true =>
   rw[if_pos (ht.1 rfl)]at hK
   exact br_t rfl (hK σ2 B hF2 (Sep.gr hg2.gr))
  | false =>
   rw[if_neg (fun h=>by have:=ht.2 h;cases this)]at hK
   refine br_f rfl ?_
   (repeat (first|refine ptr_i ?_|refine z2 ?_|(refine al_i ?_;intro _ _ _ _ _)|refine z4 ?_|refine z5 ?_|(refine z6 ?_;intro _ _)|refine app_P ?_|refine app_I ?_|refine app_S ?_|refine app_B ?_|refine app_M ?_|refine app_L ?_|refine app_U ?_|refine app_R ?_|(refine app_of rfl ?_;try dsimp only)))
   refine call_i (s_with hF2 cwd path true _ ?_ ?_)
   ·intro he σ3 g3
    refine app_I ?_
    rw[if_pos he]at hK
    exact hK σ3 B (hF2.gr g3) (Sep.gr (hg2.gr.trans g3))
   ·intro he σ3 g3
    rw[if_neg (by simpa using he)]at hK
    unfold inV
    refine cval_i go_ChmodF1 (c94 _ _ _ _ _ _ _ ?_)
    unfold g94
    refine al_i ?_;intro b7 σ4 g4 e4 n4
    have hg4:Lng σ σ4:=⟨(hg2.gr.trans g3).trans g4⟩
    have k5:=((g2.trans g3).trans g4).get e1
    have k6:=(g3.trans g4).get e2
    obtain⟨bt,B0,q1,q2,q3,q4⟩:=hF.gr hg4.gr
    refine ptr_i (rd_P (rdC_of k5 (by rfl)) (ptr_i (rd_P (rdC_of q1 (by rfl)) (ptr_i (rd_I (rdC_of k6 (by rfl)) ?_)))))
    refine call_i (s_ChmodT q2 _ _ ?_)
    intro σ5 B5 hT hS
    obtain⟨B6,h1,h2⟩:=FsAt.lift q1 q3 q4 hT hS
    exact app_I (app_I (app_I (hK σ5 B6 h1 (h2.of_gr hg4.gr))))
 ·intro j hj
  refine rd_I (rdC_of e2 (by rfl)) ?_
  by_cases h1:mode<0
  ·exact br_t (by simpa using h1) (hj true (by simp[h1]))
  ·exact br_f (by simpa using h1) (rd_I (rdC_of e2 (by rfl)) (hj _ (by simp[h1])))
theorem s_Remove {N:Nat} (hI:Inv A) (hB:Bd N A) (hN:N<=1000000000000) (hF:FsAt σ bf A B) (cwd path:ByteArray) {K:KH}
 (hK:∀σ' B',FsAt σ' bf (A.removeF cwd path).2 B'->Sep σ B σ' B'->K (.int .i64 (A.removeF cwd path).1) σ') :
 callW Tryz.prog 104 [.pointer (some ⟨bf,0,none⟩),.string cwd,.string path] K σ:=by
 refine c104 _ _ _ ?_
 unfold g104
 unfold AT.removeF at hK
 simp only at hK
 refine call_i (s_locate hF cwd path false ?_)
 generalize A.locate cwd path false=r at hK
 obtain⟨re,p⟩:=r
 simp only at hK
 unfold plC
 (refine app_of rfl ?_;try dsimp only)
 refine al_i ?_;intro b9 σ1 g1 e1 n1
 (refine st_i2 (by exact gA) szA (by rfl) (by rfl) ?_;intro _ _)
 rename_i σ2 p2
 have hg2:Lng σ σ2:=⟨g1.putF p2 n1⟩
 have hF2:=hF.gr hg2.gr
 have k:=p2.same
 clear p2
 by_cases he:re=0
 case neg =>
  rw[if_pos he]at hK
  exact br_t (by simpa using he) (hK σ2 B hF2 (Sep.gr hg2.gr))
 subst he
 simp only[ne_eq,not_true_eq_false,if_false]at hK
 refine br_f rfl (rd_B (rdC_of k (by rfl)) ?_)
 obtain⟨bt,B0,q1,q2,q3,q4⟩:=id hF2
 cases hth:p.there with
 | false=>rw[hth]at hK;exact br_t rfl (hK σ2 B hF2 (Sep.gr hg2.gr))
 | true =>
  rw[hth]at hK
  simp only[Bool.true_eq_false,if_false]at hK
  refine br_f rfl (rd_S (rdC_of k (by rfl)) ?_)
  rw[sEq_eq]at hK
  cases hn:strEq p.name ⟨⟨[]⟩⟩ with
  | true=>rw[hn]at hK;exact br_t rfl (hK σ2 B hF2 (Sep.gr hg2.gr))
  | false =>
   rw[hn]at hK
   simp only[Bool.false_eq_true,if_false]at hK
   refine br_f rfl (ptr_i (rd_P (rdC_of q1 (by rfl)) (rd_I (rdC_of k (by rfl)) ?_)))
   refine call_i (s_Names q2 _ (names_ok hI hB hN _) ?_)
   intro x σ3 g3 hx
   refine app_L ?_
   have hlen:x.len=(A.names p.ino).length:=hx.1
   have hg3:Lng σ σ3:=⟨hg2.gr.trans g3⟩
   have k':=g3.get k
   by_cases hl:(A.names p.ino).length>0
   ·rw[if_pos hl]at hK
    exact br_t (by rw[hlen];simp only[decide_eq_true_eq];omega) (hK σ3 B (hF.gr hg3.gr) (Sep.gr hg3.gr))
   ·rw[if_neg hl]at hK
    obtain⟨bt,B0,q1,q2,q3,q4⟩:=hF.gr hg3.gr
    refine br_f (by rw[hlen];simp only[decide_eq_false_iff_not];omega) (ptr_i (rd_P (rdC_of q1 (by rfl)) (rd_I (rdC_of k' (by rfl)) (rd_S (rdC_of k' (by rfl)) ?_))))
    refine call_i (s_Unlink q2 _ _ ?_ hI.nodup ?_)
    ·intro j hj
     obtain⟨_,_,_,_,_,m,hm,_⟩:=hI.find hj
     rw[hm];rfl
    ·intro σ4 B4 hT hS
     obtain⟨B6,h1,h2⟩:=FsAt.lift q1 q3 q4 hT hS
     exact app_I (hK σ4 B6 h1 (h2.of_gr hg3.gr))
theorem s_both (hF:FsAt σ bf A B) (cwd src tq:ByteArray) {K:KH}
 (hK:K (.tuple ⟨[.agg ⟨plC (A.both cwd src tq).2.1⟩,.agg ⟨plC (A.both cwd src tq).2.2⟩,.int .i64 (A.both cwd src tq).1]⟩) σ) :
 callW Tryz.prog 157 [.pointer (some ⟨bf,0,none⟩),.string cwd,.string src,.string tq] K σ:=by
 generalize hres:A.both cwd src tq=res at hK
 unfold AT.both at hres
 refine pure_i _ hK (c157 _ _ _ _ ?_)
 clear hK
 unfold g157
 refine al_i ?_;intro b5 σ1 g1 e1 n1
 refine al_i ?_;intro b6 σ2 g2 e2 n2
 have n56:b5≠b6:=ne_fr n2 (isSome_of e1)
 have f6:σ b6=none:=none_of g1 n2
 have hg2:Lng σ σ2:=⟨g1.trans g2⟩
 have k5:=g2.get e1
 refine j_i (fun j => ∀τ p q e,res=(e,p,q)->τ b5=some (.cells ⟨plC p⟩ 65 (0,0))->τ b6=some (.cells ⟨plC q⟩ 65 (0,0))->Gr σ τ->j (some ⟨b5,0,none⟩) (some ⟨b6,0,none⟩) e τ) ?_ ?_
 ·intro τ p q e hr h5 h6 hg
  unfold plC at h5 h6
  refine ptr_i (rd_G (rdA_of' h5 (by rfl)) ?_)
  (refine app_of rfl ?_;try dsimp only)
  refine ptr_i (rd_G (rdA_of' h6 (by rfl)) ?_)
  (refine app_of rfl ?_;try dsimp only)
  refine st_i2 h5 sz_place (by rfl) (by rfl) ?_;intro τ1 r1
  have h6':=r1.get n56.symm h6
  refine and_i (rdA_of' h6' (by rfl)) ?_
  refine st_i2 h6' sz_place (by rfl) (by rfl) ?_;intro τ2 r2
  refine ptr_i (rd_G (rdA_of' (r2.get n56 r1.same) (by rfl)) ?_)
  (refine app_of rfl ?_;try dsimp only)
  refine ptr_i (rd_G (rdA_of' r2.same (by rfl)) ?_)
  (refine app_of rfl ?_;try dsimp only)
  rw[hr]
  exact⟨rfl,(hg.putF r1 n1).putF r2 f6⟩
 ·intro j hj
  refine call_i (s_locate (hF.gr hg2.gr) cwd src false ?_)
  generalize A.locate cwd src false=r at hres
  obtain⟨re,p⟩:=r
  simp only at hres
  unfold plC
  (refine app_of rfl ?_;try dsimp only)
  refine st_i2 k5 sz_place (by rfl) (by rfl) ?_;intro σ3 p3
  have k6:=p3.get n56.symm e2
  have hg3:Lng σ σ3:=⟨hg2.gr.putF p3 n1⟩
  by_cases he:re=0
  ·subst he
   simp only[ne_eq,not_true_eq_false,if_false]at hres
   refine br_t rfl ?_
   refine call_i (s_locate (hF.gr hg3.gr) cwd tq false ?_)
   generalize A.locate cwd tq false=r at hres
   obtain⟨qe,q⟩:=r
   simp only at hres
   unfold plC
   (refine app_of rfl ?_;try dsimp only)
   refine st_i2 k6 sz_place (by rfl) (by rfl) ?_;intro σ4 p4
   exact hj σ4 p q qe hres.symm (p4.get n56 p3.same) p4.same (hg3.gr.putF p4 f6)
  ·rw[if_pos he]at hres
   refine br_f (by simpa using he) ?_
   exact hj σ3 p Pl.z re hres.symm p3.same k6 hg3.gr
theorem s_Hard (hF:FsAt σ bf A B) (cwd src tq:ByteArray) {K:KH}
 (hK:∀σ' B',FsAt σ' bf (A.hardF cwd src tq).2 B'->Sep σ B σ' B'->K (.int .i64 (A.hardF cwd src tq).1) σ') :
 callW Tryz.prog 109 [.pointer (some ⟨bf,0,none⟩),.string cwd,.string src,.string tq] K σ:=by
 refine c109 _ _ _ _ ?_
 unfold g109
 unfold AT.hardF at hK
 simp only at hK
 refine call_i (s_both hF cwd src tq ?_)
 generalize A.both cwd src tq=r at hK
 obtain⟨re,p,q⟩:=r
 simp only at hK
 unfold plC
 (refine app_of rfl ?_;try dsimp only)
 refine al_i ?_;intro b14 σ1 g1 e1 n1
 refine al_i ?_;intro b15 σ2 g2 e2 n2
 have n1415:b14≠b15:=ne_fr n2 (isSome_of e1)
 have k14:=g2.get e1
 refine st_i2 k14 sz_place (by rfl) (by rfl) ?_;intro σ3 p3
 have k15:=p3.get n1415.symm e2
 refine st_i2 k15 sz_place (by rfl) (by rfl) ?_;intro σ4 p4
 have hg4:Lng σ σ4:=⟨((g1.trans g2).putF p3 n1).putF p4 (none_of g1 n2)⟩
 have h14:=p4.get n1415 p3.same
 have h15:=p4.same
 have hF4:=hF.gr hg4.gr
 clear p3 p4
 by_cases he:re=0
 case neg =>
  rw[if_pos he]at hK
  exact br_t (by simpa using he) (hK σ4 B hF4 (Sep.gr hg4.gr))
 subst he
 simp only[ne_eq,not_true_eq_false,if_false]at hK
 refine br_f rfl (rd_B (rdC_of h14 (by rfl)) ?_)
 cases hth:p.there with
 | false=>rw[hth]at hK;exact br_t rfl (hK σ4 B hF4 (Sep.gr hg4.gr))
 | true =>
  rw[hth]at hK
  simp only[Bool.true_eq_false,if_false]at hK
  refine br_f rfl (rd_I (rdC_of h14 (by rfl)) (call_i (s_kind hF4 _ (app_I ?_))))
  by_cases h2:A.kind p.ino=2
  ·rw[if_pos h2]at hK;exact br_t (by simpa using h2) (hK σ4 B hF4 (Sep.gr hg4.gr))
  rw[if_neg h2]at hK
  refine br_f (by simpa using h2) (rd_I (rdC_of h14 (by rfl)) (call_i (s_kind hF4 _ (app_I ?_))))
  by_cases h3:A.kind p.ino=3
  ·rw[if_pos h3]at hK;exact br_t (by simpa using h3) (hK σ4 B hF4 (Sep.gr hg4.gr))
  rw[if_neg h3]at hK
  refine br_f (by simpa using h3) (rd_B (rdC_of h15 (by rfl)) ?_)
  cases hq:q.there with
  | true=>rw[hq]at hK;exact br_t rfl (hK σ4 B hF4 (Sep.gr hg4.gr))
  | false =>
   rw[hq]at hK
   simp only[Bool.false_eq_true,if_false]at hK
   obtain⟨bt,B0,q1,q2,q3,q4⟩:=id hF4
   refine br_f rfl (ptr_i (rd_P (rdC_of q1 (by rfl)) (rd_I (rdC_of h15 (by rfl)) (rd_S (rdC_of h15 (by rfl)) (rd_I (rdC_of h14 (by rfl)) ?_)))))
   refine call_i (s_Link cAny q2 _ _ _ ?_)
   intro σ5 B5 hT hS
   obtain⟨B6,h1,h2⟩:=FsAt.lift q1 q3 q4 hT hS
   exact app_I (hK σ5 B6 h1 (h2.of_gr hg4.gr))
end
end Go.Proofs.YtbdlkofldmhoaaaGreatDoor

namespace Go.Wk
open Go Go.HL
inductive Tr where
 | mk (name:ByteArray) (kind:Int) (exec:Bool) (data:ByteArray) (kids:List Tr)
def Tr.name:Tr->ByteArray | .mk n _ _ _ _=>n
def Tr.kind:Tr->Int | .mk _ k _ _ _=>k
def Tr.exec:Tr->Bool | .mk _ _ e _ _=>e
def Tr.data:Tr->ByteArray | .mk _ _ _ d _=>d
def Tr.kids:Tr->List Tr | .mk _ _ _ _ l=>l
def gr (d x:Int):Int:=if x>d then x else d
def Tr.deep:Nat->Tr->Int
 | 0,_=>1
 | m+1,t=>if t.kind≠2\/m=0 then 1 else t.kids.foldl (fun d x=>gr d (1+Tr.deep m x)) 1
def Tr.tooDeep (t:Tr):Bool:=decide (t.deep 14>12)
def mayName (s:ByteArray):Bool:=decide (1<=s.size)&&(decide (s.size<=56)&&(!badByte s&&(!sEq s ⟨⟨[46]⟩⟩ && !sEq s ⟨⟨[46,46]⟩⟩)))
def ltB (a b:ByteArray):Bool := !leB b.data.toList a.data.toList
def above (prev:Option ByteArray) (s:ByteArray):Bool:=match prev with
 | none=>true
 | some p=>ltB p s
mutual
def Tr.may:Tr->Bool
 | .mk _ k e d kids=>if k=1 then kids.isEmpty else if k=3 then kids.isEmpty&&(!e&&linkOk d)else if k=2 then !e&&(sEq d ⟨⟨[]⟩⟩&&Tr.mayRow none kids)else false
def Tr.mayRow:Option ByteArray->List Tr->Bool
 | _,[]=>true
 | prev,t::r=>mayName t.name&&(Tr.may t&&(above prev t.name&&Tr.mayRow (some t.name) r))
end
mutual
def Tr.size:Tr->Int×Int
 | .mk _ _ _ d kids=>Tr.sizeRow kids (1,d.size)
def Tr.sizeRow:List Tr->Int×Int->Int×Int
 | [],a=>a
 | t::r,a=>Tr.sizeRow r (if t.tooDeep=true then a else(a.1+(Tr.size t).1,a.2+(Tr.size t).2))
end
mutual
def Tr.total:Tr->Nat
 | .mk n _ _ d kids=>1+n.size+d.size+Tr.totalRow kids
def Tr.totalRow:List Tr->Nat
 | []=>0
 | t::r=>Tr.total t+Tr.totalRow r
end
mutual
def Tr.levels:Tr->Int
 | .mk _ k _ _ kids=>if k≠2 then 0 else Tr.levelsRow kids 0+1
def Tr.levelsRow:List Tr->Int->Int
 | [],a=>a
 | t::r,a=>Tr.levelsRow r (gr a (Tr.levels t))
end
def AT.realUp (A:AT):Nat->Int->ByteArray->ByteArray
 | 0,_,out=>out
 | f+1,dir,out=>if dir=1 then out else AT.realUp A f (A.upOf dir) ((A.names (A.upOf dir)).foldl (fun o n=>if(A.find (A.upOf dir) n).getD 0=dir then(⟨⟨[47]⟩⟩++n)++o else o) out)
def AT.realF (A:AT) (cwd path:ByteArray):Int×ByteArray :=
 let r:=A.locate cwd path true
 if r.1≠0 then(r.1,⟨⟨[]⟩⟩)
 else if r.2.there=false then(5,⟨⟨[]⟩⟩)
 else
  let out:=if A.kind r.2.ino≠2 then A.realUp 13 r.2.dir (⟨⟨[47]⟩⟩++r.2.name)else A.realUp 13 r.2.ino ⟨⟨[]⟩⟩
  (0,if sEq out ⟨⟨[]⟩⟩then⟨⟨[47]⟩⟩else out)
theorem Tr.total_kid {t:Tr} {x:Tr} (h:x∈t.kids):x.total<t.total:=by
 obtain⟨nm,k,e,d,kids⟩:=t
 have key : ∀l:List Tr,x∈l->x.total<=Tr.totalRow l:=by
  intro l
  induction l with
  | nil=>intro h;simp at h
  | cons y r ih =>
   intro h
   simp only[Tr.totalRow]
   rcases List.mem_cons.1 h with e | e
   ·subst e;omega
   ·have:=ih e;omega
 have:=key kids h
 simp only[Tr.total];omega
theorem Tr.ind {P:Tr->Prop} (h:∀t,(∀x∈t.kids,P x)->P t) (t:Tr):P t:=by
 have key : ∀ (n:Nat) (t:Tr),t.total<n->P t:=by
  intro n
  induction n with
  | zero=>intro t h;omega
  | succ n ih=>intro t ht;exact h t fun x hx=>ih x (by have:=Tr.total_kid hx;omega)
 exact key _ t (Nat.lt_succ_self _)
end Go.Wk

set_option maxRecDepth 100000
namespace Go.Proofs.YtbdlkofldmhoaaaGreatDoor
open Go Go.HL Go.Wk
attribute [local irreducible] ptrW ifW brW andW rdT alW letJ stW muW biW vaW imW callT cvalT app callW invW callVW sizeT oW nilF oneK loopW rfW funW begW roundK exW idxW Gr Put
mutual
def TrAt (σ:H):Tr->List Value->Prop
 | .mk n k e d kids,cs => ∃x:Sl,cs=[.string n,.int .i64 k,.bool e,.string d,.slice x.base x.len x.cap]/\x.len=kids.length/\(kids=[] \/ ∃g o cur t fz,x.base=some ⟨g,o,none⟩/\σ g=some (.cells ⟨cur⟩ t fz)/\RowAt σ kids (cur.drop o))
def RowAt (σ:H):List Tr->List Value->Prop
 | [],_=>True
 | t::r,cs=>TrAt σ t (cs.take 5)/\RowAt σ r (cs.drop 5)
end
def SlAt (σ:H) (kids:List Tr) (x:Sl):Prop:=x.len=kids.length/\(kids=[] \/ ∃g o cur t fz,x.base=some ⟨g,o,none⟩/\σ g=some (.cells ⟨cur⟩ t fz)/\RowAt σ kids (cur.drop o))
def trC (t:Tr) (x:Sl):List Value:=[.string t.name,.int .i64 t.kind,.bool t.exec,.string t.data,.slice x.base x.len x.cap]
theorem trAt_iff {σ:H} {t:Tr} {cs:List Value}:TrAt σ t cs ↔ ∃x,cs=trC t x/\SlAt σ t.kids x:=by
 obtain⟨n,k,e,d,kids⟩:=t
 simp only[TrAt,trC,SlAt,Tr.name,Tr.kind,Tr.exec,Tr.data,Tr.kids]
theorem gr_both {σ σ':H} (hg:Gr σ σ') : ∀t:Tr,∀cs,TrAt σ t cs->TrAt σ' t cs:=by
 refine Tr.ind ?_
 intro t ih cs h
 rw[trAt_iff]at h ⊢
 obtain⟨x,h1,h2,h3⟩:=h
 refine⟨x,h1,h2,?_⟩
 rcases h3 with h3 | ⟨g,o,cur,ty,fz,h3,h4,h5⟩
 ·exact .inl h3
 ·refine .inr ⟨g,o,cur,ty,fz,h3,hg.get h4,?_⟩
  generalize cur.drop o=cs at h5
  clear h4 h3 h2 h1
  generalize t.kids=l at *
  induction l generalizing cs with
  | nil=>trivial
  | cons y r ihr =>
   simp only[RowAt]at h5 ⊢
   exact⟨ih y (List.mem_cons_self ..) _ h5.1,ihr _ (fun z hz=>ih z (List.mem_cons_of_mem _ hz)) h5.2⟩
theorem rowAt_gr {σ σ':H} (hg:Gr σ σ') : ∀ {l:List Tr} {cs:List Value},RowAt σ l cs->RowAt σ' l cs:=by
 intro l
 induction l with
 | nil=>intro _ _;trivial
 | cons y r ih=>intro cs h;simp only[RowAt]at h ⊢;exact⟨gr_both hg y _ h.1,ih h.2⟩
theorem SlAt.gr {σ σ':H} {kids:List Tr} {x:Sl} (h:SlAt σ kids x) (hg:Gr σ σ'):SlAt σ' kids x:=by
 obtain⟨h1,h2 | ⟨g,o,cur,ty,fz,h3,h4,h5⟩⟩:=h
 ·exact⟨h1,.inl h2⟩
 ·exact⟨h1,.inr ⟨g,o,cur,ty,fz,h3,hg.get h4,rowAt_gr hg h5⟩⟩
theorem SlAt.nil {σ:H} {b:Option Addr} {c:Nat}:SlAt σ [] ⟨b,0,c⟩:=⟨rfl,.inl rfl⟩
theorem drop_get {α:Type} {l r:List α} {x:α} {i:Nat} (h:l.drop i=x::r):l[i]? = some x/\i<l.length/\l.drop (i+1)=r:=by
 refine⟨?_,?_,?_⟩
 ·have:(l.drop i)[0]? = some x:=by rw[h];rfl
  simpa using this
 ·rcases Nat.lt_or_ge i l.length with h' | h'
  ·exact h'
  ·rw[List.drop_eq_nil_of_le h']at h;cases h
 ·rw[<-List.drop_drop,h];rfl
theorem strLt_eq (a b:ByteArray):strLt a b=ltB a b:=by
 unfold strLt ltB
 rw[ByteArray.toList_eq,ByteArray.toList_eq]
 generalize a.data.toList=x
 generalize b.data.toList=y
 induction x generalizing y with
 | nil=>cases y<;>simp[Op.bytesLess,Wk.leB]
 | cons c r ih =>
  cases y with
  | nil=>simp[Op.bytesLess,Wk.leB]
  | cons d s =>
   simp only[Op.bytesLess,Wk.leB,ih s]
   by_cases h1:c<d
   ·have:Nat.blt c.toNat d.toNat=true:=by rw[Nat.blt_eq];exact h1
    have h2:Nat.blt d.toNat c.toNat=false:=by
     rw[<-Bool.not_eq_true,Nat.blt_eq];have:c.toNat<d.toNat:=h1;omega
    simp[h1,this,h2]
   ·have n1:Nat.blt c.toNat d.toNat=false:=by rw[<-Bool.not_eq_true,Nat.blt_eq];exact h1
    by_cases h2:d<c
    ·have:Nat.blt d.toNat c.toNat=true:=by rw[Nat.blt_eq];exact h2
     have h3:(c==d)=false:=by
      simp only[beq_eq_false_iff_ne];intro e;subst e;exact h1 h2
     simp[h1,this,h3]
    ·have n2:Nat.blt d.toNat c.toNat=false:=by rw[<-Bool.not_eq_true,Nat.blt_eq];exact h2
     have:c=d:=UInt8.le_antisymm (UInt8.not_lt.1 h2) (UInt8.not_lt.1 h1)
     subst this
     simp[n1]
section
variable {σ : H} {b6 : Nat} {t : Tr} {y : Sl} {ty : TypeId}
end
end Go.Proofs.YtbdlkofldmhoaaaGreatDoor

namespace Go.Wk
open Go Go.HL
structure Grows (A A':AT):Prop where
 get : ∀i n,A.get i=some n -> ∃m,A'.get i=some m/\m.kind=n.kind/\m.up=n.up/\m.mode=n.mode/\m.data=n.data/\m.links=n.links /\ ∀s j,lk s n.ents=some j->lk s m.ents=some j
 last:A.last<=A'.last
 qi:A'.qi=A.qi
 qb:A'.qb=A.qb
theorem Grows.refl (A:AT):Grows A A:=⟨fun i n h=>⟨n,h,rfl,rfl,rfl,rfl,rfl,fun _ _ h=>h⟩,Int.le_refl _,rfl,rfl⟩
theorem Grows.trans {A B C:AT} (h:Grows A B) (k:Grows B C):Grows A C:=by
 refine⟨fun i n hn => ?_,Int.le_trans h.last k.last,by rw[k.qi,h.qi],by rw[k.qb,h.qb]⟩
 obtain⟨m,h1,h2,h3,h4,h5,h6,h7⟩:=h.get i n hn
 obtain⟨m',k1,k2,k3,k4,k5,k6,k7⟩:=k.get i m h1
 exact⟨m',k1,by rw[k2,h2],by rw[k3,h3],by rw[k4,h4],by rw[k5,h5],by rw[k6,h6],fun s j hs=>k7 s j (h7 s j hs)⟩
section
variable {A A' : AT}
theorem Grows.isDir (h:Grows A A') {k:Int} (hk:A.isDir k):A'.isDir k:=by
 obtain⟨n,h1,h2⟩:=hk
 obtain⟨m,h3,h4,_⟩:=h.get k n h1
 exact⟨m,h3,by rw[h4,h2]⟩
theorem Grows.deep (h:Grows A A') (hI:Inv A) (f:Nat) {k:Int} (hk:A.isDir k):A'.deep f k=A.deep f k:=by
 refine deep_same hI ?_ f k hk
 rintro k ⟨n,h1,_⟩
 obtain⟨m,h3,_,h5,_⟩:=h.get k n h1
 unfold AT.upOf;rw[h1,h3];simp[h5]
theorem Grows.find (h:Grows A A') {d:Int} {s:ByteArray} {j:Int} (hf:A.find d s=some j):A'.find d s=some j:=by
 unfold AT.find at hf ⊢
 cases hn:A.get d with
 | none=>rw[hn]at hf;cases hf
 | some n =>
  rw[hn]at hf
  obtain⟨m,h1,_,_,_,_,_,h7⟩:=h.get d n hn
  rw[h1];exact h7 s j hf
variable {dir : Int} {name : ByteArray} {kind mode : Int} {data : ByteArray}
theorem made_grows (h:Inv A) (hl:A.last<4611686018427387904) (he:A.makeE dir name kind mode data=0):Grows A (A.made dir name kind mode data):=by
 obtain⟨⟨nd,hd,hd2⟩,hnm,hlk,hfn,hrm⟩:=makeE_z he
 have hG:=made_get (name:=name) (kind:=kind) (mode:=mode) (data:=data) h hl hd
 have hE:=made_eq (name:=name) (kind:=kind) (mode:=mode) (data:=data) h hl hd
 have hfr:A.get (A.last+1)=none:=h.fresh (by omega)
 have hfn':lk name nd.ents=none:=by unfold AT.find at hfn;rw[hd]at hfn;exact hfn
 refine⟨fun i n hn => ?_,by rw[hE];show A.last<=A.last+1;omega,by rw[hE];rfl,by rw[hE];rfl⟩
 rw[hG]
 by_cases e:i=dir
 ·subst e;rw[if_pos rfl];rw[hd]at hn;cases hn
  refine⟨_,rfl,rfl,rfl,rfl,rfl,rfl,fun s j hs => ?_⟩
  simp only[lk_up]
  have:(s==name)=false:=by
   cases hb:(s==name) with
   | false=>rfl
   | true=>have:=eq_of_beq hb;subst this;rw[hfn']at hs;cases hs
  rw[this];exact hs
 ·rw[if_neg e]
  by_cases e2:i=A.last+1
  ·subst e2;rw[hfr]at hn;cases hn
  ·rw[if_neg e2];exact⟨n,hn,rfl,rfl,rfl,rfl,rfl,fun _ _ h=>h⟩
theorem makeR_z (he:A.makeE dir name kind mode data=0):A.makeR dir name kind mode data=(wr (A.last+1),0,A.made dir name kind mode data):=by unfold AT.makeR;rw[if_pos he]
theorem makeR_n (he:A.makeE dir name kind mode data≠0):A.makeR dir name kind mode data=(0,A.makeE dir name kind mode data,A):=by unfold AT.makeR;rw[if_neg he]
theorem makeR_ok {N:Nat} (h:Inv A) (hb:Bd N A) (hN:N<4611686018427387904) (hs:data.size<4611686018427387904) (hdp:A.isDir dir->kind=2 -> ∃d,A.deep 11 dir=some d) :
 Inv (A.makeR dir name kind mode data).2.2/\Bd (N+1) (A.makeR dir name kind mode data).2.2/\Grows A (A.makeR dir name kind mode data).2.2:=by
 by_cases he:A.makeE dir name kind mode data=0
 ·rw[makeR_z he]
  obtain⟨h1,h2⟩:=h.made hb hN hs he (hdp (makeE_z he).1)
  exact⟨h1,h2,made_grows h (by have:=hb.last;omega) he⟩
 ·rw[makeR_n he]
  exact⟨h,hb.mono (by omega),Grows.refl A⟩
end
def RowD (A:AT) (ino:Int) (l:List Tr):Prop:=(∃n,A.get ino=some n) /\ ∀d,A.isDir ino->A.deep 12 ino=some d -> ∀x∈l,d+x.levels<=12
theorem RowD.next {A A':AT} {ino:Int} {x:Tr} {l:List Tr} (hI:Inv A) (hg:Grows A A') (h:RowD A ino (x::l)):RowD A' ino l:=by
 obtain⟨⟨n,hn⟩,h2⟩:=h
 obtain⟨m,hm,hk,_⟩:=hg.get ino n hn
 refine⟨⟨m,hm⟩,?_⟩
 rintro d ⟨m',hm',hk'⟩ hd y hy
 rw[hm]at hm';cases hm'
 have hD:A.isDir ino:=⟨n,hn,by rw[<-hk];exact hk'⟩
 rw[hg.deep hI 12 hD]at hd
 exact h2 d hD hd y (List.mem_cons_of_mem _ hy)
theorem RowD.head {A:AT} {ino:Int} {x:Tr} {l:List Tr} (h:RowD A ino (x::l)) : ∀d,A.isDir ino->A.deep 12 ino=some d->d+x.levels<=12:=fun d h1 h2=>h.2 d h1 h2 x (List.mem_cons_self ..)
end Go.Wk

set_option maxRecDepth 100000
namespace Go.Proofs.YtbdlkofldmhoaaaGreatDoor
open Go Go.HL Go.Wk
attribute [local irreducible] ptrW ifW brW andW rdT alW letJ stW muW biW vaW imW callT cvalT app callW invW callVW sizeT oW nilF oneK loopW rfW funW begW roundK exW idxW Gr Put
def Off (τ σ:H) (B:Nat->Prop):Prop:=Gr τ σ /\ ∀b o,τ b=some o -> ¬B b
theorem Off.new {σ σ':H} {B:Nat->Prop} (hg:Gr σ σ') (h:∀b,B b->σ b=none):Off σ σ' B:=⟨hg,fun b o hb hB=>by rw[h b hB]at hb;cases hb⟩
theorem Off.sep {τ σ σ':H} {B B':Nat->Prop} (h:Off τ σ B) (hs:Sep σ B σ' B'):Off τ σ' B':=by
 obtain⟨h1,h2⟩:=h
 refine⟨?_,fun b o hb=>(hs b o (h1.get hb) (h2 b o hb)).2⟩
 unfold Gr
 intro b o hb
 exact(hs b o (h1.get hb) (h2 b o hb)).1
theorem Off.gr {τ σ σ':H} {B:Nat->Prop} (h:Off τ σ B) (hg:Gr σ σ'):Off τ σ' B:=⟨h.1.trans hg,h.2⟩
theorem Off.get {τ σ:H} {B:Nat->Prop} (h:Off τ σ B) {b:Nat} {o:Obj} (hb:τ b=some o):σ b=some o:=h.1.get hb
theorem Off.sub {τ τ' σ:H} {B:Nat->Prop} (h:Off τ σ B) (hg:Gr τ' τ):Off τ' σ B:=⟨hg.trans h.1,fun b o hb=>h.2 b o (hg.get hb)⟩
theorem Off.add {τ σ:H} {B:Nat->Prop} {b:Nat} {o:Obj} (h:Off τ σ B) (hb:σ b=some o) (hn:¬B b):Off (τ.put b o) σ B:=by
 refine⟨?_,?_⟩
 ·unfold Gr
  intro c oc hc
  by_cases e:c=b
  ·subst e;rw[H.put_same]at hc;cases hc;exact hb
  ·rw[H.put_other _ _ e]at hc;exact h.1.get hc
 ·intro c oc hc
  by_cases e:c=b
  ·subst e;exact hn
  ·rw[H.put_other _ _ e]at hc;exact h.2 c oc hc
theorem StrSl.at {σ:H} {x:Sl} {l:List ByteArray} (h:StrSl σ x l) {i:Nat} {s:ByteArray} (hi:l[i]? = some s) : ∃g cur,x.base=some ⟨g,0,none⟩/\σ g=some (.cells ⟨cur⟩ 9 (0,0))/\cur[i]? = some (.string s):=by
 obtain⟨h1,h2 | ⟨g,cur,e1,e2,e3⟩⟩:=h
 ·subst h2;simp at hi
 ·refine⟨g,cur,e1,e2,?_⟩
  have hlt:i<l.length:=by
   rcases Nat.lt_or_ge i l.length with h | h
   ·exact h
   ·rw[List.getElem?_eq_none h]at hi;cases hi
  have:(cur.take l.length)[i]? = some (.string s):=by rw[e3];simp[hi]
  rw[List.getElem?_take_of_lt hlt]at this
  exact this
theorem names_len {A:AT} {d:Int} {N:Nat} (hB:Bd N A):(A.names d).length<=N:=by
 unfold AT.names
 cases hn:A.get d with
 | none=>simp
 | some n =>
  have:=hB.ents d n hn
  simp only[sortN,List.length_map]
  rw[(sortB_perm _).length_eq]
  simp[keysL];omega
theorem names_mem {A:AT} (hI:Inv A) {d:Int} {s:ByteArray} (h:s∈A.names d) : ∃j,A.find d s=some j:=by
 unfold AT.names at h
 cases hn:A.get d with
 | none=>rw[hn]at h;simp at h
 | some n =>
  rw[hn]at h
  simp only[sortN,List.mem_map]at h
  obtain⟨l,hl,rfl⟩:=h
  have:=(sortB_perm _).mem_iff.1 hl
  obtain⟨k,hk,rfl⟩:=List.mem_map.1 this
  show ∃j,A.find d k=some j
  unfold AT.find;rw[hn]
  cases hlk:lk k n.ents with
  | some j=>exact⟨j,hlk⟩
  | none=>exact absurd hk (lk_none_iff.1 hlk)
theorem names_size {A:AT} (hI:Inv A) {d:Int} {s:ByteArray} (h:s∈A.names d):s.size<=56:=by
 obtain⟨j,hj⟩:=names_mem hI h
 obtain⟨n,hn,_,hl,_⟩:=hI.find hj
 exact namedE_size (hI.ent d n s j hn hl).1
theorem s_Real {A:AT} {N:Nat} {σ:H} {bf:Nat} {B:Nat->Prop} (hI:Inv A) (hB:Bd N A) (hN:N<=1000000000000) (hF:FsAt σ bf A B) (cwd path:ByteArray) {K:KH}
 (hK:K (.tuple ⟨[.string (A.realF cwd path).2,.int .i64 (A.realF cwd path).1]⟩) σ) :
 callW Tryz.prog 195 [.pointer (some ⟨bf,0,none⟩),.string cwd,.string path] K σ:=by
 generalize hres:A.realF cwd path=res at hK
 unfold AT.realF at hres
 refine pure_i _ hK (c195 _ _ _ ?_)
 clear hK
 unfold g195
 refine call_i (s_locate hF cwd path true ?_)
 have hpl:=locate_place hI cwd path true
 generalize A.locate cwd path true=r at hres hpl
 obtain⟨re,p⟩:=r
 simp only at hres hpl
 unfold plC
 (refine app_of rfl ?_;try dsimp only)
 refine al_i ?_;intro b9 σ1 g1 e1 n1
 refine st_i2 e1 sz_place (by rfl) (by rfl) ?_;intro σ2 p2
 have hg2:Lng σ σ2:=⟨g1.putF p2 n1⟩
 have hF2:=hF.gr hg2.gr
 have k:=p2.same
 clear p2
 by_cases he:re=0
 case neg =>
  rw[if_pos he]at hres
  exact br_t (by simpa using he) ⟨by rw[<-hres],hg2.gr⟩
 subst he
 simp only[ne_eq,not_true_eq_false,if_false]at hres
 refine br_f rfl (rd_B (rdC_of k (by rfl)) ?_)
 have hpl:=hpl rfl
 cases hth:p.there with
 | false=>rw[hth]at hres;exact br_t rfl ⟨by rw[<-hres];rfl,hg2.gr⟩
 | true =>
  rw[hth]at hres
  simp only[Bool.true_eq_false,if_false]at hres
  refine br_f rfl (rd_I (rdC_of k (by rfl)) ?_)
  refine j_i (fun j => ∀ (out:ByteArray) (dir:Int),A.isDir dir->out.size<=100->res=(0,if sEq (A.realUp 13 dir out) ⟨⟨[]⟩⟩then⟨⟨[47]⟩⟩else A.realUp 13 dir out)->j (some ⟨bf,0,none⟩) out dir σ2) ?_ ?_
  ·intro out dir hdir hos hr
   refine loop_i ?_
   intro R hR
   have key : ∀ (f:Nat) (dir:Int) (out:ByteArray) (τ:H),A.isDir dir->(A.deep f dir).isSome=true->out.size+f * (60 * N)<=1000000000000000->Gr σ τ->res=(0,if sEq (A.realUp f dir out) ⟨⟨[]⟩⟩then⟨⟨[47]⟩⟩else A.realUp f dir out)->R (some ⟨bf,0,none⟩) out dir τ:=by
    intro f
    induction f with
    | zero=>intro dir out τ _ hd;simp[AT.deep]at hd
    | succ f ihf =>
     intro dir out τ hdir hd hsz hg hr
     have hFt:=hF.gr hg
     obtain⟨bt,B0,q1,q2,q3,q4⟩:=id hFt
     refine hR _ _ _ _ ?_
     refine ptr_i (rd_P (rdC_of q1 (by rfl)) (call_i (s_Root _ (app_I ?_))))
     unfold AT.realUp at hr
     by_cases hd1:dir=1
     ·rw[if_pos hd1]at hr
      refine br_f (by simpa using hd1) ?_
      refine j_i (fun j=>j (if sEq out ⟨⟨[]⟩⟩then⟨⟨[47]⟩⟩else out) τ) ⟨by rw[hr],hg⟩ ?_
      intro j hj
      rw[sEq_eq]at hj
      cases hso:strEq out ⟨⟨[]⟩⟩ with
      | true=>rw[hso]at hj;exact br_t rfl hj
      | false=>rw[hso]at hj;exact br_f rfl hj
     rw[if_neg hd1]at hr
     refine br_t (by simpa using hd1) (ptr_i (rd_P (rdC_of q1 (by rfl)) (call_i (t_Up q2 _ (app_I ?_)))))
     refine ptr_i (rd_P (rdC_of q1 (by rfl)) (call_i (s_Names q2 _ (names_ok hI hB hN _) ?_)))
     intro x τ1 g1' hx
     refine app_L ?_
     have hdu:(A.deep f (A.upOf dir)).isSome=true:=by
      unfold AT.deep at hd
      rw[if_neg hd1]at hd
      cases hq:A.deep f (A.upOf dir) with
      | none=>rw[hq]at hd;cases hd
      | some _=>rfl
     have hnl:=names_len (d:=A.upOf dir) hB
     refine loop_i ?_
     intro R2 hR2
     have key2 : ∀ (l:List ByteArray) (i:Nat) (out:ByteArray),(A.names (A.upOf dir)).drop i=l->out.size+l.length * 60+f * (60 * N)<=1000000000000000->res=(0,if sEq (A.realUp f (A.upOf dir) (l.foldl (fun o n=>if(A.find (A.upOf dir) n).getD 0=dir then(⟨⟨[47]⟩⟩++n)++o else o) out)) ⟨⟨[]⟩⟩then⟨⟨[47]⟩⟩else A.realUp f (A.upOf dir) (l.foldl (fun o n=>if(A.find (A.upOf dir) n).getD 0=dir then(⟨⟨[47]⟩⟩++n)++o else o) out))->R2 (some ⟨bf,0,none⟩) out dir (A.upOf dir) x ((x.len:Nat):Int) (i:Int) τ1:=by
      intro l
      induction l with
      | nil =>
       intro i out hd' hsz' hr'
       have hge:(A.names (A.upOf dir)).length<=i:=by simpa using hd'
       refine hR2 _ _ _ _ _ _ _ _ ?_
       refine br_f (by rw[hx.1];simp only[decide_eq_false_iff_not];omega) ?_
       exact ihf _ _ τ1 (hI.isDir_up hdir) hdu (by simp only[List.length_nil]at hsz';omega) (hg.trans g1') hr'
      | cons s r ihl =>
       intro i out hd' hsz' hr'
       obtain⟨hs,hlt,hd''⟩:=drop_get hd'
       obtain⟨g,cur,hb,hc,hcv⟩:=hx.at hs
       have hss:=names_size hI (List.mem_of_getElem? hs)
       simp only[List.length_cons]at hsz'
       refine hR2 _ _ _ _ _ _ _ _ ?_
       refine br_t (by rw[hx.1];simp only[decide_eq_true_eq];omega) ?_
       refine j_i (fun j=>j (some ⟨bf,0,none⟩) (if(A.find (A.upOf dir) s).getD 0=dir then(⟨⟨[47]⟩⟩++s)++out else out) dir (A.upOf dir) x ((x.len:Nat):Int) (i:Int) τ1) ?_ ?_
       ·rw[wrap_id (x:=(i:Int)+1) (by omega) (by omega)]
        refine ihl (i+1) _ hd'' ?_ hr'
        split
        ·simp only[ByteArray.size_append]
         have:(⟨⟨[47]⟩⟩:ByteArray).size=1:=rfl
         omega
        ·omega
       ·intro j hj
        rw[hb]
        refine ptr_i (if_i ⟨by omega,by rw[hx.1];omega⟩ (rd_S (rdC_of hc (by simpa using hcv)) ?_))
        obtain⟨bt,B0,q1,q2,q3,q4⟩:=hF.gr (hg.trans g1')
        refine ptr_i (rd_P (rdC_of q1 (by rfl)) (call_i (t_Find q2 _ _ (app_IB ?_))))
        have h1:(⟨⟨[47]⟩⟩:ByteArray).size=1:=rfl
        by_cases hf:(A.find (A.upOf dir) s).getD 0=dir
        ·rw[if_pos hf]at hj
         refine br_t (by simpa using hf) (if_i (by omega) (if_i (by rw[ByteArray.size_append];omega) hj))
        ·rw[if_neg hf]at hj
         exact br_f (by simpa using hf) hj
     refine key2 (A.names (A.upOf dir)) 0 out rfl ?_ hr
     have hm:(f+1) * (60 * N)=f * (60 * N)+60 * N:=by rw[Nat.add_mul,Nat.one_mul]
     omega
   obtain⟨d,hd13,_⟩:=hI.deep13 hdir
   exact key 13 dir out σ2 hdir (by rw[hd13];rfl) (by omega) hg2.gr hr
  ·intro j hj
   refine rd_I (rdC_of k (by rfl)) (call_i (s_kind hF2 _ (app_I ?_)))
   by_cases hk:A.kind p.ino=2
   ·have hif:(if A.kind p.ino≠2 then A.realUp 13 p.dir (⟨⟨[47]⟩⟩++p.name)else A.realUp 13 p.ino ⟨⟨[]⟩⟩)=A.realUp 13 p.ino ⟨⟨[]⟩⟩:=if_neg (by simpa using hk)
    rw[hif]at hres
    refine br_f (by simpa using hk) (hj ⟨⟨[]⟩⟩ p.ino (kind_dir hk) (by decide) hres.symm)
   ·have hif:(if A.kind p.ino≠2 then A.realUp 13 p.dir (⟨⟨[47]⟩⟩++p.name)else A.realUp 13 p.ino ⟨⟨[]⟩⟩)=A.realUp 13 p.dir (⟨⟨[47]⟩⟩++p.name):=if_pos hk
    rw[hif]at hres
    obtain⟨hd,hcase⟩:=hpl
    have hnm:p.name.size<=56:=by
     rcases hcase with⟨h1,_⟩ | ⟨_,_,h,_⟩
     ·rw[h1];decide
     ·exact h
    have h1:(⟨⟨[47]⟩⟩:ByteArray).size=1:=rfl
    refine br_t (by simpa using hk) (rd_S (rdC_of k (by rfl)) (if_i (by show _+p.name.size<=_;omega) (rd_I (rdC_of k (by rfl)) ?_)))
    exact hj _ p.dir hd (by rw[ByteArray.size_append];show _+p.name.size<=_;omega) hres.symm
end Go.Proofs.YtbdlkofldmhoaaaGreatDoor

namespace Go.Wk
open Go Go.HL
variable {A : AT}
theorem Inv.mod {N:Nat} (h:Inv A) (hb:Bd N A) {i:Int} {n n':AN} (hn:A.get i=some n) (h1:n'.kind=n.kind) (h2:n'.up=n.up) (h3:n'.ents=n.ents) (h4:likeE n'.kind n'.mode n'.data=0) (h5:n'.links=n.links) {ub:Int} (hub:ub=A.ub+n'.data.size - n.data.size) (hq:ub<=A.qb) :
 Inv { A.set i n' with ub:=ub }/\Bd N { A.set i n' with ub:=ub }:=by
 have hG : ∀j,({ A.set i n' with ub:=ub }:AT).get j=if j=i then some n' else A.get j:=fun j=>AT.get_set A i j n'
 have hc : ∀j m,({ A.set i n' with ub:=ub }:AT).get j=some m -> ∃m0,A.get j=some m0/\m.kind=m0.kind/\m.up=m0.up/\m.ents=m0.ents/\m.links=m0.links/\likeE m.kind m.mode m.data=0:=by
  intro j m hm
  rw[hG]at hm
  by_cases e:j=i
  ·rw[if_pos e]at hm;cases hm;subst e;exact⟨n,hn,h1,h2,h3,h5,h4⟩
  ·rw[if_neg e]at hm;exact⟨m,hm,rfl,rfl,rfl,rfl,h.like j m hm⟩
 have hx : ∀j m,A.get j=some m -> ∃m',({ A.set i n' with ub:=ub }:AT).get j=some m'/\m'.kind=m.kind/\m'.up=m.up/\m'.ents=m.ents/\m'.links=m.links:=by
  intro j m hm
  rw[hG]
  by_cases e:j=i
  ·subst e;rw[if_pos rfl];rw[hn]at hm;cases hm;exact⟨n',rfl,h1,h2,h3,h5⟩
  ·rw[if_neg e];exact⟨m,hm,rfl,rfl,rfl,rfl⟩
 have hsum : ∀f:AN->Nat,sumF f (A.set i n').nodes+f n=sumF f A.nodes+f n':=by
  intro f
  have:=AT.sum_set A f i n'
  rw[hn]at this;simpa using this
 have hrefs : ∀j,({ A.set i n' with ub:=ub }:AT).refs j=A.refs j:=by
  intro j
  have:=hsum (cntE j)
  have e:cntE j n'=cntE j n:=by unfold cntE;rw[h3]
  show sumF (cntE j) (A.set i n').nodes=sumF (cntE j) A.nodes
  omega
 have hupO : ∀k,A.isDir k->({ A.set i n' with ub:=ub }:AT).upOf k=A.upOf k:=by
  rintro k ⟨m,hm,_⟩
  obtain⟨m',q1,_,q3,_⟩:=hx k m hm
  unfold AT.upOf;rw[hm,q1];simp[q3]
 refine⟨⟨?_,?_,?_,?_,?_,?_,?_,?_,?_,?_,?_,?_,?_⟩,⟨?_,?_,?_⟩⟩
 ·exact nodup_up h.nodup
 ·intro j m hm;obtain⟨m0,q1,_,_,q4,_⟩:=hc j m hm;rw[q4];exact h.enod j m0 q1
 ·obtain⟨r,r1,r2,r3⟩:=h.root
  obtain⟨m',q1,q2,q3,_⟩:=hx 1 r r1
  exact⟨m',q1,by rw[q2,r2],by rw[q3,r3]⟩
 ·intro j m hm;obtain⟨m0,q1,_⟩:=hc j m hm;exact h.low j m0 q1
 ·intro j m hm;obtain⟨m0,_,_,_,_,_,q⟩:=hc j m hm;exact q
 ·intro j m hm hk;obtain⟨m0,q1,q2,_,q4,_⟩:=hc j m hm;rw[q4];exact h.file j m0 q1 (by rw[<-q2];exact hk)
 ·intro j m s t hm hs
  obtain⟨m0,q1,_,_,q4,_⟩:=hc j m hm
  rw[q4]at hs
  obtain⟨a1,a2,m1,a3,a4⟩:=h.ent j m0 s t q1 hs
  obtain⟨m',b1,b2,b3,_⟩:=hx t m1 a3
  exact⟨a1,a2,m',b1,fun hk=>by rw[b3];exact a4 (by rw[<-b2];exact hk)⟩
 ·intro j m hm hj
  obtain⟨m0,q1,q2,_,_,q5,_⟩:=hc j m hm
  rw[hrefs,q2,q5];exact h.links j m0 q1 hj
 ·rintro k ⟨m,hm,hk⟩
  obtain⟨m0,q1,q2,_⟩:=hc k m hm
  have hd:A.isDir k:=⟨m0,q1,by rw[<-q2];exact hk⟩
  rw[deep_same h hupO 12 k hd];exact h.deep k hd
 ·have:=hsum (fun _=>1)
  rw[sumF_len,sumF_len]at this
  have e:=h.ui
  show A.ui=(A.set i n').nodes.length
  omega
 ·have:=hsum (fun n=>n.data.size)
  have e:=h.ub
  show ub=(sumF (fun n:AN=>n.data.size) (A.set i n').nodes:Nat)
  unfold AT.bytes at e
  omega
 ·exact h.uq
 ·exact⟨hq,h.bq.2⟩
 ·exact hb.last
 ·intro j m hm;obtain⟨m0,q1,_,_,_,q5,_⟩:=hc j m hm;rw[q5];exact hb.links j m0 q1
 ·intro j m hm;obtain⟨m0,q1,_,_,q4,_⟩:=hc j m hm;rw[q4];exact hb.ents j m0 q1
theorem likeE_file {mode:Int} {data:ByteArray} {d:ByteArray} (h:likeE 1 mode d=0):likeE 1 mode data=0:=by
 unfold likeE kindOkE at h ⊢
 simpa[lk]using h
theorem writeR_ok {N:Nat} (h:Inv A) (hb:Bd N A) (ino:Int) (data:ByteArray) (hs:data.size<4611686018427387904):Inv (A.writeR ino data).2/\Bd N (A.writeR ino data).2/\((A.writeR ino data).1≠0->(A.writeR ino data).2=A)/\(A.writeR ino data).2.qi=A.qi/\(A.writeR ino data).2.qb=A.qb:=by
 unfold AT.writeR
 by_cases he:A.writeE ino data=0
 case neg=>rw[if_neg he];exact⟨h,hb,fun _=>rfl,rfl,rfl⟩
 rw[if_pos he]
 unfold AT.writeE at he
 obtain⟨_,he⟩:=AT.firstE_z he
 obtain⟨h1,he⟩:=AT.firstE_z he
 obtain⟨h2,_⟩:=AT.firstE_z he
 obtain⟨n,hn,hk⟩:=AT.fileE_z h1
 obtain⟨_,hr⟩:=roomE_z h2
 have hsz:=h.size_le hn
 have hub:=h.ub_pos
 have hq:=h.bq
 rw[hn]at hr
 simp only[Option.map_some,Option.getD_some]at hr
 have e1:A.written ino data={ A.set ino { n with data:=data }with ub:=wr (A.ub+wr ((data.size:Int) - n.data.size)) }:=by unfold AT.written;rw[hn]
 have w1:wr ((data.size:Int) - n.data.size)=(data.size:Int) - n.data.size:=wr_id (by omega) (by omega)
 rw[w1]at hr
 have w2:wr (A.ub+((data.size:Int) - n.data.size))=A.ub+data.size - n.data.size:=by rw[wr_id (by omega) (by omega)];omega
 rw[w2]at hr
 rw[e1,w1,w2]
 have hlike:likeE n.kind n.mode data=0:=by
  have:=h.like ino n hn
  rw[hk]at this ⊢
  exact likeE_file this
 obtain⟨a,b⟩:=h.mod hb hn (n':={ n with data:=data }) rfl rfl rfl hlike rfl rfl hr
 exact⟨a,b,fun h=>absurd rfl h,rfl,rfl⟩
theorem likeE_mode {k m m':Int} {d:ByteArray} (h:likeE k m d=0) (h1:0<=m'/\m'<=511):likeE k m' d=0:=by
 unfold likeE at h ⊢
 by_cases hk:kindOkE k d=true
 ·simp[hk,h1]
 ·simp[hk]at h
theorem chmodR_ok {N:Nat} (h:Inv A) (hb:Bd N A) (ino mode:Int):Inv (A.chmodR ino mode).2/\Bd N (A.chmodR ino mode).2/\((A.chmodR ino mode).1≠0->(A.chmodR ino mode).2=A)/\(A.chmodR ino mode).2.qi=A.qi/\(A.chmodR ino mode).2.qb=A.qb:=by
 unfold AT.chmodR
 by_cases he:A.chmodE ino mode=0
 case neg=>rw[if_neg he];exact⟨h,hb,fun _=>rfl,rfl,rfl⟩
 rw[if_pos he]
 unfold AT.chmodE at he
 obtain⟨_,he⟩:=AT.firstE_z he
 obtain⟨h1,he⟩:=AT.firstE_z he
 obtain⟨h2,_⟩:=AT.firstE_z he
 have hm:0<=mode/\mode<=511:=by
  by_cases hm:0<=mode/\mode<=511
  ·exact hm
  ·rw[if_neg hm]at h1;cases h1
 cases hn:A.get ino with
 | none=>rw[hn]at h2;simp at h2
 | some n =>
  have e1:A.chmoded ino mode={ A.set ino { n with mode:=mode }with ub:=A.ub }:=by unfold AT.chmoded AT.mod;rw[hn];rfl
  rw[e1]
  obtain⟨a,b⟩:=h.mod hb hn (n':={ n with mode:=mode }) (ub:=A.ub) rfl rfl rfl (likeE_mode (h.like ino n hn) hm) rfl (by show A.ub=A.ub+n.data.size - n.data.size;omega) h.bq.1
  exact⟨a,b,fun h=>absurd rfl h,rfl,rfl⟩
theorem unlinkE_z {dir:Int} {name:ByteArray} (he:A.unlinkE dir name=0):A.isDir dir /\ ∃j,A.find dir name=some j /\ ∀m,A.get j=some m->m.ents=[]:=by
 unfold AT.unlinkE at he
 obtain⟨_,he⟩:=AT.firstE_z he
 obtain⟨h1,he⟩:=AT.firstE_z he
 obtain⟨h2,he⟩:=AT.firstE_z he
 obtain⟨h3,_⟩:=AT.firstE_z he
 refine⟨AT.dirE_z h1,?_⟩
 cases hf:A.find dir name with
 | none=>rw[hf]at h2;simp at h2
 | some j =>
  refine⟨j,rfl,fun m hm => ?_⟩
  rw[hf]at h3
  simp only[Option.getD_some,hm,Option.map_some]at h3
  by_cases hl:m.ents.length=0
  ·exact List.eq_nil_of_length_eq_zero hl
  ·rw[if_neg hl]at h3;cases h3
theorem unlinkR_ok {N:Nat} (h:Inv A) (hb:Bd N A) (hN:N<4611686018427387904) (dir:Int) (name:ByteArray):Inv (A.unlinkR dir name).2/\Bd N (A.unlinkR dir name).2/\((A.unlinkR dir name).1≠0->(A.unlinkR dir name).2=A)/\(A.unlinkR dir name).2.qi=A.qi/\(A.unlinkR dir name).2.qb=A.qb:=by
 unfold AT.unlinkR
 by_cases he:A.unlinkE dir name=0
 case neg=>rw[if_neg he];exact⟨h,hb,fun _=>rfl,rfl,rfl⟩
 rw[if_pos he]
 obtain⟨⟨nd,hd,hd2⟩,ino,hf,hem⟩:=unlinkE_z he
 obtain⟨nd',hd',_,hlk,hi1,nn,hnn,hup⟩:=h.find hf
 rw[hd]at hd';cases hd'
 have hens:=hem nn hnn
 have hne:ino≠dir:=by
  intro e;subst e;rw[hd]at hnn;cases hnn
  rw[hens]at hlk;simp[lk]at hlk
 obtain⟨hl1,hl2,hl3⟩:=h.links ino nn hnn hi1
 -- the table with the entry gone and one link less
 have e1:A.ent dir (rm name)=A.set dir { nd with ents:=rm name nd.ents }:=by unfold AT.ent;rw[hd]
 have g1:(A.set dir { nd with ents:=rm name nd.ents }).get ino=some nn:=by rw[AT.get_set_ne _ _ hne];exact hnn
 have hlb:nn.links<=N:=hb.links ino nn hnn
 have wl:wr (nn.links - 1)=nn.links - 1:=wr_id (by omega) (by omega)
 let A1:AT:=(A.set dir { nd with ents:=rm name nd.ents }).set ino { nn with links:=nn.links - 1 }
 have e2:A.unlinked dir name=if nn.links - 1=0 then { A1 with nodes:=rm ino A1.nodes,ui:=wr (A.ui - 1),ub:=wr (A.ub - nn.data.size) }else A1:=by
  unfold AT.unlinked
  rw[hf]
  simp only[Option.getD_some]
  rw[e1]
  unfold AT.mod
  rw[g1]
  simp only
  rw[AT.get_set_self,wl]
  by_cases hz:nn.links - 1=0
  ·rw[if_pos hz]
   have:(nn.links - 1==0)=true:=by simpa using hz
   simp only[this];rfl
  ·rw[if_neg hz]
   have:(nn.links - 1==0)=false:=by simpa using hz
   simp only[this];rfl
 have hG1 : ∀j,A1.get j=if j=ino then some { nn with links:=nn.links - 1 }else if j=dir then some { nd with ents:=rm name nd.ents }else A.get j:=by
  intro j;show((A.set dir _).set ino _).get j=_;rw[AT.get_set,AT.get_set]
 have hsum : ∀f:AN->Nat,sumF f A1.nodes+f nd+f nn=sumF f A.nodes+f { nd with ents:=rm name nd.ents }+f { nn with links:=nn.links - 1 }:=by
  intro f
  have q1:=AT.sum_set (A.set dir { nd with ents:=rm name nd.ents }) f ino { nn with links:=nn.links - 1 }
  have q2:=AT.sum_set A f dir { nd with ents:=rm name nd.ents }
  rw[g1]at q1;rw[hd]at q2
  simp only[Option.map_some,Option.getD_some]at q1 q2
  show sumF f ((A.set dir { nd with ents:=rm name nd.ents }).set ino { nn with links:=nn.links - 1 }).nodes+f nd+f nn=_
  omega
 have hcE : ∀j,cntE j { nd with ents:=rm name nd.ents }+one j ino=cntE j nd:=by
  intro j
  have:=sumF_rm (one j) name nd.ents
  rw[hlk]at this
  simpa[cntE]using this
 have hrefs : ∀j,A1.refs j+one j ino=A.refs j:=by
  intro j
  have:=hsum (cntE j)
  have e:cntE j { nn with links:=nn.links - 1 }=cntE j nn:=rfl
  have:=hcE j
  unfold AT.refs
  omega
 have hN1:(keysL A1.nodes).Nodup:=nodup_up (nodup_up h.nodup)
 -- the end result's inodes
 let Z:=A.unlinked dir name
 have hZ : ∀j m,Z.get j=some m->(j=ino/\m={ nn with links:=nn.links - 1 }/\nn.links - 1≠0)\/(j=dir/\m={ nd with ents:=rm name nd.ents })\/(j≠ino/\j≠dir/\A.get j=some m):=by
  intro j m hm
  have hm:(A.unlinked dir name).get j=some m:=hm
  rw[e2]at hm
  by_cases hz:nn.links - 1=0
  ·rw[if_pos hz]at hm
   have hm:lk j (rm ino A1.nodes)=some m:=hm
   rw[lk_rm hN1]at hm
   by_cases e:j=ino
   ·subst e;simp at hm
   ·have:(j==ino)=false:=by simpa using e
    rw[this]at hm
    have hm:A1.get j=some m:=hm
    rw[hG1,if_neg e]at hm
    by_cases e':j=dir
    ·rw[if_pos e']at hm;cases hm;exact .inr (.inl ⟨e',rfl⟩)
    ·rw[if_neg e']at hm;exact .inr (.inr ⟨e,e',hm⟩)
  ·rw[if_neg hz]at hm
   rw[hG1]at hm
   by_cases e:j=ino
   ·rw[if_pos e]at hm;cases hm;exact .inl ⟨e,rfl,hz⟩
   ·rw[if_neg e]at hm
    by_cases e':j=dir
    ·rw[if_pos e']at hm;cases hm;exact .inr (.inl ⟨e',rfl⟩)
    ·rw[if_neg e']at hm;exact .inr (.inr ⟨e,e',hm⟩)
 have hXn : ∀j m,A.get j=some m->j≠ino -> ∃m',Z.get j=some m'/\m'.kind=m.kind/\m'.up=m.up/\m'.links=m.links:=by
  intro j m hm hj
  show ∃m',(A.unlinked dir name).get j=some m'/\_
  have key : ∃m',A1.get j=some m'/\m'.kind=m.kind/\m'.up=m.up/\m'.links=m.links:=by
   rw[hG1,if_neg hj]
   by_cases e':j=dir
   ·subst e';rw[if_pos rfl];rw[hd]at hm;cases hm;exact⟨_,rfl,rfl,rfl,rfl⟩
   ·rw[if_neg e'];exact⟨m,hm,rfl,rfl,rfl⟩
  obtain⟨m',q1,q2⟩:=key
  refine⟨m',?_,q2⟩
  rw[e2]
  by_cases hz:nn.links - 1=0
  ·rw[if_pos hz]
   show lk j (rm ino A1.nodes)=some m'
   rw[lk_rm hN1]
   have:(j==ino)=false:=by simpa using hj
   rw[this];exact q1
  ·rw[if_neg hz];exact q1
 have hlz:nn.links - 1=0↔A.refs ino=1:=by omega
 have hone:one ino ino=1:=by unfold one;simp
 have hZr : ∀j,Z.refs j+one j ino=A.refs j:=by
  intro j
  show(A.unlinked dir name).refs j+_=_
  rw[e2]
  by_cases hz:nn.links - 1=0
  ·rw[if_pos hz]
   have q:=sumF_rm (cntE j) ino A1.nodes
   have g2:lk ino A1.nodes=some { nn with links:=nn.links - 1 }:=by have:=hG1 ino;rw[if_pos rfl]at this;exact this
   rw[g2]at q
   have e0:cntE j { nn with links:=nn.links - 1 }=0:=by unfold cntE;simp only;rw[hens];rfl
   simp only[Option.map_some,Option.getD_some,e0]at q
   have:=hrefs j
   unfold AT.refs at this ⊢
   show sumF (cntE j) (rm ino A1.nodes)+_=_
   omega
  ·rw[if_neg hz];exact hrefs j
 -- nothing that stays names what goes
 have hgone:nn.links - 1=0 -> ∀j m s,Z.get j=some m->lk s m.ents≠some ino:=by
  intro hz j m s hm hs
  have h0:Z.refs ino=0:=by have:=hZr ino;rw[hone]at this;omega
  have hnd:(keysL Z.nodes).Nodup:=by
   show(keysL (A.unlinked dir name).nodes).Nodup
   rw[e2,if_pos hz];exact nodup_rm hN1
  have a:=sumF_ge (f:=cntE ino) (show lk j Z.nodes=some m from hm)
  have b:=sumF_ge (f:=one ino) hs
  unfold AT.refs at h0
  have:one ino ino<=cntE ino m:=b
  omega
 have hnokid : ∀k,A.isDir k->k≠1->A.upOf k≠ino:=by
  intro k hk hk1 e
  obtain⟨s,hs⟩:=h.named hk hk1
  rw[e]at hs
  unfold AT.find at hs;rw[hnn]at hs
  have hs:lk s nn.ents=some k:=hs
  rw[hens]at hs;simp[lk]at hs
 have hq:=h.uq
 have hq2:=h.bq
 have hui:=h.ui_pos
 have hub:=h.ub_pos
 have hszl:=h.size_le hnn
 have hqs:Z.qi=A.qi/\Z.qb=A.qb/\Z.last=A.last:=by
  show(A.unlinked dir name).qi=_/\(A.unlinked dir name).qb=_/\(A.unlinked dir name).last=_
  rw[e2];split<;>exact⟨rfl,rfl,rfl⟩
 have huse:(nn.links - 1=0->Z.ui=A.ui - 1/\Z.ub=A.ub - nn.data.size)/\(nn.links - 1≠0->Z.ui=A.ui/\Z.ub=A.ub):=by
  refine⟨fun hz => ?_,fun hz => ?_⟩
  ·show(A.unlinked dir name).ui=_/\(A.unlinked dir name).ub=_
   rw[e2,if_pos hz]
   exact⟨wr_id (by omega) (by omega),wr_id (by omega) (by omega)⟩
  ·show(A.unlinked dir name).ui=_/\(A.unlinked dir name).ub=_
   rw[e2,if_neg hz];exact⟨rfl,rfl⟩
 have hZsum : ∀f:AN->Nat,(f { nd with ents:=rm name nd.ents }=f nd)->f { nn with links:=nn.links - 1 }=f nn->(nn.links - 1=0->sumF f Z.nodes+f nn=sumF f A.nodes)/\(nn.links - 1≠0->sumF f Z.nodes=sumF f A.nodes):=by
  intro f hf1 hf2
  have q:=hsum f
  rw[hf1,hf2]at q
  refine⟨fun hz => ?_,fun hz => ?_⟩
  ·show sumF f (A.unlinked dir name).nodes+_=_
   rw[e2,if_pos hz]
   have q2:=sumF_rm f ino A1.nodes
   have g2:lk ino A1.nodes=some { nn with links:=nn.links - 1 }:=by have:=hG1 ino;rw[if_pos rfl]at this;exact this
   rw[g2]at q2
   simp only[Option.map_some,Option.getD_some,hf2]at q2
   show sumF f (rm ino A1.nodes)+_=_
   omega
  ·show sumF f (A.unlinked dir name).nodes=_
   rw[e2,if_neg hz];omega
 show Inv Z/\Bd N Z/\((0:Int)≠0->Z=A)/\Z.qi=A.qi/\Z.qb=A.qb
 refine⟨⟨?_,?_,?_,?_,?_,?_,?_,?_,?_,?_,?_,?_,?_⟩,⟨?_,?_,?_⟩,fun h=>absurd rfl h,hqs.1,hqs.2.1⟩
 ·show(keysL (A.unlinked dir name).nodes).Nodup
  rw[e2]
  split
  ·exact nodup_rm hN1
  ·exact hN1
 ·intro j m hm
  rcases hZ j m hm with⟨_,rfl,_⟩ | ⟨_,rfl⟩ | ⟨_,_,hm⟩
  ·exact h.enod ino nn hnn
  ·exact nodup_rm (h.enod dir nd hd)
  ·exact h.enod j m hm
 ·obtain⟨r,r1,r2,r3⟩:=h.root
  obtain⟨m',q1,q2,q3,_⟩:=hXn 1 r r1 (fun e=>hi1 e.symm)
  exact⟨m',q1,by rw[q2,r2],by rw[q3,r3]⟩
 ·intro j m hm
  rw[hqs.2.2]
  rcases hZ j m hm with⟨rfl,_,_⟩ | ⟨rfl,_⟩ | ⟨_,_,hm⟩
  ·exact h.low _ nn hnn
  ·exact h.low _ nd hd
  ·exact h.low j m hm
 ·intro j m hm
  rcases hZ j m hm with⟨_,rfl,_⟩ | ⟨_,rfl⟩ | ⟨_,_,hm⟩
  ·exact h.like ino nn hnn
  ·exact h.like dir nd hd
  ·exact h.like j m hm
 ·intro j m hm hk
  rcases hZ j m hm with⟨_,rfl,_⟩ | ⟨_,rfl⟩ | ⟨_,_,hm⟩
  ·exact hens
  ·exact absurd hd2 hk
  ·exact h.file j m hm hk
 ·intro j m s t hm hs
  have hold : ∃m0,A.get j=some m0/\lk s m0.ents=some t:=by
   rcases hZ j m hm with⟨rfl,rfl,_⟩ | ⟨rfl,rfl⟩ | ⟨_,_,hm⟩
   ·exact⟨nn,hnn,hs⟩
   ·simp only[lk_rm (h.enod j nd hd)]at hs
    by_cases e:(s==name)=true
    ·rw[if_pos e]at hs;cases hs
    ·rw[if_neg e]at hs;exact⟨nd,hd,hs⟩
   ·exact⟨m,hm,hs⟩
  obtain⟨m0,q1,q2⟩:=hold
  obtain⟨a1,a2,m1,a3,a4⟩:=h.ent j m0 s t q1 q2
  refine⟨a1,a2,?_⟩
  by_cases e:t=ino
  ·subst e
   by_cases hz:nn.links - 1=0
   ·exact absurd hs (hgone hz j m s hm)
   ·rw[hnn]at a3;cases a3
    have:Z.get t=some { nn with links:=nn.links - 1 }:=by
     show(A.unlinked dir name).get t=_
     rw[e2,if_neg hz,hG1,if_pos rfl]
    exact⟨_,this,a4⟩
  ·obtain⟨m',b1,b2,b3,_⟩:=hXn t m1 a3 e
   exact⟨m',b1,fun hk=>by rw[b3];exact a4 (by rw[<-b2];exact hk)⟩
 ·intro j m hm hj
  have hr:=hZr j
  rcases hZ j m hm with⟨rfl,rfl,hz⟩ | ⟨rfl,rfl⟩ | ⟨hji,_,hm⟩
  ·rw[hone]at hr
   refine⟨?_,by omega,fun hk => ?_⟩
   ·show nn.links - 1=_;omega
   ·have:=hl3 hk;omega
  ·have:one j ino=0:=by unfold one;rw[if_neg hne]
   rw[this]at hr
   have:=h.links j nd hd hj
   simp only at this ⊢
   rw[<-hr]at this;exact this
  ·have:one j ino=0:=by unfold one;rw[if_neg (fun e=>hji e.symm)]
   rw[this]at hr
   have:=h.links j m hm hj
   rw[<-hr]at this;exact this
 ·rintro k ⟨m,hm,hk⟩
  have hkd:A.isDir k/\(k≠ino):=by
   rcases hZ k m hm with⟨rfl,rfl,hz⟩ | ⟨rfl,rfl⟩ | ⟨hji,_,hm⟩
   ·exfalso;exact hz (hlz.2 (hl3 hk))
   ·exact⟨⟨nd,hd,hk⟩,hne.symm⟩
   ·exact⟨⟨m,hm,hk⟩,hji⟩
  have hdd:Z.deep 12 k=A.deep 12 k:=by
   refine deep_on (S:=fun k=>A.isDir k/\k≠ino) (fun k hk h1=>⟨h.isDir_up hk.1,hnokid k hk.1 h1⟩) (fun k hk h1 => ?_) 12 k hkd
   obtain⟨⟨m,hm,_⟩,hki⟩:=hk
   obtain⟨m',q1,_,q3,_⟩:=hXn k m hm hki
   unfold AT.upOf;rw[hm,q1];simp[q3]
  rw[hdd];exact h.deep k hkd.1
 ·have q:=hZsum (fun _=>1) rfl rfl
  rw[sumF_len,sumF_len]at q
  have e:=h.ui
  by_cases hz:nn.links - 1=0
  ·rw[(huse.1 hz).1];have:=q.1 hz;omega
  ·rw[(huse.2 hz).1];have:=q.2 hz;omega
 ·have q:=hZsum (fun n=>n.data.size) rfl rfl
  have e:=h.ub
  unfold AT.bytes at e
  show Z.ub=(sumF (fun n:AN=>n.data.size) Z.nodes:Nat)
  by_cases hz:nn.links - 1=0
  ·rw[(huse.1 hz).2];have:=q.1 hz;omega
  ·rw[(huse.2 hz).2];have:=q.2 hz;omega
 ·rw[hqs.1]
  by_cases hz:nn.links - 1=0
  ·rw[(huse.1 hz).1];omega
  ·rw[(huse.2 hz).1];exact hq
 ·rw[hqs.2.1]
  by_cases hz:nn.links - 1=0
  ·rw[(huse.1 hz).2];omega
  ·rw[(huse.2 hz).2];exact hq2
 ·rw[hqs.2.2];exact hb.last
 ·intro j m hm
  rcases hZ j m hm with⟨_,rfl,_⟩ | ⟨rfl,rfl⟩ | ⟨_,_,hm⟩
  ·show nn.links - 1<=N;omega
  ·exact hb.links _ nd hd
  ·exact hb.links j m hm
 ·intro j m hm
  rcases hZ j m hm with⟨_,rfl,_⟩ | ⟨rfl,rfl⟩ | ⟨_,_,hm⟩
  ·exact hb.ents _ nn hnn
  ·have:=hb.ents _ nd hd
   have:=(rm_sub (k:=name) (l:=nd.ents)).length_le
   show(rm name nd.ents).length<=N;omega
  ·exact hb.ents j m hm
theorem newT_ok {qi qb:Int} (h:newOk qi qb=true):Inv (newT qi qb)/\Bd 1 (newT qi qb):=by
 have hq:1<=qi/\qi<=1048576/\0<=qb/\qb<=1073741824:=by
  unfold newOk at h
  simp at h
  omega
 have hg : ∀i n,(newT qi qb).get i=some n->i=1/\n=⟨2,493,⟨⟨[]⟩⟩,1,1,[]⟩:=by
  intro i n hn
  have hn:lk i [((1:Int),(⟨2,493,⟨⟨[]⟩⟩,1,1,[]⟩:AN))]=some n:=hn
  simp only[lk]at hn
  cases hb:(i==1) with
  | true=>rw[hb]at hn;cases hn;exact⟨by simpa using hb,rfl⟩
  | false=>rw[hb]at hn;cases hn
 refine⟨⟨?_,?_,?_,?_,?_,?_,?_,?_,?_,rfl,rfl,⟨hq.1,hq.2.1⟩,⟨hq.2.2.1,hq.2.2.2⟩⟩,⟨?_,?_,?_⟩⟩
 ·show [(1:Int)].Nodup;simp
 ·intro i n hn;obtain⟨_,rfl⟩:=hg i n hn;exact List.nodup_nil
 ·exact⟨_,rfl,rfl,rfl⟩
 ·intro i n hn;obtain⟨rfl,rfl⟩:=hg i n hn;show(1:Int)<=1/\(1:Int)<=1;omega
 ·intro i n hn;obtain⟨_,rfl⟩:=hg i n hn;rfl
 ·intro i n hn;obtain⟨_,rfl⟩:=hg i n hn;intro _;rfl
 ·intro i n s j hn hs;obtain⟨_,rfl⟩:=hg i n hn;simp[lk]at hs
 ·intro i n hn h1;exact absurd (hg i n hn).1 h1
 ·rintro i ⟨n,hn,_⟩;obtain⟨rfl,_⟩:=hg i n hn;exact⟨1,rfl⟩
 ·show(1:Int)<=(1:Nat);omega
 ·intro i n hn;obtain⟨_,rfl⟩:=hg i n hn;show(1:Int)<=(1:Nat);omega
 ·intro i n hn;obtain⟨_,rfl⟩:=hg i n hn;show(0:Nat)<=1;omega
end Go.Wk

namespace Go.Wk
open Go Go.HL
theorem Tr.may_eq (t:Tr):t.may=if t.kind=1 then t.kids.isEmpty else if t.kind=3 then t.kids.isEmpty&&(!t.exec&&linkOk t.data)else if t.kind=2 then !t.exec&&(sEq t.data ⟨⟨[]⟩⟩&&Tr.mayRow none t.kids)else false:=by
 obtain⟨n,k,e,d,kids⟩:=t
 rw[Tr.may];rfl
end Go.Wk

namespace Go.Wk
open Go Go.HL
structure OpOk (N:Nat) (A:AT) (r:Int×AT):Prop where
 inv:Inv r.2
 bd:Bd N r.2
 same:r.1≠0->r.2=A
 qi:r.2.qi=A.qi
 qb:r.2.qb=A.qb
variable {A : AT} {N : Nat}
theorem OpOk.self (h:Inv A) (hb:Bd N A) (e:Int):OpOk N A (e,A):=⟨h,hb,fun _=>rfl,rfl,rfl⟩
theorem OpOk.mono {M:Nat} {r:Int×AT} (h:OpOk N A r) (hl:N<=M):OpOk M A r:=⟨h.inv,h.bd.mono hl,h.same,h.qi,h.qb⟩
theorem make_op (h:Inv A) (hb:Bd N A) (hN:N<4611686018427387904) {dir:Int} {name:ByteArray} {kind mode:Int} {data:ByteArray} (hs:data.size<4611686018427387904) (hdp:A.isDir dir->kind=2 -> ∃d,A.deep 11 dir=some d):OpOk (N+1) A ((A.makeR dir name kind mode data).2.1,(A.makeR dir name kind mode data).2.2):=by
 obtain⟨h1,h2,h3⟩:=makeR_ok (dir:=dir) (name:=name) (kind:=kind) (mode:=mode) (data:=data) h hb hN hs hdp
 refine⟨h1,h2,fun he => ?_,h3.qi,h3.qb⟩
 by_cases he':A.makeE dir name kind mode data=0
 ·rw[makeR_z he']at he;exact absurd rfl he
 ·rw[makeR_n he']
theorem mkdirF_ok (h:Inv A) (hb:Bd N A) (hN:N<4611686018427387904) (cwd path:ByteArray):OpOk (N+1) A (A.mkdirF cwd path):=by
 unfold AT.mkdirF
 simp only
 by_cases h1:(A.freshP cwd path).1≠0
 ·rw[if_pos h1];exact OpOk.self h (hb.mono (by omega)) _
 rw[if_neg h1]
 by_cases h2:(A.deep 13 (A.freshP cwd path).2.dir).getD 0>=12
 ·rw[if_pos h2];exact OpOk.self h (hb.mono (by omega)) _
 rw[if_neg h2]
 refine make_op h hb hN (by decide) fun hd _ => ?_
 obtain⟨d,hd13,hd12,_⟩:=h.deep13 hd
 rw[hd13]at h2
 simp only[Option.getD_some]at h2
 exact⟨d,deep_low hd12 11 (by omega)⟩
theorem symlinkF_ok (h:Inv A) (hb:Bd N A) (hN:N<4611686018427387904) (cwd target path:ByteArray):OpOk (N+1) A (A.symlinkF cwd target path):=by
 unfold AT.symlinkF
 simp only
 cases hl:linkOk target with
 | false=>exact OpOk.self h (hb.mono (by omega)) _
 | true =>
  simp only[Bool.true_eq_false,if_false]
  by_cases h1:(A.freshP cwd path).1≠0
  ·rw[if_pos h1];exact OpOk.self h (hb.mono (by omega)) _
  rw[if_neg h1]
  refine make_op h hb hN ?_ (fun _ hk=>by cases hk)
  unfold linkOk at hl
  simp only[Bool.and_eq_true,decide_eq_true_eq]at hl
  omega
theorem writeF_ok (h:Inv A) (hb:Bd N A) (hN:N<4611686018427387904) (cwd path data:ByteArray) (more:Bool) (hs:data.size<2305843009213693952):OpOk (N+1) A (A.writeF cwd path data more):=by
 unfold AT.writeF
 simp only
 by_cases h1:(A.locate cwd path true).1≠0
 ·rw[if_pos h1];exact OpOk.self h (hb.mono (by omega)) _
 rw[if_neg h1]
 by_cases h2:(A.locate cwd path true).2.there=false
 ·rw[if_pos h2];exact make_op h hb hN (by omega) (fun _ hk=>by cases hk)
 rw[if_neg h2]
 by_cases h3:A.kind (A.locate cwd path true).2.ino=2
 ·rw[if_pos h3];exact OpOk.self h (hb.mono (by omega)) _
 rw[if_neg h3]
 obtain⟨a,b,c,d,e⟩:=writeR_ok h hb (A.locate cwd path true).2.ino (if more then A.data (A.locate cwd path true).2.ino++data else data) (by
  have hq:=h.bq
  cases more with
  | false=>simp only[Bool.false_eq_true,if_false];omega
  | true =>
   simp only[if_true,ByteArray.size_append]
   have:(A.data (A.locate cwd path true).2.ino).size<=1073741824:=by
    unfold AT.data
    cases hg:A.get (A.locate cwd path true).2.ino with
    | none=>decide
    | some n=>have:=h.size_le hg;show n.data.size<=_;omega
   omega)
 exact⟨a,b.mono (by omega),c,d,e⟩
theorem chmodF_ok (h:Inv A) (hb:Bd N A) (cwd path:ByteArray) (mode:Int):OpOk N A (A.chmodF cwd path mode):=by
 unfold AT.chmodF
 simp only
 split
 ·exact OpOk.self h hb _
 split
 ·exact OpOk.self h hb _
 obtain⟨a,b,c,d,e⟩:=chmodR_ok h hb (A.with_ cwd path true).2.1 mode
 exact⟨a,b,c,d,e⟩
theorem removeF_ok (h:Inv A) (hb:Bd N A) (hN:N<4611686018427387904) (cwd path:ByteArray):OpOk N A (A.removeF cwd path):=by
 unfold AT.removeF
 simp only
 split
 ·exact OpOk.self h hb _
 split
 ·exact OpOk.self h hb _
 split
 ·exact OpOk.self h hb _
 split
 ·exact OpOk.self h hb _
 obtain⟨a,b,c,d,e⟩:=unlinkR_ok h hb hN (A.locate cwd path false).2.dir (A.locate cwd path false).2.name
 exact⟨a,b,c,d,e⟩
end Go.Wk

namespace Go.Wk
open Go Go.HL
theorem splitL_app {c:UInt8} {b:List UInt8} : ∀a:List UInt8,splitL c (a++c::b)=splitL c a++splitL c b:=by
 intro a
 induction a with
 | nil=>simp[splitL]
 | cons x a ih =>
  simp only[List.cons_append,splitL]
  cases (x==c) with
  | true=>simp[ih]
  | false =>
   simp only[ih]
   cases hs:splitL c a with
   | nil=>exact absurd hs (splitL_ne a)
   | cons h t=>simp
theorem app_data (a b:ByteArray):(a++b).data.toList=a.data.toList++b.data.toList:=by rw[ByteArray.data_append,Array.toList_append]
theorem badByte_mem {s:ByteArray} (h:badByte s=false):(47:UInt8)∉s.data.toList/\(0:UInt8)∉s.data.toList:=by
 unfold badByte at h
 rw[List.any_eq_false]at h
 exact⟨fun hm=>h 47 hm (by decide),fun hm=>h 0 hm (by decide)⟩
theorem okPart_of {n:ByteArray} (h:nameOk n):okPart n=true:=by
 unfold okPart;rw[sEq_false h.1,sEq_false h.2.1];rfl
def sub (p n:ByteArray):ByteArray:=(p++⟨⟨[47]⟩⟩)++n
theorem sub_data (p n:ByteArray):(sub p n).data.toList=p.data.toList++47::n.data.toList:=by
 unfold sub;rw[app_data,app_data,List.append_assoc];rfl
theorem parts_sub {p n:ByteArray} (h:nameOk n):partsB (sub p n)=partsB p++[n]:=by
 have h47:=(badByte_mem h.2.2).1
 unfold partsB
 rw[sub_data,splitL_app,splitL_none h47,List.map_append,List.filter_append]
 congr 1
 show List.filter okPart [n]=[n]
 simp[okPart_of h]
theorem nul_sub {p n:ByteArray} (h:nameOk n) (hp:hasNul p=false):hasNul (sub p n)=false:=by
 have h0:=(badByte_mem h.2.2).2
 unfold hasNul at hp ⊢
 rw[sub_data,List.any_append,hp,List.any_cons,Bool.false_or]
 rw[Bool.or_eq_false_iff]
 refine⟨by decide,?_⟩
 rw[List.any_eq_false]
 intro x hx hb
 have:x=0:=by simpa using hb
 subst this;exact h0 hx
theorem head_sub {p n:ByteArray} {c:UInt8} (hp:headIs c p=true):headIs c (sub p n)=true:=by
 unfold headIs at hp ⊢
 rw[sub_data]
 cases hl:p.data.toList with
 | nil=>rw[hl]at hp;cases hp
 | cons x r=>rw[hl]at hp;exact hp
def Chain (A:AT):Int->List ByteArray->Int->Prop
 | d,[],i=>d=i
 | d,n::r,i=>A.kind d=2 /\ ∃j,A.find d n=some j/\Chain A j r i
theorem Chain.snoc {A:AT} {n:ByteArray} {i j:Int} : ∀ {l:List ByteArray} {d:Int},Chain A d l i->A.kind i=2->A.find i n=some j->Chain A d (l++[n]) j:=by
 intro l
 induction l with
 | nil=>intro d h h1 h2;have h:d=i:=h;subst h;exact⟨h1,j,h2,rfl⟩
 | cons x r ih =>
  intro d h h1 h2
  obtain⟨a,k,b,c⟩:=h
  exact⟨a,k,b,ih c h1 h2⟩
def stepOk (n:ByteArray):Prop:=n≠⟨⟨[46,46]⟩⟩/\n.size<=56
structure PathTo (A:AT) (p:ByteArray) (i:Int):Prop where
 head:headIs 47 p=true
 nul:hasNul p=false
 chain:Chain A 1 (partsB p) i
 names : ∀n∈partsB p,stepOk n
theorem PathTo.sub {A:AT} {p n:ByteArray} {i j:Int} (h:PathTo A p i) (hk:A.kind i=2) (hf:A.find i n=some j) (hn:mayName n=true):PathTo A (Wk.sub p n) j:=by
 unfold mayName at hn
 simp only[Bool.and_eq_true,decide_eq_true_eq,Bool.not_eq_true']at hn
 obtain⟨h1,h2,h3,h4,h5⟩:=hn
 have hne:n≠⟨⟨[]⟩⟩:=by intro e;rw[e]at h1;exact absurd h1 (by decide)
 have hne2:n≠⟨⟨[46]⟩⟩:=by intro e;rw[e]at h4;exact absurd h4 (by decide)
 have hne3:n≠⟨⟨[46,46]⟩⟩:=by intro e;rw[e]at h5;exact absurd h5 (by decide)
 have hok:nameOk n:=⟨hne,hne2,h3⟩
 refine⟨head_sub h.head,nul_sub hok h.nul,?_,?_⟩
 ·rw[parts_sub hok];exact h.chain.snoc hk hf
 ·rw[parts_sub hok]
  intro m hm
  rcases List.mem_append.1 hm with hm | hm
  ·exact h.names m hm
  ·simp at hm;subst hm;exact⟨hne3,h2⟩
theorem headIs_ne {p:ByteArray} {c:UInt8} (h:headIs c p=true):sEq p ⟨⟨[]⟩⟩=false:=by
 refine sEq_false ?_
 intro e;rw[e]at h;cases h
end Go.Wk

set_option maxRecDepth 100000
namespace Go.Proofs.YtbdlkofldmhoaaaGreatDoor
open Go Go.HL Go.Wk
attribute [local irreducible] ptrW ifW brW andW rdT alW letJ stW muW biW vaW imW callT cvalT app callW invW callVW sizeT oW nilF oneK loopW rfW funW begW roundK exW idxW Gr Put
def RowsTr (τ:H):List Tr->List (List Value)->Prop
 | [],[]=>True
 | t::ts,r::rows=>TrAt τ t r/\RowsTr τ ts rows
 | _,_=>False
theorem RowsTr.gr {τ τ':H} (hg:Gr τ τ') : ∀ {ts:List Tr} {rows:List (List Value)},RowsTr τ ts rows->RowsTr τ' ts rows:=by
 intro ts
 induction ts with
 | nil=>intro rows h;cases rows<;>exact h
 | cons t ts ih =>
  intro rows h
  cases rows with
  | nil=>exact h.elim
  | cons r rows=>exact⟨gr_both hg t r h.1,ih h.2⟩
theorem RowsTr.snoc {τ:H} {t:Tr} {r:List Value} (ht:TrAt τ t r) : ∀ {ts:List Tr} {rows:List (List Value)},RowsTr τ ts rows->RowsTr τ (ts++[t]) (rows++[r]):=by
 intro ts
 induction ts with
 | nil=>intro rows h;cases rows with
  | nil=>exact⟨ht,trivial⟩
  | cons r rows=>exact h.elim
 | cons t ts ih =>
  intro rows h
  cases rows with
  | nil=>exact h.elim
  | cons r rows=>exact⟨h.1,ih h.2⟩
theorem RowsTr.len {τ:H} : ∀ {ts:List Tr} {rows:List (List Value)},RowsTr τ ts rows->rows.length=ts.length:=by
 intro ts
 induction ts with
 | nil=>intro rows h;cases rows with
  | nil=>rfl
  | cons r rows=>exact h.elim
 | cons t ts ih =>
  intro rows h
  cases rows with
  | nil=>exact h.elim
  | cons r rows=>simp[ih h.2]
end Go.Proofs.YtbdlkofldmhoaaaGreatDoor

set_option maxRecDepth 100000
namespace Go.Wk
open Go Go.HL
structure Dn where
 out:ByteArray
 err:ByteArray
 st:Int
def Dn.z:Dn:=⟨⟨⟨[]⟩⟩,⟨⟨[]⟩⟩,0⟩
def usageP (nm:ByteArray):Dn:=⟨⟨⟨[]⟩⟩,nm++⟨⟨[58,32,117,115,97,103,101,10]⟩⟩,2⟩
def dig (c:UInt8):Bool:=Nat.ble 48 c.toNat&&Nat.ble c.toNat 57
def numL:List UInt8->Nat->Nat
 | [],n=>n
 | c::r,n=>numL r (10 * n+(c.toNat - 48))
def unsign (l:List UInt8):List UInt8:=match l with
 | []=>[]
 | c::r=>if c==45 then r else c::r
def wholeP (s:ByteArray):Option Int :=
 let l:=s.data.toList
 let n:=unsign l
 if n.isEmpty||(decide (n.length>15) || !n.all dig)then none else some (if headIs 45 s then -(numL n 0:Int)else(numL n 0:Int))
structure Pc where
 text:ByteArray
 kind:UInt8
 width:Nat
 left:Bool
def digitL (c:Nat):UInt8:=if c<10 then 48+UInt8.ofNat c else 87+UInt8.ofNat c
def fmtL (base:Nat):Nat->Nat->List UInt8->List UInt8
 | 0,_,acc=>acc
 | f+1,n,acc=>if n<base then digitL n::acc else fmtL base f (n / base) (digitL (n % base)::acc)
def fmtP (base:Nat) (n:Int):ByteArray:=⟨⟨if n<0 then 45::fmtL base 64 n.natAbs []else fmtL base 64 n.natAbs []⟩⟩
structure PS where
 args:List ByteArray
 took:Bool
 err:ByteArray
 st:Int
 out:ByteArray
def PS.a0 (s:PS):ByteArray:=match s.args with
 | []=>⟨⟨[]⟩⟩
 | a::_=>a
def PS.next (s:PS):PS:={ s with took:=true,args:=s.args.drop 1 }
def errP (nm a:ByteArray):ByteArray:=nm++⟨⟨[58,32]⟩⟩++a++⟨⟨[58,32,50,10]⟩⟩
def PS.num (nm:ByteArray) (s:PS):PS:=match wholeP s.a0 with
 | some _=>s.next
 | none=>if s.args.isEmpty then s.next else { s.next with err:=s.err++errP nm s.a0,st:=1 }
def bareL (l:List UInt8):List UInt8:=(l.reverse.dropWhile (· == 47)).reverse
def bareP (s:ByteArray):ByteArray:=⟨⟨bareL s.data.toList⟩⟩
def upto (l:List UInt8):List UInt8:=(l.reverse.dropWhile (fun c => !(c==47))).reverse
def behind (l:List UInt8):List UInt8:=(l.reverse.takeWhile (fun c => !(c==47))).reverse
end Go.Wk

set_option maxRecDepth 100000
namespace Go.Wk
open Go Go.HL
theorem sEq_ne {a b:ByteArray} (h:a≠b):sEq a b=false:=by
 cases hs:sEq a b with
 | false=>rfl
 | true=>exact absurd (sEq_iff.1 hs) h
def pS (w:Nat) (l:Bool):Pc:=⟨⟨⟨[]⟩⟩,115,w,l⟩
end Go.Wk

set_option maxRecDepth 100000
namespace Go.Wk
open Go Go.HL
section
variable (A:AT) (cwd:ByteArray) {s t : ByteArray} {x y : Int}
end
end Go.Wk

