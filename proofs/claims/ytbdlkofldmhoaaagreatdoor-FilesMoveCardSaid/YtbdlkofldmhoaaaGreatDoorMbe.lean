/- A part of the proof: FilesMove holds. -/
import Derived.Test.YtbdlkofldmhoaaaGreatDoorMbd
set_option maxRecDepth 100000
namespace Go.Proofs.YtbdlkofldmhoaaaGreatDoor
open Go Go.HL Go.Wk
def dnF (d:Dn):List Value:=[.string d.out,.string d.err,.int .i64 d.st]
theorem right_def {nm:ByteArray} (got:ByteArray) (names:List ByteArray) (hc:sEq nm ⟨⟨[99,104,109,111,100]⟩⟩=false):rightP nm got names =
 if sEq nm ⟨⟨[108,110]⟩⟩then names.length==2
 else if sEq nm ⟨⟨[109,118]⟩⟩||sEq nm ⟨⟨[99,112]⟩⟩then Nat.ble 2 names.length
 else if sEq nm ⟨⟨[114,109]⟩⟩then Nat.ble 1 names.length||hasL got 102
 else if sEq nm ⟨⟨[108,115]⟩⟩then true
 else Nat.ble 1 names.length:=by
 unfold rightP
 rw[hc];rfl
theorem ble_dec (k n:Nat):decide (((n:Nat):Int)>=((k:Nat):Int))=Nat.ble k n:=by
 rw[Bool.eq_iff_iff,decide_eq_true_eq,Nat.ble_eq];omega
attribute [local irreducible] ptrW ifW brW andW rdT alW letJ stW muW biW vaW imW callT cvalT app callW invW callVW sizeT oW nilF oneK loopW rfW funW begW roundK exW idxW Gr Put
section
variable {σ τ : H} {bt : Nat} {C : TlC} {got : ByteArray} {y : Sl} {s : TS} {B : Nat -> Prop} {names : List ByteArray}
theorem s_fiRight (h:TlAt σ bt C got y s B) (hyl:y.len=names.length) (hc:sEq C.nm ⟨⟨[99,104,109,111,100]⟩⟩=false) {K:KH} (hK:K (.bool (rightP C.nm got names)) σ):callW Tryz.prog 52 [.pointer (some ⟨bt,0,none⟩)] K σ:=by
 refine c52 _ ?_
 unfold g52
 rw[right_def got names hc]at hK
 refine ptr_i (rd_Y (y:=y) (rdC_of h.cell (by rfl)) (ptr_i (rd_S (rdC_of h.cell (by rfl)) ?_)))
 rw[hyl]
 simp only[<-sEq_eq]
 cases h1:sEq C.nm ⟨⟨[108,110]⟩⟩ with
 | true =>
  rw[h1,if_pos rfl]at hK
  refine br_t rfl ?_
  have:((((names.length:Nat):Int):Int)==2)=(names.length==2):=by
   rw[Bool.eq_iff_iff];simp only[beq_iff_eq];omega
  rw[this];exact hK
 | false =>
 rw[h1,if_neg (by simp)]at hK
 refine br_f rfl (j_i (fun j => ∀b:Bool,b=(sEq C.nm ⟨⟨[109,118]⟩⟩||sEq C.nm ⟨⟨[99,112]⟩⟩)->j (some ⟨bt,0,none⟩) ((names.length:Nat):Int) C.nm b σ) ?_ ?_)
 ·intro b hb
  rw[<-hb]at hK
  cases b with
  | true =>
   rw[if_pos rfl]at hK
   refine br_t rfl ?_
   rw[show decide ((((names.length:Nat):Int):Int)>=2)=Nat.ble 2 names.length from ble_dec 2 _]
   exact hK
  | false =>
   rw[if_neg (by simp)]at hK
   refine br_f rfl (br_f hc ?_)
   cases h2:sEq C.nm ⟨⟨[114,109]⟩⟩ with
   | true =>
    rw[h2,if_pos rfl]at hK
    refine br_t rfl ?_
    cases h3:Nat.ble 1 names.length with
    | true =>
     rw[h3,Bool.true_or]at hK
     exact br_t ((ble_dec 1 _).trans h3) hK
    | false =>
     rw[h3,Bool.false_or]at hK
     exact br_f ((ble_dec 1 _).trans h3) (call_i (s_fiHas h 102 (app_B hK)))
   | false =>
    rw[h2,if_neg (by simp)]at hK
    refine br_f rfl ?_
    cases h3:sEq C.nm ⟨⟨[108,115]⟩⟩ with
    | true=>rw[h3,if_pos rfl]at hK;exact br_t rfl hK
    | false =>
     rw[h3,if_neg (by simp)]at hK
     refine br_f rfl ?_
     rw[show decide ((((names.length:Nat):Int):Int)>=1)=Nat.ble 1 names.length from ble_dec 1 _]
     exact hK
 ·intro j hj
  cases h2:sEq C.nm ⟨⟨[109,118]⟩⟩ with
  | true=>exact br_t rfl (hj _ (by rw[h2];rfl))
  | false=>exact br_f rfl (hj _ (by rw[h2];rfl))
end
theorem und_MSFu:Tryz.prog.underlying 86=some (.map 9 1):=by kernel_rfl
theorem und_MSS:Tryz.prog.underlying 87=some (.map 9 9):=by kernel_rfl
theorem sz_DoneF:sizeT Tryz.prog 43=some 3:=by kernel_rfl
def doL (b:Nat):List (ByteArray×Value):=[(⟨⟨[109,107,100,105,114]⟩⟩,.func (.func 42) ⟨[.pointer (some ⟨b,0,none⟩)]⟩ ⟨[]⟩),(⟨⟨[114,109,100,105,114]⟩⟩,.func (.func 43) ⟨[.pointer (some ⟨b,0,none⟩)]⟩ ⟨[]⟩),(⟨⟨[116,111,117,99,104]⟩⟩,.func (.func 44) ⟨[.pointer (some ⟨b,0,none⟩)]⟩ ⟨[]⟩),(⟨⟨[99,104,109,111,100]⟩⟩,.func (.func 45) ⟨[.pointer (some ⟨b,0,none⟩)]⟩ ⟨[]⟩),(⟨⟨[108,110]⟩⟩,.func (.func 46) ⟨[.pointer (some ⟨b,0,none⟩)]⟩ ⟨[]⟩),(⟨⟨[114,109]⟩⟩,.func (.func 47) ⟨[.pointer (some ⟨b,0,none⟩)]⟩ ⟨[]⟩),(⟨⟨[109,118]⟩⟩,.func (.func 48) ⟨[.pointer (some ⟨b,0,none⟩)]⟩ ⟨[]⟩),(⟨⟨[99,112]⟩⟩,.func (.func 49) ⟨[.pointer (some ⟨b,0,none⟩)]⟩ ⟨[]⟩),(⟨⟨[108,115]⟩⟩,.func (.func 50) ⟨[.pointer (some ⟨b,0,none⟩)]⟩ ⟨[]⟩)]
theorem doL_nd (b:Nat):((doL b).map fun x=>x.1.data.toList).Nodup:=by
 have e:(doL b).map (fun x=>x.1.data.toList)=toolsL.map fun x=>x.data.toList:=rfl
 rw[e];decide +kernel
theorem doL_none (b:Nat) {nm:ByteArray} (h:toolsL.any (fun t=>sEq nm t)=false):lk nm (doL b)=none:=by
 unfold toolsL at h
 simp only[List.any_cons,List.any_nil,Bool.or_false,Bool.or_eq_false_iff]at h
 obtain⟨h1,h2,h3,h4,h5,h6,h7,h8,h9⟩:=h
 unfold doL
 simp only[lkS]
 rw[h1,h2,h3,h4,h5,h6,h7,h8,h9]
 rfl
def letL:List (ByteArray×Value):=[(⟨⟨[109,107,100,105,114]⟩⟩,.string ⟨⟨[112]⟩⟩),(⟨⟨[108,110]⟩⟩,.string ⟨⟨[115,102]⟩⟩),(⟨⟨[114,109]⟩⟩,.string ⟨⟨[114,102]⟩⟩),(⟨⟨[109,118]⟩⟩,.string ⟨⟨[102]⟩⟩),(⟨⟨[99,112]⟩⟩,.string ⟨⟨[114]⟩⟩),(⟨⟨[108,115]⟩⟩,.string ⟨⟨[97,49]⟩⟩)]
theorem letL_get (q:ByteArray):(lk q letL).getD (.string ⟨⟨[]⟩⟩) = .string (lettersP q):=by
 unfold letL lettersP
 simp only[lkS]
 split
 ·rfl
 split
 ·rfl
 split
 ·rfl
 split
 ·rfl
 split
 ·rfl
 split
 ·rfl
 rfl
theorem mul_rdF {σ:H} {b:Nat} {l:List (ByteArray×Value)} (h:MapAt σ b (encL kkS (fun v:Value=>v) l)) (z:Value) (q:ByteArray):rdM .string z false (some b) (.string q) σ=some ((lk q l).getD z):=by
 have:=rdM_at (kk:=kkS) h z false q
 rw[Option.map_id']at this
 exact this
theorem letters_ok (nm:ByteArray):(lettersP nm).data.toList.length<=100 /\ ∀c∈(lettersP nm).data.toList,c.toNat<128:=by
 unfold lettersP
 split
 ·exact⟨by decide,by decide⟩
 split
 ·exact⟨by decide,by decide⟩
 split
 ·exact⟨by decide,by decide⟩
 split
 ·exact⟨by decide,by decide⟩
 split
 ·exact⟨by decide,by decide⟩
 split
 ·exact⟨by decide,by decide⟩
 exact⟨by decide,by decide⟩
theorem files_def {A:AT} {cwd nm:ByteArray} {args:List ByteArray} (ht:toolsL.any (fun t=>sEq nm t)=true) (hc:sEq nm ⟨⟨[99,104,109,111,100]⟩⟩=false):A.filesP cwd nm args=match optsP (lettersP nm) args ⟨⟨[]⟩⟩ with
 | none=>some (usageP nm,A)
 | some (got,names)=>if rightP nm got names then some (⟨(doP A nm cwd got names).out,(doP A nm cwd got names).err,(doP A nm cwd got names).st⟩,(doP A nm cwd got names).A)else some (usageP nm,A):=by
 unfold AT.filesP
 rw[if_pos ht,hc]
 rfl
theorem app_RBm {v:Value} {x:Bool} {F:Value->Bool->H->Prop} {σ:H} (h2:F v x σ):HL.app (.tup [.sc .raw,.sc .bool]) F (.tuple ⟨[v,.bool x]⟩) σ:=by
 unfold HL.app;exact h2
section
variable {σ τ : H} {bf : Nat} {A : AT} {B : Nat -> Prop}
theorem s_fiNone (hF:FsAt σ bf A B) (nm inn cwd:ByteArray) {x:Sl} (ht:toolsL.any (fun t=>sEq nm t)=false) {K:KH} (hK:K (.tuple ⟨[.agg ⟨dnF ⟨⟨⟨[]⟩⟩,⟨⟨[]⟩⟩,0⟩⟩,.bool false]⟩) σ) :
 callW Tryz.prog 16 [.pointer (some ⟨bf,0,none⟩),.agg ⟨[.string nm,.slice x.base x.len x.cap,.string inn,.string cwd]⟩] K σ:=by
 refine pure_i _ hK (c16 _ _ _ _ _ ?_)
 clear hK
 unfold g16
 refine al_i ?_;intro b6 σ1 g1 e1 n1
 refine al_i ?_;intro b7 σ2 g2 e2 n2
 have k6:=g2.get e1
 have f7:σ b7=none:=none_of g1 n2
 refine rd_G (rdA_of' k6 (by rfl)) ?_
 (refine app_of rfl ?_;try dsimp only)
 refine al_i ?_;intro b12 σ3 g3 e3 n3
 refine mul_i und_MSFu und_string (doL b12) (doL_nd b12) ?_
 intro bm σ4 g4 n4 hm
 have G4:Gr σ σ4:=((g1.trans g2).trans g3).trans g4
 refine rd_S (rdC_of (g4.get (g3.get k6)) (by rfl)) (rd_G (mul_rd hm .nilFunc nm) ?_)
 rw[doL_none b12 ht]
 refine app_RBm (br_t rfl ?_)
 refine st_i2 (g4.get (g3.get e2)) sz_DoneF (by rfl) (by rfl) ?_;intro τ2 p2
 refine rd_G (rdA_of' p2.same (by rfl)) ?_
 (refine app_of rfl ?_;try dsimp only)
 exact⟨rfl,G4.putF p2 f7⟩
theorem s_fiRun {f:FuncId} {Q:AT->Prop} (hF:FsAt σ bf A B) (hO:Off τ σ B) (nm inn cwd:ByteArray) {x:Sl} {args:List ByteArray} (hx:RowsAt τ 1 (strRows args) x) (hcap:x.len<=x.cap) (hn:nm.size<=1000) (ha:∀a∈args,a.size<=1000) (hl:args.length<=1000)
 (ht:toolsL.any (fun t=>sEq nm t)=true) (hc:sEq nm ⟨⟨[99,104,109,111,100]⟩⟩=false) (hgo:isGo Tryz.prog f=true) (hlk:∀b,lk nm (doL b)=some (.func (.func f) ⟨[.pointer (some ⟨b,0,none⟩)]⟩ ⟨[]⟩)) (hQ:Q A)
 (hdo:∀got names y bt σ1 B1 τ1,optsP (lettersP nm) args ⟨⟨[]⟩⟩=some (got,names)->rightP nm got names=true->TlAt σ1 bt ⟨nm,inn,cwd,x,bf⟩ got y (TS.new A) B1->Off τ1 σ1 B1->RowsAt τ1 1 (strRows names) y->y.len<=y.cap -> ∀K:Value->H->Prop,
  (∀σ' B' y',TlAt σ' bt ⟨nm,inn,cwd,x,bf⟩ got y' (doP A nm cwd got names) B'->Sep σ1 B1 σ' B'->Q (doP A nm cwd got names).A->K (.tuple ⟨[]⟩) σ')->callW Tryz.prog f [.pointer (some ⟨bt,0,none⟩)] K σ1)
 {K:KH} (hK:∀d A',A.filesP cwd nm args=some (d,A') -> ∀σ' B',FsAt σ' bf A' B'->Sep σ B σ' B'->Q A'->K (.tuple ⟨[.agg ⟨dnF d⟩,.bool true]⟩) σ') :
 callW Tryz.prog 16 [.pointer (some ⟨bf,0,none⟩),.agg ⟨[.string nm,.slice x.base x.len x.cap,.string inn,.string cwd]⟩] K σ:=by
 refine c16 _ _ _ _ _ ?_
 unfold g16
 rw[files_def ht hc]at hK
 refine al_i ?_;intro b6 σ1 g1 e1 n1
 refine al_i ?_;intro b7 σ2 g2 e2 n2
 have k6:=g2.get e1
 have f7:σ b7=none:=none_of g1 n2
 refine rd_G (rdA_of' k6 (by rfl)) ?_
 (refine app_of rfl ?_;try dsimp only)
 refine al_i ?_;intro b12 σ3 g3 e3 n3
 have f12:σ b12=none:=none_of (g1.trans g2) n3
 have nB12 : ¬B b12:=hF.fresh f12
 refine mul_i und_MSFu und_string (doL b12) (doL_nd b12) ?_
 intro bm σ4 g4 n4 hm
 refine rd_S (rdC_of (g4.get (g3.get k6)) (by rfl)) (rd_G (mul_rd hm .nilFunc nm) ?_)
 rw[hlk b12]
 refine app_RBm (br_f rfl ?_)
 refine mul_i und_MSS und_string letL (by decide +kernel) ?_
 intro bm2 σ5 g5 n5 hm2
 have G3:Gr σ3 σ5:=g4.trans g5
 have G5:Gr σ σ5:=((g1.trans g2).trans g3).trans G3
 have q6:=G3.get (g3.get k6)
 have q7:=G3.get (g3.get e2)
 have q12:σ5 b12=some (.cells ⟨toolV ⟨nm,inn,cwd,x,bf⟩ ⟨⟨[]⟩⟩ ⟨none,0,0⟩ (TS.new A)⟩ 84 (0,0)):=G3.get e3
 refine rd_S (rdC_of q6 (by rfl)) (rd_S (x:=lettersP nm) (by rw[mul_rdF hm2,letL_get]) ?_)
 have t5:TlAt σ5 b12 ⟨nm,inn,cwd,x,bf⟩ ⟨⟨[]⟩⟩ ⟨none,0,0⟩ (TS.new A) (fun b=>B b\/b=b12):=⟨B,q12,hF.gr G5,nB12,fun b=>Iff.rfl⟩
 have n6 : ¬ (B b6\/b6=b12):=by
  rintro (e | e)
  ·exact hF.fresh n1 e
  ·rw[<-e,g2.get e1]at n3;cases n3
 have n7 : ¬ (B b7\/b7=b12):=by
  rintro (e | e)
  ·exact hF.fresh f7 e
  ·rw[<-e,e2]at n3;cases n3
 obtain⟨τ5,O5,hO5⟩:=off_all σ5 (fun b=>B b\/b=b12)
 have x5:RowsAt τ5 1 (strRows args) x:=hx.gr (gr_of fun c o hc'=>hO5 c o (G5.get (hO.get hc')) (by
  rintro (e | e)
  ·exact hO.2 c o hc' e
  ·have:=hO.get hc'
   rw[e,f12]at this;cases this))
 have w6:=hO5 b6 _ q6 n6
 have w7:=hO5 b7 _ q7 n7
 have back : ∀ {σ' B' B0},Sep σ5 (fun b=>B b\/b=b12) σ' B'->(∀b,B' b↔(B0 b\/b=b12))->Sep σ B σ' B0:=by
  intro σ' B' B0 hs hb c o hc' hn'
  obtain⟨r1,r2⟩:=hs c o (G5.get hc') (by
   rintro (e | e)
   ·exact hn' e
   ·rw[e,f12]at hc';cases hc')
  exact⟨r1,fun e=>r2 ((hb c).2 (.inl e))⟩
 obtain⟨hl1,hl2⟩:=letters_ok nm
 generalize hlt:lettersP nm=lt at hK hdo hl1 hl2 ⊢
 obtain⟨⟨lt⟩⟩:=lt
 generalize hdv:Value.func (Fn.func f) ⟨[Value.pointer (some ⟨b12,0,none⟩)]⟩ ⟨[]⟩=dv
 refine j_i (fun j=>j (some ⟨b6,0,none⟩) (some ⟨b7,0,none⟩) (some ⟨b12,0,none⟩) dv ⟨⟨lt⟩⟩ false σ5) ?_ ?_
 ·refine j_i (fun j=>j (some ⟨b6,0,none⟩) (some ⟨b7,0,none⟩) (some ⟨b12,0,none⟩) dv ⟨⟨lt⟩⟩ false σ5) ?_ ?_
  ·refine j_i (fun j => ∀ (b : Bool) got y σ' , TlAt σ' b12 ⟨nm, inn, cwd, x, bf⟩ got y (TS.new A) (fun b => B b \/ b = b12) -> Sep σ5 (fun b => B b \/ b = b12) σ' (fun b => B b \/ b = b12) ->
    (b=true->A.filesP cwd nm args=some (usageP nm,A))->(b=false -> ∃names,optsP ⟨⟨lt⟩⟩ args ⟨⟨[]⟩⟩=some (got,names)/\rightP nm got names=true/\RowsAt τ5 1 (strRows names) y/\y.len<=y.cap)->j (some ⟨b6,0,none⟩) (some ⟨b7,0,none⟩) (some ⟨b12,0,none⟩) dv b σ') ?_ ?_
   ·intro b got y σ6 t6 s6 h1 h2
    have O6:=O5.sep s6
    cases b with
    | true =>
     refine br_t rfl (ptr_i (rd_S (rdC_of (O6.get w6) (by rfl)) (if_i (by show nm.size+8<=_;omega) ?_)))
     refine st_i2 (O6.get w7) sz_DoneF (by rfl) (by rfl) ?_;intro σ7 p7
     refine ptr_i (rd_G (rdA_of' p7.same (by rfl)) ?_)
     (refine app_of rfl ?_;try dsimp only)
     obtain⟨B0,a1,a2,a3,a4⟩:=t6
     have hu:=h1 rfl
     rw[files_def ht hc,hlt]at hu
     exact hK (usageP nm) A hu σ7 B0 (a2.put p7 (fun e=>n7 ((a4 b7).2 (.inl e)))) ((back s6 a4).putF p7 f7) hQ
    | false =>
     obtain⟨names,o1,o2,o3,o4⟩:=h2 rfl
     subst hdv
     refine br_f rfl (cval_i hgo (hdo got names y b12 σ6 _ τ5 o1 o2 t6 O6 o3 o4 _ ?_))
     intro σ7 B7 y7 t7 s7 hq7
     have O7:=O6.sep s7
     refine app_U (ptr_i (rd_G (rdA_of' t7.cell (by rfl)) ?_))
     (refine app_of rfl ?_;try dsimp only)
     refine st_i2 (O7.get w7) sz_DoneF (by rfl) (by rfl) ?_;intro σ8 p8
     refine ptr_i (rd_G (rdA_of' p8.same (by rfl)) ?_)
     (refine app_of rfl ?_;try dsimp only)
     obtain⟨B0,a1,a2,a3,a4⟩:=t7
     refine hK ⟨(doP A nm cwd got names).out,(doP A nm cwd got names).err,(doP A nm cwd got names).st⟩ (doP A nm cwd got names).A (by rw[o1];show(if rightP nm got names=true then _ else _)=_;rw[if_pos o2]) σ8 B0 (a2.put p8 (fun e=>O7.2 b7 _ w7 ((a4 b7).2 (.inl e)))) ((back (s6.trans s7) a4).putF p8 f7) hq7
   ·intro j hj
    refine br_t rfl (call_i (s_fiOptions t5 O5 x5 hcap lt hl1 hl2 ha hl ?_ ?_))
    ·intro ho σ6 got t6 s6
     refine app_B (br_t rfl (hj true got _ σ6 t6 s6 (fun _ => ?_) (fun e=>by cases e)))
     rw[files_def ht hc,hlt,ho]
    ·intro got names ho σ6 y t6 s6 ry cy
     refine app_B (br_f rfl (call_i (s_fiRight t6 (sLen ry) hc (app_B ?_))))
     cases hr:rightP nm got names with
     | true=>exact hj false got y σ6 t6 s6 (fun e=>by cases e) (fun _=>⟨names,ho,hr,ry,cy⟩)
     | false =>
      refine hj true got y σ6 t6 s6 (fun _ => ?_) (fun e=>by cases e)
      rw[files_def ht hc,hlt,ho]
      show(if rightP nm got names=true then _ else _)=_
      rw[hr];rfl
  ·intro j hj
   exact br_f rfl hj
 ·intro j hj
  refine rd_S (rdC_of q6 (by rfl)) (br_f (by rw[<-sEq_eq];exact hc) hj)
end
end Go.Proofs.YtbdlkofldmhoaaaGreatDoor

set_option maxRecDepth 100000
namespace Go.Wk
open Go Go.HL
def rootQ:Pl:=⟨1,⟨⟨[]⟩⟩,1,true⟩
theorem walk_rootQ (A:AT):A.walk 10 1 ⟨⟨[47]⟩⟩ true 8=(0,rootQ,8):=by
 rw[AT.walk]
 have h1:mayE ⟨⟨[47]⟩⟩=0:=by decide +kernel
 have h2:headIs 47 ⟨⟨[47]⟩⟩=true:=by decide +kernel
 have h3:partsB ⟨⟨[47]⟩⟩=[]:=by decide +kernel
 rw[h1,h2,h3];rfl
def bgT (qi qb:Int):AT :=
 let A:=newT qi qb
 let A:=(A.mkdirF ⟨⟨[47]⟩⟩ ⟨⟨[100]⟩⟩).2
 let A:=(A.mkdirF ⟨⟨[47]⟩⟩ ⟨⟨[100,47,115]⟩⟩).2
 let A:=(A.writeF ⟨⟨[47]⟩⟩ ⟨⟨[100,47,102]⟩⟩ ⟨⟨[104,105]⟩⟩ false).2
 let A:=(A.writeF ⟨⟨[47]⟩⟩ ⟨⟨[100,47,115,47,103]⟩⟩ ⟨⟨[114,117,110]⟩⟩ false).2
 let A:=(A.chmodF ⟨⟨[47]⟩⟩ ⟨⟨[100,47,115,47,103]⟩⟩ 493).2
 let A:=(A.symlinkF ⟨⟨[47]⟩⟩ ⟨⟨[100]⟩⟩ ⟨⟨[108]⟩⟩).2
 (A.symlinkF ⟨⟨[47]⟩⟩ ⟨⟨[110,111,110,101]⟩⟩ ⟨⟨[109]⟩⟩).2
def eqAN (a b:AN):Bool:=a.kind==b.kind&&(a.mode==b.mode&&(sEq a.data b.data&&(a.links==b.links&&(a.up==b.up&&(a.ents.length==b.ents.length&&(a.ents.zip b.ents).all fun x=>sEq x.1.1 x.2.1&&x.1.2==x.2.2)))))
def eqAT (A B:AT):Bool:=A.qi==B.qi&&(A.qb==B.qb&&(A.ui==B.ui&&(A.ub==B.ub&&(A.last==B.last&&(A.nodes.length==B.nodes.length&&(A.nodes.zip B.nodes).all fun x=>x.1.1==x.2.1&&eqAN x.1.2 x.2.2)))))
theorem zip_eq {α:Type} {f:α×α->Bool} (hf:∀x y,f (x,y)=true->x=y) : ∀ (a b:List α),a.length=b.length->(a.zip b).all f=true->a=b:=by
 intro a
 induction a with
 | nil=>intro b h _;cases b with
  | nil=>rfl
  | cons=>cases h
 | cons x a ih =>
  intro b h h2
  cases b with
  | nil=>cases h
  | cons y b =>
   rw[List.zip_cons_cons,List.all_cons,Bool.and_eq_true]at h2
   rw[hf x y h2.1,ih b (by simpa using h) h2.2]
theorem eqAN_eq {a b:AN} (h:eqAN a b=true):a=b:=by
 obtain⟨a1,a2,a3,a4,a5,a6⟩:=a
 obtain⟨b1,b2,b3,b4,b5,b6⟩:=b
 simp only[eqAN,Bool.and_eq_true,beq_iff_eq,sEq_iff]at h
 obtain⟨h1,h2,h3,h4,h5,h6,h7⟩:=h
 have:a6=b6:=zip_eq (f:=fun x=>sEq x.1.1 x.2.1&&x.1.2==x.2.2) (fun x y h=>by
  simp only[Bool.and_eq_true,beq_iff_eq,sEq_iff]at h
  exact Prod.ext h.1 h.2) _ _ h6 h7
 subst h1;subst h2;subst h3;subst h4;subst h5;subst this;rfl
theorem eqAT_eq {A B:AT} (h:eqAT A B=true):A=B:=by
 obtain⟨a1,a2,a3,a4,a5,a6⟩:=A
 obtain⟨b1,b2,b3,b4,b5,b6⟩:=B
 simp only[eqAT,Bool.and_eq_true,beq_iff_eq]at h
 obtain⟨h1,h2,h3,h4,h5,h6,h7⟩:=h
 have:a6=b6:=zip_eq (f:=fun x=>x.1.1==x.2.1&&eqAN x.1.2 x.2.2) (fun x y h=>by
  simp only[Bool.and_eq_true,beq_iff_eq]at h
  exact Prod.ext h.1 (eqAN_eq h.2)) _ _ h6 h7
 subst h1;subst h2;subst h3;subst h4;subst h5;subst this;rfl
end Go.Wk

set_option maxRecDepth 100000
namespace Go.Wk
open Go Go.HL
def tlL (r:List UInt8):List UInt8:=r.flatMap fun c=>[47,c]
def nB (r:List UInt8):List ByteArray:=r.map fun c=>(⟨⟨[c]⟩⟩:ByteArray)
def okR (r:List UInt8):Prop := ∀c∈r,c≠47/\c≠0/\c≠46
theorem tlL_len (r:List UInt8):(tlL r).length=2 * r.length:=by
 induction r with
 | nil=>rfl
 | cons c r ih=>show([47,c]++tlL r).length=_;rw[List.length_append,ih,List.length_cons];simp;omega
theorem tlL_app (a b:List UInt8):tlL (a++b)=tlL a++tlL b:=by unfold tlL;rw[List.flatMap_append]
theorem splitL_cut : ∀ (l t:List UInt8),(47:UInt8)∉l->splitL 47 (l++47::t)=l::splitL 47 t:=by
 intro l
 induction l with
 | nil =>
  intro t _
  rfl
 | cons x l ih =>
  intro t h
  have hx:(x==47)=false:=by
   rw[beq_eq_false_iff_ne];rintro rfl;exact h (List.mem_cons_self ..)
  show(match x==47 with | true=>[]::splitL 47 (l++47::t) | false=>match splitL 47 (l++47::t)with | []=>[[x]] | h::t=>(x::h)::t)=_
  rw[hx,ih t (fun hm=>h (List.mem_cons_of_mem _ hm))]
theorem splitL_nil : ∀ (l:List UInt8),(47:UInt8)∉l->splitL 47 l=[l]:=by
 intro l
 induction l with
 | nil=>intro _;rfl
 | cons x l ih =>
  intro h
  have hx:(x==47)=false:=by
   rw[beq_eq_false_iff_ne];rintro rfl;exact h (List.mem_cons_self ..)
  show(match x==47 with | true=>[]::splitL 47 l | false=>match splitL 47 l with | []=>[[x]] | h::t=>(x::h)::t)=_
  rw[hx,ih (fun hm=>h (List.mem_cons_of_mem _ hm))]
theorem splitL_tl : ∀ (r l:List UInt8),(47:UInt8)∉l->okR r->splitL 47 (l++tlL r)=l::r.map (fun c=>[c])/\splitL 47 (l++tlL r++[47,47])=l::r.map (fun c=>[c])++[[],[]]:=by
 intro r
 induction r with
 | nil =>
  intro l h _
  constructor
  ·show splitL 47 (l++[])=_;rw[List.append_nil,splitL_nil l h];rfl
  ·show splitL 47 (l++[]++[47,47])=_;rw[List.append_nil,splitL_cut l _ h];rfl
 | cons c r ih =>
  intro l h hr
  have hc:=hr c (List.mem_cons_self ..)
  have hc':(47:UInt8)∉[c]:=by intro hm;rw[List.mem_singleton]at hm;exact hc.1 hm.symm
  obtain⟨h1,h2⟩:=ih [c] hc' (fun d hd=>hr d (List.mem_cons_of_mem _ hd))
  constructor
  ·show splitL 47 (l++47::([c]++tlL r))=_
   rw[splitL_cut _ _ h,h1];rfl
  ·have e : l ++ tlL (c :: r) ++ [47, 47] = l ++ 47 :: ([c] ++ tlL r ++ [47, 47]) := by
    show l++47::([c]++tlL r)++[47,47]=_
    rw[List.append_assoc];rfl
   rw[e,splitL_cut _ _ h,h2];rfl
theorem okPart_one {c:UInt8} (h:c≠46):okPart ⟨⟨[c]⟩⟩=true:=by
 unfold okPart
 have h1:sEq ⟨⟨[c]⟩⟩ ⟨⟨[]⟩⟩=false:=rfl
 have h2:sEq ⟨⟨[c]⟩⟩ ⟨⟨[46]⟩⟩=false:=by
  show([c]==[46])=false
  rw[beq_eq_false_iff_ne];intro e;exact h (List.cons.inj e).1
 rw[h1,h2];rfl
theorem filter_nB {r:List UInt8} (h:okR r):(nB r).filter okPart=nB r:=by
 rw[List.filter_eq_self]
 intro n hn
 obtain⟨c,hc,rfl⟩:=List.mem_map.1 hn
 exact okPart_one (h c hc).2.2
theorem tl_no0 {r:List UInt8} (h:okR r):(0:UInt8)∉tlL r:=by
 intro hm
 obtain⟨c,hc,hd⟩:=List.mem_flatMap.1 hm
 rcases List.mem_cons.1 hd with e | e
 ·exact absurd e (by decide)
 ·rw[List.mem_singleton]at e;exact(h c hc).2.1 e.symm
def rt:ByteArray:=⟨⟨[47]⟩⟩
theorem up_app {κ α:Type} [BEq κ] {k:κ} {v:α} : ∀ {a b:List (κ×α)},lk k a=none->up k v (a++b)=a++up k v b:=by
 intro a
 induction a with
 | nil=>intro b _;rfl
 | cons x a ih =>
  intro b h
  obtain⟨j,w⟩:=x
  have h':(match k==j with | true=>some w | false=>lk k a:Option α)=none:=h
  cases hj:k==j with
  | true=>rw[hj]at h';cases h'
  | false =>
   rw[hj]at h'
   show(match k==j with | true=>(k,v)::(a++b) | false=>(j,w)::up k v (a++b))=_
   rw[hj,ih h'];rfl
end Go.Wk

set_option maxRecDepth 100000
namespace Go.Wk
open Go Go.HL
theorem named_one {c:UInt8} (h:c≠47/\c≠0/\c≠46):namedE ⟨⟨[c]⟩⟩=0:=by
 unfold namedE
 rw[if_neg (show ¬ (⟨⟨[c]⟩⟩:ByteArray).size>56 by show ¬1>56;omega)]
 have h2:sEq ⟨⟨[c]⟩⟩ ⟨⟨[46]⟩⟩=false:=by
  show([c]==[46])=false
  rw[beq_eq_false_iff_ne];intro e;exact h.2.2 (List.cons.inj e).1
 have h3:sEq ⟨⟨[c]⟩⟩ ⟨⟨[46,46]⟩⟩=false:=by
  show([c]==[46,46])=false
  rw[beq_eq_false_iff_ne];intro e;simp at e
 have h4:badByte ⟨⟨[c]⟩⟩=false:=by
  show(c==47||c==0||false)=false
  have a:(c==47)=false:=by rw[beq_eq_false_iff_ne];exact h.1
  have b:(c==0)=false:=by rw[beq_eq_false_iff_ne];exact h.2.1
  rw[a,b];rfl
 rw[show sEq ⟨⟨[c]⟩⟩ ⟨⟨[]⟩⟩=false from rfl,h2,h3,h4];rfl
end Go.Wk

set_option maxRecDepth 100000
namespace Go.Wk
open Go Go.HL
end Go.Wk

set_option maxRecDepth 100000
namespace Go.Wk
open Go Go.HL
def mkN:ByteArray:=⟨⟨[109,107,100,105,114]⟩⟩
def zeroT:ByteArray:=⟨⟨[48]⟩⟩
theorem fail_0 (nm:ByteArray) (s:TS) (name:ByteArray):s.fail nm name 0=s:=rfl
theorem call_of {A:AT} {nm:ByteArray} {args names:List ByteArray} {got:ByteArray} {s:TS} (h1:toolsL.any (fun t=>sEq nm t)=true) (hb:sEq nm ⟨⟨[99,104,109,111,100]⟩⟩=false) (ho:optsP (lettersP nm) args ⟨⟨[]⟩⟩=some (got,names)) (hr:rightP nm got names=true) (hd:doP A nm rt got names=s):callP A nm args=(⟨⟨[(48+s.st.toNat).toUInt8]⟩⟩++s.out++s.err,s.A):=by
 unfold callP AT.filesP
 rw[if_pos h1]
 simp only
 rw[hb,Bool.false_and]
 simp only[Bool.false_eq_true,if_false]
 rw[ho]
 simp only
 rw[if_pos hr]
 simp only
 rw[show doP A nm ⟨⟨[47]⟩⟩ got names=s from hd]
theorem each_one {nm:ByteArray} {f:TS->ByteArray->Int×TS} {n:ByteArray} {A A':AT} {e:Int} (h:f (TS.new A) n=(e,{ TS.new A with A:=A' })):TS.each nm f [n] (TS.new A)=({ TS.new A with A:=A' }:TS).fail nm n e:=by
 rw[TS.each,if_neg (show ¬ (TS.new A).full=true from fun h=>by cases h)]
 simp only
 rw[h];rfl
theorem fail_e {A' A:AT} {nm n:ByteArray} {e:Int} (h0:e≠0) (h1:e≠10):({ TS.new A with A:=A' }:TS).fail nm n e=⟨A',⟨⟨[]⟩⟩,⟨⟨[]⟩⟩++failT nm n e,1,false⟩:=by
 unfold TS.fail
 rw[if_neg (by rw[beq_iff_eq];exact h0),show(e==10)=false by rw[beq_eq_false_iff_ne];exact h1];rfl
end Go.Wk

set_option maxRecDepth 100000
namespace Go.Wk
open Go Go.HL
inductive NT where
 | mk (name:ByteArray) (ino kind mode:Int) (data:ByteArray) (kids:List NT)
def NT.name:NT->ByteArray | .mk n _ _ _ _ _=>n
def NT.ino:NT->Int | .mk _ i _ _ _ _=>i
def NT.kind:NT->Int | .mk _ _ k _ _ _=>k
def NT.mode:NT->Int | .mk _ _ _ m _ _=>m
def NT.data:NT->ByteArray | .mk _ _ _ _ d _=>d
def NT.kids:NT->List NT | .mk _ _ _ _ _ l=>l
def NT.ent (t:NT):ByteArray×Int:=(t.name,t.ino)
mutual
def NT.toks:NT->List (Int×Nat)
 | .mk _ i _ _ d kids=>(i,d.size)::NT.toksRow kids
def NT.toksRow:List NT->List (Int×Nat)
 | []=>[]
 | t::r=>NT.toks t++NT.toksRow r
end
theorem NT.toks_eq (t:NT):t.toks=(t.ino,t.data.size)::NT.toksRow t.kids:=by obtain⟨n,i,k,m,d,l⟩:=t;rfl
theorem NT.toksRow_mem {x:Int×Nat} : ∀ {l:List NT},x∈NT.toksRow l ↔ ∃t∈l,x∈t.toks:=by
 intro l
 induction l with
 | nil=>simp[NT.toksRow]
 | cons t r ih=>simp only[NT.toksRow,List.mem_append,ih,List.mem_cons,exists_eq_or_imp]
theorem NT.toksRow_app (a b:List NT):NT.toksRow (a++b)=NT.toksRow a++NT.toksRow b:=by
 induction a with
 | nil=>rfl
 | cons t r ih=>simp only[List.cons_append,NT.toksRow,ih,List.append_assoc]
def NT.inos (t:NT):List Int:=t.toks.map (·.1)
def NT.inosRow (l:List NT):List Int:=(NT.toksRow l).map (·.1)
theorem NT.inos_eq (t:NT):t.inos=t.ino::NT.inosRow t.kids:=by unfold NT.inos NT.inosRow;rw[NT.toks_eq];rfl
theorem NT.inosRow_cons (t:NT) (r:List NT):NT.inosRow (t::r)=t.inos++NT.inosRow r:=by unfold NT.inos NT.inosRow;rw[NT.toksRow,List.map_append]
theorem NT.inosRow_mem {i:Int} {l:List NT}:i∈NT.inosRow l ↔ ∃t∈l,i∈t.inos:=by
 induction l with
 | nil=>simp[NT.inosRow,NT.toksRow]
 | cons t r ih=>rw[NT.inosRow_cons,List.mem_append,ih];simp
def sumB (l:List (Int×Nat)):Nat:=l.foldr (fun x n=>x.2+n) 0
theorem sumB_perm {a b:List (Int×Nat)} (h:a.Perm b):sumB a=sumB b:=by
 induction h with
 | nil=>rfl
 | cons x _ ih=>show x.2+_=x.2+_;exact congrArg _ ih
 | swap x y l=>show y.2+(x.2+_)=x.2+(y.2+_);omega
 | trans _ _ h1 h2=>exact h1.trans h2
theorem NT.toks_kid {t x:NT} (h:x∈t.kids):x.toks.length<t.toks.length:=by
 rw[NT.toks_eq t]
 have key : ∀l:List NT,x∈l->x.toks.length<=(NT.toksRow l).length:=by
  intro l
  induction l with
  | nil=>intro h;cases h
  | cons y r ih =>
   intro h
   rw[NT.toksRow,List.length_append]
   rcases List.mem_cons.1 h with e | e
   ·subst e;omega
   ·have:=ih e;omega
 have:=key t.kids h
 rw[List.length_cons];omega
theorem NT.ind {P:NT->Prop} (h:∀t,(∀x∈t.kids,P x)->P t) (t:NT):P t:=by
 have key : ∀ (n:Nat) (t:NT),t.toks.length<n->P t:=by
  intro n
  induction n with
  | zero=>intro t h;omega
  | succ n ih=>intro t ht;exact h t fun x hx=>ih x (by have:=NT.toks_kid hx;omega)
 exact key _ t (Nat.lt_succ_self _)
theorem NT.ino_mem (t:NT):t.ino∈t.inos:=by rw[NT.inos_eq];exact List.mem_cons_self ..
theorem NT.inos_kid {t x:NT} (h:x∈t.kids) {i:Int} (hi:i∈x.inos):i∈t.inos:=by
 rw[NT.inos_eq];exact List.mem_cons_of_mem _ (NT.inosRow_mem.2 ⟨x,h,hi⟩)
mutual
def Sub (A:AT) (up:Int):NT->Prop
 | .mk _ i k m d kids=>(∃es,A.get i=some ⟨k,m,d,1,if k==2 then up else 0,es⟩/\es.Perm (kids.map NT.ent))/\(k≠2->kids=[])/\SubRow A i kids
def SubRow (A:AT) (up:Int):List NT->Prop
 | []=>True
 | t::r=>Sub A up t/\SubRow A up r
end
def NT.node (t:NT) (up:Int) (es:List (ByteArray×Int)):AN:=⟨t.kind,t.mode,t.data,1,if t.kind==2 then up else 0,es⟩
theorem subRow_iff {A:AT} {up:Int} : ∀ {l:List NT},SubRow A up l ↔ ∀x∈l,Sub A up x:=by
 intro l
 induction l with
 | nil=>simp[SubRow]
 | cons t r ih=>simp only[SubRow,ih,List.mem_cons,forall_eq_or_imp]
theorem sub_iff {A:AT} {up:Int} {t:NT}:Sub A up t↔(∃es,A.get t.ino=some (t.node up es)/\es.Perm (t.kids.map NT.ent))/\(t.kind≠2->t.kids=[]) /\ ∀x∈t.kids,Sub A t.ino x:=by
 obtain⟨n,i,k,m,d,l⟩:=t
 rw[Sub,subRow_iff];rfl
theorem Sub.frame {A A':AT} : ∀ (t:NT) {up:Int},Sub A up t->(∀i∈t.inos,A'.get i=A.get i)->Sub A' up t:=by
 intro t
 refine NT.ind (P:=fun t => ∀ {up:Int},Sub A up t->(∀i∈t.inos,A'.get i=A.get i)->Sub A' up t) ?_ t
 intro t ih up h hf
 rw[sub_iff]at h ⊢
 exact⟨by rw[hf _ t.ino_mem];exact h.1,h.2.1,fun x hx=>ih x hx (h.2.2 x hx) fun i hi=>hf i (NT.inos_kid hx hi)⟩
theorem Sub.get {A:AT} {up:Int} {t:NT} (h:Sub A up t) : ∃es,A.get t.ino=some (t.node up es)/\es.Perm (t.kids.map NT.ent):=(sub_iff.1 h).1
theorem Sub.kid {A:AT} {up:Int} {t x:NT} (h:Sub A up t) (hx:x∈t.kids):Sub A t.ino x:=(sub_iff.1 h).2.2 x hx
theorem Sub.kind {A:AT} {up:Int} {t:NT} (h:Sub A up t):A.kind t.ino=t.kind:=by
 obtain⟨es,h1,_⟩:=h.get
 unfold AT.kind;rw[h1];rfl
theorem Sub.dir_of {A:AT} {up:Int} {t x:NT} (h:Sub A up t) (hx:x∈t.kids):t.kind=2:=by
 by_cases hk:t.kind=2
 ·exact hk
 ·rw[(sub_iff.1 h).2.1 hk]at hx;cases hx
theorem Sub.has {A:AT} : ∀ (t:NT) {up:Int},Sub A up t -> ∀i∈t.inos,∃n,A.get i=some n:=by
 intro t
 refine NT.ind (P:=fun t => ∀ {up:Int},Sub A up t -> ∀i∈t.inos,∃n,A.get i=some n) ?_ t
 intro t ih up h i hi
 rw[NT.inos_eq]at hi
 rcases List.mem_cons.1 hi with e | e
 ·subst e;obtain⟨es,h1,_⟩:=h.get;exact⟨_,h1⟩
 ·obtain⟨x,hx,hi⟩:=NT.inosRow_mem.1 e
  exact ih x hx (h.kid hx) i hi
mutual
def NT.addK (d:Int) (x:NT):NT->NT
 | .mk n i k m dt kids => .mk n i k m dt (if i=d then NT.addKR d x kids++[x]else NT.addKR d x kids)
def NT.addKR (d:Int) (x:NT):List NT->List NT
 | []=>[]
 | t::r=>NT.addK d x t::NT.addKR d x r
end
theorem NT.addKR_map (d:Int) (x:NT) (l:List NT):NT.addKR d x l=l.map (NT.addK d x):=by
 induction l with
 | nil=>rfl
 | cons t r ih=>rw[NT.addKR,ih];rfl
theorem NT.addk_eq (d:Int) (x t:NT):NT.addK d x t = .mk t.name t.ino t.kind t.mode t.data (if t.ino=d then t.kids.map (NT.addK d x)++[x]else t.kids.map (NT.addK d x)):=by
 obtain⟨n,i,k,m,dt,l⟩:=t
 rw[NT.addK,NT.addKR_map];rfl
theorem NT.addk_ent (d:Int) (x t:NT):(NT.addK d x t).ent=t.ent:=by rw[NT.addk_eq];rfl
theorem NT.addk_not {d:Int} {x:NT} : ∀t:NT,d∉t.inos->NT.addK d x t=t:=by
 intro t
 refine NT.ind (P:=fun t=>d∉t.inos->NT.addK d x t=t) ?_ t
 intro t ih h
 have h1:t.ino≠d:=fun e=>h (e ▸ t.ino_mem)
 have h2:t.kids.map (NT.addK d x)=t.kids:=by
  conv=>rhs;rw[<-List.map_id t.kids]
  refine List.map_congr_left fun y hy => ?_
  exact ih y hy fun hd=>h (NT.inos_kid hy hd)
 rw[NT.addk_eq,if_neg h1,h2]
 obtain⟨n,i,k,m,dt,l⟩:=t
 rfl
theorem nodup_row {l:List NT} (h:(NT.inosRow l).Nodup) : ∀x∈l,x.inos.Nodup:=by
 induction l with
 | nil=>intro x hx;cases hx
 | cons t r ih =>
  rw[NT.inosRow_cons]at h
  obtain⟨h1,h2,_⟩:=List.nodup_append.1 h
  intro x hx
  rcases List.mem_cons.1 hx with e | e
  ·subst e;exact h1
  ·exact ih h2 x e
theorem nodup_kids {t:NT} (h:t.inos.Nodup):t.ino∉NT.inosRow t.kids/\(NT.inosRow t.kids).Nodup:=by
 rw[NT.inos_eq]at h
 exact List.nodup_cons.1 h
theorem Sub.add {A A':AT} {d:Int} {x:NT} {nd:AN} (hd:A.get d=some nd) (hk:nd.kind=2) {es':List (ByteArray×Int)} (hd':A'.get d=some { nd with ents:=es' }) (hes:es'.Perm (nd.ents++[x.ent])) (hx:Sub A' d x) : ∀ (t:NT) {up:Int},Sub A up t->t.inos.Nodup->(∀i∈t.inos,i≠d->A'.get i=A.get i)->Sub A' up (NT.addK d x t):=by
 intro t
 refine NT.ind (P:=fun t => ∀ {up:Int},Sub A up t->t.inos.Nodup->(∀i∈t.inos,i≠d->A'.get i=A.get i)->Sub A' up (NT.addK d x t)) ?_ t
 intro t ih up h hn hf
 obtain⟨n1,n2⟩:=nodup_kids hn
 have hkid : ∀y∈t.kids,Sub A' t.ino (NT.addK d x y):=fun y hy=>ih y hy (h.kid hy) (nodup_row n2 y hy) fun i hi hne=>hf i (NT.inos_kid hy hi) hne
 have hm:(t.kids.map (NT.addK d x)).map NT.ent=t.kids.map NT.ent:=by
  rw[List.map_map];exact List.map_congr_left fun y _=>NT.addk_ent d x y
 rw[NT.addk_eq]
 by_cases e:t.ino=d
 ·rw[if_pos e]
  obtain⟨es,hg,hes0⟩:=h.get
  rw[e,hd]at hg
  have hnd:nd=t.node up es:=Option.some.inj hg
  have hk2:t.kind=2:=by rw[hnd]at hk;exact hk
  rw[sub_iff]
  refine⟨?_,fun hk'=>absurd hk2 hk',?_⟩
  ·refine⟨es',?_,?_⟩
   ·show A'.get t.ino=some (⟨t.kind,t.mode,t.data,1,if t.kind==2 then up else 0,es'⟩:AN)
    rw[e,hd',hnd];rfl
   ·show es'.Perm ((t.kids.map (NT.addK d x)++[x]).map NT.ent)
    rw[List.map_append,hm]
    rw[hnd]at hes
    exact hes.trans (List.Perm.append_right _ hes0)
  ·intro y hy
   rcases List.mem_append.1 hy with hy | hy
   ·obtain⟨z,hz,rfl⟩:=List.mem_map.1 hy
    exact hkid z hz
   ·rw[List.mem_singleton]at hy;subst hy
    show Sub A' t.ino y
    rw[e];exact hx
 ·rw[if_neg e,sub_iff]
  refine⟨?_,fun hk' => ?_,?_⟩
  ·obtain⟨es,h1,h2⟩:=h.get
   refine⟨es,?_,?_⟩
   ·show A'.get t.ino=some (⟨t.kind,t.mode,t.data,1,if t.kind==2 then up else 0,es⟩:AN)
    rw[hf _ t.ino_mem e,h1];rfl
   ·show es.Perm ((t.kids.map (NT.addK d x)).map NT.ent)
    rw[hm];exact h2
  ·show t.kids.map (NT.addK d x)=[]
   rw[(sub_iff.1 h).2.1 hk'];rfl
  ·intro y hy
   obtain⟨z,hz,rfl⟩:=List.mem_map.1 hy
   exact hkid z hz
theorem NT.addk_toks {d:Int} {x:NT} : ∀t:NT,t.inos.Nodup->d∈t.inos->(NT.addK d x t).toks.Perm (x.toks++t.toks):=by
 intro t
 refine NT.ind (P:=fun t=>t.inos.Nodup->d∈t.inos->(NT.addK d x t).toks.Perm (x.toks++t.toks)) ?_ t
 intro t ih hn hd
 obtain⟨n1,n2⟩:=nodup_kids hn
 rw[NT.addk_eq,NT.toks_eq t]
 by_cases e:t.ino=d
 ·rw[if_pos e]
  have h2:t.kids.map (NT.addK d x)=t.kids:=by
   conv=>rhs;rw[<-List.map_id t.kids]
   refine List.map_congr_left fun y hy => ?_
   exact NT.addk_not y fun hd=>n1 (e ▸ NT.inosRow_mem.2 ⟨y,hy,hd⟩)
  rw[h2]
  show((t.ino,t.data.size)::NT.toksRow (t.kids++[x])).Perm _
  rw[NT.toksRow_app]
  show((t.ino,t.data.size)::(NT.toksRow t.kids++(x.toks++[]))).Perm _
  rw[List.append_nil]
  exact(List.Perm.cons _ List.perm_append_comm).trans List.perm_middle.symm
 ·rw[if_neg e]
  rw[NT.inos_eq]at hd
  have hd':d∈NT.inosRow t.kids:=by
   rcases List.mem_cons.1 hd with h | h
   ·exact absurd h.symm e
   ·exact h
  show((t.ino,t.data.size)::NT.toksRow (t.kids.map (NT.addK d x))).Perm _
  have key : ∀l:List NT,(∀y∈l,y∈t.kids)->(NT.inosRow l).Nodup->d∈NT.inosRow l->(NT.toksRow (l.map (NT.addK d x))).Perm (x.toks++NT.toksRow l):=by
   intro l
   induction l with
   | nil=>intro _ _ h;cases h
   | cons y r ihl =>
    intro hl hn hd
    rw[NT.inosRow_cons]at hn hd
    obtain⟨m1,m2,m3⟩:=List.nodup_append.1 hn
    rw[List.map_cons,NT.toksRow,NT.toksRow]
    rcases List.mem_append.1 hd with hy | hy
    ·have hr : r.map (NT.addK d x) = r := by
      conv=>rhs;rw[<-List.map_id r]
      refine List.map_congr_left fun z hz => ?_
      exact NT.addk_not z fun hd=>m3 d hy d (NT.inosRow_mem.2 ⟨z,hz,hd⟩) rfl
     rw[hr]
     have:=ih y (hl y (List.mem_cons_self ..)) m1 hy
     exact(List.Perm.append_right _ this).trans (by rw[List.append_assoc])
    ·have hy':NT.addK d x y=y:=NT.addk_not y fun hd=>m3 d hd d hy rfl
     rw[hy']
     have:=ihl (fun z hz=>hl z (List.mem_cons_of_mem _ hz)) m2 hy
     refine(List.Perm.append_left _ this).trans ?_
     rw[<-List.append_assoc,<- List.append_assoc]
     exact List.Perm.append_right _ List.perm_append_comm
  exact(List.Perm.cons _ (key t.kids (fun _ h=>h) n2 hd')).trans List.perm_middle.symm
end Go.Wk

set_option maxRecDepth 100000
namespace Go.Wk
open Go Go.HL
def NT.at:NT->List ByteArray->NT->Prop
 | t,[],s=>s=t
 | t,w::ws,s => ∃k∈t.kids,k.name=w/\NT.at k ws s
theorem NT.at_snoc {s x:NT} (hx:x∈s.kids) : ∀ {ws:List ByteArray} {t:NT},NT.at t ws s->NT.at t (ws++[x.name]) x:=by
 intro ws
 induction ws with
 | nil=>intro t h;have h:s=t:=h;subst h;exact⟨x,hx,rfl,rfl⟩
 | cons w ws ih=>intro t h;obtain⟨k,h1,h2,h3⟩:=h;exact⟨k,h1,h2,ih h3⟩
theorem NT.at_toks {s:NT} : ∀ {ws:List ByteArray} {t:NT},NT.at t ws s -> ∀i∈s.inos,i∈t.inos:=by
 intro ws
 induction ws with
 | nil=>intro t h;have h:s=t:=h;subst h;exact fun _ h=>h
 | cons w ws ih=>intro t h i hi;obtain⟨k,h1,_,h3⟩:=h;exact NT.inos_kid h1 (ih h3 i hi)
theorem Sub.at {A:AT} {s:NT} : ∀ {ws:List ByteArray} {t:NT} {up:Int},Sub A up t->NT.at t ws s -> ∃u,Sub A u s:=by
 intro ws
 induction ws with
 | nil=>intro t up h hs;have hs:s=t:=hs;subst hs;exact⟨up,h⟩
 | cons w ws ih=>intro t up h hs;obtain⟨k,h1,_,h3⟩:=hs;exact ih (h.kid h1) h3
theorem Sub.find {A:AT} (hI:Inv A) {up:Int} {t x:NT} (h:Sub A up t) (hx:x∈t.kids):A.find t.ino x.name=some x.ino:=by
 obtain⟨es,h1,h2⟩:=h.get
 unfold AT.find
 rw[h1]
 have hn:=hI.enod _ _ h1
 show lk x.name es=some x.ino
 exact lk_of_mem hn (h2.mem_iff.2 (List.mem_map.2 ⟨x,hx,rfl⟩))
theorem Sub.find_none {A:AT} {up:Int} {t:NT} {c:ByteArray} (h:Sub A up t) (hc:∀x∈t.kids,x.name≠c):A.find t.ino c=none:=by
 obtain⟨es,h1,h2⟩:=h.get
 unfold AT.find
 rw[h1]
 show lk c es=none
 rw[lk_none_iff]
 intro hm
 obtain⟨y,hy,e⟩:=List.mem_map.1 hm
 obtain⟨x,hx,rfl⟩:=List.mem_map.1 (h2.mem_iff.1 hy)
 exact hc x hx e
section
variable {A : AT} {go : Int -> ByteArray -> Int -> Int × Pl × Int} {fo : Bool} {h : Int}
theorem steps_to (hI:Inv A) {m:NT} (hm:m.kind=2) {rest:List ByteArray} : ∀ (us:List ByteArray) (t:NT) (up:Int) (p:Pl),Sub A up t->NT.at t us m->p.ino=t.ino->p.there=true->(∀n∈us,stepOk n) -> ∃q:Pl,q.ino=m.ino/\q.there=true/\A.steps go fo (us++rest) p h=A.steps go fo rest q h:=by
 intro us
 induction us with
 | nil =>
  intro t up p hS ha hp ht _
  have ha:m=t:=ha
  subst ha
  exact⟨p,hp,ht,rfl⟩
 | cons w us ih =>
  intro t up p hS ha hp ht hok
  obtain⟨k,h1,rfl,h3⟩:=ha
  have hk:=hS.kid h1
  have hkd:k.kind=2:=by
   cases us with
   | nil=>have h3:m=k:=h3;rw[<-h3];exact hm
   | cons v us=>obtain⟨k2,h4,_⟩:=h3;exact hk.dir_of h4
  obtain⟨s1,s2⟩:=hok _ (List.mem_cons_self ..)
  have hf:=hS.find hI h1
  rw[<-hp]at hf
  have hst:A.steps go fo (k.name::(us++rest)) p h=A.steps go fo (us++rest) ⟨p.ino,k.name,k.ino,true⟩ h:=by
   rw[steps_name ht (by rw[hp,hS.kind,hS.dir_of h1]) (sEq_false s1) (by omega) (.inr (.inr (by rw[hf,Option.getD_some,hk.kind,hkd];decide)))]
   rw[hf];rfl
  obtain⟨q,q1,q2,q3⟩:=ih k t.ino ⟨p.ino,k.name,k.ino,true⟩ hk h3 rfl rfl (fun n hn=>hok n (List.mem_cons_of_mem _ hn))
  exact⟨q,q1,q2,by rw[List.cons_append,hst,q3]⟩
theorem steps_hit (hI:Inv A) {m k:NT} {us:List ByteArray} {t:NT} {up:Int} {p:Pl} (hS:Sub A up t) (ha:NT.at t us m) (hk:k∈m.kids) (hf:fo=false\/k.kind≠3) (hp:p.ino=t.ino) (ht:p.there=true) (hok:∀n∈us++[k.name],stepOk n):A.steps go fo (us++[k.name]) p h=(0,⟨m.ino,k.name,k.ino,true⟩,h):=by
 obtain⟨u,hm⟩:=hS.at ha
 have hm2:=hm.dir_of hk
 obtain⟨q,q1,q2,q3⟩:=steps_to (go:=go) (fo:=fo) (h:=h) (rest:=[k.name]) hI hm2 us t up p hS ha hp ht (fun n hn=>hok n (List.mem_append_left _ hn))
 obtain⟨s1,s2⟩:=hok k.name (by simp)
 have hfd:=hm.find hI hk
 rw[<-q1]at hfd
 rw[q3,steps_name q2 (by rw[q1,hm.kind,hm2]) (sEq_false s1) (by omega) (by
  rcases hf with e | e
  ·exact .inr (.inl (by rw[e];rfl))
  ·exact .inr (.inr (by rw[hfd,Option.getD_some,(hm.kid hk).kind];exact e)))]
 rw[hfd,q1];rfl
theorem steps_miss (hI:Inv A) {m:NT} {c:ByteArray} {us:List ByteArray} {t:NT} {up:Int} {p:Pl} (hS:Sub A up t) (ha:NT.at t us m) (hm2:m.kind=2) (hc:∀x∈m.kids,x.name≠c) (hp:p.ino=t.ino) (ht:p.there=true) (hok:∀n∈us++[c],stepOk n):A.steps go fo (us++[c]) p h=(0,⟨m.ino,c,0,false⟩,h):=by
 obtain⟨u,hm⟩:=hS.at ha
 obtain⟨q,q1,q2,q3⟩:=steps_to (go:=go) (fo:=fo) (h:=h) (rest:=[c]) hI hm2 us t up p hS ha hp ht (fun n hn=>hok n (List.mem_append_left _ hn))
 obtain⟨s1,s2⟩:=hok c (by simp)
 have hfd:=hm.find_none hc
 rw[<-q1]at hfd
 rw[q3,steps_name q2 (by rw[q1,hm.kind,hm2]) (sEq_false s1) (by omega) (.inl (by rw[hfd];rfl))]
 rw[hfd,q1];rfl
end
structure RP (p:ByteArray) (ws:List ByteArray):Prop where
 may:mayE p=0
 parts:partsB p=ws
theorem rp_loc {A:AT} (hk:A.kind 1=2) {p:ByteArray} {ws:List ByteArray} {fo:Bool} (h:RP p ws):A.locate rt p fo=((A.steps (fun d s h'=>A.walk 9 d s true h') fo ws rootQ 8).1,(A.steps (fun d s h'=>A.walk 9 d s true h') fo ws rootQ 8).2.1):=by
 have h2:headIs 47 rt=true:=by decide +kernel
 have hne:sEq p ⟨⟨[]⟩⟩=false:=by
  have h0:=h.may
  cases hs:sEq p ⟨⟨[]⟩⟩ with
  | false=>rfl
  | true=>unfold mayE at h0;rw[hs]at h0;simp at h0
 have hw:A.walk 10 1 p fo 8=A.steps (fun d s h'=>A.walk 9 d s true h') fo ws rootQ 8:=by
  rw[AT.walk,h.may,h.parts]
  simp only[ne_eq,not_true_eq_false,if_false,ite_self]
  rfl
 unfold AT.locate
 rw[hne]
 cases hh:headIs 47 p with
 | true=>simp only[if_true,Bool.false_eq_true,if_false];rw[hw]
 | false =>
  rw[h2,show rt=⟨⟨[47]⟩⟩from rfl,walk_rootQ]
  simp only[rootQ,hk]
  simp only[Bool.false_eq_true,if_false,ne_eq,not_true_eq_false,Bool.true_eq_false]
  rw[hw]
  rfl
structure FS (A:AT) (R:NT):Prop where
 inv:Inv A
 sub:Sub A 1 R
 ino:R.ino=1
 kind:R.kind=2
 nod:R.inos.Nodup
 ui:A.ui=R.toks.length
 ub:A.ub=(sumB R.toks:Nat)
section
variable {A : AT} {R : NT}
theorem FS.k1 (h:FS A R):A.kind 1=2:=by rw[<-h.ino,h.sub.kind,h.kind]
theorem FS.hit (h:FS A R) {p:ByteArray} {us:List ByteArray} {m k:NT} {fo:Bool} (hp:RP p (us++[k.name])) (ha:NT.at R us m) (hk:k∈m.kids) (hf:fo=false\/k.kind≠3) (hok:∀n∈us++[k.name],stepOk n):A.locate rt p fo=(0,⟨m.ino,k.name,k.ino,true⟩):=by
 rw[rp_loc h.k1 hp,steps_hit h.inv h.sub ha hk hf (by rw[h.ino];rfl) rfl hok]
theorem FS.miss (h:FS A R) {p:ByteArray} {us:List ByteArray} {m:NT} {c:ByteArray} {fo:Bool} (hp:RP p (us++[c])) (ha:NT.at R us m) (hm:m.kind=2) (hc:∀x∈m.kids,x.name≠c) (hok:∀n∈us++[c],stepOk n):A.locate rt p fo=(0,⟨m.ino,c,0,false⟩):=by
 rw[rp_loc h.k1 hp,steps_miss h.inv h.sub ha hm hc (by rw[h.ino];rfl) rfl hok]
end
end Go.Wk

set_option maxRecDepth 100000
namespace Go.Wk
open Go Go.HL
theorem NT.addk_ino (d:Int) (x t:NT):(NT.addK d x t).ino=t.ino/\(NT.addK d x t).name=t.name/\(NT.addK d x t).kind=t.kind/\(NT.addK d x t).mode=t.mode/\(NT.addK d x t).data=t.data:=by rw[NT.addk_eq];exact⟨rfl,rfl,rfl,rfl,rfl⟩
theorem NT.addk_kids (d:Int) (x t:NT):(NT.addK d x t).kids=if t.ino=d then t.kids.map (NT.addK d x)++[x]else t.kids.map (NT.addK d x):=by rw[NT.addk_eq];rfl
theorem map_same {α:Type} {f:α->α} {l:List α} (h:∀y∈l,f y=y):l.map f=l:=by
 conv=>rhs;rw[<-List.map_id l]
 exact List.map_congr_left h
theorem NT.addk_top {d:Int} {x t:NT} (h:t.ino=d) (hn:d∉NT.inosRow t.kids):NT.addK d x t = .mk t.name t.ino t.kind t.mode t.data (t.kids++[x]):=by
 rw[NT.addk_eq,if_pos h,map_same fun y hy=>NT.addk_not y fun hd=>hn (NT.inosRow_mem.2 ⟨y,hy,hd⟩)]
theorem NT.at_add {d:Int} {x s:NT} : ∀ {ws:List ByteArray} {t:NT},NT.at t ws s->NT.at (NT.addK d x t) ws (NT.addK d x s):=by
 intro ws
 induction ws with
 | nil=>intro t h;have h:s=t:=h;subst h;rfl
 | cons w ws ih =>
  intro t h
  obtain⟨k,h1,h2,h3⟩:=h
  refine⟨NT.addK d x k,?_,by rw[(NT.addk_ino d x k).2.1];exact h2,ih h3⟩
  rw[NT.addk_kids]
  have:=List.mem_map.2 ⟨k,h1,(rfl:NT.addK d x k=NT.addK d x k)⟩
  split
  ·exact List.mem_append_left _ this
  ·exact this
theorem NT.at_add' {d:Int} {x s t:NT} {ws:List ByteArray} (h:NT.at t ws s) (hd:d∉s.inos):NT.at (NT.addK d x t) ws s:=by
 have:=NT.at_add (d:=d) (x:=x) h
 rw[NT.addk_not s hd]at this;exact this
theorem Sub.swap {A:AT} {d:Int} {x x':NT} (he:x'.ent=x.ent) (hx:∀u,Sub A u x->Sub A u x') : ∀ (t:NT) {up:Int},Sub A up (NT.addK d x t)->Sub A up (NT.addK d x' t):=by
 intro t
 refine NT.ind (P:=fun t => ∀ {up:Int},Sub A up (NT.addK d x t)->Sub A up (NT.addK d x' t)) ?_ t
 intro t ih up h
 have hm : ∀z:NT,(t.kids.map (NT.addK d z)).map NT.ent=t.kids.map NT.ent:=fun z=>by
  rw[List.map_map];exact List.map_congr_left fun y _=>NT.addk_ent d z y
 have hkids:((NT.addK d x' t).kids).map NT.ent=((NT.addK d x t).kids).map NT.ent:=by
  rw[NT.addk_kids,NT.addk_kids]
  split
  ·rw[List.map_append,List.map_append,hm,hm]
   show _++[x'.ent]=_++[x.ent]
   rw[he]
  ·rw[hm,hm]
 obtain⟨a1,a2,a3,a4,a5⟩:=NT.addk_ino d x t
 obtain⟨b1,b2,b3,b4,b5⟩:=NT.addk_ino d x' t
 obtain⟨⟨es,h1,h2⟩,h3,h4⟩:=sub_iff.1 h
 rw[sub_iff]
 have hmem : ∀z:NT,∀y∈t.kids,NT.addK d z y∈(NT.addK d z t).kids:=by
  intro z y hy
  rw[NT.addk_kids]
  have:=List.mem_map.2 ⟨y,hy,(rfl:NT.addK d z y=NT.addK d z y)⟩
  split
  ·exact List.mem_append_left _ this
  ·exact this
 refine⟨⟨es,?_,by rw[hkids];exact h2⟩,?_,?_⟩
 ·rw[b1,<- a1,h1]
  unfold NT.node
  rw[a3,a4,a5,b3,b4,b5]
 ·intro hk
  rw[b3,<- a3]at hk
  have:=h3 hk
  have hl:((NT.addK d x' t).kids).length=((NT.addK d x t).kids).length:=by
   have:=congrArg List.length hkids
   rw[List.length_map,List.length_map]at this;exact this
  rw[this]at hl
  exact List.length_eq_zero_iff.1 hl
 ·intro z hz
  rw[b1]
  rw[a1]at h4
  rw[NT.addk_kids]at hz
  have hcase:(∃y∈t.kids,NT.addK d x' y=z)\/(t.ino=d/\z=x'):=by
   split at hz
   ·rename_i e
    rcases List.mem_append.1 hz with hz | hz
    ·exact .inl (by obtain⟨y,hy,e⟩:=List.mem_map.1 hz;exact⟨y,hy,e⟩)
    ·exact .inr ⟨e,by simpa using hz⟩
   ·exact .inl (by obtain⟨y,hy,e⟩:=List.mem_map.1 hz;exact⟨y,hy,e⟩)
  rcases hcase with⟨y,hy,rfl⟩ | ⟨e,rfl⟩
  ·exact ih y hy (h4 _ (hmem x y hy))
  ·refine hx _ (h4 x ?_)
   rw[NT.addk_kids,if_pos e];simp
theorem Sub.perm {A:AT} {u:Int} {x:NT} {l:List NT} (h:Sub A u x) (hp:l.Perm x.kids):Sub A u (.mk x.name x.ino x.kind x.mode x.data l):=by
 obtain⟨⟨es,h1,h2⟩,h3,h4⟩:=sub_iff.1 h
 rw[sub_iff]
 refine⟨⟨es,h1,?_⟩,fun hk => ?_,fun y hy=>h4 y (hp.mem_iff.1 hy)⟩
 ·exact h2.trans (hp.map NT.ent).symm
 ·have:=h3 hk
  rw[this]at hp
  exact hp.eq_nil
theorem NT.toksRow_perm {l l':List NT} (h:l.Perm l'):(NT.toksRow l).Perm (NT.toksRow l'):=by
 induction h with
 | nil=>exact List.Perm.refl _
 | cons x _ ih=>exact List.Perm.append_left _ ih
 | swap x y l =>
  show(y.toks++(x.toks++NT.toksRow l)).Perm (x.toks++(y.toks++NT.toksRow l))
  rw[<-List.append_assoc,<- List.append_assoc]
  exact List.Perm.append_right _ List.perm_append_comm
 | trans _ _ h1 h2=>exact h1.trans h2
theorem FS.toks {A:AT} {R R':NT} (h:FS A R) (hs:Sub A 1 R') (h1:R'.ino=1) (h2:R'.kind=2) (hp:R'.toks.Perm R.toks):FS A R':=by
 refine⟨h.inv,hs,h1,h2,?_,by rw[h.ui,hp.length_eq],by rw[h.ub,sumB_perm hp]⟩
 exact(List.Perm.nodup_iff (hp.map Prod.fst)).2 h.nod
theorem FS.perm {A:AT} {R x:NT} {d:Int} {l:List NT} (h:FS A (NT.addK d x R)) (hR:R.inos.Nodup) (hd:d∈R.inos) (hp:l.Perm x.kids):FS A (NT.addK d (.mk x.name x.ino x.kind x.mode x.data l) R):=by
 refine h.toks (Sub.swap (x:=x) (x' := .mk x.name x.ino x.kind x.mode x.data l) rfl (fun u hu=>hu.perm hp) R h.sub) ?_ ?_ ?_
 ·rw[(NT.addk_ino _ _ _).1,<- (NT.addk_ino d x R).1];exact h.ino
 ·rw[(NT.addk_ino _ _ _).2.2.1,<- (NT.addk_ino d x R).2.2.1];exact h.kind
 ·refine(NT.addk_toks R hR hd).trans (List.Perm.trans ?_ (NT.addk_toks R hR hd).symm)
  refine List.Perm.append_right _ ?_
  rw[NT.toks_eq,NT.toks_eq x]
  exact List.Perm.cons _ (NT.toksRow_perm hp)
theorem FS.more {A A':AT} {R m x:NT} {us:List ByteArray} (h:FS A R) (ha:NT.at R us m) (hm:m.kind=2) (hx:x.kids=[]) {nd:AN} (hnd:A.get m.ino=some nd) (hg:∀j,A'.get j=if j=m.ino then some { nd with ents:=nd.ents++[x.ent] }else if j=x.ino then some (x.node m.ino [])else A.get j) (hnew:A.get x.ino=none) (hI:Inv A') (hui:A'.ui=A.ui+1) (hub:A'.ub=A.ub+x.data.size):FS A' (NT.addK m.ino x R):=by
 obtain⟨u,hms⟩:=h.sub.at ha
 have hmi:m.ino∈R.inos:=NT.at_toks ha _ m.ino_mem
 have hxi:x.ino∉R.inos:=fun hi=>by
  obtain⟨n,hn⟩:=Sub.has R h.sub _ hi
  rw[hnew]at hn;cases hn
 have hne:x.ino≠m.ino:=fun e=>hxi (e ▸ hmi)
 have hk:nd.kind=2:=by
  obtain⟨es,h1,_⟩:=hms.get
  rw[hnd]at h1
  rw[Option.some.inj h1];exact hm
 have ht:=NT.addk_toks (x:=x) R h.nod hmi
 have hxt:x.toks=[(x.ino,x.data.size)]:=by rw[NT.toks_eq,hx];rfl
 rw[hxt]at ht
 refine⟨hI,?_,by rw[(NT.addk_ino _ _ _).1];exact h.ino,by rw[(NT.addk_ino _ _ _).2.2.1];exact h.kind,?_,?_,?_⟩
 ·refine Sub.add (es':=nd.ents++[x.ent]) hnd hk (by rw[hg,if_pos rfl]) (List.Perm.refl _) ?_ R h.sub h.nod fun i hi hne' => ?_
  ·rw[sub_iff,hx]
   exact⟨⟨[],by rw[hg,if_neg hne,if_pos rfl],List.Perm.refl _⟩,fun _=>rfl,fun y hy=>by cases hy⟩
  ·rw[hg,if_neg hne',if_neg (fun e:i=x.ino=>hxi (e ▸ hi))]
 ·refine(List.Perm.nodup_iff (ht.map Prod.fst)).2 ?_
  exact List.nodup_cons.2 ⟨hxi,h.nod⟩
 ·rw[hui,h.ui,ht.length_eq];simp
 ·rw[hub,h.ub,sumB_perm ht];show((sumB R.toks:Nat):Int)+_=((x.data.size+sumB R.toks:Nat):Int);omega
end Go.Wk

set_option maxRecDepth 100000
namespace Go.Wk
open Go Go.HL
theorem at_deep {A:AT} {m:NT} (hm:m.kind=2) : ∀ {ws:List ByteArray} {t:NT} {up:Int} (f:Nat),Sub A up t->NT.at t ws m->(∀x∈t.kids,(1:Int)∉x.inos)->A.deep (f+ws.length) m.ino=(A.deep f t.ino).map (· + (ws.length:Int)):=by
 intro ws
 induction ws with
 | nil =>
  intro t up f _ h _
  have h:m=t:=h
  subst h
  show A.deep f m.ino=_
  cases A.deep f m.ino with
  | none=>rfl
  | some d=>simp
 | cons w ws ih =>
  intro t up f hS h h1
  obtain⟨k,hk,_,ha⟩:=h
  have hks:=hS.kid hk
  have hkd:k.kind=2:=by
   cases ws with
   | nil=>have ha:m=k:=ha;rw[<-ha];exact hm
   | cons v us=>obtain⟨k2,h4,_⟩:=ha;exact hks.dir_of h4
  have hk1:k.ino≠1:=fun e=>h1 k hk (e ▸ k.ino_mem)
  have hup:A.upOf k.ino=t.ino:=by
   obtain⟨es,hg,_⟩:=hks.get
   unfold AT.upOf
   rw[hg]
   show(if k.kind==2 then t.ino else 0)=t.ino
   rw[hkd];rfl
  have hd:A.deep (f+1) k.ino=(A.deep f t.ino).map (· + 1):=by rw[AT.deep,if_neg hk1,hup]
  have:=ih (f+1) hks ha (fun x hx hi=>h1 k hk (NT.inos_kid hx hi))
  rw[show f+(w::ws).length=f+1+ws.length by rw[List.length_cons];omega,this,hd,Option.map_map]
  congr 1
  funext d
  show d+1+(ws.length:Int)=d+((w::ws).length:Int)
  rw[List.length_cons];omega
theorem FS.not1 {A:AT} {R:NT} (h:FS A R) : ∀x∈R.kids,(1:Int)∉x.inos:=by
 intro x hx hi
 have:=(nodup_kids h.nod).1
 rw[h.ino]at this
 exact this (NT.inosRow_mem.2 ⟨x,hx,hi⟩)
theorem FS.deep {A:AT} {R m:NT} {ws:List ByteArray} (h:FS A R) (ha:NT.at R ws m) (hm:m.kind=2):ws.length+1<=12 /\ ∀f:Nat,ws.length+1<=f->A.deep f m.ino=some ((ws.length:Int)+1):=by
 have h1:=at_deep hm 1 h.sub ha h.not1
 have h2:A.deep 1 R.ino=some 1:=by rw[AT.deep,if_pos h.ino]
 rw[h2,Option.map_some]at h1
 obtain⟨u,hs⟩:=h.sub.at ha
 have hD:A.isDir m.ino:=by
  obtain⟨es,hg,_⟩:=hs.get
  exact⟨_,hg,hm⟩
 obtain⟨d,hd⟩:=h.inv.deep _ hD
 have hb:=deep_bound hd
 have hlow : ∀f:Nat,ws.length+1<=f->A.deep f m.ino=some ((ws.length:Int)+1):=by
  intro f hf
  have:=deep_low h1 f (by omega)
  rw[this];congr 1;omega
 refine⟨?_,hlow⟩
 rcases Nat.lt_or_ge 12 (ws.length+1)with h3 | h3
 ·have:=deep_low hd (1+ws.length) (by omega)
  rw[this]at h1
  have:=Option.some.inj h1
  omega
 ·exact h3
def pth (a:UInt8) (cs:List UInt8):ByteArray:=⟨⟨a::tlL cs⟩⟩
def apth (a:UInt8) (cs:List UInt8):ByteArray:=⟨⟨47::a::tlL cs⟩⟩
theorem parts_pth {a:UInt8} {cs:List UInt8} (h:okR (a::cs)):partsB (pth a cs)=nB (a::cs)/\partsB (apth a cs)=nB (a::cs):=by
 have ha:=h a (List.mem_cons_self ..)
 have h47:(47:UInt8)∉[a]:=by intro hm;rw[List.mem_singleton]at hm;exact ha.1 hm.symm
 have hs:=(splitL_tl cs [a] h47 (fun c hc=>h c (List.mem_cons_of_mem _ hc))).1
 have key:List.filter okPart (List.map (fun l=>(⟨⟨l⟩⟩:ByteArray)) ([a]::cs.map fun c=>[c]))=nB (a::cs):=by
  rw[List.map_cons,List.map_map]
  show List.filter okPart (nB (a::cs))=_
  exact filter_nB h
 constructor
 ·unfold partsB
  rw[show(pth a cs).data.toList=[a]++tlL cs from rfl,hs];exact key
 ·unfold partsB
  rw[show(apth a cs).data.toList=[]++47::([a]++tlL cs)from rfl,splitL_cut [] _ (by simp),hs,List.map_cons,List.filter_cons_of_neg (by decide +kernel)]
  exact key
theorem may_list {l:List UInt8} (h1:l≠[]) (h2:l.length<=255) (h0:(0:UInt8)∉l):mayE ⟨⟨l⟩⟩=0:=by
 unfold mayE
 have e1:sEq ⟨⟨l⟩⟩ ⟨⟨[]⟩⟩=false:=by
  show(l==[])=false
  rw[beq_eq_false_iff_ne];exact h1
 have e2:hasNul ⟨⟨l⟩⟩=false:=by
  show List.any l (fun c=>c==0)=false
  rw[List.any_eq_false]
  intro x hx
  rw[beq_iff_eq];rintro rfl;exact h0 hx
 rw[e1,if_neg (by decide),if_neg (show ¬ (⟨⟨l⟩⟩:ByteArray).size>255 by show ¬l.length>255;omega),e2];rfl
theorem rp_pth {a:UInt8} {cs:List UInt8} (h:okR (a::cs)) (hl:cs.length<=100):RP (pth a cs) (nB (a::cs))/\RP (apth a cs) (nB (a::cs)):=by
 have hcs:okR cs:=fun c hc=>h c (List.mem_cons_of_mem _ hc)
 have ha:=h a (List.mem_cons_self ..)
 have h0:(0:UInt8)∉a::tlL cs:=by
  intro hm
  rcases List.mem_cons.1 hm with e | e
  ·exact ha.2.1 e.symm
  ·exact tl_no0 hcs e
 refine⟨⟨may_list (by simp) (by rw[List.length_cons,tlL_len];omega) h0,(parts_pth h).1⟩,⟨may_list (by simp) (by rw[List.length_cons,List.length_cons,tlL_len];omega) ?_,(parts_pth h).2⟩⟩
 intro hm
 rcases List.mem_cons.1 hm with e | e
 ·exact absurd e (by decide)
 ·exact h0 e
theorem nB_app (a b:List UInt8):nB (a++b)=nB a++nB b:=by unfold nB;rw[List.map_append]
theorem step_nB {cs:List UInt8} : ∀n∈nB cs,stepOk n:=by
 intro n hn
 obtain⟨c,_,rfl⟩:=List.mem_map.1 hn
 refine⟨fun e => ?_,by show 1<=56;omega⟩
 have:=congrArg (fun b:ByteArray=>b.data.toList.length) e
 simp at this
def n1 (c:UInt8):ByteArray:=⟨⟨[c]⟩⟩
theorem nB_cons (a:UInt8) (cs:List UInt8):nB (a::cs)=n1 a::nB cs:=rfl
theorem nB_snoc (cs:List UInt8) (c:UInt8):nB (cs++[c])=nB cs++[n1 c]:=nB_app cs [c]
mutual
def NT.all (P:NT->Prop):NT->Prop
 | .mk n i k m d kids=>P (.mk n i k m d kids)/\NT.allR P kids
def NT.allR (P:NT->Prop):List NT->Prop
 | []=>True
 | t::r=>NT.all P t/\NT.allR P r
end
theorem NT.allR_iff {P:NT->Prop} {l:List NT}:NT.allR P l ↔ ∀x∈l,x.all P:=by
 induction l with
 | nil=>simp[NT.allR]
 | cons t r ih=>simp only[NT.allR,ih,List.mem_cons,forall_eq_or_imp]
theorem NT.all_iff {P:NT->Prop} {t:NT}:t.all P↔P t /\ ∀x∈t.kids,x.all P:=by
 obtain⟨n,i,k,m,d,l⟩:=t
 rw[NT.all,NT.allR_iff];rfl
theorem NT.all_add {P:NT->Prop} (hP:∀n i k m d l l',P (.mk n i k m d l)->P (.mk n i k m d l')) {d:Int} {x:NT} (hx:x.all P) : ∀t:NT,t.all P->(NT.addK d x t).all P:=by
 intro t
 refine NT.ind (P:=fun t=>t.all P->(NT.addK d x t).all P) ?_ t
 intro t ih h
 rw[NT.all_iff]at h ⊢
 refine⟨?_,?_⟩
 ·rw[NT.addk_eq]
  obtain⟨n,i,k,m,dd,l⟩:=t
  exact hP _ _ _ _ _ _ _ h.1
 ·intro y hy
  rw[NT.addk_kids]at hy
  split at hy
  ·rcases List.mem_append.1 hy with hy | hy
   ·obtain⟨z,hz,rfl⟩:=List.mem_map.1 hy
    exact ih z hz (h.2 z hz)
   ·rw[List.mem_singleton]at hy;subst hy;exact hx
  ·obtain⟨z,hz,rfl⟩:=List.mem_map.1 hy
   exact ih z hz (h.2 z hz)
def letter (c:UInt8):Prop:=97<=c.toNat/\c.toNat<=102
def upX:ByteArray:=⟨⟨[46,46,47,120]⟩⟩
def GrN (t:NT):Prop:=(∃c,letter c/\t.name=n1 c)/\((t.kind=2/\t.mode=493/\t.data=⟨⟨[]⟩⟩)\/(t.kind=3/\t.mode=511/\t.data=upX)\/(t.kind=1/\0<=t.mode/\t.mode<=511/\t.data.size=2))
theorem GrN.kids {n:ByteArray} {i k m:Int} {d:ByteArray} {l l':List NT} (h:GrN (.mk n i k m d l)):GrN (.mk n i k m d l'):=h
def rootT (T:NT):NT := .mk ⟨⟨[]⟩⟩ 1 2 493 ⟨⟨[]⟩⟩ [T]
structure Gw (A:AT) (T:NT) (dirs:List ByteArray) (n:Nat):Prop where
 fs:FS A (rootT T)
 bd:Bd (2+n) A
 name:T.name=n1 116
 top:T.kind=2/\T.mode=493/\T.data=⟨⟨[]⟩⟩
 kids : ∀x∈T.kids,x.all GrN
 dne:dirs≠[]
 dirs : ∀p∈dirs,∃cs m,p=apth 116 cs/\(∀c∈cs,letter c)/\NT.at T (nB cs) m/\m.kind=2
 qi:A.qi=300
 qb:A.qb=5000
 num:T.toks.length<=1+n
 byt:sumB T.toks<=4 * n
theorem letter_ok {c:UInt8} (h:letter c):c≠47/\c≠0/\c≠46:=by
 unfold letter at h
 refine⟨?_,?_,?_⟩<;>(rintro rfl;revert h;decide)
theorem okR_t {cs:List UInt8} (h:∀c∈cs,letter c):okR (116::cs):=by
 intro c hc
 rcases List.mem_cons.1 hc with e | e
 ·subst e;decide
 ·exact letter_ok (h c e)
end Go.Wk

set_option maxRecDepth 100000
namespace Go.Wk
open Go Go.HL
theorem sub_apth (a:UInt8) (cs:List UInt8) (c:UInt8):sub (apth a cs) (n1 c)=apth a (cs++[c]):=by
 have h:(sub (apth a cs) (n1 c)).data.toList=(apth a (cs++[c])).data.toList:=by
  rw[sub_data]
  show 47::a::tlL cs++47::[c]=47::a::tlL (cs++[c])
  rw[tlL_app];rfl
 exact bytes_ext h
theorem rootT_toks (T:NT):(rootT T).toks=(1,0)::T.toks:=by
 rw[NT.toks_eq]
 show(1,0)::(T.toks++[])=_
 rw[List.append_nil]
theorem rootT_inos (T:NT):(rootT T).inos=1::T.inos:=by unfold NT.inos;rw[rootT_toks];rfl
theorem rootT_add {d:Int} {x T:NT} (h:d≠1):NT.addK d x (rootT T)=rootT (NT.addK d x T):=by
 rw[NT.addk_eq,if_neg (show ¬ (rootT T).ino=d from fun e=>h e.symm)];rfl
section
variable {A : AT} {T : NT} {dirs : List ByteArray} {n : Nat}
theorem Gw.at_root {ws:List ByteArray} {m:NT} (h:Gw A T dirs n) (ha:NT.at T ws m):NT.at (rootT T) (n1 116::ws) m:=⟨T,List.mem_singleton.2 rfl,h.name,ha⟩
theorem Gw.place (h:Gw A T dirs n) {p:ByteArray} (hp:p∈dirs) {c:UInt8} (hc:letter c) : ∃cs m,(∀c∈cs,letter c)/\NT.at T (nB cs) m/\m.kind=2/\cs.length<=10/\sub p (n1 c)=apth 116 (cs++[c])/\((∃k∈m.kids,k.name=n1 c/\A.locate rt (sub p (n1 c)) false=(0,⟨m.ino,n1 c,k.ino,true⟩))\/((∀x∈m.kids,x.name≠n1 c) /\ ∀fo,A.locate rt (sub p (n1 c)) fo=(0,⟨m.ino,n1 c,0,false⟩))):=by
 obtain⟨cs,m,rfl,h1,h2,h3⟩:=h.dirs p hp
 have hR:=h.at_root h2
 have hdp:=(h.fs.deep hR h3).1
 have hl:cs.length<=10:=by
  rw[List.length_cons]at hdp
  unfold nB at hdp
  rw[List.length_map]at hdp;omega
 have hok:okR (116::(cs++[c])):=okR_t fun d hd=>by
  rcases List.mem_append.1 hd with e | e
  ·exact h1 d e
  ·rw[List.mem_singleton]at e;rw[e];exact hc
 have hrp:=(rp_pth hok (by rw[List.length_append];simp;omega)).2
 have hsn:nB (116::(cs++[c]))=(n1 116::nB cs)++[n1 c]:=by rw[nB_cons,nB_snoc];rfl
 refine⟨cs,m,h1,h2,h3,hl,sub_apth ..,?_⟩
 rw[sub_apth]
 by_cases hk : ∃k∈m.kids,k.name=n1 c
 ·obtain⟨k,k1,k2⟩:=hk
  refine .inl ⟨k,k1,k2,?_⟩
  rw[hsn,<- k2]at hrp
  rw[<-k2]
  refine h.fs.hit hrp hR k1 (.inl rfl) fun x hx => ?_
  rw[k2,<- hsn]at hx
  exact step_nB x hx
 ·have hk' : ∀x∈m.kids,x.name≠n1 c:=fun x hx e=>hk ⟨x,hx,e⟩
  refine .inr ⟨hk',fun fo => ?_⟩
  rw[hsn]at hrp
  refine h.fs.miss hrp hR h3 hk' fun x hx => ?_
  rw[<-hsn]at hx
  exact step_nB x hx
theorem Gw.born (h:Gw A T dirs n) {cs:List UInt8} {c:UInt8} {m:NT} {kind mode:Int} {data:ByteArray} (h1:∀c∈cs,letter c) (hc:letter c) (ha:NT.at T (nB cs) m) (hm:m.kind=2) (hmiss:∀x∈m.kids,x.name≠n1 c) {A2:AT} {nd:AN} (hnd:A.get m.ino=some nd) (hg:∀j,A2.get j=if j=m.ino then some { nd with ents:=up (n1 c) (A.last+1) nd.ents }else if j=A.last+1 then some ⟨kind,mode,data,1,if kind==2 then m.ino else 0,[]⟩else A.get j) (hI:Inv A2) (hB:Bd (2+(n+1)) A2) (q1:A2.qi=A.qi) (q2:A2.qb=A.qb) (hui:A2.ui=A.ui+1) (hub:A2.ub=A.ub+data.size) (hx:GrN (.mk (n1 c) (A.last+1) kind mode data [])) (hz:data.size<=4) :
 ∃T',Gw A2 T' dirs (n+1)/\(kind=2->Gw A2 T' (dirs++[apth 116 (cs++[c])]) (n+1))/\FS A2 (NT.addK m.ino (.mk (n1 c) (A.last+1) kind mode data []) (rootT T)):=by
 obtain⟨u,hms⟩:=h.fs.sub.at (h.at_root ha)
 have hR:=h.at_root ha
 have hlk:lk (n1 c) nd.ents=none:=by
  have:=hms.find_none hmiss
  unfold AT.find at this
  rw[hnd]at this;exact this
 have hup:up (n1 c) (A.last+1) nd.ents=nd.ents++[(n1 c,A.last+1)]:=by
  have:=up_app (v:=A.last+1) (b:=[]) hlk
  rw[List.append_nil]at this
  rw[this];rfl
 rw[hup]at hg
 have hfs:FS A2 (NT.addK m.ino (.mk (n1 c) (A.last+1) kind mode data []) (rootT T)) :=
  h.fs.more (x := .mk (n1 c) (A.last+1) kind mode data []) hR hm rfl hnd hg (h.fs.inv.fresh (by show A.last<A.last+1;omega)) hI hui hub
 have hmT:m.ino∈T.inos:=NT.at_toks ha _ m.ino_mem
 have hnod:(1:Int)∉T.inos/\T.inos.Nodup:=by
  have:=h.fs.nod
  rw[rootT_inos]at this
  exact List.nodup_cons.1 this
 have hm1:m.ino≠1:=fun e=>hnod.1 (e ▸ hmT)
 have hfs':=hfs
 rw[rootT_add hm1]at hfs
 have ht:=NT.addk_toks (x := .mk (n1 c) (A.last+1) kind mode data []) T hnod.2 hmT
 have hxt:(NT.mk (n1 c) (A.last+1) kind mode data []).toks=[(A.last+1,data.size)]:=rfl
 rw[hxt]at ht
 obtain⟨a1,a2,a3,a4,a5⟩:=NT.addk_ino m.ino (.mk (n1 c) (A.last+1) kind mode data []) T
 have hxa:(NT.mk (n1 c) (A.last+1) kind mode data []).all GrN:=by
  rw[NT.all_iff];exact⟨hx,fun y hy=>by cases hy⟩
 have hkids : ∀y∈(NT.addK m.ino (.mk (n1 c) (A.last+1) kind mode data []) T).kids,y.all GrN:=by
  intro y hy
  rw[NT.addk_kids]at hy
  split at hy
  ·rcases List.mem_append.1 hy with hy | hy
   ·obtain⟨z,hz,rfl⟩:=List.mem_map.1 hy
    exact NT.all_add (fun _ _ _ _ _ _ _ h=>GrN.kids h) hxa z (h.kids z hz)
   ·rw[List.mem_singleton]at hy;subst hy;exact hxa
  ·obtain⟨z,hz,rfl⟩:=List.mem_map.1 hy
   exact NT.all_add (fun _ _ _ _ _ _ _ h=>GrN.kids h) hxa z (h.kids z hz)
 have hdirs : ∀p∈dirs,∃cs' m',p=apth 116 cs'/\(∀c∈cs',letter c)/\NT.at (NT.addK m.ino (.mk (n1 c) (A.last+1) kind mode data []) T) (nB cs') m'/\m'.kind=2:=by
  intro p hp
  obtain⟨cs',m',e1,e2,e3,e4⟩:=h.dirs p hp
  exact⟨cs',_,e1,e2,NT.at_add e3,by rw[(NT.addk_ino _ _ _).2.2.1];exact e4⟩
 have base:Gw A2 (NT.addK m.ino (.mk (n1 c) (A.last+1) kind mode data []) T) dirs (n+1) :=
  ⟨hfs,hB,by rw[a2];exact h.name,by rw[a3,a4,a5];exact h.top,hkids,h.dne,hdirs,by rw[q1];exact h.qi,by rw[q2];exact h.qb,by rw[ht.length_eq];have:=h.num;simp;omega,by rw[sumB_perm ht];have:=h.byt;show data.size+sumB T.toks<=_;omega⟩
 refine⟨_,base,fun hk => ?_,hfs'⟩
 refine { base with dne:=by simp,dirs:=fun p hp => ?_ }
 rcases List.mem_append.1 hp with hp | hp
 ·exact hdirs p hp
 ·rw[List.mem_singleton]at hp
  refine⟨cs++[c],.mk (n1 c) (A.last+1) kind mode data [],hp,fun d hd => ?_,?_,hk⟩
  ·rcases List.mem_append.1 hd with e | e
   ·exact h1 d e
   ·rw[List.mem_singleton]at e;rw[e];exact hc
  ·rw[nB_snoc]
   have:=NT.at_add (d:=m.ino) (x := .mk (n1 c) (A.last+1) kind mode data []) ha
   refine NT.at_snoc (x := .mk (n1 c) (A.last+1) kind mode data []) ?_ this
   rw[NT.addk_kids,if_pos rfl];simp
theorem Gw.more (h:Gw A T dirs n):Gw A T dirs (n+1):={ h with bd:=h.bd.mono (by omega),num:=by have:=h.num;omega,byt:=by have:=h.byt;omega }
end
end Go.Wk

set_option maxRecDepth 100000
namespace Go.Wk
open Go Go.HL
def chB (b:Nat):UInt8:=(97+b % 6).toUInt8
theorem chB_letter (b:Nat):letter (chB b):=by
 unfold letter chB
 have:b % 6<6:=Nat.mod_lt _ (by decide)
 rw[Nat.toUInt8,UInt8.toNat_ofNat']
 omega
def txG (a b:Nat):ByteArray:=⟨⟨[(48+a % 10).toUInt8,b.toUInt8]⟩⟩
def pickD (dirs:List ByteArray) (a:Nat):ByteArray:=(dirs[a % dirs.length]?).getD ⟨⟨[]⟩⟩
def growS (s:AT×List ByteArray) (x:Nat×Nat×Nat):AT×List ByteArray :=
 let p:=sub (pickD s.2 x.1) (n1 (chB x.2.1))
 if x.2.2 % 4<2 then(let r:=s.1.mkdirF rt p;(r.2,if r.1==0 then s.2++[p]else s.2))
 else if x.2.2 % 4=2 then((s.1.symlinkF rt upX p).2,s.2)
 else if(s.1.stat rt p false).1==5 then(((s.1.writeF rt p (txG x.1 x.2.1) false).2.chmodF rt p (2 * x.2.2+1:Nat)).2,s.2)
 else s
def tN:ByteArray:=⟨⟨[116]⟩⟩
def grown0:AT×List ByteArray:=(((newT 300 5000).mkdirF rt tN).2,[apth 116 []])
def grownP (l:List (Nat×Nat×Nat)):AT×List ByteArray:=(l.take 20).foldl growS grown0
section
variable {A : AT} {T : NT} {dirs : List ByteArray} {n : Nat}
theorem pick_mem (h:Gw A T dirs n) (a:Nat):pickD dirs a∈dirs:=by
 have h0:=h.dne
 have hl:0<dirs.length:=List.length_pos_iff.2 h0
 unfold pickD
 rw[List.getElem?_eq_getElem (Nat.mod_lt _ hl)]
 exact List.getElem_mem _
theorem Gw.last (h:Gw A T dirs n):A.last<=2+n:=by have:=h.bd.last;omega
theorem Gw.makeE (h:Gw A T dirs n) (hn:n<=100) {m:NT} {ws:List ByteArray} (ha:NT.at T ws m) (hm:m.kind=2) {c:UInt8} (hc:letter c) (hmiss:∀x∈m.kids,x.name≠n1 c) {kind mode:Int} {data:ByteArray} (hl:likeE kind mode data=0) (hz:data.size<=4):A.makeE m.ino (n1 c) kind mode data=0:=by
 obtain⟨u,hms⟩:=h.fs.sub.at (h.at_root ha)
 obtain⟨es,hg,_⟩:=hms.get
 have hui:=h.fs.ui
 have hub:=h.fs.ub
 rw[rootT_toks]at hui hub
 have h1:=h.num
 have h2:=h.byt
 have h3:sumB ((1,0)::T.toks)=sumB T.toks:=Nat.zero_add _
 rw[List.length_cons]at hui
 rw[h3]at hub
 exact makeE_of ⟨_,hg,hm⟩ (named_one (letter_ok hc)) hl (hms.find_none hmiss) (room_of h.fs.inv (by rw[h.qi];omega) (by rw[h.qb];omega))
theorem made_nums (hI:Inv A) (hl:A.last<1000) {d:Int} {nd:AN} (hnd:A.get d=some nd) {c:ByteArray} {kind mode:Int} {data:ByteArray} (hu:A.ui<=1000000000000) (hb:A.ub<=1000000000000) (hz:data.size<=4):(A.made d c kind mode data).ui=A.ui+1/\(A.made d c kind mode data).ub=A.ub+data.size/\(A.made d c kind mode data).qi=A.qi/\(A.made d c kind mode data).qb=A.qb:=by
 have hp1:=hI.ui_pos
 have hp2:=hI.ub_pos
 rw[made_eq hI (by omega) hnd]
 refine⟨?_,?_,rfl,rfl⟩
 ·show wr (A.ui+1)=_
  exact wr_id (by omega) (by omega)
 ·show wr (A.ub+data.size)=_
  exact wr_id (by omega) (by omega)
theorem Gw.step (h:Gw A T dirs n) (hn:n<=100) (x:Nat×Nat×Nat) (hx:x.2.2<=255) : ∃T',Gw (growS (A,dirs) x).1 T' (growS (A,dirs) x).2 (n+1):=by
 obtain⟨a,b,c⟩:=x
 have hx:c<=255:=hx
 have hc:=chB_letter b
 obtain⟨cs,m,h1,h2,h3,h4,h5,h6⟩:=h.place (pick_mem h a) hc
 have hlast:=h.last
 obtain⟨u,hms⟩:=h.fs.sub.at (h.at_root h2)
 obtain⟨es,hnd,_⟩:=hms.get
 have hI:=h.fs.inv
 have hui:A.ui<=1000000000000:=by have:=hI.uq;omega
 have hub:A.ub<=1000000000000:=by have:=hI.bq;omega
 show ∃T',Gw (if c % 4<2 then _ else _:AT×List ByteArray).1 T' (if c % 4<2 then _ else _:AT×List ByteArray).2 (n+1)
 simp only
 generalize hp:sub (pickD dirs a) (n1 (chB b))=p at *
 by_cases c1:c % 4<2
 ·rw[if_pos c1]
  have hok:=mkdirF_ok hI h.bd (by omega) rt p
  rcases h6 with⟨k,k1,k2,k3⟩ | ⟨k1,k2⟩
  ·have hr : A.mkdirF rt p = (6, A) := by
    unfold AT.mkdirF AT.freshP
    rw[k3];simp
   rw[hr]
   exact⟨T,h.more⟩
  ·by_cases hd:(12:Int)<=(cs.length:Int)+2
   ·have hdp:=(h.fs.deep (h.at_root h2) h3).2 13 (by rw[List.length_cons];unfold nB;rw[List.length_map];omega)
    have hr:A.mkdirF rt p=(3,A):=by
     unfold AT.mkdirF AT.freshP
     rw[k2]
     simp only[ne_eq,not_true_eq_false,if_false,Bool.false_eq_true]
     rw[hdp,Option.getD_some,if_pos (by rw[List.length_cons];unfold nB;rw[List.length_map];omega)]
    rw[hr]
    exact⟨T,h.more⟩
   ·have he:=h.makeE hn h2 h3 hc k1 (kind:=2) (mode:=493) (data:=⟨⟨[]⟩⟩) (by decide +kernel) (by decide)
    have hdp:=(h.fs.deep (h.at_root h2) h3).2 13 (by rw[List.length_cons];unfold nB;rw[List.length_map];omega)
    have hr:A.mkdirF rt p=(0,A.made m.ino (n1 (chB b)) 2 493 ⟨⟨[]⟩⟩):=by
     unfold AT.mkdirF AT.freshP
     rw[k2]
     simp only[ne_eq,not_true_eq_false,if_false,Bool.false_eq_true]
     rw[hdp,Option.getD_some,if_neg (by rw[List.length_cons];unfold nB;rw[List.length_map];omega),makeR_z he]
    rw[hr]at hok ⊢
    obtain⟨e1,e2,e3,e4⟩:=made_nums hI (by omega) hnd (c:=n1 (chB b)) (kind:=2) (mode:=493) (data:=⟨⟨[]⟩⟩) hui hub (by decide)
    obtain⟨T',_,g2,_⟩:=h.born h1 hc h2 h3 k1 hnd (made_get hI (by omega) hnd) hok.inv hok.bd e3 e4 e1 e2 ⟨⟨_,hc,rfl⟩,.inl ⟨rfl,rfl,rfl⟩⟩ (by decide)
    refine⟨T',?_⟩
    have:=g2 rfl
    rw[<-h5]at this
    exact this
 rw[if_neg c1]
 by_cases c2:c % 4=2
 ·rw[if_pos c2]
  have hok:=symlinkF_ok hI h.bd (by omega) rt upX p
  have hlk:linkOk upX=true:=by decide +kernel
  rcases h6 with⟨k,k1,k2,k3⟩ | ⟨k1,k2⟩
  ·have hr : A.symlinkF rt upX p = (6, A) := by
    unfold AT.symlinkF AT.freshP
    rw[k3,hlk];simp
   rw[hr]
   exact⟨T,h.more⟩
  ·have he:=h.makeE hn h2 h3 hc k1 (kind:=3) (mode:=511) (data:=upX) (by decide +kernel) (by decide)
   have hr:A.symlinkF rt upX p=(0,A.made m.ino (n1 (chB b)) 3 511 upX):=by
    unfold AT.symlinkF AT.freshP
    rw[k2,hlk]
    simp only[ne_eq,not_true_eq_false,if_false,Bool.false_eq_true,Bool.true_eq_false]
    rw[makeR_z he]
   rw[hr]at hok ⊢
   obtain⟨e1,e2,e3,e4⟩:=made_nums hI (by omega) hnd (c:=n1 (chB b)) (kind:=3) (mode:=511) (data:=upX) hui hub (by decide)
   obtain⟨T',g1,_,_⟩:=h.born h1 hc h2 h3 k1 hnd (made_get hI (by omega) hnd) hok.inv hok.bd e3 e4 e1 e2 ⟨⟨_,hc,rfl⟩,.inr (.inl ⟨rfl,rfl,rfl⟩)⟩ (by decide)
   exact⟨T',g1⟩
 rw[if_neg c2]
 rcases h6 with⟨k,k1,k2,k3⟩ | ⟨k1,k2⟩
 ·obtain⟨es',hkn,_⟩:=(hms.kid k1).get
  have hs:(A.stat rt p false).1=0:=by
   unfold AT.stat AT.with_
   rw[k3]
   simp[hkn]
  rw[hs,if_neg (by decide)]
  exact⟨T,h.more⟩
 ·have hs : (A.stat rt p false).1 = 5 := by
   unfold AT.stat AT.with_
   rw[k2 false]
   simp
  rw[hs,if_pos (by decide)]
  have hz:(txG a b).size<=4:=by show 2<=4;omega
  have hlk1:likeE 1 420 (txG a b)=0:=rfl
  have he:=h.makeE hn h2 h3 hc k1 (kind:=1) (mode:=420) (data:=txG a b) hlk1 hz
  have hr:A.writeF rt p (txG a b) false=(0,A.made m.ino (n1 (chB b)) 1 420 (txG a b)):=by
   unfold AT.writeF
   rw[k2 true]
   simp only[ne_eq,not_true_eq_false,if_false,if_true]
   rw[makeR_z he]
  have hok:=writeF_ok hI h.bd (by omega) rt p (txG a b) false (by show 2<_;omega)
  rw[hr]at hok ⊢
  obtain⟨e1,e2,e3,e4⟩:=made_nums hI (by omega) hnd (c:=n1 (chB b)) (kind:=1) (mode:=420) (data:=txG a b) hui hub hz
  have hG:=made_get (name:=n1 (chB b)) (kind:=1) (mode:=420) (data:=txG a b) hI (by omega) hnd
  obtain⟨_,_,_,hfs1⟩:=h.born h1 hc h2 h3 k1 hnd hG hok.inv hok.bd e3 e4 e1 e2 ⟨⟨_,hc,rfl⟩,.inr (.inr ⟨rfl,by show(0:Int)<=420;omega,by show(420:Int)<=511;omega,rfl⟩)⟩ hz
  generalize hA1:A.made m.ino (n1 (chB b)) 1 420 (txG a b)=A1 at *
  have hok1:okR (116::(cs++[chB b])):=okR_t fun d hd=>by
   rcases List.mem_append.1 hd with e | e
   ·exact h1 d e
   ·rw[List.mem_singleton]at e;rw[e];exact hc
  have hrp:=(rp_pth hok1 (by rw[List.length_append];simp;omega)).2
  have hsn:nB (116::(cs++[chB b]))=(n1 116::nB cs)++[n1 (chB b)]:=by rw[nB_cons,nB_snoc];rfl
  rw[hsn,<- h5]at hrp
  have hloc:A1.locate rt p true=(0,⟨m.ino,n1 (chB b),A.last+1,true⟩):=by
   have:=hfs1.hit (k := .mk (n1 (chB b)) (A.last+1) 1 420 (txG a b) []) (fo:=true) hrp (NT.at_add (h.at_root h2)) (by rw[NT.addk_kids,if_pos rfl];simp) (.inr (by show(1:Int)≠3;decide)) (fun x hx=>by
    have hx:x∈(n1 116::nB cs)++[n1 (chB b)]:=hx
    rw[<-hsn]at hx
    exact step_nB x hx)
   rw[this,(NT.addk_ino _ _ _).1];rfl
  have hmle:m.ino<=A.last:=(hI.low _ _ hnd).2
  have hne:A.last+1≠m.ino:=by omega
  have hgx:A1.get (A.last+1)=some (newN m.ino 1 420 (txG a b)):=by rw[hG,if_neg hne,if_pos rfl]
  have hcm:A1.chmodF rt p (2 * c+1:Nat)=(0,A1.set (A.last+1) { newN m.ino 1 420 (txG a b)with mode:=(2 * c+1:Nat) }):=by
   unfold AT.chmodF AT.with_
   rw[if_neg (by omega),hloc]
   simp only[ne_eq,not_true_eq_false,if_false,Bool.true_eq_false,hgx]
   unfold AT.chmodR
   have:A1.chmodE (A.last+1) ((2 * c+1:Nat):Int)=0:=by
    unfold AT.chmodE
    rw[if_pos (by omega),hgx];rfl
   rw[if_pos this]
   unfold AT.chmoded AT.mod
   rw[hgx]
  have hok2:=chmodF_ok hok.inv hok.bd rt p (2 * c+1:Nat)
  rw[hcm]at hok2 ⊢
  have hG2 : ∀j,(A1.set (A.last+1) { newN m.ino 1 420 (txG a b)with mode:=(2 * c+1:Nat) }).get j=if j=m.ino then some { m.node u es with ents:=up (n1 (chB b)) (A.last+1) (m.node u es).ents }else if j=A.last+1 then some ⟨1,(2 * c+1:Nat),txG a b,1,if(1:Int)==2 then m.ino else 0,[]⟩else A.get j:=by
   intro j
   rw[AT.get_set]
   by_cases e:j=A.last+1
   ·rw[if_pos e,if_neg (by omega),if_pos e];rfl
   ·rw[if_neg e,hG,if_neg e,if_neg e]
  obtain⟨T',g1,_,_⟩:=h.born h1 hc h2 h3 k1 hnd hG2 hok2.inv hok2.bd e3 e4 e1 e2 ⟨⟨_,hc,rfl⟩,.inr (.inr ⟨rfl,by show(0:Int)<=((2 * c+1:Nat):Int);omega,by show((2 * c+1:Nat):Int)<=511;omega,rfl⟩)⟩ hz
  exact⟨T',g1⟩
end
end Go.Wk

set_option maxRecDepth 100000
namespace Go.Wk
open Go Go.HL
theorem grown0_eq:(newT 300 5000).mkdirF rt tN=(0,⟨300,5000,2,0,2,[(1,⟨2,493,⟨⟨[]⟩⟩,1,1,[(tN,2)]⟩),(2,⟨2,493,⟨⟨[]⟩⟩,1,1,[]⟩)]⟩):=by
 have h1:((newT 300 5000).mkdirF rt tN).1=0:=by decide +kernel
 have h2:((newT 300 5000).mkdirF rt tN).2=⟨300,5000,2,0,2,[(1,⟨2,493,⟨⟨[]⟩⟩,1,1,[(tN,2)]⟩),(2,⟨2,493,⟨⟨[]⟩⟩,1,1,[]⟩)]⟩:=eqAT_eq (by decide +kernel)
 exact Prod.ext h1 h2
theorem grown0_ok:Gw grown0.1 (.mk tN 2 2 493 ⟨⟨[]⟩⟩ []) grown0.2 0:=by
 obtain⟨i1,b1⟩:=newT_ok (qi:=300) (qb:=5000) rfl
 have hok:=mkdirF_ok i1 b1 (by decide) rt tN
 have e:grown0.1=⟨300,5000,2,0,2,[(1,⟨2,493,⟨⟨[]⟩⟩,1,1,[(tN,2)]⟩),(2,⟨2,493,⟨⟨[]⟩⟩,1,1,[]⟩)]⟩:=by
  unfold grown0;rw[grown0_eq]
 have hI:=hok.inv
 have hB:=hok.bd
 rw[grown0_eq]at hI hB
 rw[e]
 refine⟨⟨hI,?_,rfl,rfl,?_,rfl,rfl⟩,hB,rfl,⟨rfl,rfl,rfl⟩,(fun x hx=>by cases hx),(show [apth 116 []]≠[]from List.cons_ne_nil _ _),(fun p hp => ?_),rfl,rfl,(by decide),(by decide)⟩
 ·rw[sub_iff]
  refine⟨⟨[(tN,2)],rfl,List.Perm.refl _⟩,fun h=>absurd rfl h,fun x hx => ?_⟩
  have hx:x∈[NT.mk tN 2 2 493 ⟨⟨[]⟩⟩ []]:=hx
  rw[List.mem_singleton]at hx
  subst hx
  rw[sub_iff]
  exact⟨⟨[],rfl,List.Perm.refl _⟩,fun h=>absurd rfl h,fun x hx=>by cases hx⟩
 ·show([1,2]:List Int).Nodup
  decide
 ·have hp:p∈[apth 116 []]:=hp
  rw[List.mem_singleton]at hp
  exact⟨[],.mk tN 2 2 493 ⟨⟨[]⟩⟩ [],hp,(fun c hc=>by cases hc),rfl,rfl⟩
theorem grown_ok (l:List (Nat×Nat×Nat)) (hl:∀x∈l,x.2.2<=255) : ∃T,Gw (grownP l).1 T (grownP l).2 20:=by
 have key : ∀ (l:List (Nat×Nat×Nat)) (s:AT×List ByteArray) (T:NT) (n:Nat),(∀x∈l,x.2.2<=255)->n+l.length<=100->Gw s.1 T s.2 n -> ∃T',Gw (l.foldl growS s).1 T' (l.foldl growS s).2 (n+l.length):=by
  intro l
  induction l with
  | nil=>intro s T n _ _ h;exact⟨T,h⟩
  | cons x r ih =>
   intro s T n hx hn h
   rw[List.length_cons]at hn
   obtain⟨T1,h1⟩:=h.step (by omega) x (hx x (List.mem_cons_self ..))
   obtain⟨T2,h2⟩:=ih (growS s x) T1 (n+1) (fun y hy=>hx y (List.mem_cons_of_mem _ hy)) (by omega) h1
   refine⟨T2,?_⟩
   rw[List.length_cons,show n+(r.length+1)=n+1+r.length by omega]
   exact h2
 have hlen:(l.take 20).length<=20:=by rw[List.length_take];omega
 obtain⟨T,h⟩:=key (l.take 20) grown0 _ 0 (fun x hx=>hl x (List.mem_of_mem_take hx)) (by omega) grown0_ok
 refine⟨T,?_⟩
 have up : ∀k n,n+k<=100->Gw (grownP l).1 T (grownP l).2 n->Gw (grownP l).1 T (grownP l).2 (n+k):=by
  intro k
  induction k with
  | zero=>intro n _ h;exact h
  | succ k ih=>intro n hn h;exact(ih n (by omega) h).more
 have:=up (20 - (0+(l.take 20).length)) _ (by omega) h
 rw[show 0+(l.take 20).length+(20 - (0+(l.take 20).length))=20 by omega]at this
 exact this
def headT (modes:Bool) (kind mode:Int) (data:ByteArray):ByteArray :=
 let s:ByteArray:=⟨⟨[(48+kind.toNat).toUInt8]⟩⟩++data++⟨⟨[59]⟩⟩
 if modes&&kind==1 then s++⟨⟨[(mode / 8 % 64).toNat.toUInt8,(mode % 8).toNat.toUInt8]⟩⟩else s
def askT:ByteArray:=⟨⟨[63]⟩⟩
def partT (s n t:ByteArray):ByteArray:=s++((⟨⟨[40]⟩⟩++n)++t++⟨⟨[41]⟩⟩)
def AT.treeP (A:AT) (modes:Bool):Nat->ByteArray->ByteArray
 | 0,_=>askT
 | k+1,path =>
  let r:=A.stat rt path false
  if !(r.1==0)then askT
  else if !(r.2.kind==2)then headT modes r.2.kind r.2.mode r.2.data
  else(A.listF rt path).2.foldl (fun s n=>partT s n (AT.treeP A modes k (sub path n))) (headT modes r.2.kind r.2.mode r.2.data)
def NT.names (t:NT):List ByteArray:=sortN (t.kids.map NT.name)
def NT.txt (modes:Bool):Nat->NT->ByteArray
 | 0,_=>askT
 | k+1,t=>if !(t.kind==2)then headT modes t.kind t.mode t.data
  else t.names.foldl (fun s n=>partT s n (match t.kids.find? (fun x=>sEq x.name n) with
   | some x=>NT.txt modes k x
   | none=>askT)) (headT modes t.kind t.mode t.data)
theorem find_kid {l:List NT} (h:(l.map NT.name).Nodup) {x:NT} (hx:x∈l):l.find? (fun y=>sEq y.name x.name)=some x:=by
 induction l with
 | nil=>cases hx
 | cons y r ih =>
  rw[List.map_cons,List.nodup_cons]at h
  rcases List.mem_cons.1 hx with e | e
  ·subst e
   rw[List.find?_cons_of_pos (by rw[sEq_iff])]
  ·rw[List.find?_cons_of_neg (by rw[sEq_iff];intro he;exact h.1 (he ▸ List.mem_map.2 ⟨x,e,rfl⟩))]
   exact ih h.2 e
theorem Sub.nodNames {A:AT} (hI:Inv A) {up:Int} {t:NT} (h:Sub A up t):(t.kids.map NT.name).Nodup:=by
 obtain⟨es,h1,h2⟩:=h.get
 have hn:=hI.enod _ _ h1
 have hp:(keysL es).Perm (t.kids.map NT.name):=by
  have:=h2.map Prod.fst
  rw[List.map_map]at this
  exact this
 exact hp.nodup_iff.1 hn
theorem Sub.names {A:AT} {up:Int} {t:NT} (h:Sub A up t):A.names t.ino=t.names:=by
 obtain⟨es,h1,h2⟩:=h.get
 unfold AT.names NT.names
 rw[h1]
 show sortN (keysL es)=_
 refine sortN_eq ?_
 have:=h2.map Prod.fst
 rw[List.map_map]at this
 exact this
inductive Like:NT->NT->Prop
 | mk (s x:NT) (h1:x.kind=s.kind) (h2:x.mode=s.mode) (h3:x.data=s.data) (h4:(x.kids.map NT.name).Perm (s.kids.map NT.name)) (h5:∀y∈x.kids,∀z∈s.kids,z.name=y.name->Like z y):Like s x
mutual
def NT.nodN:NT->Prop
 | .mk _ _ _ _ _ kids=>(kids.map NT.name).Nodup/\NT.nodR kids
def NT.nodR:List NT->Prop
 | []=>True
 | t::r=>NT.nodN t/\NT.nodR r
end
theorem NT.nodN_iff {t:NT}:t.nodN↔(t.kids.map NT.name).Nodup /\ ∀x∈t.kids,x.nodN:=by
 obtain⟨n,i,k,m,d,l⟩:=t
 have : ∀l:List NT,NT.nodR l ↔ ∀x∈l,x.nodN:=by
  intro l
  induction l with
  | nil=>simp[NT.nodR]
  | cons t r ih=>simp only[NT.nodR,ih,List.mem_cons,forall_eq_or_imp]
 rw[NT.nodN,this];rfl
theorem Sub.nodN {A:AT} (hI:Inv A) : ∀ (t:NT) {up:Int},Sub A up t->t.nodN:=by
 intro t
 refine NT.ind (P:=fun t => ∀ {up:Int},Sub A up t->t.nodN) ?_ t
 intro t ih up h
 rw[NT.nodN_iff]
 exact⟨h.nodNames hI,fun x hx=>ih x hx (h.kid hx)⟩
theorem foldl_same {α β:Type} {f g:β->α->β} : ∀ (l:List α) (b:β),(∀b,∀a∈l,f b a=g b a)->l.foldl f b=l.foldl g b:=by
 intro l
 induction l with
 | nil=>intro b _;rfl
 | cons a r ih =>
  intro b h
  rw[List.foldl_cons,List.foldl_cons,h b a (List.mem_cons_self ..)]
  exact ih _ fun b a ha=>h b a (List.mem_cons_of_mem _ ha)
theorem txt_like {modes:Bool} : ∀ (k:Nat) {s x:NT},Like s x->s.nodN->x.nodN->x.txt modes k=s.txt modes k:=by
 intro k
 induction k with
 | zero=>intro s x _ _ _;rfl
 | succ k ih =>
  intro s x h hs hx
  obtain⟨_,_,h1,h2,h3,h4,h5⟩:=h
  obtain⟨s1,s2⟩:=NT.nodN_iff.1 hs
  obtain⟨x1,x2⟩:=NT.nodN_iff.1 hx
  rw[NT.txt,NT.txt,h1,h2,h3]
  split
  ·rfl
  ·have hn:x.names=s.names:=sortN_eq h4
   rw[hn]
   refine foldl_same _ _ fun b n hmem => ?_
   have hm:n∈s.kids.map NT.name:=(sortN_perm _).mem_iff.1 hmem
   have hm':=h4.mem_iff.2 hm
   obtain⟨y,hy,rfl⟩:=List.mem_map.1 hm'
   obtain⟨z,hz,e⟩:=List.mem_map.1 hm
   have hl:=h5 y hy z hz e
   rw[find_kid x1 hy,<- e,find_kid s1 hz]
   show partT b z.name (y.txt modes k)=partT b z.name (z.txt modes k)
   rw[ih hl (s2 z hz) (x2 y hy)]
structure PB (p:ByteArray) (ws:List ByteArray) (k:Nat):Prop where
 rp : ∀cs,okR cs->cs.length<=k->RP ⟨⟨p.data.toList++tlL cs⟩⟩ (ws++nB cs)
 ok : ∀n∈ws,stepOk n
theorem PB.self {p:ByteArray} {ws:List ByteArray} {k:Nat} (h:PB p ws k):RP p ws:=by
 have:=h.rp [] (fun c hc=>by cases hc) (Nat.zero_le _)
 have e:tlL []=[]:=rfl
 rw[e,List.append_nil]at this
 have e2:nB []=[]:=rfl
 rw[e2,List.append_nil]at this
 exact this
theorem PB.sub {p:ByteArray} {ws:List ByteArray} {k:Nat} (h:PB p ws (k+1)) {c:UInt8} (hc:letter c):PB (sub p (n1 c)) (ws++[n1 c]) k:=by
 refine⟨fun cs hcs hl => ?_,fun n hn => ?_⟩
 ·have := h.rp (c :: cs) (fun d hd => by
   rcases List.mem_cons.1 hd with e | e
   ·rw[e];exact letter_ok hc
   ·exact hcs d e) (by rw[List.length_cons];omega)
  rw[sub_data]
  rw[nB_cons]at this
  have e1:p.data.toList++47::(n1 c).data.toList++tlL cs=p.data.toList++tlL (c::cs):=by
   show p.data.toList++47::[c]++tlL cs=p.data.toList++([47,c]++tlL cs)
   simp
  rw[e1,show ws++[n1 c]++nB cs=ws++n1 c::nB cs by simp]
  exact this
 ·rcases List.mem_append.1 hn with e | e
  ·exact h.ok n e
  ·rw[List.mem_singleton]at e;rw[e];exact step_nB (cs:=[c]) _ (List.mem_singleton.2 rfl)
end Go.Wk

set_option maxRecDepth 100000
namespace Go.Wk
open Go Go.HL
theorem NT.at_last {s:NT} : ∀ {ws:List ByteArray} {t:NT},NT.at t ws s->ws≠[] -> ∃us m,ws=us++[s.name]/\NT.at t us m/\s∈m.kids:=by
 intro ws
 induction ws with
 | nil=>intro t _ h;exact absurd rfl h
 | cons w ws ih =>
  intro t h _
  obtain⟨k,h1,h2,h3⟩:=h
  cases ws with
  | nil =>
   have h3:s=k:=h3
   subst h3
   exact⟨[],t,by rw[h2];rfl,rfl,h1⟩
  | cons v vs =>
   obtain⟨us,m,e,a,b⟩:=ih h3 (by simp)
   exact⟨w::us,m,by rw[e];rfl,⟨k,h1,h2,a⟩,b⟩
section
variable {A : AT} {R : NT}
theorem FS.loc (h:FS A R) {p:ByteArray} {ws:List ByteArray} {t:NT} {fo:Bool} (hp:RP p ws) (ha:NT.at R ws t) (hf:fo=false\/t.kind≠3) (hok:∀n∈ws,stepOk n) : ∃q:Pl,A.locate rt p fo=(0,q)/\q.ino=t.ino/\q.there=true/\(t.kind=2->ws=[]->q.dir=1):=by
 cases ws with
 | nil =>
  have ha:t=R:=ha
  subst ha
  refine⟨rootQ,?_,h.ino.symm,rfl,fun _ _=>rfl⟩
  rw[rp_loc h.k1 hp];rfl
 | cons w vs =>
  obtain⟨us,m,e,a,b⟩:=NT.at_last ha (by simp)
  rw[e]at hp hok
  exact⟨_,h.hit hp a b hf hok,rfl,rfl,fun _ h=>by cases h⟩
theorem FS.stat (h:FS A R) {p:ByteArray} {ws:List ByteArray} {t:NT} {fo:Bool} (hp:RP p ws) (ha:NT.at R ws t) (hf:fo=false\/t.kind≠3) (hok:∀n∈ws,stepOk n):A.stat rt p fo=(0,⟨t.kind,t.mode,t.data,1⟩)/\A.with_ rt p fo=(0,t.ino,⟨t.kind,t.mode,t.data,1⟩):=by
 obtain⟨q,h1,h2,h3,_⟩:=h.loc hp ha hf hok
 obtain⟨u,hs⟩:=h.sub.at ha
 obtain⟨es,hg,_⟩:=hs.get
 have hw:A.with_ rt p fo=(0,t.ino,⟨t.kind,t.mode,t.data,1⟩):=by
  unfold AT.with_
  rw[h1]
  simp only[ne_eq,not_true_eq_false,if_false]
  rw[h3,h2,hg]
  simp only[Bool.true_eq_false,if_false]
  rfl
 exact⟨by unfold AT.stat;rw[hw],hw⟩
theorem FS.list (h:FS A R) {p:ByteArray} {ws:List ByteArray} {t:NT} (hp:RP p ws) (ha:NT.at R ws t) (hk:t.kind=2) (hok:∀n∈ws,stepOk n):A.listF rt p=(0,t.names):=by
 obtain⟨u,hs⟩:=h.sub.at ha
 have:=(h.stat (fo:=true) hp ha (.inr (by rw[hk];decide)) hok).2
 unfold AT.listF
 rw[this]
 simp only[ne_eq,not_true_eq_false,if_false,hk]
 rw[hs.names]
theorem tree_txt {modes:Bool} (h:FS A R) : ∀ (k:Nat) {p:ByteArray} {ws:List ByteArray} {t:NT} {kk:Nat},k<=kk->PB p ws kk->NT.at R ws t->(∀x∈t.kids,x.all GrN)->A.treeP modes k p=t.txt modes k:=by
 intro k
 induction k with
 | zero=>intro p ws t kk _ _ _ _;rfl
 | succ k ih =>
  intro p ws t kk hk hp ha hg
  obtain⟨u,hs⟩:=h.sub.at ha
  obtain⟨j,rfl⟩ : ∃j,kk=j+1:=⟨kk - 1,by omega⟩
  have hst:=(h.stat (fo:=false) hp.self ha (.inl rfl) hp.ok).1
  rw[AT.treeP,NT.txt,hst]
  simp only
  rw[if_neg (by decide)]
  by_cases h2:t.kind=2
  ·rw[h2,if_neg (by decide),if_neg (by decide),h.list hp.self ha h2 hp.ok]
   refine foldl_same _ _ fun b n hn => ?_
   obtain⟨y,hy,rfl⟩:=List.mem_map.1 ((sortN_perm _).mem_iff.1 hn)
   obtain⟨⟨c,hc,hnm⟩,_⟩:=(NT.all_iff.1 (hg y hy)).1
   rw[find_kid (hs.nodNames h.inv) hy]
   have:=hp.sub hc
   rw[<-hnm]at this
   rw[ih (by omega) this (NT.at_snoc hy ha) (NT.all_iff.1 (hg y hy)).2]
  ·rw[if_pos (by rw[beq_eq_false_iff_ne.2 h2];rfl),if_pos (by rw[beq_eq_false_iff_ne.2 h2];rfl)]
end
theorem pb_pth {a:UInt8} {cs:List UInt8} {k:Nat} (h:okR (a::cs)) (hl:cs.length+k<=100):PB (pth a cs) (nB (a::cs)) k/\PB (apth a cs) (nB (a::cs)) k:=by
 have key : ∀ds,okR ds->okR (a::(cs++ds)):=fun ds hds c hc=>by
  rcases List.mem_cons.1 hc with e | e
  ·rw[e];exact h a (List.mem_cons_self ..)
  ·rcases List.mem_append.1 e with e | e
   ·exact h c (List.mem_cons_of_mem _ e)
   ·exact hds c e
 refine⟨⟨fun ds hds hn => ?_,fun n hn=>step_nB n hn⟩,⟨fun ds hds hn => ?_,fun n hn=>step_nB n hn⟩⟩
 ·have:=(rp_pth (key ds hds) (by rw[List.length_append];omega)).1
  have e:pth a (cs++ds)=⟨⟨(pth a cs).data.toList++tlL ds⟩⟩:=by
   unfold pth;rw[tlL_app];rfl
  rw[e]at this
  rw[show nB (a::cs)++nB ds=nB (a::(cs++ds))by rw[<-nB_app];rfl]
  exact this
 ·have:=(rp_pth (key ds hds) (by rw[List.length_append];omega)).2
  have e:apth a (cs++ds)=⟨⟨(apth a cs).data.toList++tlL ds⟩⟩:=by
   unfold apth;rw[tlL_app];rfl
  rw[e]at this
  rw[show nB (a::cs)++nB ds=nB (a::(cs++ds))by rw[<-nB_app];rfl]
  exact this
end Go.Wk

set_option maxRecDepth 100000
namespace Go.Wk
open Go Go.HL
structure Spot (A:AT) (R:NT) (N:Nat) (us:List ByteArray) (M:NT) (c:UInt8) (p:ByteArray):Prop where
 fs:FS A R
 bd:Bd N A
 small:N<=100000
 at_:NT.at R us M
 dir:M.kind=2
 ok:c≠47/\c≠0/\c≠46
 miss : ∀x∈M.kids,x.name≠n1 c
 rp:RP p (us++[n1 c])
 oks : ∀n∈us,stepOk n
structure Put1 (A A':AT) (R:NT) (N:Nat) (M x:NT):Prop where
 fs:FS A' (NT.addK M.ino x R)
 bd:Bd (N+1) A'
 qi:A'.qi=A.qi
 qb:A'.qb=A.qb
 last:A.last+1<=A'.last
section
variable {A : AT} {R M : NT} {N : Nat} {us : List ByteArray} {c : UInt8} {p : ByteArray}
theorem step_n1 (c:UInt8):stepOk (n1 c):=step_nB (cs:=[c]) _ (List.mem_singleton.2 rfl)
theorem Spot.oks1 (h:Spot A R N us M c p) : ∀n∈us++[n1 c],stepOk n:=by
 intro n hn
 rcases List.mem_append.1 hn with e | e
 ·exact h.oks n e
 ·rw[List.mem_singleton]at e;rw[e];exact step_n1 c
theorem Spot.loc (h:Spot A R N us M c p) (fo:Bool):A.locate rt p fo=(0,⟨M.ino,n1 c,0,false⟩):=h.fs.miss h.rp h.at_ h.dir h.miss h.oks1
theorem Spot.stat (h:Spot A R N us M c p) (fo:Bool):(A.stat rt p fo).1=5:=by
 unfold AT.stat AT.with_
 rw[h.loc fo];simp
theorem Spot.last (h:Spot A R N us M c p):1<=A.last/\A.last<=100000:=by
 have h1:=h.bd.last
 have h2:=h.small
 have h3:=h.fs.inv.last_pos
 omega
theorem Spot.node (h:Spot A R N us M c p) : ∃nd,A.get M.ino=some nd/\nd.kind=2:=by
 obtain⟨u,hms⟩:=h.fs.sub.at h.at_
 obtain⟨es,hg,_⟩:=hms.get
 exact⟨_,hg,h.dir⟩
theorem Spot.makeE (h:Spot A R N us M c p) {kind mode:Int} {data:ByteArray} (hl:likeE kind mode data=0) (h1:A.ui+1<=A.qi) (h2:A.ub+data.size<=A.qb):A.makeE M.ino (n1 c) kind mode data=0:=by
 obtain⟨u,hms⟩:=h.fs.sub.at h.at_
 obtain⟨nd,hg,hk⟩:=h.node
 exact makeE_of ⟨_,hg,hk⟩ (named_one h.ok) hl (hms.find_none h.miss) (room_of h.fs.inv h1 h2)
theorem made_nums' (hI:Inv A) (hl:A.last<=100000) {d:Int} {nd:AN} (hnd:A.get d=some nd) {c:ByteArray} {kind mode:Int} {data:ByteArray} (h1:A.ui+1<=A.qi) (h2:A.ub+data.size<=A.qb):(A.made d c kind mode data).ui=A.ui+1/\(A.made d c kind mode data).ub=A.ub+data.size/\(A.made d c kind mode data).qi=A.qi/\(A.made d c kind mode data).qb=A.qb/\(A.made d c kind mode data).last=A.last+1:=by
 have hp1:=hI.ui_pos
 have hp2:=hI.ub_pos
 have hq1:=hI.uq
 have hq2:=hI.bq
 rw[made_eq hI (by omega) hnd]
 refine⟨?_,?_,rfl,rfl,rfl⟩
 ·show wr (A.ui+1)=_
  exact wr_id (by omega) (by omega)
 ·show wr (A.ub+data.size)=_
  exact wr_id (by omega) (by omega)
theorem Spot.put (h:Spot A R N us M c p) {kind mode:Int} {data:ByteArray} {A2:AT} {nd:AN} (hnd:A.get M.ino=some nd) (hg:∀j,A2.get j=if j=M.ino then some { nd with ents:=up (n1 c) (A.last+1) nd.ents }else if j=A.last+1 then some ⟨kind,mode,data,1,if kind==2 then M.ino else 0,[]⟩else A.get j) (hI:Inv A2) (hB:Bd (N+1) A2) (hui:A2.ui=A.ui+1) (hub:A2.ub=A.ub+data.size) (q1:A2.qi=A.qi) (q2:A2.qb=A.qb) (ql:A.last+1<=A2.last):Put1 A A2 R N M (.mk (n1 c) (A.last+1) kind mode data []):=by
 obtain⟨u,hms⟩:=h.fs.sub.at h.at_
 have hlk:lk (n1 c) nd.ents=none:=by
  have:=hms.find_none h.miss
  unfold AT.find at this
  rw[hnd]at this;exact this
 have hup:up (n1 c) (A.last+1) nd.ents=nd.ents++[(n1 c,A.last+1)]:=by
  have:=up_app (v:=A.last+1) (b:=[]) hlk
  rw[List.append_nil]at this
  rw[this];rfl
 rw[hup]at hg
 exact⟨h.fs.more (x := .mk (n1 c) (A.last+1) kind mode data []) h.at_ h.dir rfl hnd hg (h.fs.inv.fresh (by show A.last<A.last+1;omega)) hI hui hub,hB,q1,q2,ql⟩
theorem Spot.mkdir (h:Spot A R N us M c p) (hd:us.length+1<=11) (h1:A.ui+1<=A.qi) : ∃A',A.mkdirF rt p=(0,A')/\Put1 A A' R N M (.mk (n1 c) (A.last+1) 2 493 ⟨⟨[]⟩⟩ []):=by
 obtain⟨l1,l2⟩:=h.last
 have hz:A.ub+((⟨⟨[]⟩⟩:ByteArray).size:Int)<=A.qb:=by
  have:=h.fs.inv.bq
  show A.ub+(0:Int)<=A.qb
  omega
 have he:=h.makeE (kind:=2) (mode:=493) (data:=⟨⟨[]⟩⟩) (by decide +kernel) h1 hz
 obtain⟨nd,hnd,_⟩:=h.node
 have hdp:=(h.fs.deep h.at_ h.dir).2 13 (by omega)
 have hr:A.mkdirF rt p=(0,A.made M.ino (n1 c) 2 493 ⟨⟨[]⟩⟩):=by
  unfold AT.mkdirF AT.freshP
  rw[h.loc]
  simp only[ne_eq,not_true_eq_false,if_false,Bool.false_eq_true]
  rw[hdp,Option.getD_some,if_neg (by omega),makeR_z he]
 have hok:=mkdirF_ok h.fs.inv h.bd (by have:=h.small;omega) rt p
 rw[hr]at hok
 obtain⟨e1,e2,e3,e4,e5⟩:=made_nums' h.fs.inv l2 hnd (c:=n1 c) (kind:=2) (mode:=493) (data:=⟨⟨[]⟩⟩) h1 hz
 exact⟨_,hr,h.put hnd (made_get h.fs.inv (by omega) hnd) hok.inv hok.bd e1 e2 e3 e4 (by show _<=(A.made M.ino (n1 c) 2 493 ⟨⟨[]⟩⟩).last;omega)⟩
end
end Go.Wk

set_option maxRecDepth 100000
namespace Go.Wk
open Go Go.HL
section
variable {A : AT} {R : NT}
end
end Go.Wk

set_option maxRecDepth 100000
namespace Go.Wk
open Go Go.HL
def cpN:ByteArray:=⟨⟨[99,112]⟩⟩
theorem perm_map {α β:Type} (g:α->β) : ∀ {l1 l2:List β},l1.Perm l2 -> ∀L:List α,L.map g=l2 -> ∃L':List α,L'.Perm L/\L'.map g=l1:=by
 intro l1 l2 h
 induction h with
 | nil=>intro L hL;exact⟨[],by rw[List.map_eq_nil_iff.1 hL],rfl⟩
 | cons x _ ih =>
  intro L hL
  cases L with
  | nil=>cases hL
  | cons a L =>
   rw[List.map_cons,List.cons.injEq]at hL
   obtain⟨L',p1,p2⟩:=ih L hL.2
   exact⟨a::L',p1.cons a,by rw[List.map_cons,p2,hL.1]⟩
 | swap x y l =>
  intro L hL
  cases L with
  | nil=>cases hL
  | cons a L =>
   cases L with
   | nil=>cases hL
   | cons b L =>
    simp only[List.map_cons,List.cons.injEq]at hL
    exact⟨b::a::L,List.Perm.swap a b L,by simp only[List.map_cons,hL.1,hL.2.1,hL.2.2]⟩
 | trans _ _ h1 h2 =>
  intro L hL
  obtain⟨L',p1,p2⟩:=h2 L hL
  obtain⟨L'',q1,q2⟩:=h1 L' p2
  exact⟨L'',q1.trans p1,q2⟩
section
variable {A : AT} {R M : NT} {N : Nat} {us : List ByteArray} {c : UInt8}
theorem ok_116:okR [116]:=fun c hc=>by rw[List.mem_singleton]at hc;rw[hc];decide
theorem fs_nod_x {x:NT} {d:Int} (h:FS A (NT.addK d x R)) (hR:R.inos.Nodup) (hd:d∈R.inos):x.inos.Nodup /\ ∀i∈x.inos,i∉R.inos:=by
 have:=(NT.addk_toks (x:=x) R hR hd).map Prod.fst
 have hn:=(List.Perm.nodup_iff this).1 h.nod
 rw[List.map_append]at hn
 obtain⟨a,_,b⟩:=List.nodup_append.1 hn
 exact⟨a,fun i hi hi'=>b i hi i hi' rfl⟩
end
end Go.Wk

set_option maxRecDepth 100000
namespace Go.Wk
open Go Go.HL
theorem sub_pth (a:UInt8) (cs:List UInt8) (c:UInt8):joinT (pth a cs) (n1 c)=pth a (cs++[c]):=by
 have h:(joinT (pth a cs) (n1 c)).data.toList=(pth a (cs++[c])).data.toList:=by
  rw[show joinT (pth a cs) (n1 c)=sub (pth a cs) (n1 c)from rfl,sub_data]
  show a::tlL cs++47::[c]=a::tlL (cs++[c])
  rw[tlL_app];rfl
 exact bytes_ext h
inductive Both (P:NT->NT->Prop):List NT->List NT->Prop
 | nil:Both P [] []
 | cons {x y:NT} {l m:List NT}:P x y->Both P l m->Both P (x::l) (y::m)
theorem Both.names {P:NT->NT->Prop} (hP:∀x y,P x y->y.name=x.name) {l m:List NT} (h:Both P l m):m.map NT.name=l.map NT.name:=by
 induction h with
 | nil=>rfl
 | cons hp _ ih=>rw[List.map_cons,List.map_cons,ih,hP _ _ hp]
end Go.Wk

set_option maxRecDepth 100000
namespace Go.Wk
open Go Go.HL
theorem rm_cons {κ α:Type} [BEq κ] [LawfulBEq κ] {k:κ} {v:α} : ∀ {l:List (κ×α)},lk k l=some v->l.Perm ((k,v)::rm k l):=by
 intro l
 induction l with
 | nil=>intro h;cases h
 | cons x r ih =>
  intro h
  obtain⟨j,w⟩:=x
  have h':(match k==j with | true=>some w | false=>lk k r:Option α)=some v:=h
  show((j,w)::r).Perm ((k,v)::(match k==j with | true=>r | false=>(j,w)::rm k r))
  cases hj:k==j with
  | true =>
   rw[hj]at h'
   have:w=v:=Option.some.inj h'
   rw[this,eq_of_beq hj]
  | false =>
   rw[hj]at h'
   exact((ih h').cons (j,w)).trans (List.Perm.swap _ _ _)
theorem rm_perm {es l:List (ByteArray×Int)} {k:ByteArray} {v:Int} (hn:(keysL es).Nodup) (h:es.Perm (l++[(k,v)])):(rm k es).Perm l:=by
 have hl:lk k es=some v:=lk_of_mem hn (h.mem_iff.2 (by simp))
 have h2:((k,v)::rm k es).Perm ((k,v)::l):=(rm_cons hl).symm.trans (h.trans List.perm_append_comm)
 exact h2.cons_inv
theorem Sub.less {A A':AT} (hI:Inv A) {d:Int} {x:NT} {nd:AN} (hd:A.get d=some nd) (hd':A'.get d=some { nd with ents:=rm x.name nd.ents }) : ∀ (t:NT) {up:Int},Sub A up (NT.addK d x t)->(∀i∈t.inos,i≠d->A'.get i=A.get i)->Sub A' up t:=by
 intro t
 refine NT.ind (P:=fun t => ∀ {up:Int},Sub A up (NT.addK d x t)->(∀i∈t.inos,i≠d->A'.get i=A.get i)->Sub A' up t) ?_ t
 intro t ih up h hf
 have hm:(t.kids.map (NT.addK d x)).map NT.ent=t.kids.map NT.ent:=by
  rw[List.map_map];exact List.map_congr_left fun y _=>NT.addk_ent d x y
 obtain⟨⟨es,h1,h2⟩,h3,h4⟩:=sub_iff.1 h
 obtain⟨a1,a2,a3,a4,a5⟩:=NT.addk_ino d x t
 rw[a1]at h1 h4
 rw[a3]at h3
 have hmem : ∀y∈t.kids,NT.addK d x y∈(NT.addK d x t).kids:=by
  intro y hy
  rw[NT.addk_kids]
  have:=List.mem_map.2 ⟨y,hy,(rfl:NT.addK d x y=NT.addK d x y)⟩
  split
  ·exact List.mem_append_left _ this
  ·exact this
 have hnode:(NT.addK d x t).node up es=t.node up es:=by unfold NT.node;rw[a3,a4,a5]
 rw[hnode]at h1
 rw[sub_iff]
 refine⟨?_,?_,?_⟩
 ·by_cases e:t.ino=d
  ·rw[e,hd]at h1
   have hnd:nd=t.node up es:=Option.some.inj h1
   refine⟨rm x.name es,?_,?_⟩
   ·rw[e,hd',hnd];rfl
   ·rw[NT.addk_kids,if_pos e,List.map_append,hm]at h2
    have hn:=hI.enod d nd hd
    rw[hnd]at hn
    exact rm_perm hn h2
  ·refine⟨es,?_,?_⟩
   ·rw[hf _ t.ino_mem e,h1]
   ·rw[NT.addk_kids,if_neg e,hm]at h2;exact h2
 ·intro hk
  have:=h3 hk
  rw[NT.addk_kids]at this
  split at this
  ·simp at this
  ·exact List.map_eq_nil_iff.1 this
 ·intro y hy
  exact ih y hy (h4 _ (hmem y hy)) fun i hi hne=>hf i (NT.inos_kid hy hi) hne
section
variable {A : AT} {R M x : NT} {N : Nat} {us : List ByteArray}
end
end Go.Wk

set_option maxRecDepth 100000
namespace Go.Wk
open Go Go.HL
def rmT:ByteArray:=⟨⟨[114,109]⟩⟩
section
variable {A : AT} {R M x : NT} {N : Nat} {us : List ByteArray}
end
theorem PB.mono {p:ByteArray} {ws:List ByteArray} {k j:Nat} (h:PB p ws k) (hj:j<=k):PB p ws j:=⟨fun cs hcs hl=>h.rp cs hcs (by omega),h.ok⟩
end Go.Wk

set_option maxRecDepth 100000
namespace Go.Wk
open Go Go.HL
theorem moved_facts {A:AT} {src tq ino:Int} {name as_:ByteArray} {ns nt nn:AN} (hns:A.get src=some ns) (hnt:A.get tq=some nt) (hnn:A.get ino=some nn) (h1:src≠tq) (h2:ino≠src) (h3:ino≠tq) (hf:A.find src name=some ino):(∀j,(A.moved src name tq as_).get j=if j=ino then some (if nn.kind==2 then { nn with up:=tq }else nn)else if j=tq then some { nt with ents:=up as_ ino nt.ents }else if j=src then some { ns with ents:=rm name ns.ents }else A.get j)/\(A.moved src name tq as_).ui=A.ui/\(A.moved src name tq as_).ub=A.ub:=by
 have e1:A.ent src (rm name)=A.set src { ns with ents:=rm name ns.ents }:=by unfold AT.ent;rw[hns]
 have g1:(A.set src { ns with ents:=rm name ns.ents }).get tq=some nt:=by rw[AT.get_set_ne _ _ (Ne.symm h1)];exact hnt
 have e2:(A.set src { ns with ents:=rm name ns.ents }).ent tq (up as_ ino)=(A.set src { ns with ents:=rm name ns.ents }).set tq { nt with ents:=up as_ ino nt.ents }:=by unfold AT.ent;rw[g1]
 have g2:((A.set src { ns with ents:=rm name ns.ents }).set tq { nt with ents:=up as_ ino nt.ents }).get ino=some nn:=by rw[AT.get_set_ne _ _ h3,AT.get_set_ne _ _ h2];exact hnn
 have e3:A.moved src name tq as_=((A.set src { ns with ents:=rm name ns.ents }).set tq { nt with ents:=up as_ ino nt.ents }).set ino (if nn.kind==2 then { nn with up:=tq }else nn):=by
  unfold AT.moved
  rw[hf]
  simp only[Option.getD_some]
  rw[e1,e2]
  unfold AT.mod
  rw[g2]
 rw[e3]
 refine⟨fun j => ?_,rfl,rfl⟩
 rw[AT.get_set]
 by_cases a:j=ino
 ·rw[if_pos a,if_pos a]
 ·rw[if_neg a,if_neg a,AT.get_set]
  by_cases b:j=tq
  ·rw[if_pos b,if_pos b]
  ·rw[if_neg b,if_neg b,AT.get_set]
def NT.ren (n:ByteArray) (t:NT):NT := .mk n t.ino t.kind t.mode t.data t.kids
theorem node_ren (as_:ByteArray) (x:NT) (u v:Int) (es:List (ByteArray×Int)):(if(x.node u es).kind==2 then { x.node u es with up:=v }else x.node u es)=(x.ren as_).node v es:=by
 obtain⟨n,i,k,m,d,l⟩:=x
 show(if k==2 then(⟨k,m,d,1,v,es⟩:AN)else⟨k,m,d,1,if k==2 then u else 0,es⟩)=⟨k,m,d,1,if k==2 then v else 0,es⟩
 by_cases hk:(k==2)=true
 ·rw[if_pos hk,if_pos hk]
 ·rw[if_neg hk,if_neg hk,if_neg hk]
section
variable {A : AT} {R M1 M2 x : NT} {u1 u2 : List ByteArray} {as_ : ByteArray}
theorem FS.move (h:FS A (NT.addK M1.ino x R)) (hR:R.inos.Nodup) (a1:NT.at R u1 M1) (a2:NT.at R u2 M2) (k1:M1.kind=2) (k2:M2.kind=2) (hne:M1.ino≠M2.ino) (hmiss:∀y∈M2.kids,y.name≠as_) (hI:Inv (A.moved M1.ino x.name M2.ino as_)):FS (A.moved M1.ino x.name M2.ino as_) (NT.addK M2.ino (x.ren as_) R):=by
 have m1R:M1.ino∈R.inos:=NT.at_toks a1 _ M1.ino_mem
 have m2R:M2.ino∈R.inos:=NT.at_toks a2 _ M2.ino_mem
 obtain⟨xn,xd⟩:=fs_nod_x h hR m1R
 have z1:=NT.at_add (d:=M1.ino) (x:=x) a1
 have z2:=NT.at_add (d:=M1.ino) (x:=x) a2
 obtain⟨w1,s1⟩:=h.sub.at z1
 obtain⟨w2,s2⟩:=h.sub.at z2
 have hxk:x∈(NT.addK M1.ino x M1).kids:=by rw[NT.addk_kids,if_pos rfl];simp
 obtain⟨e1,g1,p1⟩:=s1.get
 obtain⟨e2,g2,p2⟩:=s2.get
 rw[(NT.addk_ino _ _ _).1]at g1 g2
 obtain⟨ex,gx,px⟩:=(s1.kid hxk).get
 have hfind:=s1.find h.inv hxk
 rw[(NT.addk_ino _ _ _).1]at hfind
 have hx1:x.ino≠M1.ino:=fun e=>xd _ x.ino_mem (e ▸ m1R)
 have hx2:x.ino≠M2.ino:=fun e=>xd _ x.ino_mem (e ▸ m2R)
 obtain⟨hg,hui,hub⟩:=moved_facts (as_:=as_) g1 g2 gx hne hx1 hx2 hfind
 generalize A.moved M1.ino x.name M2.ino as_=A' at *
 have hmiss':lk as_ e2=none:=by
  rw[lk_none_iff]
  intro hm
  obtain⟨y,hy,e⟩:=List.mem_map.1 hm
  have:=p2.mem_iff.1 hy
  rw[NT.addk_kids,if_neg (Ne.symm hne)]at this
  obtain⟨z,hz,rfl⟩:=List.mem_map.1 this
  obtain⟨v,hv,rfl⟩:=List.mem_map.1 hz
  rw[NT.addk_ent]at e
  exact hmiss v hv e
 let A0:AT:=A.set M1.ino { (NT.addK M1.ino x M1).node w1 e1 with ents:=rm x.name e1 }
 have hs0:Sub A0 1 R:=by
  refine Sub.less h.inv g1 (x:=x) (AT.get_set_self _ _ _) R h.sub fun i hi hne' => ?_
  exact AT.get_set_ne _ _ hne'
 have hg2:A0.get M2.ino=some ((NT.addK M1.ino x M2).node w2 e2):=by
  rw[AT.get_set_ne _ _ (Ne.symm hne)];exact g2
 have hup:up as_ x.ino e2=e2++[(as_,x.ino)]:=by
  have:=up_app (v:=x.ino) (b:=[]) hmiss'
  rw[List.append_nil]at this
  rw[this];rfl
 have hsub:Sub A' 1 (NT.addK M2.ino (x.ren as_) R):=by
  refine Sub.add (A:=A0) (nd:=(NT.addK M1.ino x M2).node w2 e2) (es':=up as_ x.ino e2) hg2 ?_ ?_ ?_ ?_ R hs0 hR fun i hi hne' => ?_
  ·show(NT.addK M1.ino x M2).kind=2
   rw[(NT.addk_ino _ _ _).2.2.1];exact k2
  ·rw[hg,if_neg (Ne.symm hx2),if_pos rfl];rfl
  ·rw[hup];exact List.Perm.refl _
  ·rw[sub_iff]
   refine⟨⟨ex,?_,px⟩,(sub_iff.1 (s1.kid hxk)).2.1,fun y hy => ?_⟩
   ·show A'.get x.ino=_
    rw[hg,if_pos rfl]
    rw[node_ren as_ x]
   ·show Sub A' x.ino y
    refine Sub.frame y ((s1.kid hxk).kid hy) fun i hi => ?_
    have hix:i∈x.inos:=NT.inos_kid (t:=x) hy hi
    have hi0:i≠x.ino:=fun e=>(nodup_kids xn).1 (e ▸ NT.inosRow_mem.2 ⟨y,hy,hi⟩)
    have hiR:=xd i hix
    rw[hg,if_neg hi0,if_neg (fun e:i=M2.ino=>hiR (e ▸ m2R)),if_neg (fun e:i=M1.ino=>hiR (e ▸ m1R))]
  ·have hi0:i≠x.ino:=fun e=>xd _ x.ino_mem (e ▸ hi)
   rw[hg,if_neg hi0,if_neg hne']
   show _=(A.set M1.ino _).get i
   rw[AT.get_set]
   by_cases e:i=M1.ino
   ·rw[if_pos e,if_pos e];rfl
   ·rw[if_neg e,if_neg e]
 have t1:=NT.addk_toks (x:=x) R hR m1R
 have t2:=NT.addk_toks (x:=x.ren as_) R hR m2R
 have hxt:(x.ren as_).toks=x.toks:=by rw[NT.toks_eq,NT.toks_eq x];rfl
 rw[hxt]at t2
 have t:=t2.trans t1.symm
 refine⟨hI,hsub,?_,?_,?_,by rw[hui,h.ui,t.length_eq],by rw[hub,h.ub,sumB_perm t]⟩
 ·rw[(NT.addk_ino _ _ _).1,<- (NT.addk_ino M1.ino x R).1];exact h.ino
 ·rw[(NT.addk_ino _ _ _).2.2.1,<- (NT.addk_ino M1.ino x R).2.2.1];exact h.kind
 ·exact(List.Perm.nodup_iff (t.map Prod.fst)).2 h.nod
end
mutual
def NT.flat:Nat->NT->Prop
 | n,.mk _ _ k _ _ kids=>k=2 -> ∃m,n=m+1/\NT.flatR m kids
def NT.flatR:Nat->List NT->Prop
 | _,[]=>True
 | n,t::r=>NT.flat n t/\NT.flatR n r
end
theorem NT.flatR_iff {n:Nat} {l:List NT}:NT.flatR n l ↔ ∀x∈l,NT.flat n x:=by
 induction l with
 | nil=>simp[NT.flatR]
 | cons t r ih=>simp only[NT.flatR,ih,List.mem_cons,forall_eq_or_imp]
theorem NT.flat_iff {n:Nat} {t:NT}:NT.flat n t↔(t.kind=2 -> ∃m,n=m+1 /\ ∀x∈t.kids,NT.flat m x):=by
 obtain⟨nm,i,k,m,d,l⟩:=t
 rw[NT.flat]
 simp only[NT.flatR_iff];rfl
theorem FS.flat {A:AT} {R:NT} (h:FS A R) : ∀ (t:NT) {ws:List ByteArray},NT.at R ws t->NT.flat (12 - ws.length) t:=by
 intro t
 refine NT.ind (P:=fun t => ∀ {ws:List ByteArray},NT.at R ws t->NT.flat (12 - ws.length) t) ?_ t
 intro t ih ws ha
 rw[NT.flat_iff]
 intro hk
 have hd:=(h.deep ha hk).1
 refine⟨12 - ws.length - 1,by omega,fun x hx => ?_⟩
 have:=ih x hx (NT.at_snoc hx ha)
 rw[List.length_append]at this
 rw[show 12 - ws.length - 1=12 - (ws.length+[x.name].length)by rw[List.length_singleton];omega]
 exact this
theorem levels_flat {A:AT} (hI:Inv A) : ∀ (t:NT) (n:Nat) (f:Nat) {up:Int},Sub A up t->NT.flat n t->A.levels f t.ino<=n:=by
 intro t
 refine NT.ind (P:=fun t => ∀ (n:Nat) (f:Nat) {up:Int},Sub A up t->NT.flat n t->A.levels f t.ino<=n) ?_ t
 intro t ih n f up hs hf
 cases f with
 | zero=>show(0:Int)<=n;omega
 | succ f =>
  rw[AT.levels]
  by_cases hk:t.kind=2
  ·rw[if_neg (by rw[hs.kind,hk];decide)]
   obtain⟨m,rfl,hm⟩:=(NT.flat_iff.1 hf) hk
   rw[hs.names]
   have key : ∀ (l:List ByteArray) (a:Int),(∀s∈l,s∈t.kids.map NT.name)->a<=m->l.foldl (fun n s=>let x:=A.levels f ((A.find t.ino s).getD 0);if x>n then x else n) a<=m:=by
    intro l
    induction l with
    | nil=>intro a _ h;exact h
    | cons s l ihl =>
     intro a hl ha
     rw[List.foldl_cons]
     refine ihl _ (fun s hs=>hl s (List.mem_cons_of_mem _ hs)) ?_
     obtain⟨y,hy,rfl⟩:=List.mem_map.1 (hl s (List.mem_cons_self ..))
     simp only
     rw[hs.find hI hy,Option.getD_some]
     have:=ih y hy m f (hs.kid hy) (hm y hy)
     split<;>omega
   have:=key t.names 0 (fun s hs=>(sortN_perm _).mem_iff.1 hs) (by omega)
   rw[Int.natCast_add]
   exact Int.add_le_add_right this 1
  ·rw[if_pos (by rw[hs.kind];exact hk)];omega
end Go.Wk

set_option maxRecDepth 100000
namespace Go.Wk
open Go Go.HL
def uN:ByteArray:=⟨⟨[117]⟩⟩
def dR:ByteArray:=⟨⟨[45,114]⟩⟩
theorem each_two {nm:ByteArray} {f:TS->ByteArray->Int×TS} {n:ByteArray} {A:AT} {s:TS} (h:f (TS.new A) n=(0,s)):TS.each nm f [n] (TS.new A)=s:=by
 rw[TS.each,if_neg (show ¬ (TS.new A).full=true from fun h=>by cases h)]
 simp only
 rw[h]
 simp only
 rw[fail_0];rfl
end Go.Wk

set_option maxRecDepth 100000
namespace Go.Wk
open Go Go.HL
def mvN:ByteArray:=⟨⟨[109,118]⟩⟩
def mvd:ByteArray:=⟨⟨[109,111,118,101,100]⟩⟩
section
variable {A : AT} {R M1 M2 x : NT} {N m : Nat} {u1 u2 : List ByteArray} {as_ src tq : ByteArray}
theorem FS.rename (h:FS A (NT.addK M1.ino x R)) (hB:Bd N A) (hN:N<=100000) (hR:R.inos.Nodup) (a1:NT.at R u1 M1) (a2:NT.at R u2 M2) (k1:M1.kind=2) (k2:M2.kind=2) (hne:M1.ino≠M2.ino) (hmiss:∀y∈M2.kids,y.name≠as_) (p1:RP src (u1++[x.name])) (p2:RP tq (u2++[as_])) (o1:∀n∈u1++[x.name],stepOk n) (o2:∀n∈u2++[as_],stepOk n) (n1':x.name≠⟨⟨[]⟩⟩) (n2:as_≠⟨⟨[]⟩⟩) (hnm:namedE as_=0) (hfl:NT.flat m x) (hu:u2.length+1+m<=12) (hw:(A.within x.ino 13 M2.ino).getD false=false) (hap:(A.apart x.ino 14 M2.ino).getD false=true) : ∃A',A.renameF rt src tq=(0,A')/\FS A' (NT.addK M2.ino (x.ren as_) R)/\Bd (N+1) A'/\A'.qi=A.qi/\A'.qb=A.qb:=by
 have z1:=NT.at_add (d:=M1.ino) (x:=x) a1
 have z2:=NT.at_add (d:=M1.ino) (x:=x) a2
 obtain⟨w1,s1⟩:=h.sub.at z1
 obtain⟨w2,s2⟩:=h.sub.at z2
 have hxk:x∈(NT.addK M1.ino x M1).kids:=by rw[NT.addk_kids,if_pos rfl];simp
 have c2:(NT.addK M1.ino x M2).kind=2:=by rw[(NT.addk_ino _ _ _).2.2.1];exact k2
 have hmiss2 : ∀y∈(NT.addK M1.ino x M2).kids,y.name≠as_:=by
  intro y hy
  rw[NT.addk_kids,if_neg (Ne.symm hne)]at hy
  obtain⟨z,hz,rfl⟩:=List.mem_map.1 hy
  rw[(NT.addk_ino _ _ _).2.1];exact hmiss z hz
 have l1:=h.hit (fo:=false) p1 z1 hxk (.inl rfl) o1
 have l2:=h.miss (fo:=false) p2 z2 c2 hmiss2 o2
 rw[(NT.addk_ino _ _ _).1]at l1 l2
 have hf1:=s1.find h.inv hxk
 rw[(NT.addk_ino _ _ _).1]at hf1
 have hf2:=s2.find_none hmiss2
 rw[(NT.addk_ino _ _ _).1]at hf2
 have hdeep:=(h.deep z2 c2).2 13 (by omega)
 rw[(NT.addk_ino _ _ _).1]at hdeep
 have hlev:=levels_flat h.inv x m 14 (s1.kid hxk) hfl
 have D1:A.isDir M1.ino:=by
  obtain⟨e,g,_⟩:=s1.get
  rw[(NT.addk_ino _ _ _).1]at g
  exact⟨_,g,by show(NT.addK M1.ino x M1).kind=2;rw[(NT.addk_ino _ _ _).2.2.1];exact k1⟩
 have D2:A.isDir M2.ino:=by
  obtain⟨e,g,_⟩:=s2.get
  rw[(NT.addk_ino _ _ _).1]at g
  exact⟨_,g,c2⟩
 have hover:A.overE ⟨M1.ino,x.name,x.ino,true⟩ ⟨M2.ino,as_,0,false⟩=0:=by
  unfold AT.overE
  simp only[if_true]
  rw[if_neg (by decide),if_neg (by rw[hw];simp),hdeep,Option.getD_some,if_neg (by omega)]
 have hmE:A.moveE1 M1.ino x.name M2.ino as_=0:=by
  unfold AT.moveE1
  rw[AT.dirE_of D1,AT.dirE_of D2,hnm,hf1];rfl
 have hres:A.renameF rt src tq=(0,A.moved M1.ino x.name M2.ino as_):=by
  unfold AT.renameF AT.both
  rw[l1,l2]
  simp only[ne_eq,not_true_eq_false,if_false]
  rw[if_neg (by rw[sEq_iff,sEq_iff];exact fun h=>h.elim n1' n2)]
  simp only[Bool.true_eq_false,if_false,Bool.false_eq_true,false_and]
  rw[if_neg (by rw[hover];decide)]
  unfold AT.moveR
  rw[hmE,if_neg (by intro h;rcases h with h | h;exact h rfl;exact hne h.1)]
  simp only
  rw[hf2,hf1,Option.getD_some,hap]
  rfl
 have hinv:=renameF_inv h.inv hB (by omega) rt src tq
 rw[hres]at hinv
 exact⟨_,hres,h.move hR a1 a2 k1 k2 hne hmiss hinv.inv,hinv.bd,hinv.qi,hinv.qb⟩
end
theorem into_mv {A:AT} {a b:ByteArray}:doP A mvN rt ⟨⟨[]⟩⟩ [a,b]=TS.each mvN (fun t n=>onA t (t.A.renameF rt n (if A.dirB rt b then joinT b (lastP n)else b))) [a] (TS.new A):=by
 unfold doP
 simp only
 rw[if_neg (show ¬sEq mvN ⟨⟨[109,107,100,105,114]⟩⟩=true by decide +kernel),if_neg (show ¬sEq mvN ⟨⟨[114,109,100,105,114]⟩⟩=true by decide +kernel),if_neg (show ¬sEq mvN ⟨⟨[116,111,117,99,104]⟩⟩=true by decide +kernel),if_neg (show ¬sEq mvN ⟨⟨[99,104,109,111,100]⟩⟩=true by decide +kernel),if_neg (show ¬sEq mvN ⟨⟨[108,110]⟩⟩=true by decide +kernel),if_neg (show ¬sEq mvN ⟨⟨[114,109]⟩⟩=true by decide +kernel),if_pos (show sEq mvN ⟨⟨[109,118]⟩⟩=true by decide +kernel)]
 unfold TS.into
 rw[show([a,b]:List ByteArray).getLast? = some b from rfl,show([a,b]:List ByteArray).dropLast=[a]from rfl]
 simp only
 rw[if_neg (by rw[show Nat.blt 1 [a].length=false from rfl];simp)]
 rfl
theorem opts_mv {a b:ByteArray} (h:headIs 45 a=false):optsP (lettersP mvN) [a,b] ⟨⟨[]⟩⟩=some (⟨⟨[]⟩⟩,[a,b]):=by
 rw[optsP]
 rw[if_neg (show ¬sEq a ⟨⟨[45,45]⟩⟩=true by intro e;rw[sEq_iff.1 e]at h;exact absurd h (by decide +kernel)),if_pos (by rw[h];simp)]
theorem call_mv0 {A A':AT} {a b:ByteArray} (h:headIs 45 a=false) (hd:A.dirB rt b=false) (hr:A.renameF rt a b=(0,A')):callP A mvN [a,b]=(zeroT,A'):=by
 have hdo:doP A mvN rt ⟨⟨[]⟩⟩ [a,b]={ TS.new A with A:=A' }:=by
  rw[into_mv]
  refine each_two ?_
  rw[hd,if_neg (by decide),show(TS.new A).A=A from rfl,hr];rfl
 rw[call_of (by decide +kernel) (by decide +kernel) (opts_mv h) rfl hdo];rfl
theorem call_mvE {A A':AT} {a b b':ByteArray} {e:Int} (h:headIs 45 a=false) (hd:(if A.dirB rt b then joinT b (lastP a)else b)=b') (h0:e≠0) (h1:e≠10) (hr:A.renameF rt a b'=(e,A')):callP A mvN [a,b]=(⟨⟨[49]⟩⟩++failT mvN a e,A'):=by
 have hdo:doP A mvN rt ⟨⟨[]⟩⟩ [a,b]=⟨A',⟨⟨[]⟩⟩,⟨⟨[]⟩⟩++failT mvN a e,1,false⟩:=by
  rw[into_mv,each_one (A':=A') (e:=e) (by rw[hd,show(TS.new A).A=A from rfl,hr];rfl),fail_e h0 h1]
 rw[call_of (by decide +kernel) (by decide +kernel) (opts_mv h) rfl hdo]
 simp only[ByteArray.append_empty,ByteArray.empty_append]
 rfl
theorem not_dir_miss {A:AT} {p:ByteArray} {q:Pl} (h:A.locate rt p true=(0,q)) (hq:q.there=false):A.dirB rt p=false:=by
 unfold AT.dirB AT.stat AT.with_
 rw[h]
 simp[hq]
end Go.Wk

set_option maxRecDepth 100000
namespace Go.Wk
open Go Go.HL
theorem Like.refl : ∀t:NT,t.nodN->Like t t:=by
 intro t
 refine NT.ind (P:=fun t=>t.nodN->Like t t) ?_ t
 intro t ih h
 obtain⟨h1,h2⟩:=NT.nodN_iff.1 h
 refine⟨_,_,rfl,rfl,rfl,List.Perm.refl _,fun y hy z hz e => ?_⟩
 have f1:=find_kid h1 hy
 have f2:=find_kid h1 hz
 rw[e,f1]at f2
 have:y=z:=Option.some.inj f2
 subst this
 exact ih y hy (h2 y hy)
theorem Like.perm {t:NT} (h:t.nodN) {l:List NT} (hp:l.Perm t.kids):Like t (.mk t.name t.ino t.kind t.mode t.data l):=by
 obtain⟨h1,h2⟩:=NT.nodN_iff.1 h
 refine⟨_,_,rfl,rfl,rfl,hp.map NT.name,fun y hy z hz e => ?_⟩
 have hy':=hp.mem_iff.1 hy
 have f1:=find_kid h1 hy'
 have f2:=find_kid h1 hz
 rw[e,f1]at f2
 have:y=z:=Option.some.inj f2
 subst this
 exact Like.refl y (h2 y hy')
theorem nodN_perm {t:NT} (h:t.nodN) {l:List NT} (hp:l.Perm t.kids):(NT.mk t.name t.ino t.kind t.mode t.data l).nodN:=by
 obtain⟨h1,h2⟩:=NT.nodN_iff.1 h
 rw[NT.nodN_iff]
 exact⟨((hp.map NT.name).nodup_iff).2 h1,fun x hx=>h2 x (hp.mem_iff.1 hx)⟩
theorem txt_ren (modes:Bool) (k:Nat) (n:ByteArray) (t:NT):(t.ren n).txt modes k=t.txt modes k:=by
 obtain⟨a,i,kk,m,d,l⟩:=t
 cases k with
 | zero=>rfl
 | succ k=>rfl
def lenT (modes:Bool) (k:Nat) (l:List NT):Nat:=l.foldr (fun x n=>3+(x.txt modes k).size+n) 0
theorem lenT_perm {modes:Bool} {k:Nat} {a b:List NT} (h:a.Perm b):lenT modes k a=lenT modes k b:=by
 induction h with
 | nil=>rfl
 | cons x _ ih=>show 3+_+_=3+_+_;exact congrArg _ ih
 | swap x y l=>show 3+(y.txt modes k).size+(3+(x.txt modes k).size+_)=3+(x.txt modes k).size+(3+(y.txt modes k).size+_);omega
 | trans _ _ h1 h2=>exact h1.trans h2
theorem txt_size {modes:Bool} {k:Nat} {t:NT} (h2:t.kind=2) (hn:(t.kids.map NT.name).Nodup) (hc:∀x∈t.kids,∃c,x.name=n1 c):(t.txt modes (k+1)).size=(headT modes t.kind t.mode t.data).size+lenT modes k t.kids:=by
 rw[NT.txt,if_neg (by rw[h2];decide)]
 obtain⟨L,hL1,hL2⟩:=perm_map NT.name (sortN_perm (t.kids.map NT.name)) t.kids rfl
 rw[show t.names=L.map NT.name from hL2.symm,<- lenT_perm hL1]
 have key : ∀ (L:List NT) (s:ByteArray),(∀x∈L,x∈t.kids)->((L.map NT.name).foldl (fun s n=>partT s n (match t.kids.find? (fun x=>sEq x.name n)with | some x=>NT.txt modes k x | none=>askT)) s).size=s.size+lenT modes k L:=by
  intro L
  induction L with
  | nil=>intro s _;rfl
  | cons x L ih =>
   intro s hL
   have hx:=hL x (List.mem_cons_self ..)
   obtain⟨c,hcn⟩:=hc x hx
   rw[List.map_cons,List.foldl_cons,ih _ fun y hy=>hL y (List.mem_cons_of_mem _ hy)]
   rw[find_kid hn hx]
   show(partT s x.name (x.txt modes k)).size+_=s.size+(3+(x.txt modes k).size+lenT modes k L)
   unfold partT
   rw[hcn]
   simp only[ByteArray.size_append]
   show s.size+(1+1+(x.txt modes k).size+1)+_=_
   omega
 exact key L _ fun x hx=>hL1.mem_iff.1 hx
structure MoveLaw (A A1 A2:AT) (c:UInt8) (e:Int):Prop where
 mv:callP A mvN [pth 116 [c],mvd]=(zeroT,A1)
 part:A1.treeP true 14 ⟨⟨47::mvd.data.toList⟩⟩=A.treeP true 14 (apth 116 [c])
 ui1:A1.ui=A.ui
 ub1:A1.ub=A.ub
 other:A1.treeP true 14 (apth 116 [])≠A.treeP true 14 (apth 116 [])
 back:callP A1 mvN [mvd,pth 116 [c]]=(zeroT,A2)
 was:A2.treeP true 14 rt=A.treeP true 14 rt
 ui2:A2.ui=A.ui
 ub2:A2.ub=A.ub
 no:callP A2 mvN [tN,pth 116 [c]]=(⟨⟨[49]⟩⟩++failT mvN tN e,A2)
 bd0:Inv A/\Bd 100000 A
 bd1:Inv A1/\Bd 100000 A1
 bd2:Inv A2/\Bd 100000 A2
 ee:Er e
 osz:(A1.treeP true 14 (apth 116 [])).size<=(A.treeP true 14 (apth 116 [])).size
theorem root_txt {A:AT} {T:NT} (h:FS A (rootT T)) (hn:T.name=n1 116) (hk:∀x∈T.kids,x.all GrN):A.treeP true 14 rt=partT (headT true 2 493 ⟨⟨[]⟩⟩) (n1 116) (T.txt true 13):=by
 have hrp:RP rt []:=⟨by decide +kernel,by decide +kernel⟩
 have hst:=(h.stat (fo:=false) hrp (t:=rootT T) rfl (.inl rfl) (fun n hn=>by cases hn)).1
 have hls:=h.list hrp (t:=rootT T) rfl rfl (fun n hn=>by cases hn)
 have hnm:(rootT T).names=[n1 116]:=by
  unfold NT.names
  show sortN [T.name]=_
  rw[hn];decide +kernel
 have hatT:NT.at (rootT T) (nB (116::[])) T:=⟨T,List.mem_singleton.2 rfl,hn,rfl⟩
 have pb:PB (sub rt (n1 116)) (nB (116::[])) 13:=by
  refine⟨fun cs hcs hl => ?_,fun n hn=>step_nB n hn⟩
  have hok:okR (116::cs):=fun c hc=>by
   rcases List.mem_cons.1 hc with e | e
   ·subst e;decide
   ·exact hcs c e
  have hr:=(rp_pth hok (by omega)).2
  have e:(⟨⟨(sub rt (n1 116)).data.toList++tlL cs⟩⟩:ByteArray)=⟨⟨47::47::116::tlL cs⟩⟩:=by rw[sub_data];rfl
  rw[e,show nB (116::[])++nB cs=nB (116::cs)by rw[<-nB_app];rfl]
  refine⟨may_list (by simp) (by simp only[List.length_cons,tlL_len];omega) ?_,?_⟩
  ·intro hm
   rcases List.mem_cons.1 hm with e | e
   ·exact absurd e (by decide)
   ·rcases List.mem_cons.1 e with e | e
    ·exact absurd e (by decide)
    ·rcases List.mem_cons.1 e with e | e
     ·exact absurd e (by decide)
     ·exact tl_no0 hcs e
  ·have hp:=hr.parts
   unfold partsB at hp ⊢
   rw[show(⟨⟨47::47::116::tlL cs⟩⟩:ByteArray).data.toList=[]++47::(47::116::tlL cs)from rfl,splitL_cut [] _ (by simp),List.map_cons,List.filter_cons_of_neg (by decide +kernel)]
   exact hp
 rw[AT.treeP,hst,hls]
 simp only
 rw[if_neg (by decide),if_neg (show ¬ (!((rootT T).kind==2))=true from fun h=>by cases h),hnm]
 show partT _ (n1 116) (A.treeP true 13 (sub rt (n1 116)))=_
 rw[tree_txt h 13 (Nat.le_refl _) pb hatT hk];rfl
end Go.Wk

set_option maxRecDepth 100000
namespace Go.Wk
open Go Go.HL
theorem NT.inosRow_app (a b:List NT):NT.inosRow (a++b)=NT.inosRow a++NT.inosRow b:=by unfold NT.inosRow;rw[NT.toksRow_app,List.map_append]
theorem ren_ren (k:NT) (n m:ByteArray) (h:k.name=m):(k.ren n).ren m=k:=by
 obtain⟨a,i,kk,mm,d,l⟩:=k
 have h:a=m:=h
 rw[<-h];rfl
theorem flat_ren {n:Nat} {k:NT} (s:ByteArray) (h:NT.flat n k):NT.flat n (k.ren s):=by
 obtain⟨a,i,kk,mm,d,l⟩:=k
 exact h
theorem step_mvd:stepOk mvd:=⟨by decide +kernel,by decide⟩
structure Mid (A:AT) (T T1 k:NT) (c:UInt8) (Kr:List NT):Prop where
 t1:T1 = .mk T.name T.ino T.kind T.mode T.data Kr
 perm:(Kr++[k]).Perm T.kids
 fs:FS A (NT.addK T.ino k (rootT T1))
 fs0:FS A (rootT (.mk T.name T.ino T.kind T.mode T.data (Kr++[k])))
 eq:rootT (.mk T.name T.ino T.kind T.mode T.data (Kr++[k]))=NT.addK T.ino k (rootT T1)
 nod:(rootT T1).inos.Nodup
 t_1:T.ino≠1
 k_1:k.ino≠1
 k_t:k.ino≠T.ino
 one:(1:Int)∉T1.inos
 miss : ∀y∈Kr,y.name≠n1 c
theorem Gw.mid {A:AT} {T:NT} {dirs:List ByteArray} {n:Nat} (h:Gw A T dirs n) {k:NT} (hk:k∈T.kids) {c:UInt8} (hkn:k.name=n1 c) : ∃T1 Kr,Mid A T T1 k c Kr:=by
 obtain⟨a,b,hab⟩:=List.append_of_mem hk
 have hp:((a++b)++[k]).Perm T.kids:=by
  rw[hab,List.append_assoc]
  exact List.Perm.append_left _ (List.perm_append_comm (l₁:=b) (l₂:=[k]))
 refine⟨.mk T.name T.ino T.kind T.mode T.data (a++b),a++b,?_⟩
 have hr00:NT.addK 1 T (.mk ⟨⟨[]⟩⟩ 1 2 493 ⟨⟨[]⟩⟩ [])=rootT T:=by
  rw[NT.addk_top (d:=1) (t := .mk ⟨⟨[]⟩⟩ 1 2 493 ⟨⟨[]⟩⟩ []) rfl (by intro h;cases h)];rfl
 have hr01:NT.addK 1 (.mk T.name T.ino T.kind T.mode T.data ((a++b)++[k])) (.mk ⟨⟨[]⟩⟩ 1 2 493 ⟨⟨[]⟩⟩ [])=rootT (.mk T.name T.ino T.kind T.mode T.data ((a++b)++[k])):=by
  rw[NT.addk_top (d:=1) (t := .mk ⟨⟨[]⟩⟩ 1 2 493 ⟨⟨[]⟩⟩ []) rfl (by intro h;cases h)];rfl
 have hfs0:=FS.perm (R := .mk ⟨⟨[]⟩⟩ 1 2 493 ⟨⟨[]⟩⟩ []) (x:=T) (d:=1) (by rw[hr00];exact h.fs) (show([1]:List Int).Nodup from List.nodup_cons.2 ⟨List.not_mem_nil,List.nodup_nil⟩) (show(1:Int)∈([1]:List Int)from List.mem_singleton.2 rfl) hp
 rw[hr01]at hfs0
 have nod0:=hfs0.nod
 have e0:(rootT (.mk T.name T.ino T.kind T.mode T.data ((a++b)++[k]))).inos=1::T.ino::(NT.inosRow (a++b)++k.inos):=by
  rw[rootT_inos,NT.inos_eq]
  show 1::T.ino::NT.inosRow ((a++b)++[k])=_
  rw[NT.inosRow_app (a++b) [k]]
  show 1::T.ino::(NT.inosRow (a++b)++NT.inosRow [k])=_
  rw[NT.inosRow_cons]
  show 1::T.ino::(NT.inosRow (a++b)++(k.inos++[]))=_
  rw[List.append_nil]
 rw[e0]at nod0
 obtain⟨m1,nod1⟩:=List.nodup_cons.1 nod0
 obtain⟨m2,nod2⟩:=List.nodup_cons.1 nod1
 obtain⟨m3,m4,m5⟩:=List.nodup_append.1 nod2
 have hT1:T.ino≠1:=fun e=>m1 (e ▸ List.mem_cons_self ..)
 have hnot:T.ino∉NT.inosRow (a++b):=fun hm=>m2 (List.mem_append_left _ hm)
 have heq:rootT (.mk T.name T.ino T.kind T.mode T.data ((a++b)++[k]))=NT.addK T.ino k (rootT (.mk T.name T.ino T.kind T.mode T.data (a++b))):=by
  rw[rootT_add hT1,NT.addk_top (d:=T.ino) (t := .mk T.name T.ino T.kind T.mode T.data (a++b)) rfl hnot];rfl
 have hin1:(NT.mk T.name T.ino T.kind T.mode T.data (a++b)).inos=T.ino::NT.inosRow (a++b):=by rw[NT.inos_eq];rfl
 obtain⟨u,hsT⟩:=h.fs.sub.at (h.at_root (ws:=[]) rfl)
 have hnn:=hsT.nodNames h.fs.inv
 refine⟨rfl,hp,heq ▸ hfs0,hfs0,heq,?_,hT1,?_,?_,?_,?_⟩
 ·rw[rootT_inos,hin1]
  refine List.nodup_cons.2 ⟨fun hm=>m1 ?_,List.nodup_cons.2 ⟨hnot,m3⟩⟩
  rcases List.mem_cons.1 hm with e | e
  ·exact e ▸ List.mem_cons_self ..
  ·exact List.mem_cons_of_mem _ (List.mem_append_left _ e)
 ·intro e
  exact m1 (List.mem_cons_of_mem _ (List.mem_append_right _ (e ▸ k.ino_mem)))
 ·intro e
  exact m2 (List.mem_append_right _ (e ▸ k.ino_mem))
 ·rw[hin1]
  intro hm
  rcases List.mem_cons.1 hm with e | e
  ·exact hT1 e.symm
  ·exact m1 (List.mem_cons_of_mem _ (List.mem_append_left _ e))
 ·intro y hy e
  have:=((hp.map NT.name).nodup_iff).2 hnn
  rw[List.map_append]at this
  exact(List.nodup_append.1 this).2.2 y.name (List.mem_map.2 ⟨y,hy,rfl⟩) k.name (List.mem_map.2 ⟨k,List.mem_singleton.2 rfl,rfl⟩) (by rw[e,hkn])
theorem move_go {A:AT} {T:NT} {dirs:List ByteArray} (h:Gw A T dirs 20) {k T1:NT} {Kr:List NT} (hk:k∈T.kids) {c:UInt8} (hc:letter c) (hkn:k.name=n1 c) (hm:Mid A T T1 k c Kr) :
 ∃A1 A2,A.renameF rt (pth 116 [c]) mvd=(0,A1)/\FS A1 (NT.addK 1 (k.ren mvd) (rootT T1))/\Bd 23 A1/\A1.renameF rt mvd (pth 116 [c])=(0,A2)/\FS A2 (rootT (.mk T.name T.ino T.kind T.mode T.data (Kr++[k])))/\Bd 24 A2/\A.dirB rt mvd=false/\A1.dirB rt (pth 116 [c])=false:=by
 have ht1:=hm.t1
 have hi1:T1.ino=T.ino:=by rw[ht1];rfl
 have hn1:T1.name=n1 116:=by rw[ht1];exact h.name
 have hk1:T1.kind=2:=by rw[ht1];exact h.top.1
 have hkr:T1.kids=Kr:=by rw[ht1];rfl
 have hat1:NT.at (rootT T1) [n1 116] T1:=⟨T1,List.mem_singleton.2 rfl,hn1,rfl⟩
 have hok:okR (116::[c]):=okR_t fun d hd=>by rw[List.mem_singleton]at hd;rw[hd];exact hc
 have hrp:=(rp_pth hok (by simp)).1
 have hrpm:RP mvd [mvd]:=⟨by decide +kernel,by decide +kernel⟩
 have hatk:NT.at (rootT T) [n1 116,n1 c] k:=by
  have:=NT.at_snoc hk (h.at_root (ws:=[]) rfl)
  rw[hkn]at this;exact this
 have hfl:NT.flat 10 k:=h.fs.flat k hatk
 have hmm:n1 116≠mvd:=by decide +kernel
 have hs1 : ∀n∈[n1 116,n1 c],stepOk n:=fun n hn=>step_nB (cs:=[116,c]) n hn
 have hs2 : ∀n∈[mvd],stepOk n:=fun n hn=>by rw[List.mem_singleton]at hn;rw[hn];exact step_mvd
 have hne1:n1 c≠⟨⟨[]⟩⟩:=by
  intro e
  have:=congrArg (fun b:ByteArray=>b.data.toList.length) e
  simp[n1]at this
 have hfs:=hm.fs
 rw[<-hi1]at hfs
 obtain⟨A1,r1,f1,b1,_,_⟩:=FS.rename (M1:=T1) (M2:=rootT T1) (x:=k) (N:=22) (m:=10) (u1:=[n1 116]) (u2:=[]) (as_:=mvd) (src:=pth 116 [c]) (tq:=mvd) hfs h.bd (by omega) hm.nod hat1 rfl hk1 rfl (by rw[hi1];exact hm.t_1) (fun y hy=>by
  have hy:y∈[T1]:=hy
  rw[List.mem_singleton]at hy;rw[hy,hn1];exact hmm) (by rw[hkn];exact hrp) hrpm (by rw[hkn];exact hs1) hs2 (by rw[hkn];exact hne1) (by decide +kernel) (by decide +kernel) hfl (by simp) (by
  show(A.within k.ino 13 1).getD false=false
  rw[AT.within,if_neg (Ne.symm hm.k_1),if_pos rfl];rfl) (by
  show(A.apart k.ino 14 1).getD false=true
  rw[AT.apart,if_pos rfl];rfl)
 have f1:FS A1 (NT.addK 1 (k.ren mvd) (rootT T1)):=f1
 have hmem1:T1∈(NT.addK 1 (k.ren mvd) (rootT T1)).kids:=by
  rw[NT.addk_kids,if_pos (show(rootT T1).ino=1 from rfl)]
  refine List.mem_append_left _ (List.mem_map.2 ⟨T1,List.mem_singleton.2 rfl,NT.addk_not T1 hm.one⟩)
 have hup:A1.upOf T.ino=1 /\ ∃n,A1.get T.ino=some n/\n.up=1:=by
  have hs:=f1.sub.kid hmem1
  rw[f1.ino]at hs
  obtain⟨es,g,_⟩:=hs.get
  rw[hi1]at g
  have:(T1.node 1 es).up=1:=by
   show(if T1.kind==2 then(1:Int)else 0)=1
   rw[hk1];rfl
  refine⟨?_,_,g,this⟩
  unfold AT.upOf
  rw[g];exact this
 obtain⟨A2,r2,f2,b2,_,_⟩:=FS.rename (M1:=rootT T1) (M2:=T1) (x:=k.ren mvd) (N:=23) (m:=10) (u1:=[]) (u2:=[n1 116]) (as_:=n1 c) (src:=mvd) (tq:=pth 116 [c]) f1 b1 (by omega) hm.nod rfl hat1 rfl hk1 (by rw[hi1];exact Ne.symm hm.t_1) (by rw[hkr];exact hm.miss) hrpm hrp hs2 hs1 (show mvd≠⟨⟨[]⟩⟩by decide +kernel) hne1 (named_one (letter_ok hc)) (flat_ren mvd hfl) (by simp) (by
  rw[hi1]
  show(A1.within k.ino 13 T.ino).getD false=false
  rw[AT.within,if_neg (Ne.symm hm.k_t),if_neg hm.t_1,hup.1,AT.within,if_neg (Ne.symm hm.k_1),if_pos rfl];rfl) (by
  rw[hi1]
  show(A1.apart k.ino 14 T.ino).getD false=true
  obtain⟨n,g1,g2⟩:=hup.2
  rw[AT.apart,if_neg hm.t_1,if_neg (Ne.symm hm.k_t),g1]
  show(AT.apart A1 k.ino 13 n.up).getD false=true
  rw[g2,AT.apart,if_pos rfl];rfl)
 rw[ren_ren k mvd (n1 c) hkn,hi1,<- hm.eq]at f2
 refine⟨A1,A2,r1,f1,b1,r2,f2,b2,?_,?_⟩
 ·exact not_dir_miss (h.fs.miss (us := []) (m := rootT T) (c := mvd) (fo := true) hrpm rfl rfl (fun y hy => by
   have hy:y∈[T]:=hy
   rw[List.mem_singleton]at hy;rw[hy,h.name];exact hmm) hs2) rfl
 ·exact not_dir_miss (f1.miss (us:=[n1 116]) (m:=T1) (c:=n1 c) (fo:=true) hrp (NT.at_add' hat1 hm.one) hk1 (by rw[hkr];exact hm.miss) hs1) rfl
end Go.Wk

set_option maxRecDepth 100000
namespace Go.Wk
open Go Go.HL
section
variable {A : AT} {T k : NT} {c : UInt8}
theorem no_move (h:FS A (rootT T)) (hn:T.name=n1 116) (h2:T.kind=2) (hg:∀x∈T.kids,x.all GrN) (hk:k∈T.kids) (hc:letter c) (hkn:k.name=n1 c) : ∃e b',e≠0/\e≠10/\(if A.dirB rt (pth 116 [c])then joinT (pth 116 [c]) (lastP tN)else pth 116 [c])=b'/\A.renameF rt tN b'=(e,A):=by
 have hatT:NT.at (rootT T) [n1 116] T:=⟨T,List.mem_singleton.2 rfl,hn,rfl⟩
 have hatk:NT.at (rootT T) [n1 116,n1 c] k:=by
  have:=NT.at_snoc hk hatT
  rw[hkn]at this;exact this
 have hok:okR (116::[c]):=okR_t fun d hd=>by rw[List.mem_singleton]at hd;rw[hd];exact hc
 have hrp:RP (pth 116 [c]) [n1 116,n1 c]:=(rp_pth hok (by simp)).1
 have hs1 : ∀n∈[n1 116,n1 c],stepOk n:=fun n hn=>step_nB (cs:=[116,c]) n hn
 have hsT:=h.sub.kid (show T∈(rootT T).kids from List.mem_singleton.2 rfl)
 rw[show(rootT T).ino=1 from rfl]at hsT
 have hsk:=hsT.kid hk
 have nod:=h.nod
 rw[rootT_inos]at nod
 obtain⟨m1,nodT⟩:=List.nodup_cons.1 nod
 have hT1:T.ino≠1:=fun e=>m1 (e ▸ T.ino_mem)
 have hk1:k.ino≠1:=fun e=>m1 (e ▸ NT.inos_kid hk k.ino_mem)
 have hkT:k.ino≠T.ino:=fun e=>(nodup_kids nodT).1 (e ▸ NT.inosRow_mem.2 ⟨k,hk,k.ino_mem⟩)
 have l1:A.locate rt tN false=(0,⟨1,T.name,T.ino,true⟩):=by
  have:=h.hit (p:=tN) (us:=[]) (m:=rootT T) (k:=T) (fo:=false) (by rw[hn];exact⟨by decide +kernel,by decide +kernel⟩) rfl (List.mem_singleton.2 rfl) (.inl rfl) (fun n hn'=>by
   have hn':n∈[T.name]:=hn'
   rw[List.mem_singleton]at hn';rw[hn',hn];exact step_nB (cs:=[116]) _ (List.mem_singleton.2 rfl))
  exact this
 have hTne:sEq T.name ⟨⟨[]⟩⟩=false:=by rw[hn];decide +kernel
 have hne1 : ∀d,sEq (n1 d) ⟨⟨[]⟩⟩=false:=fun d=>rfl
 have hkT2:A.kind T.ino=2:=by rw[hsT.kind,h2]
 obtain⟨⟨⟨c',hc',hnm⟩,hF⟩,hgk⟩:=NT.all_iff.1 (hg k hk)
 by_cases hkd:k.kind=2
 ·have hst:=(h.stat (fo:=true) hrp hatk (.inr (by rw[hkd];decide)) hs1).1
  have hdir:A.dirB rt (pth 116 [c])=true:=by
   unfold AT.dirB
   simp only
   rw[hst]
   simp only[hkd]
   rfl
  have hb:joinT (pth 116 [c]) (lastP tN)=pth 116 [c,116]:=by
   rw[show lastP tN=n1 116 by decide +kernel,sub_pth];rfl
  refine⟨2,_,by decide,by decide,by rw[hdir,if_pos rfl,hb],?_⟩
  have hok2:okR (116::[c,116]):=fun d hd=>by
   rcases List.mem_cons.1 hd with e | e
   ·rw[e];decide
   ·rcases List.mem_cons.1 e with e | e
    ·rw[e];exact letter_ok hc
    ·rw[List.mem_singleton]at e;rw[e];decide
  have hrp2:RP (pth 116 [c,116]) ([n1 116,n1 c]++[n1 116]):=(rp_pth hok2 (by simp)).1
  have l2:=h.miss (p:=pth 116 [c,116]) (us:=[n1 116,n1 c]) (m:=k) (c:=n1 116) (fo:=false) hrp2 hatk hkd (fun y hy=>by
   obtain⟨⟨⟨d,hd,hdn⟩,_⟩,_⟩:=NT.all_iff.1 (hgk y hy)
   rw[hdn]
   intro e
   have e':([d]:List UInt8)=[116]:=congrArg (fun b:ByteArray=>b.data.toList) e
   have:d=116:=by simpa using e'
   rw[this]at hd
   exact absurd hd.2 (by decide)) (fun n hn=>step_nB (cs:=[116,c,116]) n hn)
  have hupk:A.upOf k.ino=T.ino:=by
   obtain⟨es,g,_⟩:=hsk.get
   unfold AT.upOf
   rw[g]
   show(if k.kind==2 then T.ino else 0)=T.ino
   rw[hkd];rfl
  have hw:(A.within T.ino 13 k.ino).getD false=true:=by
   rw[AT.within,if_neg hkT,if_neg hk1,hupk,AT.within,if_pos rfl];rfl
  have hover:A.overE ⟨1,T.name,T.ino,true⟩ ⟨k.ino,n1 116,0,false⟩=2:=by
   unfold AT.overE
   simp only[if_true]
   rw[if_neg (by decide),if_pos ⟨hkT2,hw⟩]
  unfold AT.renameF AT.both
  rw[l1,l2]
  simp only[ne_eq,not_true_eq_false,if_false]
  rw[hTne,hne1,if_neg (by simp)]
  simp only[Bool.true_eq_false,if_false,Bool.false_eq_true,false_and]
  rw[hover,if_pos (by decide)]
 ·have l2:=h.hit (p:=pth 116 [c]) (us:=[n1 116]) (m:=T) (k:=k) (fo:=false) (by rw[hkn];exact hrp) hatT hk (.inl rfl) (by rw[hkn];exact hs1)
  have hdir:A.dirB rt (pth 116 [c])=false:=by
   by_cases h3:k.kind=3
   ·-- a link tq ../x
    have hdata:k.data=upX:=by
     rcases hF with⟨q,_⟩ | ⟨_,_,q⟩ | ⟨q,_⟩
     ·rw[h3]at q;exact absurd q (by decide)
     ·exact q
     ·rw[h3]at q;exact absurd q (by decide)
    have hloc:=rp_loc (fo:=true) h.k1 hrp
    obtain⟨q,q1,q2,q3⟩:=steps_to (go:=fun d s h'=>A.walk 9 d s true h') (fo:=true) (h:=8) (rest:=[n1 c]) h.inv h2 [n1 116] (rootT T) 1 rootQ h.sub hatT rfl rfl (fun n hn=>hs1 n (by simp at hn;simp[hn]))
    have hfd:=hsT.find h.inv hk
    rw[hkn,<- q1]at hfd
    have hwalk:A.walk 9 T.ino upX true 7=(0,⟨1,n1 120,0,false⟩,7):=by
     have hf120:A.find 1 (n1 120)=none:=by
      have:=h.sub.find_none (c:=n1 120) (fun y hy=>by
       have hy:y∈[T]:=hy
       rw[List.mem_singleton]at hy;rw[hy,hn];decide +kernel)
      rw[h.ino]at this;exact this
     have hupT:A.upOf T.ino=1:=by
      obtain⟨es,g,_⟩:=hsT.get
      unfold AT.upOf
      rw[g]
      show(if T.kind==2 then(1:Int)else 0)=1
      rw[h2];rfl
     rw[AT.walk]
     rw[show mayE upX=0 by decide +kernel,show headIs 47 upX=false by decide +kernel,show partsB upX=[⟨⟨[46,46]⟩⟩,n1 120]by decide +kernel]
     simp only[ne_eq,not_true_eq_false,if_false,Bool.false_eq_true]
     rw[steps_up rfl hkT2 (by decide +kernel),hupT,steps_name rfl h.k1 (by decide +kernel) (by decide) (.inl (by rw[hf120];rfl)),hf120]
     rfl
    have hdat:A.data k.ino=upX:=by
     obtain⟨es,g,_⟩:=hsk.get
     unfold AT.data
     rw[g];exact hdata
    obtain⟨s1,s2⟩:=hs1 (n1 c) (by simp)
    have hlast:A.steps (fun d s h'=>A.walk 9 d s true h') true [n1 c] q 8=(0,⟨1,n1 120,0,false⟩,7):=by
     have hgo:A.walk 9 q.ino (A.data ((A.find q.ino (n1 c)).getD 0)) true (8 - 1)=(0,⟨1,n1 120,0,false⟩,7):=by
      show A.walk 9 q.ino (A.data ((A.find q.ino (n1 c)).getD 0)) true 7=_
      rw[hfd,Option.getD_some,hdat,q1];exact hwalk
     rw[steps_link q2 (by rw[q1];exact hkT2) (sEq_false s1) (by omega) (by
      rw[hfd,Option.getD_some]
      intro hh
      rcases hh with hh | hh | hh
      ·cases hh
      ·cases hh
      ·exact hh (by rw[hsk.kind];exact h3)) (by decide) (by rw[hgo]),hgo]
     rfl
    refine not_dir_miss (q:=⟨1,n1 120,0,false⟩) ?_ rfl
    rw[hloc]
    have e:A.steps (fun d s h'=>A.walk 9 d s true h') true [n1 116,n1 c] rootQ 8=(0,⟨1,n1 120,0,false⟩,7):=by
     rw[<-hlast,<- q3];rfl
    rw[e]
   ·have hst:=(h.stat (fo:=true) hrp hatk (.inr h3) hs1).1
    unfold AT.dirB
    simp only
    rw[hst]
    show((0:Int)==0&&k.kind==2)=false
    rw[beq_eq_false_iff_ne.2 hkd];rfl
  refine⟨8,_,by decide,by decide,by rw[hdir,if_neg (by decide)],?_⟩
  have hkk:A.kind k.ino≠2:=by rw[hsk.kind];exact hkd
  have hover:A.overE ⟨1,T.name,T.ino,true⟩ ⟨T.ino,k.name,k.ino,true⟩=8:=by
   unfold AT.overE
   simp only[Bool.true_eq_false,if_false]
   have he:(if A.kind k.ino=2/\A.kind T.ino≠2 then(7:Int)else if A.kind T.ino=2/\A.kind k.ino≠2 then 8 else if(A.names k.ino).length>0 then 20 else 0)=8:=by
    rw[if_neg (fun hh:A.kind k.ino=2/\A.kind T.ino≠2=>hkk hh.1),if_pos ⟨hkT2,hkk⟩]
   rw[he,if_pos (by decide)]
  unfold AT.renameF AT.both
  rw[l1,l2]
  simp only[ne_eq,not_true_eq_false,if_false]
  rw[hTne,hkn,hne1,if_neg (by simp)]
  simp only[Bool.true_eq_false,if_false,true_and]
  rw[if_neg (Ne.symm hkT),<- hkn,hover,if_pos (by decide)]
end
theorem move_law {A:AT} {T:NT} {dirs:List ByteArray} (h:Gw A T dirs 20) {k:NT} (hk:k∈T.kids) {c:UInt8} (hc:letter c) (hkn:k.name=n1 c) : ∃A1 A2 e,e≠0/\MoveLaw A A1 A2 c e:=by
 obtain⟨T1,Kr,hm⟩:=h.mid hk hkn
 obtain⟨A1,A2,r1,f1,b1,r2,f2,b2,d1,d2⟩:=move_go h hk hc hkn hm
 have ht1:=hm.t1
 have hn1:T1.name=n1 116:=by rw[ht1];exact h.name
 have hk1:T1.kind=2:=by rw[ht1];exact h.top.1
 have hkr:T1.kids=Kr:=by rw[ht1];rfl
 have hat1:NT.at (rootT T1) [n1 116] T1:=⟨T1,List.mem_singleton.2 rfl,hn1,rfl⟩
 have hkr2 : ∀x∈Kr,x∈T.kids:=fun x hx=>hm.perm.mem_iff.1 (List.mem_append_left _ hx)
 have hgr : ∀x∈T1.kids,x.all GrN:=by rw[hkr];exact fun x hx=>h.kids x (hkr2 x hx)
 have hg0 : ∀x∈(NT.mk T.name T.ino T.kind T.mode T.data (Kr++[k])).kids,x.all GrN:=fun x hx=>h.kids x (hm.perm.mem_iff.1 hx)
 obtain⟨e,b',e0,e10,hb,hr⟩:=no_move (T := .mk T.name T.ino T.kind T.mode T.data (Kr++[k])) f2 h.name h.top.1 hg0 (show k∈Kr++[k]by simp) hc hkn
 have hatT:NT.at (rootT T) (nB (116::[])) T:=h.at_root (ws:=[]) rfl
 have hatk:NT.at (rootT T) (nB (116::[c])) k:=by
  have:=NT.at_snoc hk hatT
  rw[hkn]at this;exact this
 have hat11:NT.at (NT.addK 1 (k.ren mvd) (rootT T1)) (nB (116::[])) T1:=NT.at_add' hat1 hm.one
 have hatk1:NT.at (NT.addK 1 (k.ren mvd) (rootT T1)) [mvd] (k.ren mvd):=by
  refine⟨k.ren mvd,?_,rfl,rfl⟩
  rw[NT.addk_kids,if_pos (show(rootT T1).ino=1 from rfl)];simp
 have hok:okR (116::[c]):=okR_t fun d hd=>by rw[List.mem_singleton]at hd;rw[hd];exact hc
 have pbk:=(pb_pth (a:=116) (cs:=[c]) (k:=14) hok (by simp)).2
 have pbt:=(pb_pth (a:=116) (cs:=[]) (k:=14) ok_116 (by simp)).2
 have pbm:PB ⟨⟨47::mvd.data.toList⟩⟩ [mvd] 14:=by
  refine⟨fun cs hcs hl=>⟨may_list (by simp) (by simp only[List.length_append,List.length_cons,tlL_len];show 5+1+_<=255;omega) ?_,?_⟩,fun n hn=>by rw[List.mem_singleton]at hn;rw[hn];exact step_mvd⟩
  ·intro hmm
   rcases List.mem_append.1 hmm with e | e
   ·exact absurd e (by decide)
   ·exact tl_no0 hcs e
  ·have:=(splitL_tl cs [109,111,118,101,100] (by decide) hcs).1
   unfold partsB
   show List.filter okPart (List.map _ (splitL 47 ([]++47::([109,111,118,101,100]++tlL cs))))=_
   rw[splitL_cut [] _ (by simp),this,List.map_cons,List.map_cons,List.map_map,List.filter_cons_of_neg (by decide +kernel),List.filter_cons_of_pos (by decide +kernel)]
   show mvd::List.filter okPart (nB cs)=_
   rw[filter_nB hcs];rfl
 have hkg:=(NT.all_iff.1 (h.kids k hk)).2
 have tk:=tree_txt (modes:=true) h.fs 14 (Nat.le_refl _) pbk hatk hkg
 have tk1:=tree_txt (modes:=true) f1 14 (Nat.le_refl _) pbm hatk1 hkg
 have tT:=tree_txt (modes:=true) h.fs 14 (Nat.le_refl _) pbt hatT h.kids
 have tT1:=tree_txt (modes:=true) f1 14 (Nat.le_refl _) pbt hat11 hgr
 obtain⟨u,hsT⟩:=h.fs.sub.at hatT
 have hnod:=Sub.nodN h.fs.inv T hsT
 have hnn:=hsT.nodNames h.fs.inv
 have hnm1 : ∀x∈T.kids,∃c,x.name=n1 c:=fun x hx=>by
  obtain⟨⟨⟨d,_,hd⟩,_⟩,_⟩:=NT.all_iff.1 (h.kids x hx)
  exact⟨d,hd⟩
 have hnn0:((Kr++[k]).map NT.name).Nodup:=((hm.perm.map NT.name).nodup_iff).2 hnn
 have sz1:=txt_size (modes:=true) (k:=13) (t:=T1) hk1 (by rw[hkr];rw[List.map_append]at hnn0;exact(List.nodup_append.1 hnn0).1) (by rw[hkr];exact fun x hx=>hnm1 x (hkr2 x hx))
 have sz:=txt_size (modes:=true) (k:=13) (t:=T) h.top.1 hnn hnm1
 have hlen:lenT true 13 T.kids=lenT true 13 Kr+(3+(k.txt true 13).size):=by
  rw[<-lenT_perm hm.perm,lenT_perm (List.perm_append_comm (l₁:=Kr) (l₂:=[k]))]
  show 3+(k.txt true 13).size+lenT true 13 Kr=_
  omega
 have ui_of : ∀ {B:AT} {R:NT},FS B R->R.toks.Perm (rootT T).toks->B.ui=A.ui/\B.ub=A.ub:=fun hB hp=>⟨by rw[hB.ui,h.fs.ui,hp.length_eq],by rw[hB.ub,h.fs.ub,sumB_perm hp]⟩
 have h1R:(1:Int)∈(rootT T1).inos:=by rw[rootT_inos];exact List.mem_cons_self ..
 have htR:T.ino∈(rootT T1).inos:=by
  rw[rootT_inos]
  refine List.mem_cons_of_mem _ ?_
  have:T1.ino=T.ino:=by rw[ht1];rfl
  rw[<-this];exact T1.ino_mem
 have hp0:(rootT (.mk T.name T.ino T.kind T.mode T.data (Kr++[k]))).toks.Perm (rootT T).toks:=by
  rw[rootT_toks,rootT_toks,NT.toks_eq,NT.toks_eq T]
  exact List.Perm.cons _ (List.Perm.cons _ (NT.toksRow_perm hm.perm))
 have hp1:(NT.addK 1 (k.ren mvd) (rootT T1)).toks.Perm (rootT T).toks:=by
  have a:=NT.addk_toks (x:=k.ren mvd) (rootT T1) hm.nod h1R
  have b:=NT.addk_toks (x:=k) (rootT T1) hm.nod htR
  have hx:(k.ren mvd).toks=k.toks:=by rw[NT.toks_eq,NT.toks_eq k];rfl
  rw[hx]at a
  rw[<-hm.eq]at b
  exact(a.trans b.symm).trans hp0
 have q1:=ui_of f1 hp1
 have q2:=ui_of f2 hp0
 have w0:=root_txt h.fs h.name h.kids
 have w2:=root_txt (T := .mk T.name T.ino T.kind T.mode T.data (Kr++[k])) f2 h.name hg0
 have hlk:=txt_like (modes:=true) 13 (Like.perm hnod hm.perm) hnod (nodN_perm hnod hm.perm)
 have osz:(A1.treeP true 14 (apth 116 [])).size<=(A.treeP true 14 (apth 116 [])).size:=by
  rw[tT1,tT,sz1,sz,hlen,hkr,ht1]
  have:(headT true (NT.mk T.name T.ino T.kind T.mode T.data Kr).kind (NT.mk T.name T.ino T.kind T.mode T.data Kr).mode (NT.mk T.name T.ino T.kind T.mode T.data Kr).data).size=(headT true T.kind T.mode T.data).size:=rfl
  omega
 refine⟨A1,A2,e,e0,⟨call_mv0 rfl d1 r1,by rw[tk1,tk,txt_ren],q1.1,q1.2,?_,call_mv0 (by decide +kernel) d2 r2,by rw[w2,w0,hlk],q2.1,q2.2,call_mvE (by decide +kernel) hb e0 e10 hr,⟨h.fs.inv,h.bd.mono (by omega)⟩,⟨f1.inv,b1.mono (by omega)⟩,⟨f2.inv,b2.mono (by omega)⟩,by have:=er_rename (A:=A2) rt tN b';rw[hr]at this;exact this,osz⟩⟩
 rw[tT1,tT]
 intro hh
 have hh:=congrArg ByteArray.size hh
 rw[sz1,sz,hlen,hkr,ht1]at hh
 have:(headT true (NT.mk T.name T.ino T.kind T.mode T.data Kr).kind (NT.mk T.name T.ino T.kind T.mode T.data Kr).mode (NT.mk T.name T.ino T.kind T.mode T.data Kr).data).size=(headT true T.kind T.mode T.data).size:=rfl
 omega
end Go.Wk

set_option maxRecDepth 100000
namespace Go.Wk
open Go Go.HL
def lsN:ByteArray:=⟨⟨[108,115]⟩⟩
theorem moved_same {A:AT} {src ino:Int} {name as_:ByteArray} {ns nn:AN} (hns:A.get src=some ns) (hnn:A.get ino=some nn) (h2:ino≠src) (hf:A.find src name=some ino):(∀j,(A.moved src name src as_).get j=if j=ino then some (if nn.kind==2 then { nn with up:=src }else nn)else if j=src then some { ns with ents:=up as_ ino (rm name ns.ents) }else A.get j)/\(A.moved src name src as_).ui=A.ui/\(A.moved src name src as_).ub=A.ub:=by
 have e1:A.ent src (rm name)=A.set src { ns with ents:=rm name ns.ents }:=by unfold AT.ent;rw[hns]
 have g1:(A.set src { ns with ents:=rm name ns.ents }).get src=some { ns with ents:=rm name ns.ents }:=AT.get_set_self _ _ _
 have e2:(A.set src { ns with ents:=rm name ns.ents }).ent src (up as_ ino)=(A.set src { ns with ents:=rm name ns.ents }).set src { ns with ents:=up as_ ino (rm name ns.ents) }:=by unfold AT.ent;rw[g1]
 have g2:((A.set src { ns with ents:=rm name ns.ents }).set src { ns with ents:=up as_ ino (rm name ns.ents) }).get ino=some nn:=by rw[AT.get_set_ne _ _ h2,AT.get_set_ne _ _ h2];exact hnn
 have e3:A.moved src name src as_=((A.set src { ns with ents:=rm name ns.ents }).set src { ns with ents:=up as_ ino (rm name ns.ents) }).set ino (if nn.kind==2 then { nn with up:=src }else nn):=by
  unfold AT.moved
  rw[hf]
  simp only[Option.getD_some]
  rw[e1,e2]
  unfold AT.mod
  rw[g2]
 rw[e3]
 refine⟨fun j => ?_,rfl,rfl⟩
 rw[AT.get_set]
 by_cases a:j=ino
 ·rw[if_pos a,if_pos a]
 ·rw[if_neg a,if_neg a,AT.get_set]
  by_cases b:j=src
  ·rw[if_pos b,if_pos b]
  ·rw[if_neg b,if_neg b,AT.get_set,if_neg b]
theorem move_empty {A:AT} {T:NT} {dirs:List ByteArray} (h:Gw A T dirs 20) (h0:T.kids=[]) : ∃A1,callP A mvN [tN,uN]=(zeroT,A1)/\callP A1 lsN [uN]=(zeroT,A1)/\(Inv A1/\Bd 100000 A1)/\(Inv A/\Bd 100000 A):=by
 have hatT:NT.at (rootT T) [n1 116] T:=h.at_root (ws:=[]) rfl
 have hTk:T∈(rootT T).kids:=List.mem_singleton.2 rfl
 have hs0:Sub A 1 (rootT T):=h.fs.sub
 have hsT:=hs0.kid hTk
 rw[show(rootT T).ino=1 from rfl]at hsT
 have nod:=h.fs.nod
 rw[rootT_inos]at nod
 obtain⟨m1,nodT⟩:=List.nodup_cons.1 nod
 have hT1:T.ino≠1:=fun e=>m1 (e ▸ T.ino_mem)
 have hrt:RP tN ([]++[T.name]):=by rw[h.name];exact⟨by decide +kernel,by decide +kernel⟩
 have hru:RP uN ([]++[uN]):=⟨by decide +kernel,by decide +kernel⟩
 have hst : ∀n∈[]++[T.name],stepOk n:=fun n hn=>by
  have hn:n∈[T.name]:=hn
  rw[List.mem_singleton]at hn;rw[hn,h.name];exact step_nB (cs:=[116]) _ (List.mem_singleton.2 rfl)
 have hsu : ∀n∈[]++[uN],stepOk n:=fun n hn=>step_nB (cs:=[117]) n hn
 have l1:=h.fs.hit (p:=tN) (us:=[]) (m:=rootT T) (k:=T) (fo:=false) hrt rfl hTk (.inl rfl) hst
 have hmiss : ∀y∈(rootT T).kids,y.name≠uN:=fun y hy=>by
  have hy:y∈[T]:=hy
  rw[List.mem_singleton]at hy;rw[hy,h.name];decide +kernel
 have l2:=fun fo=>h.fs.miss (p:=uN) (us:=[]) (m:=rootT T) (c:=uN) (fo:=fo) hru rfl rfl hmiss hsu
 rw[show(rootT T).ino=1 from rfl]at l1
 have hf1:=hs0.find h.fs.inv hTk
 have hf2:=hs0.find_none hmiss
 rw[show(rootT T).ino=1 from rfl]at hf1 hf2
 obtain⟨es,g1,p1⟩:=hs0.get
 obtain⟨et,gT,pT⟩:=hsT.get
 rw[show(rootT T).ino=1 from rfl]at g1
 rw[h0]at pT
 have pT:et=[]:=pT.eq_nil
 subst pT
 have hlev:=levels_flat h.fs.inv T 11 14 hsT (h.fs.flat T hatT)
 have hdeep:=(h.fs.deep (ws:=[]) (m:=rootT T) rfl rfl).2 13 (by simp)
 rw[show(rootT T).ino=1 from rfl]at hdeep
 have hover:A.overE ⟨1,T.name,T.ino,true⟩ ⟨1,uN,0,false⟩=0:=by
  unfold AT.overE
  simp only[if_true]
  have hw:(A.within T.ino 13 1).getD false=false:=by rw[AT.within,if_neg (Ne.symm hT1),if_pos rfl];rfl
  rw[if_neg (by decide),if_neg (by rw[hw];simp),hdeep,Option.getD_some,if_neg (by simp;omega)]
 have D1:A.isDir 1:=⟨_,g1,rfl⟩
 have hmE:A.moveE1 1 T.name 1 uN=0:=by
  unfold AT.moveE1
  rw[AT.dirE_of D1,hf1,show namedE uN=0 by decide +kernel];rfl
 have hne:T.name≠uN:=by rw[h.name];decide +kernel
 have hres:A.renameF rt tN uN=(0,A.moved 1 T.name 1 uN):=by
  unfold AT.renameF AT.both
  rw[l1,l2 false]
  simp only[ne_eq,not_true_eq_false,if_false]
  rw[show sEq T.name ⟨⟨[]⟩⟩=false by rw[h.name];decide +kernel,show sEq uN ⟨⟨[]⟩⟩=false by decide +kernel,if_neg (by simp)]
  simp only[Bool.true_eq_false,if_false,Bool.false_eq_true,false_and]
  rw[show(rootT T).ino=1 from rfl,if_neg (by rw[hover];decide)]
  unfold AT.moveR
  rw[hmE,if_neg (by intro h;rcases h with h | h;exact h rfl;exact hne h.2)]
  simp only
  rw[hf2,hf1,Option.getD_some,AT.apart,if_pos rfl]
  rfl
 have hinv:=renameF_inv h.fs.inv h.bd (by decide) rt tN uN
 rw[hres]at hinv
 obtain⟨hg,hui,hub⟩:=moved_same (as_:=uN) g1 gT hT1 hf1
 generalize A.moved 1 T.name 1 uN=A1 at *
 have hrm:rm T.name es=[]:=by
  have hp:es.Perm ([]++[(T.name,T.ino)]):=p1
  exact(rm_perm (h.fs.inv.enod _ _ g1) hp).eq_nil
 have hfs1:FS A1 (rootT (T.ren uN)):=by
  refine⟨hinv.inv,?_,rfl,rfl,?_,?_,?_⟩
  ·rw[sub_iff]
   refine⟨⟨[(uN,T.ino)],?_,List.Perm.refl _⟩,fun hk=>absurd rfl hk,fun y hy => ?_⟩
   ·show A1.get 1=_
    rw[hg,if_neg (Ne.symm hT1),if_pos rfl]
    show some ({ (rootT T).node 1 es with ents:=up uN T.ino (rm T.name es) }:AN)=_
    rw[hrm];rfl
   ·have hy:y∈[T.ren uN]:=hy
    rw[List.mem_singleton]at hy
    subst hy
    rw[sub_iff]
    refine⟨⟨[],?_,by show [].Perm (T.kids.map NT.ent);rw[h0];exact List.Perm.refl _⟩,fun _=>h0,fun z hz => ?_⟩
    ·show A1.get T.ino=_
     rw[hg,if_pos rfl,node_ren uN T];rfl
    ·have hz:z∈T.kids:=hz
     rw[h0]at hz;cases hz
  ·have:=h.fs.nod
   rw[rootT_inos,NT.inos_eq]at this ⊢
   exact this
  ·rw[hui,h.fs.ui,rootT_toks,rootT_toks,NT.toks_eq,NT.toks_eq (T.ren uN)];rfl
  ·rw[hub,h.fs.ub,rootT_toks,rootT_toks,NT.toks_eq,NT.toks_eq (T.ren uN)];rfl
 have hatu:NT.at (rootT (T.ren uN)) [uN] (T.ren uN):=⟨_,List.mem_singleton.2 rfl,rfl,rfl⟩
 have hku:(T.ren uN).kind=2:=h.top.1
 have hstat:=(hfs1.stat (fo:=true) hru hatu (.inr (by rw[hku];decide)) hsu).1
 have hlist:=hfs1.list hru hatu hku hsu
 have hnm:(T.ren uN).names=[]:=by
  unfold NT.names
  show sortN (T.kids.map NT.name)=[]
  rw[h0];rfl
 rw[hnm]at hlist
 refine⟨A1,call_mv0 (by decide +kernel) (not_dir_miss (l2 true) rfl) hres,?_,⟨hinv.inv,hinv.bd.mono (by decide)⟩,⟨h.fs.inv,h.bd.mono (by decide)⟩⟩
 have hdir:A1.dirB rt uN=true:=by
  unfold AT.dirB
  simp only
  rw[hstat]
  simp only[hku]
  rfl
 have ho:optsP (lettersP lsN) [uN] ⟨⟨[]⟩⟩=some (⟨⟨[]⟩⟩,[uN]):=by
  rw[optsP]
  rw[if_neg (show ¬sEq uN ⟨⟨[45,45]⟩⟩=true by decide +kernel),if_pos (show(Nat.ble uN.size 1 || !headIs 45 uN)=true by decide +kernel)]
 have hdo:doP A1 lsN rt ⟨⟨[]⟩⟩ [uN]=TS.new A1:=by
  unfold doP
  simp only
  rw[if_neg (show ¬sEq lsN ⟨⟨[109,107,100,105,114]⟩⟩=true by decide +kernel),if_neg (show ¬sEq lsN ⟨⟨[114,109,100,105,114]⟩⟩=true by decide +kernel),if_neg (show ¬sEq lsN ⟨⟨[116,111,117,99,104]⟩⟩=true by decide +kernel),if_neg (show ¬sEq lsN ⟨⟨[99,104,109,111,100]⟩⟩=true by decide +kernel),if_neg (show ¬sEq lsN ⟨⟨[108,110]⟩⟩=true by decide +kernel),if_neg (show ¬sEq lsN ⟨⟨[114,109]⟩⟩=true by decide +kernel),if_neg (show ¬sEq lsN ⟨⟨[109,118]⟩⟩=true by decide +kernel),if_neg (show ¬sEq lsN ⟨⟨[99,112]⟩⟩=true by decide +kernel)]
  unfold TS.ls
  simp only
  rw[if_neg (show ¬ ([uN]:List ByteArray).isEmpty=true from fun h=>by cases h)]
  have hsift:TS.sift lsN rt [uN] (TS.new A1) [] []=(TS.new A1,[],[uN]):=by
   rw[TS.sift,if_neg (show ¬ (TS.new A1).full=true from fun h=>by cases h),if_pos (show(TS.new A1).A.dirB rt uN=true from hdir),TS.sift];rfl
  rw[hsift]
  show TS.listed rt _ false (TS.new A1) uN=TS.new A1
  unfold TS.listed
  simp only[Bool.false_eq_true,if_false]
  rw[show(TS.new A1).A=A1 from rfl,hlist];rfl
 rw[call_of (by decide +kernel) (by decide +kernel) ho rfl hdo];rfl
theorem grown_names {A:AT} {T:NT} {dirs:List ByteArray} {n:Nat} (h:Gw A T dirs n):A.listF rt (apth 116 [])=(0,T.names)/\(T.names=[]->T.kids=[]) /\ ∀s∈T.names,∃k∈T.kids,∃c,letter c/\k.name=n1 c/\s=n1 c:=by
 have hatT:NT.at (rootT T) (nB (116::[])) T:=h.at_root (ws:=[]) rfl
 refine⟨h.fs.list (rp_pth ok_116 (by simp)).2 hatT h.top.1 (fun n hn=>step_nB n hn),fun h0 => ?_,fun s hs => ?_⟩
 ·have:=(sortN_perm (T.kids.map NT.name)).length_eq
  rw[show sortN (T.kids.map NT.name)=[]from h0,List.length_map]at this
  exact List.length_eq_zero_iff.1 this.symm
 ·obtain⟨k,hk,rfl⟩:=List.mem_map.1 ((sortN_perm _).mem_iff.1 hs)
  obtain⟨⟨⟨c,hc,hn⟩,_⟩,_⟩:=NT.all_iff.1 (h.kids k hk)
  exact⟨k,hk,c,hc,hn,hn⟩
end Go.Wk

namespace Go.Wk
open Go Go.HL
theorem opts_mem (letters:ByteArray) : ∀ (args:List ByteArray) (got g':ByteArray) (names:List ByteArray),optsP letters args got=some (g',names)->(∀n∈names,n∈args)/\names.length<=args.length:=by
 intro args
 induction args with
 | nil =>
  intro got g' names h
  have h:some (got,([]:List ByteArray))=some (g',names):=h
  simp only[Option.some.injEq,Prod.mk.injEq]at h
  rw[<-h.2]
  exact⟨fun n hn=>hn,Nat.le_refl _⟩
 | cons a r ih =>
  intro got g' names h
  unfold optsP at h
  rw[List.length_cons]
  split at h
  ·simp only[Option.some.injEq,Prod.mk.injEq]at h
   rw[<-h.2]
   exact⟨fun n hn=>List.mem_cons_of_mem _ hn,by omega⟩
  split at h
  ·simp only[Option.some.injEq,Prod.mk.injEq]at h
   rw[<-h.2]
   exact⟨fun n hn=>hn,by rw[List.length_cons];omega⟩
  split at h
  ·obtain⟨h1,h2⟩:=ih _ _ _ h
   exact⟨fun n hn=>List.mem_cons_of_mem _ (h1 n hn),by omega⟩
  ·cases h
theorem fail_st (nm:ByteArray) {s:TS} (n:ByteArray) (e:Int) (h:0<=s.st):0<=(s.fail nm n e).st:=by
 unfold TS.fail
 split
 ·exact h
 ·show 0<=(if e==10 then(3:Int)else if s.st<1 then 1 else s.st)
  split
  ·decide
  ·split
   ·decide
   ·exact h
theorem each_st {nm:ByteArray} {do_:TS->ByteArray->Int×TS} (h:∀t n,0<=t.st->0<=(do_ t n).2.st) : ∀ (l:List ByteArray) (s:TS),0<=s.st->0<=(TS.each nm do_ l s).st:=by
 intro l
 induction l with
 | nil=>intro s hs;exact hs
 | cons n r ih =>
  intro s hs
  unfold TS.each
  split
  ·exact hs
  ·exact ih _ (fail_st _ _ _ (h _ _ hs))
theorem into_st {nm cwd:ByteArray} {do_:TS->ByteArray->ByteArray->Int×TS} (h:∀t a b,0<=t.st->0<=(do_ t a b).2.st) (l:List ByteArray) (s:TS) (hs:0<=s.st):0<=(TS.into nm cwd do_ l s).st:=by
 unfold TS.into
 split
 ·exact hs
 ·simp only
  split
  ·exact fail_st _ _ _ hs
  ·exact each_st (fun t n ht=>h _ _ _ ht) _ _ hs
theorem foldl_st {f:TS->ByteArray->TS} (h:∀t n,0<=t.st->0<=(f t n).st) : ∀ (l:List ByteArray) (s:TS),0<=s.st->0<=(l.foldl f s).st:=by
 intro l
 induction l with
 | nil=>intro s hs;exact hs
 | cons n r ih=>intro s hs;rw[List.foldl_cons];exact ih _ (h _ _ hs)
theorem rm_st (nm cwd got:ByteArray) : ∀ (f:Nat) (s:TS) (p:ByteArray),0<=s.st->0<=(TS.rm nm cwd got f s p).2.st:=by
 intro f
 induction f with
 | zero=>intro s p h;exact h
 | succ f ih =>
  intro s p h
  unfold TS.rm
  simp only
  split
  ·exact h
  split
  ·exact h
  split
  ·exact h
  ·show 0<=(if(s.A.stat cwd p false).2.kind==2 then(s.A.listF cwd p).2.foldl (rmStep nm cwd got p f) s else s).st
   split
   ·exact foldl_st (fun t n ht=>fail_st _ _ _ (ih _ _ ht)) _ _ h
   ·exact h
theorem cp_st (nm cwd got:ByteArray) : ∀ (f:Nat) (s:TS) (a b:ByteArray),0<=s.st->0<=(TS.cp nm cwd got f s a b).2.st:=by
 intro f
 induction f with
 | zero=>intro s a b h;exact h
 | succ f ih =>
  intro s a b h
  unfold TS.cp
  simp only
  split
  ·exact h
  split
  ·exact h
  split
  ·exact h
  split
  ·exact h
  split
  ·exact h
  split
  ·exact h
  ·refine foldl_st (fun t n ht => ?_) _ _ h
   split
   ·exact ht
   ·exact fail_st _ _ _ (ih _ _ _ ht)
theorem sift_st (nm cwd:ByteArray) : ∀ (l:List ByteArray) (s:TS) (p d:List ByteArray),0<=s.st->0<=(TS.sift nm cwd l s p d).1.st:=by
 intro l
 induction l with
 | nil=>intro s p d h;exact h
 | cons n r ih =>
  intro s p d h
  unfold TS.sift
  split
  ·exact h
  split
  ·exact ih _ _ _ h
  ·exact ih _ _ _ (fail_st _ _ _ h)
theorem ls_st (nm cwd got:ByteArray) (names:List ByteArray) (s:TS) (h:0<=s.st):0<=(TS.ls nm cwd got names s).st:=by
 unfold TS.ls
 simp only
 refine foldl_st (fun t n ht => ?_) _ _ (foldl_st (f:=TS.say) (fun t n ht=>ht) _ _ (sift_st _ _ _ _ _ _ h))
 unfold TS.listed
 simp only
 have h2 : ∀b:Bool,0<=(if b then t.say (n++⟨⟨[58]⟩⟩)else t).st:=fun b=>by cases b<;>exact ht
 refine foldl_st (fun t n ht => ?_) _ _ (h2 _)
 split
 ·exact ht
 ·exact ht
theorem do_st (A:AT) (nm cwd got:ByteArray) (names:List ByteArray):0<=(doP A nm cwd got names).st:=by
 have h0:0<=(TS.new A).st:=Int.le_refl _
 unfold doP
 simp only
 split
 ·exact each_st (fun t n ht=>ht) _ _ h0
 split
 ·exact each_st (fun t n ht=>ht) _ _ h0
 split
 ·exact each_st (fun t n ht=>ht) _ _ h0
 split
 ·split
  ·exact h0
  ·exact each_st (fun t n ht=>ht) _ _ h0
 split
 ·split
  ·exact h0
  ·exact each_st (fun t n ht=>ht) _ _ h0
 split
 ·exact each_st (fun t n ht=>rm_st _ _ _ _ _ _ ht) _ _ h0
 split
 ·exact into_st (fun t a b ht=>ht) _ _ h0
 split
 ·exact into_st (fun t a b ht=>cp_st _ _ _ _ _ _ _ ht) _ _ h0
 ·exact ls_st _ _ _ _ _ h0
theorem files_st {A:AT} {cwd nm:ByteArray} {args:List ByteArray} {d:Dn} {A':AT} (h:A.filesP cwd nm args=some (d,A')):0<=d.st:=by
 unfold AT.filesP at h
 split at h
 ·simp only at h
  split at h
  ·cases h;exact Int.le.intro 2 rfl
  ·split at h
   ·cases h;exact do_st _ _ _ _ _
   ·cases h;exact Int.le.intro 2 rfl
 ·cases h
theorem call_some {A:AT} {nm:ByteArray} {args:List ByteArray} {d:Dn} {A':AT} (h:A.filesP ⟨⟨[47]⟩⟩ nm args=some (d,A')):callP A nm args=(⟨⟨[(48+d.st.toNat).toUInt8]⟩⟩++d.out++d.err,A'):=by
 unfold callP
 rw[h]
theorem do_mk (A:AT) (cwd got:ByteArray) (names:List ByteArray):doP A mkN cwd got names=TS.each mkN (fun t n=>onA t (if hasL got 112 then t.A.allF cwd (waysP n++[n])else t.A.mkdirF cwd n)) names (TS.new A):=by
 unfold doP
 simp only
 rw[if_pos (by decide +kernel)]
theorem do_rm (A:AT) (cwd got:ByteArray) (names:List ByteArray):doP A rmT cwd got names=TS.each rmT (fun t n=>TS.rm rmT cwd got FU t n) names (TS.new A):=by
 unfold doP
 simp only
 rw[if_neg (by decide +kernel),if_neg (by decide +kernel),if_neg (by decide +kernel),if_neg (by decide +kernel),if_neg (by decide +kernel),if_pos (by decide +kernel)]
theorem do_mv (A:AT) (cwd got:ByteArray) (names:List ByteArray):doP A mvN cwd got names=TS.into mvN cwd (fun t a b=>onA t (t.A.renameF cwd a b)) names (TS.new A):=by
 unfold doP
 simp only
 rw[if_neg (by decide +kernel),if_neg (by decide +kernel),if_neg (by decide +kernel),if_neg (by decide +kernel),if_neg (by decide +kernel),if_neg (by decide +kernel),if_pos (by decide +kernel)]
theorem do_cp (A:AT) (cwd got:ByteArray) (names:List ByteArray):doP A cpN cwd got names=TS.into cpN cwd (fun t a b=>TS.cp cpN cwd got FU t a b) names (TS.new A):=by
 unfold doP
 simp only
 rw[if_neg (by decide +kernel),if_neg (by decide +kernel),if_neg (by decide +kernel),if_neg (by decide +kernel),if_neg (by decide +kernel),if_neg (by decide +kernel),if_neg (by decide +kernel),if_pos (by decide +kernel)]
theorem do_ls (A:AT) (cwd got:ByteArray) (names:List ByteArray):doP A lsN cwd got names=TS.ls lsN cwd got names (TS.new A):=by
 unfold doP
 simp only
 rw[if_neg (by decide +kernel),if_neg (by decide +kernel),if_neg (by decide +kernel),if_neg (by decide +kernel),if_neg (by decide +kernel),if_neg (by decide +kernel),if_neg (by decide +kernel),if_neg (by decide +kernel)]
theorem right_cp {got:ByteArray} {names:List ByteArray} (h:rightP cpN got names=true):names≠[]:=by
 rintro rfl
 exact absurd h (by rw[show rightP cpN got []=false from rfl];decide)
theorem right_mv {got:ByteArray} {names:List ByteArray} (h:rightP mvN got names=true):names≠[]:=by
 rintro rfl
 exact absurd h (by rw[show rightP mvN got []=false from rfl];decide)
end Go.Wk

set_option maxRecDepth 100000
namespace Go.Proofs.YtbdlkofldmhoaaaGreatDoor
open Go Go.HL Go.Wk
theorem u8_st {st:Int} (h:0<=st):IntKind.u8.wrap (48+IntKind.u8.wrap st)=(((48+st.toNat).toUInt8.toNat:Nat):Int):=by
 obtain⟨n,rfl⟩ : ∃n:Nat,st=n:=⟨st.toNat,by omega⟩
 rw[IntKind.wrap_u8,IntKind.wrap_u8,Int.toNat_natCast]
 show _=((((48+n) % 256:Nat)):Int)
 omega
attribute [local irreducible] ptrW ifW brW andW rdT alW letJ stW muW biW vaW imW callT cvalT app callW invW callVW sizeT oW nilF oneK loopW rfW funW begW roundK exW idxW Gr Put
theorem und_bytesF:Tryz.prog.underlying 57=some (.slice 5):=Tryz.underlying57
theorem und_u8F:Tryz.prog.underlying 5=some (.int .u8):=Tryz.underlying5
section
variable {σ τ : H} {bf : Nat} {A : AT} {B : Nat -> Prop}
theorem s_call19 {Q:AT->Prop} {nm:ByteArray} {x:Sl} {args:List ByteArray} (hrun:∀K:Value->H->Prop,(∀d A',A.filesP ⟨⟨[47]⟩⟩ nm args=some (d,A') -> ∀σ' B',FsAt σ' bf A' B'->Sep σ B σ' B'->Q A'->K (.tuple ⟨[.agg ⟨dnF d⟩,.bool true]⟩) σ')->callW Tryz.prog 16 [.pointer (some ⟨bf,0,none⟩),.agg ⟨[.string nm,.slice x.base x.len x.cap,.string ⟨⟨[]⟩⟩,.string ⟨⟨[47]⟩⟩]⟩] K σ)
 (hz:(callP A nm args).1.size<=1000000000000) {K:KH} (hK:∀σ' B',FsAt σ' bf (callP A nm args).2 B'->Sep σ B σ' B'->Q (callP A nm args).2->K (.string (callP A nm args).1) σ') :
 callW Tryz.prog 12 [.pointer (some ⟨bf,0,none⟩),.string nm,.slice x.base x.len x.cap] K σ:=by
 refine c12 _ _ _ ?_
 unfold g12
 refine call_i (hrun _ ?_)
 intro d A' he σ1 B1 F1 s1 hq
 rw[call_some he]at hz hK
 have hst:=files_st he
 unfold dnF
 (refine app_of rfl ?_;try dsimp only)
 refine al_i ?_;intro b8 σ2 g2 e2 n2
 refine st_i2 e2 sz_DoneF (by rfl) (by rfl) ?_;intro σ3 p3
 have g3:Gr σ1 σ3:=g2.putF p3 n2
 have k3:=p3.same
 clear p3 e2 g2
 refine br_f rfl (rd_I (rdC_of k3 (by rfl)) ?_)
 rw[u8_st hst]
 refine al_i ?_;intro b10 σ4 g4 e4 n4
 have k4:=g4.get k3
 have G4:=g3.trans g4
 simp only[ByteArray.size_append]at hz
 refine bstr_i und_bytesF und_u8F und_string (l:=[(48+d.st.toNat).toUInt8]) (x:=⟨some ⟨b10,0,none⟩,1,1⟩) ⟨rfl,.inr ⟨b10,0,_,_,_,rfl,e4,fun i r hr => ?_⟩⟩ ?_
 ·match i,hr with
  | 0,hr=>cases hr;exact⟨rfl,rfl⟩
  | i+1,hr=>simp[brows]at hr
 ·refine rd_S (rdC_of k4 (by rfl)) (if_i (by omega) (rd_S (rdC_of k4 (by rfl)) (if_i (by rw[ByteArray.size_append];omega) ?_)))
  exact hK σ4 B1 (F1.gr G4) (s1.grR G4) hq
end
section
variable {σ τ : H} {bf : Nat} {A : AT} {B : Nat -> Prop} {x : Sl} {args : List ByteArray} {K : KH}
theorem lk_mk (b:Nat):lk mkN (doL b)=some (.func (.func 42) ⟨[.pointer (some ⟨b,0,none⟩)]⟩ ⟨[]⟩):=by
 unfold doL;simp only[lkS]
 rw[if_pos (by decide +kernel)]
theorem lk_rm (b:Nat):lk rmT (doL b)=some (.func (.func 47) ⟨[.pointer (some ⟨b,0,none⟩)]⟩ ⟨[]⟩):=by
 unfold doL;simp only[lkS]
 rw[if_neg (by decide +kernel),if_neg (by decide +kernel),if_neg (by decide +kernel),if_neg (by decide +kernel),if_neg (by decide +kernel),if_pos (by decide +kernel)]
theorem lk_mv (b:Nat):lk mvN (doL b)=some (.func (.func 48) ⟨[.pointer (some ⟨b,0,none⟩)]⟩ ⟨[]⟩):=by
 unfold doL;simp only[lkS]
 rw[if_neg (by decide +kernel),if_neg (by decide +kernel),if_neg (by decide +kernel),if_neg (by decide +kernel),if_neg (by decide +kernel),if_neg (by decide +kernel),if_pos (by decide +kernel)]
theorem lk_cp (b:Nat):lk cpN (doL b)=some (.func (.func 49) ⟨[.pointer (some ⟨b,0,none⟩)]⟩ ⟨[]⟩):=by
 unfold doL;simp only[lkS]
 rw[if_neg (by decide +kernel),if_neg (by decide +kernel),if_neg (by decide +kernel),if_neg (by decide +kernel),if_neg (by decide +kernel),if_neg (by decide +kernel),if_neg (by decide +kernel),if_pos (by decide +kernel)]
theorem lk_ls (b:Nat):lk lsN (doL b)=some (.func (.func 50) ⟨[.pointer (some ⟨b,0,none⟩)]⟩ ⟨[]⟩):=by
 unfold doL;simp only[lkS]
 rw[if_neg (by decide +kernel),if_neg (by decide +kernel),if_neg (by decide +kernel),if_neg (by decide +kernel),if_neg (by decide +kernel),if_neg (by decide +kernel),if_neg (by decide +kernel),if_neg (by decide +kernel),if_pos (by decide +kernel)]
theorem call_size {nm got:ByteArray} {names:List ByteArray} (ht:toolsL.any (fun t=>sEq nm t)=true) (hc:sEq nm ⟨⟨[99,104,109,111,100]⟩⟩=false) (h1:optsP (lettersP nm) args ⟨⟨[]⟩⟩=some (got,names)) (h2:rightP nm got names=true) (hz:(callP A nm args).1.size<=1000000000000):(doP A nm ⟨⟨[47]⟩⟩ got names).err.size<=1000000000000/\(doP A nm ⟨⟨[47]⟩⟩ got names).out.size<=1000000000000:=by
 have he:A.filesP ⟨⟨[47]⟩⟩ nm args=some (⟨(doP A nm ⟨⟨[47]⟩⟩ got names).out,(doP A nm ⟨⟨[47]⟩⟩ got names).err,(doP A nm ⟨⟨[47]⟩⟩ got names).st⟩,(doP A nm ⟨⟨[47]⟩⟩ got names).A):=by
  rw[files_def ht hc,h1]
  show(if rightP nm got names=true then _ else _)=_
  rw[if_pos h2]
 rw[call_some he]at hz
 simp only[ByteArray.size_append]at hz
 omega
structure ArgOk (τ:H) (args:List ByteArray) (x:Sl):Prop where
 rows:RowsAt τ 1 (strRows args) x
 cap:x.len<=x.cap
 sz : ∀a∈args,a.size<=1000
 len:args.length<=1000
theorem c_mkdir {M:Nat} (hF:FsAt σ bf A B) (hO:Off τ σ B) (ha:ArgOk τ args x) (hp:Pot M A) (hM:M<=900000000000) (hz:(callP A mkN args).1.size<=1000000000000)
 (hK:∀σ' B',FsAt σ' bf (callP A mkN args).2 B'->Sep σ B σ' B'->Pot M (callP A mkN args).2->K (.string (callP A mkN args).1) σ'):callW Tryz.prog 12 [.pointer (some ⟨bf,0,none⟩),.string mkN,.slice x.base x.len x.cap] K σ:=by
 refine s_call19 (B:=B) (Q:=Pot M) (fun K' hK'=>s_fiRun (Q:=Pot M) hF hO mkN _ _ ha.rows ha.cap (by decide) ha.sz ha.len (by decide +kernel) (by decide +kernel) (by kernel_rfl) lk_mk hp ?_ hK') hz hK
 intro got names y bt σ1 B1 τ1 h1 h2 t1 o1 r1 c1 K2 hK2
 obtain⟨m1,m2⟩:=opts_mem _ _ _ _ _ h1
 obtain⟨z1,_⟩:=call_size (A:=A) (by decide +kernel) (by decide +kernel) h1 h2 hz
 have hl:=ha.len
 rw[do_mk]at z1 hK2
 exact s_fiMkdir t1 o1 r1 hp hM (by show mkN.size<=_;decide) (by omega) (fun n hn=>Nat.le_trans (ha.sz n (m1 n hn)) (by decide)) z1 fun σ' B' t' s' p'=>hK2 σ' B' y t' s' p'
theorem c_rm {N:Nat} (hF:FsAt σ bf A B) (hO:Off τ σ B) (ha:ArgOk τ args x) (hI:Inv A/\Bd N A) (hN:N<=1000000000000) (hz:(callP A rmT args).1.size<=1000000000000)
 (hK:∀σ' B',FsAt σ' bf (callP A rmT args).2 B'->Sep σ B σ' B'->(Inv (callP A rmT args).2/\Bd N (callP A rmT args).2)->K (.string (callP A rmT args).1) σ'):callW Tryz.prog 12 [.pointer (some ⟨bf,0,none⟩),.string rmT,.slice x.base x.len x.cap] K σ:=by
 refine s_call19 (B:=B) (Q:=fun A=>Inv A/\Bd N A) (fun K' hK'=>s_fiRun (Q:=fun A=>Inv A/\Bd N A) hF hO rmT _ _ ha.rows ha.cap (by decide) ha.sz ha.len (by decide +kernel) (by decide +kernel) (by kernel_rfl) lk_rm hI ?_ hK') hz hK
 intro got names y bt σ1 B1 τ1 h1 h2 t1 o1 r1 c1 K2 hK2
 obtain⟨m1,m2⟩:=opts_mem _ _ _ _ _ h1
 obtain⟨z1,_⟩:=call_size (A:=A) (by decide +kernel) (by decide +kernel) h1 h2 hz
 have hl:=ha.len
 rw[do_rm]at z1 hK2
 exact s_fiRm t1 o1 r1 hI hN (by show rmT.size<=_;decide) (by omega) (fun n hn=>Nat.le_trans (ha.sz n (m1 n hn)) (by decide)) z1 fun σ' B' t' s' p'=>hK2 σ' B' y t' s' p'
theorem c_mv {N:Nat} (hF:FsAt σ bf A B) (hO:Off τ σ B) (ha:ArgOk τ args x) (hI:Inv A/\Bd N A) (hN:N+1000<=1000000000000) (hz:(callP A mvN args).1.size<=1000000000000)
 (hK:∀σ' B',FsAt σ' bf (callP A mvN args).2 B'->Sep σ B σ' B'->(Inv (callP A mvN args).2/\Bd (N+1000) (callP A mvN args).2)->K (.string (callP A mvN args).1) σ'):callW Tryz.prog 12 [.pointer (some ⟨bf,0,none⟩),.string mvN,.slice x.base x.len x.cap] K σ:=by
 refine s_call19 (B:=B) (Q:=fun A=>Inv A/\Bd (N+1000) A) (fun K' hK'=>s_fiRun (Q:=fun A=>Inv A/\Bd (N+1000) A) hF hO mvN _ _ ha.rows ha.cap (by decide) ha.sz ha.len (by decide +kernel) (by decide +kernel) (by kernel_rfl) lk_mv ⟨hI.1,hI.2.mono (by omega)⟩ ?_ hK') hz hK
 intro got names y bt σ1 B1 τ1 h1 h2 t1 o1 r1 c1 K2 hK2
 obtain⟨m1,m2⟩:=opts_mem _ _ _ _ _ h1
 obtain⟨z1,_⟩:=call_size (A:=A) (by decide +kernel) (by decide +kernel) h1 h2 hz
 have hl:=ha.len
 rw[do_mv]at z1 hK2
 exact s_fiMv t1 o1 r1 c1 (right_mv h2) (by omega) hI hN (by show mvN.size<=_;decide) (fun n hn=>Nat.le_trans (ha.sz n (m1 n hn)) (by decide)) z1 fun σ' B' y' t' s' p'=>hK2 σ' B' y' t' s' ⟨p'.1,p'.2.mono (by omega)⟩
theorem c_cp {M:Nat} (hF:FsAt σ bf A B) (hO:Off τ σ B) (ha:ArgOk τ args x) (hp:Pot M A) (hM:M<=900000000000) (hz:(callP A cpN args).1.size<=1000000000000)
 (hK:∀σ' B',FsAt σ' bf (callP A cpN args).2 B'->Sep σ B σ' B'->Pot M (callP A cpN args).2->K (.string (callP A cpN args).1) σ'):callW Tryz.prog 12 [.pointer (some ⟨bf,0,none⟩),.string cpN,.slice x.base x.len x.cap] K σ:=by
 refine s_call19 (B:=B) (Q:=Pot M) (fun K' hK'=>s_fiRun (Q:=Pot M) hF hO cpN _ _ ha.rows ha.cap (by decide) ha.sz ha.len (by decide +kernel) (by decide +kernel) (by kernel_rfl) lk_cp hp ?_ hK') hz hK
 intro got names y bt σ1 B1 τ1 h1 h2 t1 o1 r1 c1 K2 hK2
 obtain⟨m1,m2⟩:=opts_mem _ _ _ _ _ h1
 obtain⟨z1,_⟩:=call_size (A:=A) (by decide +kernel) (by decide +kernel) h1 h2 hz
 have hl:=ha.len
 rw[do_cp]at z1 hK2
 exact s_fiCp t1 o1 r1 c1 (right_cp h2) (by omega) hp hM (by show cpN.size<=_;decide) (fun n hn=>Nat.le_trans (ha.sz n (m1 n hn)) (by decide)) z1 fun σ' B' y' t' s' p'=>hK2 σ' B' y' t' s' p'
theorem ls_A (nm cwd got:ByteArray) (names:List ByteArray) (s:TS):(TS.ls nm cwd got names s).A=s.A:=by
 rw[ls_def nm cwd got names _ rfl,(listeds_keep _ _ _ _ _).1,(says_keep _ _).1,(sift_keep _ _ _ _ _ _).1]
theorem c_ls {N:Nat} (hF:FsAt σ bf A B) (hO:Off τ σ B) (ha:ArgOk τ args x) (hI:Inv A/\Bd N A) (hN:N<=1000000000000) (hz:(callP A lsN args).1.size<=1000000000000)
 (hK:∀σ' B',FsAt σ' bf (callP A lsN args).2 B'->Sep σ B σ' B'->(callP A lsN args).2=A->K (.string (callP A lsN args).1) σ'):callW Tryz.prog 12 [.pointer (some ⟨bf,0,none⟩),.string lsN,.slice x.base x.len x.cap] K σ:=by
 refine s_call19 (B:=B) (Q:=fun A'=>A'=A) (fun K' hK'=>s_fiRun (Q:=fun A'=>A'=A) hF hO lsN _ _ ha.rows ha.cap (by decide) ha.sz ha.len (by decide +kernel) (by decide +kernel) (by kernel_rfl) lk_ls rfl ?_ hK') hz hK
 intro got names y bt σ1 B1 τ1 h1 h2 t1 o1 r1 c1 K2 hK2
 obtain⟨m1,m2⟩:=opts_mem _ _ _ _ _ h1
 obtain⟨z1,z2⟩:=call_size (A:=A) (by decide +kernel) (by decide +kernel) h1 h2 hz
 have hl:=ha.len
 rw[do_ls]at z1 z2 hK2
 exact s_fiLs t1 o1 r1 hI.1 hI.2 hN (by show lsN.size<=_;decide) (by omega) (fun n hn=>Nat.le_trans (ha.sz n (m1 n hn)) (by decide)) z1 z2 fun σ' y' t' s'=>hK2 σ' B1 y' t' s' (ls_A _ _ _ _ _)
end
end Go.Proofs.YtbdlkofldmhoaaaGreatDoor

set_option maxRecDepth 100000
namespace Go.Proofs.YtbdlkofldmhoaaaGreatDoor
open Go Go.HL Go.Wk
attribute [local irreducible] ptrW ifW brW andW rdT alW letJ stW muW biW vaW imW callT cvalT app callW invW callVW sizeT oW nilF oneK loopW rfW funW begW roundK exW idxW Gr Put
def eRow (es:List (ByteArray×Int)):List (List Value):=(sortN (keysL es)).map fun k=>[.string k,.int .i64 ((lk k es).getD 0 - 1)]
def ptrRow (A:AT) (cb:Int->Nat):List (List Value):=(List.range A.last.toNat).map fun(i:Nat)=>[.pointer (if(A.get ((i:Int)+1)).isSome then some ⟨cb ((i:Int)+1),0,none⟩else none)]
def upR (n:AN):Int:=if n.kind=2 then n.up - 1 else 0
def nodeO (n:AN) (y:Sl):Obj := .cells ⟨[.int .i64 n.kind,.int .i64 n.mode,.string n.data,.slice y.base y.len y.cap,.int .i64 (upR n)]⟩ 107 (0,0)
structure RfM where
 x:Sl
 cb:Int->Nat
 ey:Int->Sl
 w:Nat->Option (Int×Bool)
structure RfIn (σ:H) (b:Nat) (A:AT) (M:RfM):Prop where
 top:σ b=some (.cells ⟨[.int .i64 A.qi,.int .i64 A.qb,.slice M.x.base M.x.len M.x.cap]⟩ 103 (0,0))
 tab:RowsOwn σ 104 1 (ptrRow A M.cb) M.x
 nod : ∀i n,A.get i=some n->σ (M.cb i)=some (nodeO n (M.ey i))
 ent : ∀i n,A.get i=some n->RowsOwn σ 165 2 (eRow n.ents) (M.ey i)
 wb:M.w b=some (0,false)
 wt : ∀g,M.x.base=some ⟨g,0,none⟩->M.w g=some (0,true)
 wn : ∀i n,A.get i=some n->M.w (M.cb i)=some (i,false)
 we : ∀i n g,A.get i=some n->(M.ey i).base=some ⟨g,0,none⟩->M.w g=some (i,true)
 has : ∀c,M.w c≠none->σ c≠none
def RfAt (σ:H) (b:Nat) (A:AT) (D:Nat->Prop):Prop := ∃M,RfIn σ b A M /\ ∀c,D c↔M.w c≠none
theorem RfIn.gr {σ σ':H} {b:Nat} {A:AT} {M:RfM} (h:RfIn σ b A M) (hg:Gr σ σ'):RfIn σ' b A M :=
 ⟨hg.get h.top,h.tab.gr hg,fun i n hn=>hg.get (h.nod i n hn),fun i n hn=>(h.ent i n hn).gr hg,h.wb,h.wt,h.wn,h.we,fun c hc=>by
  have:=h.has c hc
  cases ho:σ c with
  | none=>exact absurd ho this
  | some o=>rw[hg.get ho];simp⟩
theorem RfAt.gr {σ σ':H} {b:Nat} {A:AT} {D:Nat->Prop} (h:RfAt σ b A D) (hg:Gr σ σ'):RfAt σ' b A D:=by
 obtain⟨M,h1,h2⟩:=h
 exact⟨M,h1.gr hg,h2⟩
theorem RfAt.fresh {σ:H} {b c:Nat} {A:AT} {D:Nat->Prop} (h:RfAt σ b A D) (hc:σ c=none) : ¬D c:=by
 obtain⟨M,h1,h2⟩:=h
 intro hd
 exact h1.has c ((h2 c).1 hd) hc
theorem RfAt.has {σ:H} {b c:Nat} {A:AT} {D:Nat->Prop} (h:RfAt σ b A D) (hc:D c):σ c≠none:=by
 obtain⟨M,h1,h2⟩:=h
 exact h1.has c ((h2 c).1 hc)
section
variable {σ : H} {b : Nat} {A : AT} {M : RfM}
theorem RfIn.len (h:RfIn σ b A M):M.x.len=A.last.toNat:=by
 have:=h.tab.1
 simpa[ptrRow]using this
theorem RfIn.slot (h:RfIn σ b A M) (hI:Inv A) {d:Int} {n:AN} (hn:A.get (d+1)=some n) : ∃g o,M.x.base=some ⟨g,o,none⟩/\(0<=d/\d<((M.x.len:Nat):Int))/\rdC g (o+d.toNat * 1) σ=some (.pointer (some ⟨M.cb (d+1),0,none⟩)):=by
 obtain⟨l1,l2⟩:=hI.low _ _ hn
 have hl:=h.len
 have hr:(ptrRow A M.cb)[d.toNat]? = some [.pointer (some ⟨M.cb (d+1),0,none⟩)]:=by
  unfold ptrRow
  rw[List.getElem?_map,List.getElem?_range (by omega)]
  have:((d.toNat:Nat):Int)=d:=by omega
  simp[this,hn]
 obtain⟨g,o,h2,h3⟩:=RowsAt.rd h.tab.rows hr (by decide)
 refine⟨g,o,h2,by omega,?_⟩
 obtain⟨h1,h4 | ⟨g',o',cur,t,fz,q2,q3,q4⟩⟩:=h.tab.rows
 ·rw[h4]at hr;simp at hr
 ·rw[h2]at q2
  injection q2 with q2
  injection q2 with e1 e2
  subst e1;subst e2
  refine rdC_of q3 ?_
  obtain⟨_,h5⟩:=q4 _ _ hr
  have:((cur.drop (o+d.toNat * 1)).take 1)[0]? = some (.pointer (some ⟨M.cb (d+1),0,none⟩)):=by rw[h5];rfl
  rw[List.getElem?_take]at this
  simpa using this
theorem rf_p (h:RfIn σ b A M) (hI:Inv A) {d:Int} {n:AN} (hn:A.get (d+1)=some n) {F:Option Addr->H->Prop} (hF:F (some ⟨M.cb (d+1),0,none⟩) σ) :
 ptrW (some ⟨b,0,none⟩) (fun(b4 o5:Nat)=>rdT (rdC b4 (o5+2)) kL (fun(x6:Sl)=>ptrW x6.base (fun(b7 o8:Nat)=>ifW (0<=d/\d<((x6.len:Nat):Int)) (rdT (rdC b7 (o8+d.toNat * 1)) kP F)))) σ:=by
 obtain⟨g,o,h1,h2,h3⟩:=h.slot hI hn
 refine ptr_i (rd_L (rdC_of h.top (by rfl)) ?_)
 rw[h1]
 exact ptr_i (if_i h2 (rd_P h3 hF))
theorem rf_at (h:RfIn σ b A M) (hI:Inv A) {d:Int} {n:AN} (hn:A.get (d+1)=some n) {F:Nat->Nat->H->Prop} (hF:F (M.cb (d+1)) 0 σ) :
 ptrW (some ⟨b,0,none⟩) (fun(b4 o5:Nat)=>rdT (rdC b4 (o5+2)) kL (fun(x6:Sl)=>ptrW x6.base (fun(b7 o8:Nat)=>ifW (0<=d/\d<((x6.len:Nat):Int)) (rdT (rdC b7 (o8+d.toNat * 1)) kP (fun x9=>ptrW x9 F))))) σ :=
 rf_p h hI hn (ptr_i hF)
def less1 (o:Option Int):Int:=(o.map (· - 1)).getD (-1)
theorem erow_at {es:List (ByteArray×Int)} {y:Sl} (h:RowsOwn σ 165 2 (eRow es) y) {i:Nat} {k:ByteArray} (hk:(sortN (keysL es))[i]? = some k) : ∃g o,y.base=some ⟨g,o,none⟩/\rdC g (o+i * 2) σ=some (.string k)/\rdC g (o+i * 2+1) σ=some (.int .i64 ((lk k es).getD 0 - 1))/\rdA 2 g (o+i * 2) σ=some (.agg ⟨[.string k,.int .i64 ((lk k es).getD 0 - 1)]⟩):=by
 have hr:(eRow es)[i]? = some [.string k,.int .i64 ((lk k es).getD 0 - 1)]:=by unfold eRow;rw[List.getElem?_map,hk];rfl
 obtain⟨g,o,h2,h3⟩:=RowsAt.rd h.rows hr (by decide)
 refine⟨g,o,h2,?_,?_,h3⟩
 all_goals
  obtain⟨h1,h4 | ⟨g',o',cur,t,fz,q2,q3,q4⟩⟩:=h.rows
  ·rw[h4]at hr;simp at hr
  ·rw[h2]at q2
   injection q2 with q2
   injection q2 with e1 e2
   subst e1;subst e2
   refine rdC_of q3 ?_
   obtain⟨_,h5⟩:=q4 _ _ hr
   first
    | (have : ((cur.drop (o + i * 2)).take 2)[0]? = some (.string k) := by rw [h5]; rfl
       rw[List.getElem?_take]at this
       simpa using this)
    | (have : ((cur.drop (o + i * 2)).take 2)[1]? = some (.int .i64 ((lk k es).getD 0 - 1)) := by rw [h5]; rfl
       rw[List.getElem?_take]at this
       simpa[Nat.add_assoc]using this)
theorem s_rfFind (h:RfIn σ b A M) (hI:Inv A) {N:Nat} (hB:Bd N A) (hN:N<=1000000000000) {d:Int} {n:AN} (hn:A.get (d+1)=some n) (name:ByteArray) {K:KH} (hK:K (.int .i64 (less1 (A.find (d+1) name))) σ) :
 callW Tryz.prog 217 [.pointer (some ⟨b,0,none⟩),.int .i64 d,.string name] K σ:=by
 refine c217 _ _ _ ?_
 unfold g217
 have hf:A.find (d+1) name=lk name n.ents:=by unfold AT.find;rw[hn];rfl
 rw[hf]at hK
 refine rf_at h hI hn (rd_L (rdC_of (h.nod _ _ hn) (by rfl)) (loop_i ?_))
 intro R hR
 have he:=h.ent _ _ hn
 have hlen:(M.ey (d+1)).len=(sortN (keysL n.ents)).length:=by have:=he.1;simpa[eRow]using this
 have hle:(sortN (keysL n.ents)).length<=N:=by
  rw[(sortN_perm _).length_eq]
  have:=hB.ents _ _ hn
  simpa[keysL]using this
 have key : ∀ (c i:Nat),c+i=(sortN (keysL n.ents)).length->name∉(sortN (keysL n.ents)).take i->R name (M.ey (d+1)) (i:Int) σ:=by
  intro c
  induction c with
  | zero =>
   intro i hc hno
   refine hR _ _ _ _ ?_
   refine br_f (by simp only[decide_eq_false_iff_not];omega) ?_
   have:lk name n.ents=none:=by
    rw[lk_none_iff]
    intro hm
    apply hno
    rw[show i=(sortN (keysL n.ents)).length from by omega,List.take_length]
    exact(sortN_perm _).mem_iff.2 hm
   rw[this]at hK
   exact hK
  | succ c ih =>
   intro i hc hno
   refine hR _ _ _ _ ?_
   refine br_t (by simp only[decide_eq_true_eq];omega) ?_
   obtain⟨k,hk⟩ : ∃k,(sortN (keysL n.ents))[i]? = some k:=⟨_,List.getElem?_eq_getElem (by omega)⟩
   obtain⟨g,o,q1,q2,q3,_⟩:=erow_at he hk
   rw[q1]
   have e0:(i:Int).toNat=i:=by omega
   refine ptr_i (if_i ⟨by omega,by omega⟩ (rd_S (by rw[e0];exact q2) ?_))
   by_cases hkn:k=name
   ·subst hkn
    refine br_t (strEq_iff.2 rfl) (ptr_i (if_i ⟨by omega,by omega⟩ (rd_I (by rw[e0];exact q3) ?_)))
    have hm:k∈keysL n.ents:=(sortN_perm _).mem_iff.1 (List.mem_of_getElem? hk)
    cases hl:lk k n.ents with
    | none=>exact absurd hm (lk_none_iff.1 hl)
    | some v=>rw[hl]at hK;exact hK
   ·refine br_f (by rw[Bool.eq_false_iff];intro e;exact hkn (strEq_iff.1 e)) ?_
    rw[wrap_id (x:=(i:Int)+1) (by omega) (by omega)]
    refine ih (i+1) (by omega) ?_
    rw[List.take_add_one,hk]
    simp only[Option.toList_some,List.mem_append,List.mem_singleton,not_or]
    exact⟨hno,fun e=>hkn e.symm⟩
 exact key _ 0 (by omega) (by simp)
theorem s_rfDeep (h:RfIn σ b A M) (hI:Inv A) {d:Int} (hd:A.isDir (d+1)) {x:Int} (hx:A.deep 13 (d+1)=some x) {K:KH} (hK:K (.int .i64 x) σ):callW Tryz.prog 91 [.pointer (some ⟨b,0,none⟩),.int .i64 d] K σ:=by
 refine c91 _ _ ?_
 unfold g91
 refine loop_i ?_
 intro R hR
 have key : ∀ (f:Nat) (d c y:Int),f<=13->A.isDir (d+1)->A.deep f (d+1)=some y->c+y - 1=x->0<=c->c+f<=14->R (some ⟨b,0,none⟩) d c σ:=by
  intro f
  induction f with
  | zero=>intro d c y _ _ h;simp[AT.deep]at h
  | succ f ih =>
   intro d c y hf hd hy hc h0 h1
   refine hR _ _ _ _ ?_
   rw[AT.deep]at hy
   by_cases e:d=0
   ·subst e
    rw[if_pos (show(0:Int)+1=1 from rfl)]at hy
    have:y=1:=(Option.some.inj hy).symm
    refine br_f rfl ?_
    rw[show c=x from by omega]
    exact hK
   ·rw[if_neg (by omega)]at hy
    obtain⟨n,hn,hk⟩:=hd
    have hu:A.upOf (d+1)=n.up:=by unfold AT.upOf;rw[hn];rfl
    have hdu:=hI.isDir_up ⟨n,hn,hk⟩
    rw[hu]at hy hdu
    cases hy':A.deep f n.up with
    | none=>rw[hy']at hy;cases hy
    | some y' =>
     rw[hy']at hy
     have hy2:y=y'+1:=(Option.some.inj hy).symm
     refine br_t (by simpa using e) (rf_at h hI hn (rd_I (rdC_of (h.nod _ _ hn) (by rfl)) ?_))
     rw[wrap_id (x:=c+1) (by omega) (by omega)]
     have hup:upR n=n.up - 1:=by unfold upR;rw[if_pos hk]
     rw[hup]
     exact ih (n.up - 1) (c+1) y' (by omega) (by rw[show n.up - 1+1=n.up from by omega];exact hdu) (by rw[show n.up - 1+1=n.up from by omega];exact hy') (by omega) (by omega) (by omega)
 exact key 13 d 1 x (by omega) hd hx (by omega) (by omega) (by omega)
theorem sz_RPlace:sizeT Tryz.prog 133=some 3:=by kernel_rfl
def plV (p:Pl):List Value:=[.int .i64 (p.dir - 1),.string p.name,.int .i64 (if p.there then p.ino - 1 else -1)]
def plZ:List Value:=[.int .i64 0,.string ⟨⟨[]⟩⟩,.int .i64 0]
theorem s_rfStep (h:RfIn σ b A M) (hI:Inv A) {N:Nat} (hB:Bd N A) (hN:N<=1000000000000) {d:Int} {n:AN} (hn:A.get (d+1)=some n) (name:ByteArray) {K:KH}
 (hK:∀σ',Gr σ σ'->K (if A.kind (d+1)≠2 then .tuple ⟨[.agg ⟨plZ⟩,.int .i64 8]⟩else if sEq name ⟨⟨[46,46]⟩⟩=true then .tuple ⟨[.agg ⟨plV ⟨A.upOf (d+1),⟨⟨[]⟩⟩,A.upOf (d+1),true⟩⟩,.int .i64 0]⟩else if name.size>56 then .tuple ⟨[.agg ⟨plZ⟩,.int .i64 3]⟩else .tuple ⟨[.agg ⟨plV ⟨d+1,name,(A.find (d+1) name).getD 0,(A.find (d+1) name).isSome⟩⟩,.int .i64 0]⟩) σ') :
 callW Tryz.prog 184 [.pointer (some ⟨b,0,none⟩),.int .i64 d,.string name] K σ:=by
 refine c184 _ _ _ ?_
 unfold g184
 refine al_i ?_;intro b4 σ1 g1 e1 n1
 have h1:=h.gr g1
 have hk:A.kind (d+1)=n.kind:=by unfold AT.kind;rw[hn];rfl
 have hu:A.upOf (d+1)=n.up:=by unfold AT.upOf;rw[hn];rfl
 rw[hk,hu]at hK
 refine rf_at h1 hI hn (rd_I (rdC_of (h1.nod _ _ hn) (by rfl)) ?_)
 by_cases c1:n.kind=2
 ·refine br_f (by simpa using c1) ?_
  rw[if_neg (by simpa using c1)]at hK
  have hup:upR n=n.up - 1:=by unfold upR;rw[if_pos c1]
  by_cases c2:sEq name ⟨⟨[46,46]⟩⟩=true
  ·rw[if_pos c2]at hK
   refine br_t (by rw[<-sEq_eq];exact c2) ?_
   refine rf_at h1 hI hn (rd_I (rdC_of (h1.nod _ _ hn) (by rfl)) ?_)
   refine rf_at h1 hI hn (rd_I (rdC_of (h1.nod _ _ hn) (by rfl)) ?_)
   refine st_i2 e1 sz_RPlace (by rfl) (by rfl) ?_;intro σ2 p2
   refine rd_G (rdA_of' p2.same (by rfl)) ?_
   (refine app_of rfl ?_;try dsimp only)
   rw[hup]
   exact hK σ2 (g1.putF p2 n1)
  ·rw[if_neg c2]at hK
   refine br_f (by rw[<-sEq_eq];simpa using c2) ?_
   by_cases c3:name.size>56
   ·rw[if_pos c3]at hK
    refine br_t (by simp only[decide_eq_true_eq];omega) ?_
    refine st_i2 e1 sz_RPlace (by rfl) (by rfl) ?_;intro σ2 p2
    refine rd_G (rdA_of' p2.same (by rfl)) ?_
    (refine app_of rfl ?_;try dsimp only)
    exact hK σ2 (g1.putF p2 n1)
   ·rw[if_neg c3]at hK
    refine br_f (by simp only[decide_eq_false_iff_not];omega) (call_i (s_rfFind h1 hI hB hN hn name (app_I ?_)))
    refine st_i2 e1 sz_RPlace (by rfl) (by rfl) ?_;intro σ2 p2
    refine rd_G (rdA_of' p2.same (by rfl)) ?_
    (refine app_of rfl ?_;try dsimp only)
    have:=hK σ2 (g1.putF p2 n1)
    have e2:d+1 - 1=d:=by omega
    have e3:(if(A.find (d+1) name).isSome then(A.find (d+1) name).getD 0 - 1 else -1)=less1 (A.find (d+1) name):=by
     cases A.find (d+1) name<;>rfl
    unfold plV at this
    simp only[e2,e3]at this
    exact this
 ·refine br_t (by simpa using c1) ?_
  rw[if_pos (by simpa using c1)]at hK
  refine st_i2 e1 sz_RPlace (by rfl) (by rfl) ?_;intro σ2 p2
  refine rd_G (rdA_of' p2.same (by rfl)) ?_
  (refine app_of rfl ?_;try dsimp only)
  exact hK σ2 (g1.putF p2 n1)
end
theorem und_strs:Tryz.prog.underlying 30=some (.slice 9):=by kernel_rfl
theorem info_strR : ∃i,Tryz.prog.info? 9=some i/\i.zero=some (.string ⟨⟨[]⟩⟩)/\i.size=1/\i.bytes=16:=by
 have h1:(Tryz.prog.info? 9).map (fun i=>(i.zero,i.size,i.bytes))=some (some (.string ⟨⟨[]⟩⟩),1,16):=by kernel_rfl
 cases hi:Tryz.prog.info? 9 with
 | none=>rw[hi]at h1;cases h1
 | some i =>
  rw[hi]at h1
  simp only[Option.map_some,Option.some.injEq,Prod.mk.injEq]at h1
  exact⟨i,rfl,h1.1,h1.2.1,h1.2.2⟩
def srows (l:List ByteArray):List (List Value):=l.map fun s=>[.string s]
def StrsNew (σ0 σ:H) (l:List ByteArray) (y:Sl):Prop:=Gr σ0 σ/\RowsOwn σ 9 1 (srows l) y /\ ∀g,y.base=some ⟨g,0,none⟩->σ0 g=none
theorem app_str {σ0 σ:H} {l:List ByteArray} {y:Sl} {s:ByteArray} {ty:TypeId} {cs:List Bool} (h:StrsNew σ0 σ l y) (hl:l.length<1000000000) {F:Sl->H->Prop} (hF:∀y' σ',StrsNew σ0 σ' (l++[s]) y'->F y' σ') :
 alW (.cells ⟨[.string s]⟩ 9 (0,0)) (fun(b48:Nat)=>biW Tryz.prog .append #[30,30] ty cs [.slice y.base y.len y.cap,.slice (some ⟨b48,0,none⟩) 1 1] kL F) σ:=by
 obtain⟨h1,h2,h3⟩:=h
 refine al_i ?_;intro b48 σ1 g1 e1 n1
 obtain⟨i,i1,i2,i3,i4⟩:=info_strR
 refine append_i und_strs i1 i2 i3 i4 rfl (by decide) (h2.gr g1) e1 rfl (by intro u hu;simp at hu;subst hu;rfl) (by simpa[srows]using hl) (by decide) ?_
 intro y' σ' hy' hcase
 refine hF y' σ' ⟨?_,by simpa[srows]using hy',?_⟩
 ·rcases hcase with⟨g,o,q1,q2,q3⟩ | ⟨g,q1,q2,q3⟩
  ·exact(h1.trans g1).putF q3 (h3 g q1)
  ·exact(h1.trans g1).trans q3
 ·intro g hg
  rcases hcase with⟨g',o,q1,q2,q3⟩ | ⟨g',q1,q2,q3⟩
  ·rw[q2]at hg;exact h3 g hg
  ·rw[q1]at hg
   injection hg with hg
   injection hg with hg
   subst hg
   exact none_of (h1.trans g1) q2
theorem take_one {l:List UInt8} {i:Nat} {c:UInt8} (h:l[i]? = some c) (f:Nat) (hf:f<=i):(l.drop f).take (i+1 - f)=(l.drop f).take (i - f)++[c]:=by
 rw[show i+1 - f=(i - f)+1 from by omega,List.take_add_one]
 congr 1
 rw[List.getElem?_drop,show f+(i - f)=i from by omega,h];rfl
def okP (s:ByteArray):List ByteArray:=if okPart s then [s]else []
theorem parts_cons {l a b:List UInt8} (hl:l=a++47::b) (ha:(47:UInt8)∉a):((splitL 47 l).map fun l=>(⟨⟨l⟩⟩:ByteArray)).filter okPart=okP ⟨⟨a⟩⟩++((splitL 47 b).map fun l=>(⟨⟨l⟩⟩:ByteArray)).filter okPart:=by
 rw[hl,splitL_some ha]
 simp only[List.map_cons,List.filter_cons,okP]
 split<;>simp
theorem parts_end {l:List UInt8} (ha:(47:UInt8)∉l):((splitL 47 l).map fun l=>(⟨⟨l⟩⟩:ByteArray)).filter okPart=okP ⟨⟨l⟩⟩:=by
 rw[splitL_none ha]
 simp only[List.map_cons,List.map_nil,List.filter_cons,okP,List.filter_nil]
theorem s_rfNames (path:ByteArray) (hz:path.size<=1000000) {σ:H} {K:KH} (hK:∀y σ',StrsNew σ σ' (partsB path) y->K (.slice y.base y.len y.cap) σ'):callW Tryz.prog 183 [.string path] K σ:=by
 refine c183 _ ?_
 unfold g183
 have hlen:path.data.toList.length=path.size:=(size_list path).symm
 refine loop_i ?_
 intro R hR
 have fin : ∀ (y:Sl) (f:Int) (τ:H),StrsNew σ τ (partsB path) y->R path y f ((path.size+1:Nat):Int) τ:=by
  intro y f τ h
  refine hR _ _ _ _ _ ?_
  exact br_f (by simp only[decide_eq_false_iff_not];omega) (hK y τ h)
 have key : ∀ (c i f:Nat) (out:List ByteArray) (y:Sl) (τ:H),c+i=path.size->f<=i->out.length<=i->StrsNew σ τ out y->(47:UInt8)∉(path.data.toList.drop f).take (i - f)->out++((splitL 47 (path.data.toList.drop f)).map fun l=>(⟨⟨l⟩⟩:ByteArray)).filter okPart=partsB path->R path y (f:Int) (i:Int) τ:=by
  intro c
  induction c with
  | zero =>
   intro i f out y τ hc hf hol hS hno hp
   have hi:i=path.size:=by omega
   refine hR _ _ _ _ _ ?_
   refine br_t (by simp only[decide_eq_true_eq];omega) ?_
   refine j_i (fun j => ∀y' τ' v1 v2 v3 v4,StrsNew σ τ' (partsB path) y'->j path y' (((path.size+1:Nat)):Int) (i:Int) v1 v2 v3 v4 τ') ?_ ?_
   ·intro y' τ' v1 v2 v3 v4 h
    rw[wrap_id (x:=(i:Int)+1) (by omega) (by omega)]
    rw[show(i:Int)+1=((path.size+1:Nat):Int)from by omega]
    exact fin y' _ τ' h
   intro j7 hj7
   refine j_i (fun j => ∀v1 v2 v3 v4,j path y (f:Int) (i:Int) v1 v2 v3 v4 false τ) ?_ ?_
   case refine_2 =>
    intro j hj
    exact br_f (by simp only[decide_eq_false_iff_not];omega) (hj _ _ _ _)
   intro v1 v2 v3 v4
   have e0:(i:Int).toNat=i:=by omega
   have e1:(f:Int).toNat=f:=by omega
   refine br_f rfl (if_i ⟨bnd_some (by omega) (by omega),bnd_some (by omega) (by omega)⟩ ?_)
   rw[e0,e1]
   have hex:path.extract f i=⟨⟨path.data.toList.drop f⟩⟩:=by
    apply bytes_ext
    rw[extract_toList,hi,<- hlen,List.take_length]
   rw[hex]
   have hfull:(path.data.toList.drop f).take (i - f)=path.data.toList.drop f:=by
    rw[List.take_of_length_le];rw[List.length_drop];omega
   rw[hfull]at hno
   rw[parts_end hno]at hp
   generalize (⟨⟨path.data.toList.drop f⟩⟩:ByteArray)=s at hp
   refine j_i (fun j => ∀y' τ' v1 v2 v3 v4 v5 v6,StrsNew σ τ' (partsB path) y'->j path y' (i:Int) v1 v2 v3 v4 v5 v6 τ') ?_ ?_
   ·intro y' τ' v1 v2 v3 v4 v5 v6 h
    rw[wrap_id (x:=(i:Int)+1) (by omega) (by omega)]
    rw[show(i:Int)+1=((path.size+1:Nat):Int)from by omega]
    exact hj7 _ _ _ _ _ _ h
   intro j26 hj26
   refine j_i (fun j => ∀v1 v2 v3 v4 v5 v6,j path y (i:Int) s v1 v2 v3 v4 v5 v6 (okPart s) τ) ?_ ?_
   ·intro v1 v2 v3 v4 v5 v6
    unfold okP at hp
    cases ho:okPart s with
    | true =>
     rw[ho]at hp
     refine br_t rfl (app_str hS (by omega) ?_)
     intro y' σ' h'
     rw[show out++[s]=partsB path from hp]at h'
     exact hj26 _ _ _ _ _ _ _ _ h'
    | false =>
     rw[ho]at hp
     have hp:out=partsB path:=by simpa using hp
     rw[hp]at hS
     exact br_f rfl (hj26 _ _ _ _ _ _ _ _ hS)
   ·intro j36 hj36
    have ho:okPart s=(!strEq s ⟨⟨[]⟩⟩ && !strEq s ⟨⟨[46]⟩⟩):=by unfold okPart;rw[sEq_eq,sEq_eq]
    cases hs0:strEq s ⟨⟨[]⟩⟩ with
    | true =>
     have:=hj36 v1 v2 v3 v4 (.tuple ⟨[]⟩) (.tuple ⟨[]⟩)
     rw[ho,hs0]at this
     exact br_f rfl this
    | false =>
     have:=fun a b=>hj36 v1 v2 v3 v4 a b
     rw[ho,hs0]at this
     exact br_t rfl (this _ _)
  | succ c ih =>
   intro i f out y τ hc hf hol hS hno hp
   refine hR _ _ _ _ _ ?_
   refine br_t (by simp only[decide_eq_true_eq];omega) ?_
   obtain⟨ch,hch⟩ : ∃ch,path.data.toList[i]? = some ch:=⟨_,List.getElem?_eq_getElem (by omega)⟩
   refine j_i (fun j => ∀ (f':Nat) out' y' τ' v1 v2 v3 v4,f'<=i+1->out'.length<=i+1->StrsNew σ τ' out' y'->(47:UInt8)∉(path.data.toList.drop f').take (i+1 - f')->out'++((splitL 47 (path.data.toList.drop f')).map fun l=>(⟨⟨l⟩⟩:ByteArray)).filter okPart=partsB path->j path y' (f':Int) (i:Int) v1 v2 v3 v4 τ') ?_ ?_
   ·intro f' out' y' τ' v1 v2 v3 v4 a1 a2 a3 a4 a5
    rw[wrap_id (x:=(i:Int)+1) (by omega) (by omega)]
    rw[show(i:Int)+1=((i+1:Nat):Int)from by omega]
    exact ih (i+1) f' out' y' τ' (by omega) a1 a2 a3 a4 a5
   intro j7 hj7
   refine j_i (fun j => ∀v1 v2 v3 v4,j path y (f:Int) (i:Int) v1 v2 v3 v4 (((ch.toNat:Int):Int) != 47) τ) ?_ ?_
   case refine_2 =>
    intro j hj
    refine br_t (by simp only[decide_eq_true_eq];omega) (idx_l (c:=ch) (by omega) (by simpa using hch) ?_)
    exact hj _ _ _ _
   intro v1 v2 v3 v4
   by_cases hc47:ch=47
   ·subst hc47
    have e0:(i:Int).toNat=i:=by omega
    have e1:(f:Int).toNat=f:=by omega
    refine br_f (by decide) (if_i ⟨bnd_some (by omega) (by omega),bnd_some (by omega) (by omega)⟩ ?_)
    rw[e0,e1]
    have hsp:path.data.toList.drop f=(path.data.toList.drop f).take (i - f)++47::path.data.toList.drop (i+1):=by
     have h1:(path.data.toList.drop f).drop (i - f)=47::path.data.toList.drop (i+1):=by
      rw[List.drop_drop,show f+(i - f)=i from by omega,List.drop_eq_getElem_cons (by omega)]
      rw[List.getElem?_eq_getElem (by omega)]at hch
      rw[Option.some.inj hch]
     conv=>lhs;rw[<-List.take_append_drop (i - f) (path.data.toList.drop f),h1]
    have hex:path.extract f i=⟨⟨(path.data.toList.drop f).take (i - f)⟩⟩:=by
     apply bytes_ext
     rw[extract_toList]
     simp[List.drop_take]
    rw[hex]
    rw[parts_cons hsp hno]at hp
    generalize (⟨⟨(path.data.toList.drop f).take (i - f)⟩⟩:ByteArray)=s at hp
    have hol2:(okP s).length<=1:=by unfold okP;split<;>simp
    refine j_i (fun j => ∀y' τ' v1 v2 v3 v4 v5 v6,StrsNew σ τ' (out++okP s) y'->j path y' (i:Int) v1 v2 v3 v4 v5 v6 τ') ?_ ?_
    ·intro y' τ' v1 v2 v3 v4 v5 v6 h
     rw[wrap_id (x:=(i:Int)+1) (by omega) (by omega)]
     have:=hj7 (i+1) (out++okP s) y' τ' v1 v2 v3 v4 (by omega) (by rw[List.length_append];omega) h (by simp) (by rw[List.append_assoc];exact hp)
     rw[show(i:Int)+1=((i+1:Nat):Int)from by omega]
     exact this
    intro j26 hj26
    refine j_i (fun j => ∀v1 v2 v3 v4 v5 v6,j path y (i:Int) s v1 v2 v3 v4 v5 v6 (okPart s) τ) ?_ ?_
    ·intro v1 v2 v3 v4 v5 v6
     cases ho:okPart s with
     | true =>
      refine br_t rfl (app_str hS (by omega) ?_)
      intro y' σ' h'
      exact hj26 _ _ _ _ _ _ _ _ (by unfold okP;rw[ho];exact h')
     | false =>
      refine br_f rfl (hj26 _ _ _ _ _ _ _ _ (by unfold okP;rw[ho];simpa using hS))
    ·intro j36 hj36
     have ho:okPart s=(!strEq s ⟨⟨[]⟩⟩ && !strEq s ⟨⟨[46]⟩⟩):=by unfold okPart;rw[sEq_eq,sEq_eq]
     cases hs0:strEq s ⟨⟨[]⟩⟩ with
     | true =>
      have:=hj36 v1 v2 v3 v4 (.tuple ⟨[]⟩) (.tuple ⟨[]⟩)
      rw[ho,hs0]at this
      exact br_f rfl this
     | false =>
      have:=fun a b=>hj36 v1 v2 v3 v4 a b
      rw[ho,hs0]at this
      exact br_t rfl (this _ _)
   ·have hne : ¬ ((ch.toNat : Int) = 47) := by
     intro e
     apply hc47
     have:ch.toNat=47:=by omega
     exact UInt8.toNat_inj.1 this
    refine br_t (by simpa using hne) ?_
    refine hj7 f out y τ _ _ _ _ (by omega) (by omega) hS ?_ hp
    rw[take_one hch f hf]
    simp only[List.mem_append,List.mem_singleton,not_or]
    exact⟨hno,fun e=>hc47 e.symm⟩
 exact key path.size 0 0 [] ⟨none,0,0⟩ σ (by omega) (by omega) (by simp) ⟨Gr.refl _,RowsOwn.nil _ _ _,by intro g h;cases h⟩ (by simp) (by simp[partsB])
theorem RfIn.keep {σ σ':H} {b:Nat} {A:AT} {M:RfM} (h:RfIn σ b A M) (hk:∀c o,σ c=some o->M.w c≠none->σ' c=some o):RfIn σ' b A M:=by
 have hw : ∀c r,M.w c=some r->M.w c≠none:=fun c r e=>by rw[e];simp
 refine⟨hk _ _ h.top (hw _ _ h.wb),h.tab.keep fun g o hx hg=>hk g o hg (hw _ _ (h.wt g hx)),fun i n hn=>hk _ _ (h.nod i n hn) (hw _ _ (h.wn i n hn)),fun i n hn=>(h.ent i n hn).keep fun g o hx hg=>hk g o hg (hw _ _ (h.we i n g hn hx)),h.wb,h.wt,h.wn,h.we,fun c hc => ?_⟩
 have:=h.has c hc
 cases ho:σ c with
 | none=>exact absurd ho this
 | some o=>rw[hk c o ho hc];simp
def But (bh:Nat) (σ σ':H):Prop := ∀c o,σ c=some o->c≠bh->σ' c=some o
theorem But.of_gr {bh:Nat} {σ σ':H} (h:Gr σ σ'):But bh σ σ':=fun _ _ hc _=>h.get hc
theorem But.trans {bh:Nat} {σ σ' σ'':H} (h:But bh σ σ') (k:But bh σ' σ''):But bh σ σ'':=fun c o hc hn=>k c o (h c o hc hn) hn
theorem But.put {bh b:Nat} {o:Obj} {σ σ' σ'':H} (h:But bh σ σ') (hp:Put σ' b o σ'') (hn:σ b=none):But bh σ σ'':=fun c o hc hne=>hp.get (fun e=>by rw[e,hn]at hc;cases hc) (h c o hc hne)
theorem But.puth {bh:Nat} {o:Obj} {σ σ' σ'':H} (h:But bh σ σ') (hp:Put σ' bh o σ''):But bh σ σ'':=fun c o hc hne=>hp.get hne (h c o hc hne)
theorem RfIn.but {bh:Nat} {σ σ':H} {b:Nat} {A:AT} {M:RfM} (h:RfIn σ b A M) (hw:M.w bh=none) (hb:But bh σ σ'):RfIn σ' b A M:=h.keep fun c o hc hwc=>hb c o hc (fun e=>hwc (by rw[e];exact hw))
theorem ret_pl {τ:H} {b6:Nat} {l:List Value} {x z e:Int} {s:ByteArray} (h6:τ b6=some (.cells ⟨l⟩ 133 (0,0))) (hl:l.length=3) {K:KH} (hK:∀τ' o,Put τ b6 o τ'->K (.tuple ⟨[.agg ⟨[.int .i64 x,.string s,.int .i64 z]⟩,.int .i64 e]⟩) τ') :
 stW Tryz.prog 133 (.pointer (some ⟨b6,0,none⟩)) (.agg ⟨[.int .i64 x,.string s,.int .i64 z]⟩) (ptrW (some ⟨b6,0,none⟩) (fun(b22 o23:Nat)=>rdT (rdA 3 b22 o23) (.one (.agg [(.int .i64),.str,(.int .i64)])) (fun(r24:Int) (r25:ByteArray) (r26:Int)=>K (.tuple ⟨[.agg ⟨[.int .i64 r24,.string r25,.int .i64 r26]⟩,.int .i64 e]⟩)))) τ:=by
 match l,hl with
 | [l0,l1,l2],_ =>
  refine st_i2 h6 sz_RPlace (by rfl) (by rfl) ?_;intro τ' p
  refine ptr_i (rd_G (rdA_of' p.same (by rfl)) ?_)
  (refine app_of rfl ?_;try dsimp only)
  exact hK τ' _ p
theorem srow_at {τ:H} {L:List ByteArray} {y:Sl} (h:RowsOwn τ 9 1 (srows L) y) {i:Nat} {s:ByteArray} (hi:L[i]? = some s) : ∃g o,y.base=some ⟨g,o,none⟩/\rdC g (o+i * 1) τ=some (.string s):=by
 have hr:(srows L)[i]? = some [.string s]:=by unfold srows;rw[List.getElem?_map,hi];rfl
 obtain⟨h1,h2 | ⟨g,o,cur,t,fz,h2,h3,h4⟩⟩:=h.rows
 ·rw[h2]at hr;simp at hr
 ·refine⟨g,o,h2,rdC_of h3 ?_⟩
  obtain⟨_,h5⟩:=h4 i _ hr
  have:((cur.drop (o+i * 1)).take 1)[0]? = some (.string s):=by rw[h5];rfl
  rw[List.getElem?_take]at this
  simpa using this
theorem split_len (l:List UInt8):(splitL 47 l).length<=l.length+1:=by
 induction l with
 | nil=>simp[splitL]
 | cons x r ih =>
  unfold splitL
  cases (x==47) with
  | true=>simp;exact ih
  | false =>
   cases h:splitL 47 r with
   | nil=>simp
   | cons a t=>rw[h]at ih;simp at ih ⊢;omega
theorem parts_len (path:ByteArray):(partsB path).length<=path.size+1:=by
 unfold partsB
 refine Nat.le_trans (List.length_filter_le ..) ?_
 rw[List.length_map,size_list]
 exact split_len _
def Good (A:AT) (p:Pl):Prop:=p.there=true -> ∃n,A.get p.ino=some n
def plR (r:Int×Pl×Int):List Value:=if r.1=0 then plV r.2.1 else plZ
section
variable {A : AT} {N : Nat}
theorem step_case (hI:Wk.Inv A) {f:Nat} {fo:Bool} {name:ByteArray} {rest:List ByteArray} {p:Pl} {h':Int} {r:Int×Pl×Int} {n:AN} (ht:p.there=true) (hn:A.get p.ino=some n)
 (hr:A.steps (fun d s x=>A.walk f d s true x) fo (name::rest) p h'=r) :
 (∃e:Int,e≠0/\(if A.kind p.ino≠2 then Value.tuple ⟨[.agg ⟨plZ⟩,.int .i64 8]⟩else if sEq name ⟨⟨[46,46]⟩⟩=true then .tuple ⟨[.agg ⟨plV ⟨A.upOf p.ino,⟨⟨[]⟩⟩,A.upOf p.ino,true⟩⟩,.int .i64 0]⟩else if name.size>56 then .tuple ⟨[.agg ⟨plZ⟩,.int .i64 3]⟩else .tuple ⟨[.agg ⟨plV ⟨p.ino,name,(A.find p.ino name).getD 0,(A.find p.ino name).isSome⟩⟩,.int .i64 0]⟩) = .tuple ⟨[.agg ⟨plZ⟩,.int .i64 e]⟩/\r=(e,Pl.z,h')) \/
 ∃q:Pl,(if A.kind p.ino≠2 then Value.tuple ⟨[.agg ⟨plZ⟩,.int .i64 8]⟩else if sEq name ⟨⟨[46,46]⟩⟩=true then .tuple ⟨[.agg ⟨plV ⟨A.upOf p.ino,⟨⟨[]⟩⟩,A.upOf p.ino,true⟩⟩,.int .i64 0]⟩else if name.size>56 then .tuple ⟨[.agg ⟨plZ⟩,.int .i64 3]⟩else .tuple ⟨[.agg ⟨plV ⟨p.ino,name,(A.find p.ino name).getD 0,(A.find p.ino name).isSome⟩⟩,.int .i64 0]⟩) = .tuple ⟨[.agg ⟨plV q⟩,.int .i64 0]⟩/\Good A q /\
  ((((!rest.isEmpty)||fo)&&(q.there&&(A.kind q.ino==3)))=false->A.steps (fun d s x=>A.walk f d s true x) fo rest q h'=r) /\
  ((((!rest.isEmpty)||fo)&&(q.there&&(A.kind q.ino==3)))=true->A.isDir q.dir/\((h' - 1<0->r=(9,Pl.z,h' - 1))/\(¬h' - 1<0->((A.walk f q.dir (A.data q.ino) true (h' - 1)).1≠0->r=((A.walk f q.dir (A.data q.ino) true (h' - 1)).1,Pl.z,(A.walk f q.dir (A.data q.ino) true (h' - 1)).2.2))/\((A.walk f q.dir (A.data q.ino) true (h' - 1)).1=0->A.steps (fun d s x=>A.walk f d s true x) fo rest (A.walk f q.dir (A.data q.ino) true (h' - 1)).2.1 (A.walk f q.dir (A.data q.ino) true (h' - 1)).2.2=r)))):=by
 by_cases h2:A.kind p.ino=2
 case neg=>exact .inl ⟨8,by decide,by rw[if_pos h2],by rw[<-hr,steps_notdir ht h2]⟩
 have hd:=kind_dir h2
 rw[if_neg (by simpa using h2)]
 cases h3:sEq name ⟨⟨[46,46]⟩⟩ with
 | true =>
  refine .inr ⟨⟨A.upOf p.ino,⟨⟨[]⟩⟩,A.upOf p.ino,true⟩,by rw[if_pos rfl],?_,?_,?_⟩
  ·intro _
   obtain⟨m,hm,_⟩:=hI.isDir_up hd
   exact⟨m,hm⟩
  ·intro _;rw[<-hr,steps_up ht h2 h3]
  ·intro hc
   have:A.kind (A.upOf p.ino)=2:=dir_kind (hI.isDir_up hd)
   simp[this]at hc
 | false =>
  rw[if_neg (by decide)]
  by_cases h4:name.size>56
  ·exact .inl ⟨3,by decide,by rw[if_pos h4],by rw[<-hr,steps_long ht h2 h3 h4]⟩
  rw[if_neg h4]
  refine .inr ⟨⟨p.ino,name,(A.find p.ino name).getD 0,(A.find p.ino name).isSome⟩,rfl,?_,?_,?_⟩
  ·intro hs
   obtain⟨j,hj⟩:=Option.isSome_iff_exists.1 hs
   obtain⟨_,_,_,_,_,m,hm,_⟩:=hI.find hj
   exact⟨m,by rw[hj];exact hm⟩
  ·intro hc
   have h5:(A.find p.ino name).isSome=false\/(rest.isEmpty && !fo)=true\/A.kind ((A.find p.ino name).getD 0)≠3:=by
    cases c1:(A.find p.ino name).isSome with
    | false=>exact .inl rfl
    | true =>
     by_cases c3:A.kind ((A.find p.ino name).getD 0)=3
     ·refine .inr (.inl ?_)
      simp only[c1,c3,beq_self_eq_true,Bool.and_true]at hc
      cases c4:rest.isEmpty<;>cases c5:fo<;>simp[c4,c5]at hc ⊢
     ·exact .inr (.inr c3)
   rw[<-hr,steps_name ht h2 h3 h4 h5]
  ·intro hc
   have h5 : ¬ ((A.find p.ino name).isSome=false\/(rest.isEmpty && !fo)=true\/A.kind ((A.find p.ino name).getD 0)≠3):=by
    simp only[Bool.and_eq_true,Bool.or_eq_true,Bool.not_eq_true',beq_iff_eq]at hc
    obtain⟨q1,q2,q3⟩:=hc
    rintro (e | e | e)
    ·rw[e]at q2;cases q2
    ·simp only[Bool.and_eq_true,Bool.not_eq_true']at e
     rcases q1 with q1 | q1
     ·rw[q1]at e;cases e.1
     ·rw[q1]at e;cases e.2
    ·exact e q3
   refine⟨hd,fun h6 => ?_,fun h6=>⟨fun h7 => ?_,fun h7 => ?_⟩⟩
   ·rw[<-hr,steps_loop ht h2 h3 h4 h5 h6]
   ·rw[<-hr,steps_err ht h2 h3 h4 h5 h6 h7]
   ·rw[<-hr,steps_link ht h2 h3 h4 h5 h6 h7]
theorem s_rfWay (hI:Wk.Inv A) (hB:Bd N A) (hN:N<=1000000000000) : ∀ (f:Nat) (d:Int) (path:ByteArray) (fo:Bool) (h:Int) {σ:H} {b bh:Nat} {M:RfM},RfIn σ b A M->A.isDir (d+1)->0<=h->h+2<=f->f<=100->σ bh=some (.cells ⟨[.int .i64 h]⟩ 3 (0,0))->M.w bh=none -> ∀ {K:KH},(∀σ',But bh σ σ'->σ' bh=some (.cells ⟨[.int .i64 (A.walk f (d+1) path fo h).2.2]⟩ 3 (0,0))->K (.tuple ⟨[.agg ⟨plR (A.walk f (d+1) path fo h)⟩,.int .i64 (A.walk f (d+1) path fo h).1]⟩) σ') ->
 callW Tryz.prog 150 [.pointer (some ⟨b,0,none⟩),.int .i64 d,.string path,.bool fo,.pointer (some ⟨bh,0,none⟩)] K σ:=by
 intro f
 induction f with
 | zero=>intro d path fo h σ b bh M _ _ h0 hh;omega
 | succ f ih =>
  intro d path fo h σ b bh M hM hd h0 hh hf hbh hw K hK
  have hE : ∀e,mayE path=e->e≠0 -> ∀σ2,But bh σ σ2->σ2 bh=some (.cells ⟨[.int .i64 h]⟩ 3 (0,0))->K (.tuple ⟨[.agg ⟨plZ⟩,.int .i64 e]⟩) σ2:=by
   intro e he hne σ2 hb hc
   have hwk:A.walk (f+1) (d+1) path fo h=(e,Pl.z,h):=by rw[AT.walk,if_pos (by rw[he];exact hne),he]
   rw[hwk]at hK
   have:=hK σ2 hb hc
   unfold plR at this
   rw[if_neg hne]at this
   exact this
  refine c150 _ _ _ _ _ ?_
  unfold g150
  refine al_i ?_;intro b6 σ1 g1 e1 n1
  have hbh1:=g1.get hbh
  have nb6:b6≠bh:=by intro e;rw[e,hbh]at n1;cases n1
  cases c1:sEq path ⟨⟨[]⟩⟩ with
  | true =>
   refine br_t (by rw[<-sEq_eq];exact c1) ?_
   refine st_i2 e1 sz_RPlace (by rfl) (by rfl) ?_;intro σ2 p2
   refine rd_G (rdA_of' p2.same (by rfl)) ?_
   (refine app_of rfl ?_;try dsimp only)
   exact hE 5 (by unfold mayE;rw[c1];rfl) (by decide) σ2 ((But.of_gr g1).put p2 n1) (p2.get (Ne.symm nb6) hbh1)
  | false =>
  refine br_f (by rw[<-sEq_eq];exact c1) ?_
  by_cases c2:path.size>255
  ·refine br_t (by simp only[decide_eq_true_eq];omega) ?_
   refine st_i2 e1 sz_RPlace (by rfl) (by rfl) ?_;intro σ2 p2
   refine rd_G (rdA_of' p2.same (by rfl)) ?_
   (refine app_of rfl ?_;try dsimp only)
   exact hE 3 (by unfold mayE;rw[c1,if_neg (by decide),if_pos c2]) (by decide) σ2 ((But.of_gr g1).put p2 n1) (p2.get (Ne.symm nb6) hbh1)
  refine br_f (by simp only[decide_eq_false_iff_not];omega) (loop_i ?_)
  intro R hR
  have hlen:path.data.toList.length=path.size:=(size_list path).symm
  have key : ∀ (c i:Nat),c+i=path.size->(0:UInt8)∉path.data.toList.take i->R (some ⟨b,0,none⟩) d path fo (some ⟨bh,0,none⟩) (some ⟨b6,0,none⟩) (i:Int) σ1:=by
   intro c
   induction c with
   | succ c ihc =>
    intro i hc hno
    refine hR _ _ _ _ _ _ _ _ ?_
    obtain⟨ch,hch⟩ : ∃ch,path.data.toList[i]? = some ch:=⟨_,List.getElem?_eq_getElem (by omega)⟩
    refine br_t (by simp only[decide_eq_true_eq];omega) (idx_l (c:=ch) (by omega) (by simpa using hch) ?_)
    by_cases hc0:ch=0
    ·subst hc0
     have hnul:hasNul path=true:=by
      unfold hasNul
      rw[List.any_eq_true]
      exact⟨0,List.mem_of_getElem? hch,by decide⟩
     refine br_t rfl (ret_pl e1 rfl ?_)
     intro σ2 o p2
     exact hE 2 (by unfold mayE;rw[c1,if_neg (by decide),if_neg c2,hnul];rfl) (by decide) σ2 ((But.of_gr g1).put p2 n1) (p2.get (Ne.symm nb6) hbh1)
    ·refine br_f ?_ ?_
     ·have : ¬ ((ch.toNat : Int) = 0) := by
       intro e;apply hc0
       have:ch.toNat=0:=by omega
       exact UInt8.toNat_inj.1 this
      simpa using this
     ·rw[wrap_id (x:=(i:Int)+1) (by omega) (by omega)]
      refine ihc (i+1) (by omega) ?_
      rw[List.take_add_one,hch]
      simp only[Option.toList_some,List.mem_append,List.mem_singleton,not_or]
      exact⟨hno,fun e=>hc0 e.symm⟩
   | zero =>
    intro i hc hno
    have hi:i=path.size:=by omega
    have hnul:hasNul path=false:=by
     rw[hi,<- hlen,List.take_length]at hno
     unfold hasNul
     rw[List.any_eq_false]
     intro x hx
     simp only[beq_iff_eq]
     rintro rfl;exact hno hx
    have hm:mayE path=0:=by unfold mayE;rw[c1,if_neg (by decide),if_neg c2,hnul];rfl
    refine hR _ _ _ _ _ _ _ _ ?_
    refine br_f (by simp only[decide_eq_false_iff_not];omega) ?_
    have hwk:A.walk (f+1) (d+1) path fo h=A.steps (fun d s h'=>A.walk f d s true h') fo (partsB path) ⟨if headIs 47 path then 1 else d+1,⟨⟨[]⟩⟩,if headIs 47 path then 1 else d+1,true⟩ h:=by
     rw[AT.walk,if_neg (by simpa using hm)]
    generalize hr:A.walk (f+1) (d+1) path fo h=r at hK hwk
    refine j_i (fun j => ∀ad:Int,ad+1=(if headIs 47 path then 1 else d+1)->j (some ⟨b,0,none⟩) ad path fo (some ⟨bh,0,none⟩) (some ⟨b6,0,none⟩) σ1) ?_ ?_
    case refine_2 =>
     intro j hj
     cases hl:path.data.toList with
     | nil =>
      exfalso
      have:path=⟨⟨[]⟩⟩:=bytes_ext hl
      rw[this]at c1;exact absurd c1 (by decide)
     | cons c0 cr =>
      have hh0:headIs 47 path=(c0==47):=by unfold headIs;rw[hl]
      refine idx_l (c:=c0) (by decide) (by rw[hl];rfl) ?_
      rw[hh0]at hj
      by_cases e47:c0=47
      ·subst e47
       exact br_t rfl (hj 0 (by simp))
      ·refine br_f ?_ (hj d (by simp[e47]))
       have : ¬ ((c0.toNat:Int)=47):=by
        intro e;apply e47
        have:c0.toNat=47:=by omega
        exact UInt8.toNat_inj.1 this
       simpa using this
    intro ad had
    rw[<-had]at hwk
    have hda:A.isDir (ad+1):=by
     rw[had]
     cases headIs 47 path with
     | true=>exact hI.root_dir
     | false=>exact hd
    refine al_i ?_;intro b34 σ2 g2 e2 n2
    refine st_i2 e2 sz_RPlace (by rfl) (by rfl) ?_;intro σ3 p3
    have k34:σ3 b34=some (.cells ⟨plV ⟨ad+1,⟨⟨[]⟩⟩,ad+1,true⟩⟩ 133 (0,0)):=by
     have e:plV ⟨ad+1,⟨⟨[]⟩⟩,ad+1,true⟩=[.int .i64 ad,.string ⟨⟨[]⟩⟩,.int .i64 ad]:=by
      unfold plV;simp
     rw[e];exact p3.same
    have g3:Gr σ1 σ3:=g2.putF p3 n2
    refine call_i (s_rfNames path (by omega) ?_)
    intro y σ4 hS
    obtain⟨g4,own,fr⟩:=hS
    refine app_L (loop_i ?_)
    intro R2 hR2
    have n6:σ b6=none:=n1
    have n34:σ b34=none:=none_of g1 n2
    have nb34:b34≠bh:=by intro e;rw[e,hbh]at n34;cases n34
    have nb34b:b34≠b6:=by intro e;rw[e,e1]at n2;cases n2
    have hyb : ∀g,y.base=some ⟨g,0,none⟩->g≠bh/\g≠b34/\g≠b6:=by
     intro g hg
     have hn:=fr g hg
     refine⟨?_,?_,?_⟩
     ·intro e;rw[e,g3.get hbh1]at hn;cases hn
     ·intro e;rw[e,k34]at hn;cases hn
     ·intro e;rw[e,g3.get e1]at hn;cases hn
    have hLz:(partsB path).length<=300:=by
     have:=parts_len path
     omega
    generalize partsB path=L at hwk own hLz
    have hyl:y.len=L.length:=by have:=own.1;simpa[srows]using this
    have key2 : ∀ (c i:Nat) (p:Pl) (h':Int) (τ:H),c+i=L.length->But bh σ τ->τ b6=some (.cells ⟨plZ⟩ 133 (0,0))->τ b34=some (.cells ⟨plV p⟩ 133 (0,0))->τ bh=some (.cells ⟨[.int .i64 h']⟩ 3 (0,0))->RowsOwn τ 9 1 (srows L) y->Good A p->0<=h'->h'<=h->A.steps (fun d s h'=>A.walk f d s true h') fo (L.drop i) p h'=r->R2 (some ⟨b,0,none⟩) fo (some ⟨bh,0,none⟩) (some ⟨b6,0,none⟩) (some ⟨b34,0,none⟩) y (i:Int) τ:=by
     intro c
     induction c with
     | zero =>
      intro i p h' τ hc hBu k6 k34 kh own hG z0 z1 hs
      rw[show L.drop i=[]from List.drop_eq_nil_of_le (by omega)]at hs
      have hs:(0,p,h')=r:=hs
      subst hs
      refine hR2 _ _ _ _ _ _ _ _ ?_
      unfold plV at k34
      refine br_f (by simp only[decide_eq_false_iff_not];omega) (ptr_i (rd_G (rdA_of' k34 (by rfl)) ?_))
      (refine app_of rfl ?_;try dsimp only)
      refine ret_pl k6 rfl ?_
      intro τ' o hp
      exact hK τ' (hBu.put hp n6) (hp.get (Ne.symm nb6) kh)
     | succ c ihc =>
      intro i p h' τ hc hBu k6 k34 kh own hG z0 z1 hs
      refine hR2 _ _ _ _ _ _ _ _ ?_
      refine br_t (by simp only[decide_eq_true_eq];omega) ?_
      have ferr : ∀ (e:Int) (h'':Int) (τ':H),e≠0->r=(e,Pl.z,h'')->But bh σ τ'->τ' bh=some (.cells ⟨[.int .i64 h'']⟩ 3 (0,0))->K (.tuple ⟨[.agg ⟨[.int .i64 0,.string ⟨⟨[]⟩⟩,.int .i64 0]⟩,.int .i64 e]⟩) τ':=by
       intro e h'' τ' he hre hb hk
       subst hre
       have:=hK τ' hb hk
       unfold plR at this
       rw[if_neg he]at this
       exact this
      refine j_i (fun j => ∀ (p':Pl) (h'':Int) (τ':H) v1 v2 v3 v4 v5 v6 v7 v8 v9 v10 v11 v12 v13 v14 v15 v16,But bh σ τ'->τ' b6=some (.cells ⟨plZ⟩ 133 (0,0))->τ' b34=some (.cells ⟨plV p'⟩ 133 (0,0))->τ' bh=some (.cells ⟨[.int .i64 h'']⟩ 3 (0,0))->RowsOwn τ' 9 1 (srows L) y->Good A p'->0<=h''->h''<=h->A.steps (fun d s h'=>A.walk f d s true h') fo (L.drop (i+1)) p' h''=r->j (some ⟨b,0,none⟩) fo (some ⟨bh,0,none⟩) (some ⟨b6,0,none⟩) (some ⟨b34,0,none⟩) y (i:Int) v1 v2 v3 v4 v5 v6 v7 v8 v9 v10 v11 v12 v13 v14 v15 v16 τ') ?_ ?_
      ·intro p' h'' τ' v1 v2 v3 v4 v5 v6 v7 v8 v9 v10 v11 v12 v13 v14 v15 v16 a1 a2 a3 a4 a5 a6 a7 a8 a9
       rw[wrap_id (x:=(i:Int)+1) (by omega) (by omega)]
       rw[show(i:Int)+1=((i+1:Nat):Int)from by omega]
       exact ihc (i+1) p' h'' τ' (by omega) a1 a2 a3 a4 a5 a6 a7 a8 a9
      intro j44 h44
      obtain⟨name,hname⟩ : ∃name,L[i]? = some name:=⟨_,List.getElem?_eq_getElem (by omega)⟩
      have hdrop:L.drop i=name::L.drop (i+1):=by
       rw[List.drop_eq_getElem_cons (by omega)]
       rw[List.getElem?_eq_getElem (by omega)]at hname
       rw[Option.some.inj hname]
      rw[hdrop]at hs
      cases ht:p.there with
      | false =>
       rw[steps_none ht]at hs
       unfold plV at k34
       rw[ht]at k34
       refine ptr_i (rd_I (rdC_of k34 (by rfl)) (br_t rfl (ret_pl k6 rfl ?_)))
       intro τ' o hp
       exact ferr 5 h' τ' (by decide) hs.symm (hBu.put hp n6) (hp.get (Ne.symm nb6) kh)
      | true =>
       obtain⟨n,hn⟩:=hG ht
       have hlow:=(hI.low _ _ hn).1
       have hcase:=step_case hI ht hn hs
       have hp1:p.ino - 1+1=p.ino:=by omega
       unfold plV at k34
       rw[if_pos ht]at k34
       obtain⟨gy,oy,q1,q2⟩:=srow_at own hname
       refine ptr_i (rd_I (rdC_of k34 (by rfl)) (br_f (by simp only[decide_eq_false_iff_not];omega) (ptr_i (rd_I (rdC_of k34 (by rfl)) ?_))))
       rw[q1]
       have e0:(i:Int).toNat=i:=by omega
       refine ptr_i (if_i ⟨by omega,by omega⟩ (rd_S (by rw[e0];exact q2) ?_))
       refine call_i (s_rfStep (hM.but hw hBu) hI hB hN (d:=p.ino - 1) (n:=n) (by rw[hp1];exact hn) name ?_)
       intro τ1 gt
       rw[hp1]
       have k6:=gt.get k6
       have k34:=gt.get k34
       have kh:=gt.get kh
       have own:=own.gr gt
       have hBu:=hBu.trans (But.of_gr gt)
       rcases hcase with⟨e,he,hv,hre⟩ | ⟨q,hv,hGq,hq1,hq2⟩
       ·rw[hv]
        unfold plZ
        (refine app_of rfl ?_;try dsimp only)
        refine al_i ?_;intro b86 τ2 g5 e5 n5
        refine st_i2 e5 sz_RPlace (by rfl) (by rfl) ?_;intro τ3 p5
        have g6:Gr τ1 τ3:=g5.putF p5 n5
        refine br_t (by simpa using he) (ret_pl (g6.get k6) rfl ?_)
        intro τ' o hp
        exact ferr e h' τ' he hre ((hBu.trans (But.of_gr g6)).put hp n6) (hp.get (Ne.symm nb6) (g6.get kh))
       ·rw[hv]
        unfold plV
        (refine app_of rfl ?_;try dsimp only)
        refine al_i ?_;intro b86 τ2 g5 e5 n5
        refine st_i2 e5 sz_RPlace (by rfl) (by rfl) ?_;intro τ3 p5
        have g6:Gr τ1 τ3:=g5.putF p5 n5
        refine br_f rfl (rd_G (rdA_of' p5.same (by rfl)) ?_)
        (refine app_of rfl ?_;try dsimp only)
        refine st_i2 (g6.get k34) sz_RPlace (by rfl) (by rfl) ?_;intro τ4 p6
        have k34q:τ4 b34=some (.cells ⟨[.int .i64 (q.dir - 1),.string q.name,.int .i64 (if q.there then q.ino - 1 else -1)]⟩ 133 (0,0)):=p6.same
        have k6q:=p6.get (Ne.symm nb34b) (g6.get k6)
        have khq:=p6.get (Ne.symm nb34) (g6.get kh)
        have ownq:=(own.gr g6).put p6 (fun e=>(hyb b34 e).2.1 rfl)
        have hBq:But bh σ τ4:=(hBu.trans (But.of_gr g6)).put p6 n34
        have hM4:=hM.but hw hBq
        clear p5 p6 e5 k34 k6 kh own hBu
        have hmore:decide ((i:Int)+1<((y.len:Nat):Int)) = !(L.drop (i+1)).isEmpty:=by
         have hdl:(L.drop (i+1)).length=L.length - (i+1):=List.length_drop
         cases hD:L.drop (i+1) with
         | nil=>rw[hD]at hdl;simp at hdl;simp;omega
         | cons a r=>rw[hD]at hdl;simp at hdl;simp;omega
        generalize hT:(((!(L.drop (i+1)).isEmpty)||fo)&&(q.there&&(A.kind q.ino==3)))=t at hq1 hq2
        refine j_i (fun j => ∀v1 v2 v3 v4 v5 v6 v7 v8 v9 v10 v11 v12 v13 v14 v15 v16,j (some ⟨b,0,none⟩) fo (some ⟨bh,0,none⟩) (some ⟨b6,0,none⟩) (some ⟨b34,0,none⟩) y (i:Int) v1 v2 v3 v4 v5 v6 v7 v8 v9 v10 v11 v12 v13 v14 v15 v16 t τ4) ?_ ?_
        case refine_2 =>
         intro j95 h95
         rw[wrap_id (x:=(i:Int)+1) (by omega) (by omega),hmore]
         cases hqt:q.there with
         | false =>
          have ht0:t=false:=by rw[<-hT,hqt];simp
          rw[ht0]at h95
          rw[if_neg (by rw[hqt];decide)]at k34q
          cases (L.drop (i+1)).isEmpty with
          | false=>exact br_t rfl (ptr_i (rd_I (rdC_of k34q (by rfl)) (br_f rfl (h95 _ _ _ _ _ _ _ _ _ _ _ _ _ _ _ _))))
          | true =>
           refine br_f rfl ?_
           cases fo with
           | true=>exact br_t rfl (ptr_i (rd_I (rdC_of k34q (by rfl)) (br_f rfl (h95 _ _ _ _ _ _ _ _ _ _ _ _ _ _ _ _))))
           | false=>exact br_f rfl (h95 _ _ _ _ _ _ _ _ _ _ _ _ _ _ _ _)
         | true =>
          obtain⟨nq,hnq⟩:=hGq hqt
          have hqlow:=(hI.low _ _ hnq).1
          have hq11:q.ino - 1+1=q.ino:=by omega
          have hkq:A.kind q.ino=nq.kind:=by unfold AT.kind;rw[hnq];rfl
          rw[if_pos hqt]at k34q
          obtain⟨gs,os,s1,s2,s3⟩:=hM4.slot hI (d:=q.ino - 1) (n:=nq) (by rw[hq11];exact hnq)
          rw[hq11]at s3
          rw[hkq,hqt]at hT
          cases hem:(L.drop (i+1)).isEmpty with
          | false =>
           have ht1:t=(nq.kind==3):=by rw[<-hT,hem];simp
           rw[ht1]at h95
           refine br_t rfl (ptr_i (rd_I (rdC_of k34q (by rfl)) (br_t (by simp only[decide_eq_true_eq];omega) ?_)))
           refine ptr_i (rd_L (rdC_of hM4.top (by rfl)) (ptr_i (rd_I (rdC_of k34q (by rfl)) ?_)))
           rw[s1]
           exact ptr_i (if_i s2 (rd_P s3 (ptr_i (rd_I (rdC_of (hM4.nod _ _ hnq) (by rfl)) (h95 _ _ _ _ _ _ _ _ _ _ _ _ _ _ _ _)))))
          | true =>
           refine br_f rfl ?_
           cases fo with
           | true =>
            have ht1:t=(nq.kind==3):=by rw[<-hT,hem];simp
            rw[ht1]at h95
            refine br_t rfl (ptr_i (rd_I (rdC_of k34q (by rfl)) (br_t (by simp only[decide_eq_true_eq];omega) ?_)))
            refine ptr_i (rd_L (rdC_of hM4.top (by rfl)) (ptr_i (rd_I (rdC_of k34q (by rfl)) ?_)))
            rw[s1]
            exact ptr_i (if_i s2 (rd_P s3 (ptr_i (rd_I (rdC_of (hM4.nod _ _ hnq) (by rfl)) (h95 _ _ _ _ _ _ _ _ _ _ _ _ _ _ _ _)))))
           | false =>
            have ht1:t=false:=by rw[<-hT,hem];simp
            rw[ht1]at h95
            exact br_f rfl (h95 _ _ _ _ _ _ _ _ _ _ _ _ _ _ _ _)
        intro v1 v2 v3 v4 v5 v6 v7 v8 v9 v10 v11 v12 v13 v14 v15 v16
        cases t with
        | false =>
         exact br_f rfl (h44 q h' τ4 _ _ _ _ _ _ _ _ _ _ _ _ _ _ _ _ hBq k6q k34q khq ownq hGq z0 z1 (hq1 rfl))
        | true =>
         obtain⟨hqd,hq9,hqw⟩:=hq2 rfl
         have hqt:q.there=true:=by
          simp only[Bool.and_eq_true]at hT
          exact hT.2.1
         obtain⟨nq,hnq⟩:=hGq hqt
         have hqlow:=(hI.low _ _ hnq).1
         have hq11:q.ino - 1+1=q.ino:=by omega
         have hd11:q.dir - 1+1=q.dir:=by omega
         have hdat:A.data q.ino=nq.data:=by unfold AT.data;rw[hnq];rfl
         rw[hdat]at hqw
         rw[if_pos hqt]at k34q
         refine br_t rfl (ptr_i (rd_I (rdC_of khq (by rfl)) (ptr_i ?_)))
         rw[wrap_id (x:=h' - 1) (by omega) (by omega)]
         refine st_i2 khq sz_int (by rfl) (by rfl) ?_;intro τ5 p7
         have kh5:τ5 bh=some (.cells ⟨[.int .i64 (h' - 1)]⟩ 3 (0,0)):=p7.same
         have k65:=p7.get nb6 k6q
         have k345:=p7.get nb34 k34q
         have own5:=ownq.put p7 (fun e=>(hyb bh e).1 rfl)
         have hB5:But bh σ τ5:=hBq.puth p7
         have hM5:=hM.but hw hB5
         clear p7
         refine ptr_i (rd_I (rdC_of kh5 (by rfl)) ?_)
         by_cases h6:h' - 1<0
         ·refine br_t (by simpa using h6) (ret_pl k65 rfl ?_)
          intro τ' o hp
          exact ferr 9 (h' - 1) τ' (by decide) (hq9 h6) (hB5.put hp n6) (hp.get (Ne.symm nb6) kh5)
         ·obtain⟨hw1,hw2⟩:=hqw h6
          obtain⟨gs,os,s1,s2,s3⟩:=hM5.slot hI (d:=q.ino - 1) (n:=nq) (by rw[hq11];exact hnq)
          rw[hq11]at s3
          refine br_f (by simpa using h6) (ptr_i (rd_I (rdC_of k345 (by rfl)) ?_))
          refine ptr_i (rd_L (rdC_of hM5.top (by rfl)) (ptr_i (rd_I (rdC_of k345 (by rfl)) ?_)))
          rw[s1]
          refine ptr_i (if_i s2 (rd_P s3 (ptr_i (rd_S (rdC_of (hM5.nod _ _ hnq) (by rfl)) ?_))))
          refine call_i (ih (q.dir - 1) nq.data true (h' - 1) hM5 (by rw[hd11];exact hqd) (by omega) (by omega) (by omega) kh5 hw ?_)
          intro τ6 hb6 kh6
          rw[hd11]at kh6 ⊢
          have hops:=walk_hops A f q.dir nq.data true (h' - 1) (by omega)
          have hpl:=fun e=>walk_place hI f q.dir nq.data true (h' - 1) hqd e
          generalize A.walk f q.dir nq.data true (h' - 1)=W at hw1 hw2 kh6 hops hpl ⊢
          obtain⟨w1,w2,w3⟩:=W
          have k66:=hb6 _ _ k65 nb6
          have k346:=hb6 _ _ k345 nb34
          have own6:=own5.keep fun g o hx hg=>hb6 g o hg (hyb g hx).1
          have hB6:=hB5.trans hb6
          by_cases hW0:w1=0
          ·subst hW0
           have hgw:Good A w2:=fun e=>PlOk.get hI (hpl rfl) e
           unfold plR
           rw[if_pos rfl]
           unfold plV
           (refine app_of rfl ?_;try dsimp only)
           refine st_i2 k346 sz_RPlace (by rfl) (by rfl) ?_;intro τ7 p8
           refine br_f rfl (h44 w2 w3 τ7 _ _ _ _ _ _ _ _ _ _ _ _ _ _ _ _ (hB6.put p8 n34) (p8.get (Ne.symm nb34b) k66) p8.same (p8.get (Ne.symm nb34) kh6) (own6.put p8 (fun e=>(hyb b34 e).2.1 rfl)) hgw (hops.2.2 rfl) (by have:=hops.2.1;simp only at this;omega) (hw2 rfl))
          ·unfold plR
           rw[if_neg hW0]
           unfold plZ
           (refine app_of rfl ?_;try dsimp only)
           refine st_i2 k346 sz_RPlace (by rfl) (by rfl) ?_;intro τ7 p8
           refine br_t (by simpa using hW0) (ret_pl (p8.get (Ne.symm nb34b) k66) rfl ?_)
           intro τ' o hp
           exact ferr w1 w3 τ' hW0 (hw1 hW0) ((hB6.put p8 n34).put hp n6) (hp.get (Ne.symm nb6) (p8.get (Ne.symm nb34) kh6))
    refine key2 L.length 0 ⟨ad+1,⟨⟨[]⟩⟩,ad+1,true⟩ h σ4 (by omega) (But.of_gr (g1.trans (g3.trans g4))) (g4.get (g3.get e1)) (g4.get k34) (g4.get (g3.get hbh1)) own ?_ h0 (Int.le_refl _) (by simpa using hwk.symm)
    intro _
    obtain⟨n,hn,_⟩:=hda
    exact⟨n,hn⟩
  exact key path.size 0 (by omega) (by simp)
end
end Go.Proofs.YtbdlkofldmhoaaaGreatDoor

set_option maxRecDepth 100000
namespace Go.Proofs.YtbdlkofldmhoaaaGreatDoor
open Go Go.HL Go.Wk
theorem But.gr {bh:Nat} {σ σ':H} (h:But bh σ σ') (hn:σ bh=none):Gr σ σ':=fun c o hc=>h c o hc (fun e=>by rw[e,hn]at hc;cases hc)
attribute [local irreducible] ptrW ifW brW andW rdT alW letJ stW muW biW vaW imW callT cvalT app callW invW callVW sizeT oW nilF oneK loopW rfW funW begW roundK exW idxW Gr Put
theorem byte_ne (c:UInt8):(((c.toNat:Int):Int) != 47) = !(c==47):=by
 by_cases h:c=47
 ·subst h;rfl
 ·have : ¬ ((c.toNat : Int) = 47) := by
   intro e;apply h
   have:c.toNat=47:=by omega
   exact UInt8.toNat_inj.1 this
  have h1:(((c.toNat:Int):Int) != 47)=true:=by simpa using this
  have h2:(c==47)=false:=by simpa using h
  rw[h1,h2];rfl
theorem head_at {s:ByteArray} (h:sEq s ⟨⟨[]⟩⟩=false) : ∃c,s.data.toList[(0:Int).toNat]? = some c/\headIs 47 s=(c==47):=by
 cases hl:s.data.toList with
 | nil =>
  exfalso
  have:s=⟨⟨[]⟩⟩:=bytes_ext hl
  rw[this]at h;exact absurd h (by decide)
 | cons c r=>exact⟨c,rfl,by unfold headIs;rw[hl]⟩
def plL (r:Int×Pl):List Value:=if r.1=0 then plV r.2 else plZ
section
variable {σ : H} {b : Nat} {A : AT} {M : RfM} {N : Nat}
theorem RfIn.new (h:RfIn σ b A M) {c:Nat} (hc:σ c=none):M.w c=none:=by
 cases hw:M.w c with
 | none=>rfl
 | some r=>exact absurd hc (h.has c (by rw[hw];simp))
theorem s_rfGo (hI:Wk.Inv A) (hB:Bd N A) (hN:N<=1000000000000) (hM:RfIn σ b A M) (cwd path:ByteArray) (fo:Bool) {K:KH} (hK:∀σ',Gr σ σ'->K (.tuple ⟨[.agg ⟨plL (A.locate cwd path fo)⟩,.int .i64 (A.locate cwd path fo).1]⟩) σ') :
 callW Tryz.prog 90 [.pointer (some ⟨b,0,none⟩),.string cwd,.string path,.bool fo] K σ:=by
 refine c90 _ _ _ _ ?_
 unfold g90
 refine al_i ?_;intro b5 σ1 g1 e1 n1
 refine al_i ?_;intro b6 σ2 g2 e2 n2
 refine st_i2 e2 sz_int (by rfl) (by rfl) ?_;intro σ3 p3
 have k6:σ3 b6=some (.cells ⟨[.int .i64 8]⟩ 3 (0,0)):=p3.same
 have n6:σ b6=none:=none_of g1 n2
 have n56:b5≠b6:=by intro e;rw[<-e,e1]at n2;cases n2
 have g3:Gr σ σ3:=(g1.trans g2).putF p3 n6
 have k5:σ3 b5=some (.cells ⟨plZ⟩ 133 (0,0)):=p3.get n56 (g2.get e1)
 have hw6:=hM.new n6
 clear p3 e1 e2
 generalize hloc:A.locate cwd path fo=r at hK
 have hR : ∀e τ,e≠0->r.1=e->Gr σ τ->K (.tuple ⟨[.agg ⟨[.int .i64 0,.string ⟨⟨[]⟩⟩,.int .i64 0]⟩,.int .i64 e]⟩) τ:=by
  intro e τ he hr hg
  have:=hK τ hg
  unfold plL at this
  rw[hr,if_neg he]at this
  exact this
 refine j_i (fun j => ∀ (ad:Int) τ,A.isDir (ad+1)->(A.walk 10 (ad+1) path fo 8).1=r.1->((A.walk 10 (ad+1) path fo 8).1=0->(A.walk 10 (ad+1) path fo 8).2.1=r.2)->But b6 σ τ->τ b5=some (.cells ⟨plZ⟩ 133 (0,0))->τ b6=some (.cells ⟨[.int .i64 8]⟩ 3 (0,0))->j (some ⟨b,0,none⟩) path fo (some ⟨b5,0,none⟩) ad (some ⟨b6,0,none⟩) τ) ?_ ?_
 ·intro ad τ hd w1 w2 hBu k5 k6
  refine call_i (s_rfWay hI hB hN 10 ad path fo 8 (hM.but hw6 hBu) hd (by decide) (by decide) (by decide) k6 hw6 ?_)
  intro τ' hb kh
  generalize A.walk 10 (ad+1) path fo 8=W at w1 w2 kh ⊢
  obtain⟨x1,x2,x3⟩:=W
  have k5':=hb _ _ k5 n56
  have hB':=hBu.trans hb
  unfold plR
  by_cases h0:x1=0
  ·subst h0
   rw[if_pos rfl]
   unfold plV
   (refine app_of rfl ?_;try dsimp only)
   refine ret_pl k5' rfl ?_
   intro τ2 o hp
   have:=hK τ2 ((hB'.gr n6).putF hp n1)
   unfold plL at this
   have hr1:r.1=0:=w1.symm
   rw[hr1,if_pos rfl,<- w2 rfl]at this
   exact this
  ·rw[if_neg h0]
   unfold plZ
   (refine app_of rfl ?_;try dsimp only)
   refine ret_pl k5' rfl ?_
   intro τ2 o hp
   exact hR x1 τ2 h0 w1.symm ((hB'.gr n6).putF hp n1)
 intro j7 h7
 have hB3:But b6 σ σ3:=But.of_gr g3
 refine j_i (fun j => ∀t:Bool,(t=false->headIs 47 path=true)->(t=true->headIs 47 path=false)->j (some ⟨b,0,none⟩) cwd path fo (some ⟨b5,0,none⟩) 0 (some ⟨b6,0,none⟩) t σ3) ?_ ?_
 case refine_2 =>
  intro j hj
  cases h0:sEq path ⟨⟨[]⟩⟩ with
  | true=>exact br_t (by rw[<-sEq_eq];exact h0) (hj true (fun e=>by cases e) (fun _=>by rw[sEq_iff.1 h0];rfl))
  | false =>
   obtain⟨c,hc,hh⟩:=head_at h0
   refine br_f (by rw[<-sEq_eq];exact h0) (idx_l (by decide) hc ?_)
   rw[byte_ne]
   refine hj _ (fun e => ?_) (fun e => ?_)
   ·rw[hh];simpa using e
   ·rw[hh];simpa using e
 intro t ht1 ht2
 cases t with
 | false =>
  have hh:=ht1 rfl
  have h0:sEq path ⟨⟨[]⟩⟩=false:=headIs_ne hh
  refine br_f rfl (h7 0 σ3 hI.root_dir ?_ ?_ hB3 k5 k6)
  ·rw[<-hloc];unfold AT.locate;rw[h0,hh];rfl
  ·intro _;rw[<-hloc];unfold AT.locate;rw[h0,hh];rfl
 | true =>
  have hh:=ht2 rfl
  refine br_t rfl ?_
  cases h0:sEq path ⟨⟨[]⟩⟩ with
  | true =>
   refine br_t (by rw[<-sEq_eq];exact h0) (ret_pl k5 rfl ?_)
   intro τ o hp
   exact hR 5 τ (by decide) (by rw[<-hloc];unfold AT.locate;rw[h0];rfl) (g3.putF hp n1)
  | false =>
   refine br_f (by rw[<-sEq_eq];exact h0) ?_
   refine j_i (fun j => ∀t:Bool,(t=false->headIs 47 cwd=true)->(t=true->headIs 47 cwd=false)->j (some ⟨b,0,none⟩) cwd path fo (some ⟨b5,0,none⟩) (some ⟨b6,0,none⟩) t σ3) ?_ ?_
   case refine_2 =>
    intro j hj
    cases hc0:sEq cwd ⟨⟨[]⟩⟩ with
    | true=>exact br_t (by rw[<-sEq_eq];exact hc0) (hj true (fun e=>by cases e) (fun _=>by rw[sEq_iff.1 hc0];rfl))
    | false =>
     obtain⟨c,hc,hhc⟩:=head_at hc0
     refine br_f (by rw[<-sEq_eq];exact hc0) (idx_l (by decide) hc ?_)
     rw[byte_ne]
     refine hj _ (fun e => ?_) (fun e => ?_)
     ·rw[hhc];simpa using e
     ·rw[hhc];simpa using e
   intro t ht1 ht2
   cases t with
   | true =>
    have hc:=ht2 rfl
    refine br_t rfl (ret_pl k5 rfl ?_)
    intro τ o hp
    exact hR 5 τ (by decide) (by rw[<-hloc];unfold AT.locate;rw[h0,hh,hc];rfl) (g3.putF hp n1)
   | false =>
    have hc:=ht1 rfl
    refine br_f rfl (call_i (s_rfWay hI hB hN 10 0 cwd true 8 (hM.but hw6 hB3) hI.root_dir (by decide) (by decide) (by decide) k6 hw6 ?_))
    intro τ hb kh
    have hl:r=(let w:=A.walk 10 1 cwd true 8
     if w.1≠0 then(w.1,Pl.z)else if w.2.1.there=false then(5,Pl.z)else if A.kind w.2.1.ino≠2 then(8,Pl.z)else let r':=A.walk 10 w.2.1.ino path fo 8;(r'.1,r'.2.1)):=by
     rw[<-hloc];unfold AT.locate;rw[h0,hh,hc];rfl
    have hpl:=fun e=>walk_place hI 10 1 cwd true 8 hI.root_dir e
    rw[show(0:Int)+1=1 from rfl]at kh ⊢
    generalize A.walk 10 1 cwd true 8=W at hl kh hpl ⊢
    obtain⟨x1,x2,x3⟩:=W
    have k5':=hb _ _ k5 n56
    have hB':=hB3.trans hb
    unfold plR
    by_cases hx:x1=0
    case neg =>
     rw[if_neg hx]
     have hl1:r=(x1,Pl.z):=by rw[hl];simp[hx]
     unfold plZ
     (refine app_of rfl ?_;try dsimp only)
     refine al_i ?_;intro b54 τ2 g4 e4 n4
     refine st_i2 e4 sz_RPlace (by rfl) (by rfl) ?_;intro τ3 p4
     have g5:Gr τ τ3:=g4.putF p4 n4
     refine br_t (by simpa using hx) (ret_pl (g5.get k5') rfl ?_)
     intro τ4 o hp
     exact hR x1 τ4 hx (by rw[hl1]) (((hB'.gr n6).trans g5).putF hp n1)
    subst hx
    rw[if_pos rfl]
    simp only[ne_eq,not_true_eq_false,if_false]at hl
    unfold plV
    (refine app_of rfl ?_;try dsimp only)
    refine al_i ?_;intro b54 τ2 g4 e4 n4
    refine st_i2 e4 sz_RPlace (by rfl) (by rfl) ?_;intro τ3 p4
    have g5:Gr τ τ3:=g4.putF p4 n4
    have k54:τ3 b54=some (.cells ⟨[.int .i64 (x2.dir - 1),.string x2.name,.int .i64 (if x2.there then x2.ino - 1 else -1)]⟩ 133 (0,0)):=p4.same
    have hB5:But b6 σ τ3:=hB'.trans (But.of_gr g5)
    have hM5:=hM.but hw6 hB5
    have k55:=g5.get k5'
    have kh5:=g5.get kh
    have n546:b54≠b6:=by intro e;rw[e,kh]at n4;cases n4
    clear p4 e4
    cases hxt:x2.there with
    | false =>
     rw[if_neg (by rw[hxt];decide)]at k54
     rw[if_pos hxt]at hl
     refine br_f rfl (rd_I (rdC_of k54 (by rfl)) (br_t rfl (ret_pl k55 rfl ?_)))
     intro τ4 o hp
     exact hR 5 τ4 (by decide) (by rw[hl]) ((hB5.gr n6).putF hp n1)
    | true =>
     obtain⟨nx,hnx⟩:=PlOk.get hI (hpl rfl) hxt
     have hlow:=(hI.low _ _ hnx).1
     have h11:x2.ino - 1+1=x2.ino:=by omega
     have hkx:A.kind x2.ino=nx.kind:=by unfold AT.kind;rw[hnx];rfl
     rw[if_pos hxt]at k54
     rw[if_neg (by rw[hxt];decide)]at hl
     obtain⟨gs,os,s1,s2,s3⟩:=hM5.slot hI (d:=x2.ino - 1) (n:=nx) (by rw[h11];exact hnx)
     rw[h11]at s3
     refine br_f rfl (rd_I (rdC_of k54 (by rfl)) (br_f (by simp only[decide_eq_false_iff_not];omega) ?_))
     refine ptr_i (rd_L (rdC_of hM5.top (by rfl)) (rd_I (rdC_of k54 (by rfl)) ?_))
     rw[s1]
     refine ptr_i (if_i s2 (rd_P s3 (ptr_i (rd_I (rdC_of (hM5.nod _ _ hnx) (by rfl)) ?_))))
     rw[hkx]at hl
     by_cases hk2:nx.kind=2
     ·rw[if_neg (by simpa using hk2)]at hl
      refine br_f (by simpa using hk2) (rd_I (rdC_of k54 (by rfl)) ?_)
      refine st_i2 kh5 sz_int (by rfl) (by rfl) ?_;intro τ6 p6
      refine h7 (x2.ino - 1) τ6 (by rw[h11];exact⟨nx,hnx,hk2⟩) ?_ ?_ (hB5.puth p6) (p6.get n56 k55) p6.same
      ·rw[h11,hl]
      ·intro _;rw[h11,hl]
     ·rw[if_pos (by simpa using hk2)]at hl
      refine br_t (by simpa using hk2) (ret_pl k55 rfl ?_)
      intro τ4 o hp
      exact hR 8 τ4 (by decide) (by rw[hl]) ((hB5.gr n6).putF hp n1)
end
end Go.Proofs.YtbdlkofldmhoaaaGreatDoor

namespace Go.Wk
open Go Go.HL
def sumL (f:AN->Nat) (l:List (Int×AN)):Nat->Nat
 | 0=>0
 | i+1=>sumL f l i+((lk ((i:Int)+1) l).map f).getD 0
theorem sumL_cons (f:AN->Nat) {k:Int} {v:AN} {r:List (Int×AN)} (h:lk k r=none) : ∀n:Nat,sumL f ((k,v)::r) n=sumL f r n+if 1<=k/\k<=n then f v else 0:=by
 intro n
 induction n with
 | zero=>simp only[sumL];rw[if_neg (by omega)]
 | succ n ih =>
  simp only[sumL,ih]
  by_cases e:(n:Int)+1=k
  ·have h1:lk ((n:Int)+1) ((k,v)::r)=some v:=by simp[lk,e]
   have h2:lk ((n:Int)+1) r=none:=by rw[e];exact h
   rw[h1,h2,if_neg (by omega),if_pos (by omega)]
   simp
  ·have h1 : lk ((n : Int) + 1) ((k, v) :: r) = lk ((n : Int) + 1) r := by
    have:(((n:Int)+1)==k)=false:=by simpa using e
    simp[lk,this]
   rw[h1]
   by_cases c:1<=k/\k<=n
   ·rw[if_pos c,if_pos (by omega)];omega
   ·rw[if_neg c,if_neg (by omega)];omega
theorem sumL_all (f:AN->Nat) : ∀ (l:List (Int×AN)) (n:Nat),(keysL l).Nodup->(∀k∈keysL l,1<=k/\k<=n)->sumL f l n=sumF f l:=by
 intro l
 induction l with
 | nil =>
  intro n _ _
  have : ∀n:Nat,sumL f [] n=0:=by
   intro n
   induction n with
   | zero=>rfl
   | succ n ih=>simp only[sumL,ih];rfl
  rw[this];rfl
 | cons p r ih =>
  intro n h1 h2
  obtain⟨k,v⟩:=p
  obtain⟨h3,h4⟩:=List.nodup_cons.1 (show(k::keysL r).Nodup from h1)
  rw[sumL_cons f (lk_none_iff.2 h3),ih n h4 fun x hx=>h2 x (List.mem_cons_of_mem _ hx)]
  have:=h2 k (List.mem_cons_self ..)
  rw[if_pos this]
  simp only[sumF];omega
theorem sumL_mono (f:AN->Nat) (l:List (Int×AN)) : ∀ {n m:Nat},n<=m->sumL f l n<=sumL f l m:=by
 intro n m h
 induction h with
 | refl=>exact Nat.le_refl _
 | step _ ih=>simp only[sumL];omega
theorem Inv.sums {A:AT} (h:Inv A):(sumL (fun _=>1) A.nodes A.last.toNat:Int)=A.ui/\(sumL (fun n=>n.data.size) A.nodes A.last.toNat:Int)=A.ub:=by
 have hk : ∀k∈keysL A.nodes,1<=k/\k<=((A.last.toNat:Nat):Int):=by
  intro k hk
  cases hl:A.get k with
  | none=>exact absurd hk (lk_none_iff.1 hl)
  | some n=>have:=h.low k n hl;omega
 rw[sumL_all _ _ _ h.nodup hk,sumL_all _ _ _ h.nodup hk]
 refine⟨?_,?_⟩
 ·rw[sumF_len,h.ui]
 ·rw[h.ub];rfl
def entN (name:ByteArray):List ByteArray->List ByteArray
 | []=>[name]
 | k::r=>if ltB name k=true then name::k::r else k::entN name r
theorem entN_perm (name:ByteArray) : ∀l,(entN name l).Perm (name::l):=by
 intro l
 induction l with
 | nil=>exact List.Perm.refl _
 | cons k r ih =>
  unfold entN
  split
  ·exact List.Perm.refl _
  ·exact(ih.cons k).trans (List.Perm.swap name k r)
def leN (a b:ByteArray):Prop:=a.data.toList<=b.data.toList
theorem entN_sorted {name:ByteArray} : ∀ {l:List ByteArray},l.Pairwise leN->(entN name l).Pairwise leN:=by
 intro l
 induction l with
 | nil=>intro _;simp[entN]
 | cons k r ih =>
  intro h
  obtain⟨h1,h2⟩:=List.pairwise_cons.1 h
  unfold entN
  by_cases c:ltB name k=true
  ·rw[if_pos c]
   have hnk:leN name k:=by
    unfold ltB at c
    cases hb:leB k.data.toList name.data.toList with
    | true=>rw[hb]at c;cases c
    | false =>
     have : ¬k.data.toList<=name.data.toList:=by rw[<-leB_iff,hb];simp
     exact(List.le_total _ _).resolve_left this
   refine List.pairwise_cons.2 ⟨fun z hz => ?_,h⟩
   rcases List.mem_cons.1 hz with e | e
   ·rw[e];exact hnk
   ·exact List.le_trans hnk (h1 z e)
  ·rw[if_neg c]
   have hkn:leN k name:=by
    unfold ltB at c
    cases hb:leB k.data.toList name.data.toList with
    | false=>rw[hb]at c;exact absurd rfl c
    | true=>exact(leB_iff _ _).1 hb
   refine List.pairwise_cons.2 ⟨fun z hz => ?_,ih h2⟩
   rcases List.mem_cons.1 ((entN_perm name r).mem_iff.1 hz)with e | e
   ·rw[e];exact hkn
   ·exact h1 z e
theorem sortN_sorted (l:List ByteArray):(sortN l).Pairwise leN:=by
 unfold sortN
 rw[List.pairwise_map]
 exact(sortB_sorted _).imp fun h=>h
theorem sorted_eq {a b:List ByteArray} (ha:a.Pairwise leN) (hb:b.Pairwise leN) (h:a.Perm b):a=b :=
 List.Perm.eq_of_pairwise (le:=leN) (fun x y _ _ h1 h2=>bytes_ext (List.le_antisymm h1 h2)) ha hb h
theorem sortN_snoc (l:List ByteArray) (name:ByteArray):sortN (l++[name])=entN name (sortN l):=by
 refine sorted_eq (sortN_sorted _) (entN_sorted (sortN_sorted _)) ?_
 refine(sortN_perm _).trans ?_
 refine List.Perm.trans ?_ (entN_perm name _).symm
 refine(List.perm_append_comm (l₁:=l) (l₂:=[name])).trans ?_
 exact((sortN_perm l).symm).cons name
def entR {α:Type} (name:ByteArray) (new:α) (row:ByteArray->α):Bool->List ByteArray->List α
 | done,[]=>if done then []else [new]
 | done,k::r=>if(!done&&ltB name k)=true then new::row k::entR name new row true r else row k::entR name new row done r
theorem entR_done {α:Type} (name:ByteArray) (new:α) (row:ByteArray->α) : ∀l,entR name new row true l=l.map row:=by
 intro l
 induction l with
 | nil=>rfl
 | cons k r ih=>unfold entR;simp[ih]
theorem entR_eq {α:Type} (name:ByteArray) (row:ByteArray->α) : ∀l,entR name (row name) row false l=(entN name l).map row:=by
 intro l
 induction l with
 | nil=>rfl
 | cons k r ih =>
  unfold entR entN
  by_cases c:ltB name k=true
  ·rw[if_pos (by simp[c]),if_pos c,entR_done];rfl
  ·rw[if_neg (by simp[c]),if_neg c,ih];rfl
theorem entR_congr {α:Type} (name:ByteArray) (new:α) {row row':ByteArray->α} : ∀ (l:List ByteArray) (d:Bool),(∀k∈l,row k=row' k)->entR name new row d l=entR name new row' d l:=by
 intro l
 induction l with
 | nil=>intro d _;cases d<;>rfl
 | cons k r ih =>
  intro d h
  unfold entR
  rw[h k (List.mem_cons_self ..),ih true fun x hx=>h x (List.mem_cons_of_mem _ hx),ih d fun x hx=>h x (List.mem_cons_of_mem _ hx)]
theorem steps_nolink {A:AT} (hI:Inv A) {go:Int->ByteArray->Int->Int×Pl×Int} (hgo:∀d s x,A.isDir d->(go d s x).1=0->(go d s x).2.1.there=true->A.kind (go d s x).2.1.ino≠3) : ∀ (l:List ByteArray) (p:Pl) (h:Int),(p.there=true->A.kind p.ino≠3)->(A.steps go true l p h).1=0->(A.steps go true l p h).2.1.there=true->A.kind (A.steps go true l p h).2.1.ino≠3:=by
 intro l
 induction l with
 | nil=>intro p h hp _;exact hp
 | cons n r ih =>
  intro p h hp he
  cases h1:p.there with
  | false=>rw[steps_none h1]at he;cases he
  | true =>
   by_cases h2:A.kind p.ino=2
   case neg=>rw[steps_notdir h1 h2]at he;cases he
   have hd:=kind_dir h2
   cases h3:sEq n ⟨⟨[46,46]⟩⟩ with
   | true =>
    rw[steps_up h1 h2 h3]at he ⊢
    exact ih _ h (fun _=>by show A.kind (A.upOf p.ino)≠3;rw[dir_kind (hI.isDir_up hd)];decide) he
   | false =>
    by_cases h4:n.size>56
    ·rw[steps_long h1 h2 h3 h4]at he;cases he
    by_cases h5:(A.find p.ino n).isSome=false\/(r.isEmpty && !true)=true\/A.kind ((A.find p.ino n).getD 0)≠3
    ·rw[steps_name h1 h2 h3 h4 h5]at he ⊢
     refine ih _ h (fun hs => ?_) he
     have hs:(A.find p.ino n).isSome=true:=hs
     rcases h5 with e | e | e
     ·rw[hs]at e;cases e
     ·simp at e
     ·exact e
    by_cases h6:h - 1<0
    ·rw[steps_loop h1 h2 h3 h4 h5 h6]at he;cases he
    by_cases h7:(go p.ino (A.data ((A.find p.ino n).getD 0)) (h - 1)).1=0
    ·rw[steps_link h1 h2 h3 h4 h5 h6 h7]at he ⊢
     exact ih _ _ (hgo _ _ _ hd h7) he
    ·rw[steps_err h1 h2 h3 h4 h5 h6 h7]at he;exact absurd he h7
theorem walk_nolink {A:AT} (hI:Inv A) : ∀ (f:Nat) (d:Int) (s:ByteArray) (h:Int),A.isDir d->(A.walk f d s true h).1=0->(A.walk f d s true h).2.1.there=true->A.kind (A.walk f d s true h).2.1.ino≠3:=by
 intro f
 induction f with
 | zero=>intro d s h _ he;cases he
 | succ f ih =>
  intro d s h hd he
  rw[AT.walk]at he ⊢
  by_cases hm:mayE s=0
  case neg=>rw[if_pos hm]at he;exact absurd he hm
  rw[if_neg (by simpa using hm)]at he ⊢
  refine steps_nolink hI (fun d s x hd he=>ih d s x hd he) _ _ _ (fun _ => ?_) he
  show A.kind (if headIs 47 s then 1 else d)≠3
  cases headIs 47 s with
  | true=>rw[if_pos rfl,dir_kind hI.root_dir];decide
  | false=>rw[if_neg (by decide),dir_kind hd];decide
theorem locate_nolink {A:AT} (hI:Inv A) (cwd path:ByteArray) (he:(A.locate cwd path true).1=0) (ht:(A.locate cwd path true).2.there=true):A.kind (A.locate cwd path true).2.ino≠3:=by
 unfold AT.locate at he ht ⊢
 cases h1:sEq path ⟨⟨[]⟩⟩ with
 | true=>rw[h1]at he;simp at he
 | false =>
  rw[h1]at he ht
  simp only[Bool.false_eq_true,if_false]at he ht ⊢
  cases h2:headIs 47 path with
  | true=>rw[h2]at he ht;exact walk_nolink hI 10 1 path 8 hI.root_dir he ht
  | false =>
   rw[h2]at he ht
   simp only[Bool.false_eq_true,if_false]at he ht ⊢
   cases h3:headIs 47 cwd with
   | false=>rw[h3]at he;simp at he
   | true =>
    rw[h3]at he ht
    simp only[Bool.true_eq_false,if_false]at he ht ⊢
    by_cases h4:(A.walk 10 1 cwd true 8).1=0
    case neg=>rw[if_pos h4]at he;exact absurd he h4
    rw[if_neg (by simpa using h4)]at he ht ⊢
    cases h5:(A.walk 10 1 cwd true 8).2.1.there with
    | false=>rw[h5]at he;simp at he
    | true =>
     rw[h5]at he ht
     simp only[Bool.true_eq_false,if_false]at he ht ⊢
     by_cases h6:A.kind (A.walk 10 1 cwd true 8).2.1.ino=2
     case neg=>rw[if_pos h6]at he;simp at he
     rw[if_neg (by simpa using h6)]at he ht ⊢
     exact walk_nolink hI 10 _ path 8 (kind_dir h6) he ht
theorem kind_cases {k m:Int} {d:ByteArray} (h:likeE k m d=0):k=1\/k=2\/k=3:=by
 unfold likeE at h
 by_cases hk:kindOkE k d=true
 ·unfold kindOkE at hk
  simp only[lk]at hk
  by_cases e1:k=1
  ·exact .inl e1
  by_cases e2:k=2
  ·exact .inr (.inl e2)
  by_cases e3:k=3
  ·exact .inr (.inr e3)
  have h1:(k==1)=false:=by simpa using e1
  have h2:(k==2)=false:=by simpa using e2
  have h3:(k==3)=false:=by simpa using e3
  rw[h1,h2,h3]at hk
  simp at hk
 ·have:kindOkE k d=false:=by simpa using hk
  rw[this]at h;simp at h
end Go.Wk

set_option maxRecDepth 100000
namespace Go.Proofs.YtbdlkofldmhoaaaGreatDoor
open Go Go.HL Go.Wk
attribute [local irreducible] ptrW ifW brW andW rdT alW letJ stW muW biW vaW imW callT cvalT app callW invW callVW sizeT oW nilF oneK loopW rfW funW begW roundK exW idxW Gr Put
section
variable {σ : H} {b : Nat} {A : AT} {M : RfM} {N : Nat}
theorem RfIn.ptr (h:RfIn σ b A M) {i:Nat} (hi:i<A.last.toNat) : ∃g o,M.x.base=some ⟨g,o,none⟩/\(0<=(i:Int)/\(i:Int)<((M.x.len:Nat):Int))/\rdC g (o+(i:Int).toNat * 1) σ=some (.pointer (if(A.get ((i:Int)+1)).isSome then some ⟨M.cb ((i:Int)+1),0,none⟩else none)):=by
 have hl:=h.len
 have hr:(ptrRow A M.cb)[i]? = some [.pointer (if(A.get ((i:Int)+1)).isSome then some ⟨M.cb ((i:Int)+1),0,none⟩else none)]:=by
  unfold ptrRow
  rw[List.getElem?_map,List.getElem?_range (by omega)];rfl
 obtain⟨h1,h4 | ⟨g,o,cur,t,fz,q2,q3,q4⟩⟩:=h.tab.rows
 ·rw[h4]at hr;simp at hr
 ·refine⟨g,o,q2,by omega,rdC_of q3 ?_⟩
  obtain⟨_,h5⟩:=q4 _ _ hr
  have:((cur.drop (o+i * 1)).take 1)[0]? = some (.pointer (if(A.get ((i:Int)+1)).isSome then some ⟨M.cb ((i:Int)+1),0,none⟩else none)):=by rw[h5];rfl
  rw[List.getElem?_take]at this
  simpa using this
theorem s_rfUsed (hI:Wk.Inv A) (hB:Bd N A) (hN:N<=1000000000000) (hM:RfIn σ b A M) {K:KH} (hK:K (.agg ⟨[.int .i64 A.ui,.int .i64 A.ub]⟩) σ):callW Tryz.prog 19 [.pointer (some ⟨b,0,none⟩)] K σ:=by
 refine pure_i _ hK (c19 _ ?_)
 clear hK
 unfold g19
 refine al_i ?_;intro b2 σ1 g1 e1 n1
 refine al_i ?_;intro b3 σ2 g2 e2 n2
 refine st_i2 e2 sz_Quota (by rfl) (by rfl) ?_;intro σ3 p3
 have n3:σ b3=none:=none_of g1 n2
 have n23:b2≠b3:=by intro e;rw[<-e,e1]at n2;cases n2
 have k3:σ3 b3=some (.cells ⟨[.int .i64 0,.int .i64 0]⟩ 25 (0,0)):=p3.same
 have k2:σ3 b2=some (.cells ⟨[.int .i64 0,.int .i64 0]⟩ 25 (0,0)):=p3.get n23 (g2.get e1)
 have g3:Gr σ σ3:=(g1.trans g2).putF p3 n3
 clear p3 e1 e2
 refine loop_i ?_
 intro R hR
 obtain⟨u1,u2⟩:=hI.sums
 have hl:=hM.len
 have hlast:=hB.last
 have hub:=hI.bq
 have huq:=hI.uq
 have key : ∀ (c i:Nat) (τ:H),c+i=A.last.toNat->Gr σ τ->τ b2=some (.cells ⟨[.int .i64 0,.int .i64 0]⟩ 25 (0,0))->τ b3=some (.cells ⟨[.int .i64 (sumL (fun _=>1) A.nodes i:Int),.int .i64 (sumL (fun n=>n.data.size) A.nodes i:Int)]⟩ 25 (0,0)) ->
  R (some ⟨b,0,none⟩) (some ⟨b2,0,none⟩) (some ⟨b3,0,none⟩) (i:Int) τ:=by
  intro c
  induction c with
  | zero =>
   intro i τ hc hg k2 k3
   have hMt:=hM.gr hg
   refine hR _ _ _ _ _ ?_
   refine ptr_i (rd_L (rdC_of hMt.top (by rfl)) (br_f (by simp only[decide_eq_false_iff_not];omega) ?_))
   refine ptr_i (rd_G (rdA_of' k3 (by rfl)) ?_)
   (refine app_of rfl ?_;try dsimp only)
   refine st_i2 k2 sz_Quota (by rfl) (by rfl) ?_;intro τ' p
   refine ptr_i (rd_G (rdA_of' p.same (by rfl)) ?_)
   (refine app_of rfl ?_;try dsimp only)
   have hi:i=A.last.toNat:=by omega
   rw[hi,u1,u2]
   exact⟨rfl,hg.putF p n1⟩
  | succ c ih =>
   intro i τ hc hg k2 k3
   have hMt:=hM.gr hg
   obtain⟨gs,os,s1,s2,s3⟩:=hMt.ptr (i:=i) (by omega)
   refine hR _ _ _ _ _ ?_
   refine ptr_i (rd_L (rdC_of hMt.top (by rfl)) (br_t (by simp only[decide_eq_true_eq];omega) ?_))
   refine j_i (fun j => ∀τ',Gr σ τ'->τ' b2=some (.cells ⟨[.int .i64 0,.int .i64 0]⟩ 25 (0,0))->τ' b3=some (.cells ⟨[.int .i64 (sumL (fun _=>1) A.nodes (i+1):Int),.int .i64 (sumL (fun n=>n.data.size) A.nodes (i+1):Int)]⟩ 25 (0,0))->j (some ⟨b,0,none⟩) (some ⟨b2,0,none⟩) (some ⟨b3,0,none⟩) (i:Int) τ') ?_ ?_
   ·intro τ' a1 a2 a3
    rw[wrap_id (x:=(i:Int)+1) (by omega) (by omega)]
    rw[show(i:Int)+1=((i+1:Nat):Int)from by omega]
    exact ih (i+1) τ' (by omega) a1 a2 a3
   intro j hj
   refine ptr_i (rd_L (rdC_of hMt.top (by rfl)) ?_)
   rw[s1]
   refine ptr_i (if_i s2 (rd_P s3 ?_))
   have hm1:=sumL_mono (fun _=>1) A.nodes (n:=i+1) (m:=A.last.toNat) (by omega)
   have hm2:=sumL_mono (fun n=>n.data.size) A.nodes (n:=i+1) (m:=A.last.toNat) (by omega)
   cases hget:A.get ((i:Int)+1) with
   | none =>
    have z1:sumL (fun _=>1) A.nodes (i+1)=sumL (fun _=>1) A.nodes i:=by
     simp only[sumL];rw[show lk ((i:Int)+1) A.nodes=none from hget];rfl
    have z2:sumL (fun n=>n.data.size) A.nodes (i+1)=sumL (fun n=>n.data.size) A.nodes i:=by
     simp only[sumL];rw[show lk ((i:Int)+1) A.nodes=none from hget];rfl
    refine br_f rfl (hj τ hg k2 ?_)
    rw[z1,z2];exact k3
   | some n =>
    have z1:sumL (fun _=>1) A.nodes (i+1)=sumL (fun _=>1) A.nodes i+1:=by
     simp only[sumL];rw[show lk ((i:Int)+1) A.nodes=some n from hget];rfl
    have z2:sumL (fun n=>n.data.size) A.nodes (i+1)=sumL (fun n=>n.data.size) A.nodes i+n.data.size:=by
     simp only[sumL];rw[show lk ((i:Int)+1) A.nodes=some n from hget];rfl
    rw[z1]at hm1
    rw[z2]at hm2
    refine br_t rfl (ptr_i (rd_I (rdC_of k3 (by rfl)) (ptr_i ?_)))
    rw[wrap_id (by omega) (by omega)]
    refine st_i2 k3 sz_int (by rfl) (by rfl) ?_;intro τ1 p1
    have k31:τ1 b3=some (.cells ⟨[.int .i64 ((sumL (fun _=>1) A.nodes i:Int)+1),.int .i64 (sumL (fun n=>n.data.size) A.nodes i:Int)]⟩ 25 (0,0)):=p1.same
    have hg1:=hg.putF p1 n3
    have hM1:=hM.gr hg1
    obtain⟨gs,os,s1,s2,s3⟩:=hM1.ptr (i:=i) (by omega)
    rw[hget]at s3
    refine ptr_i (rd_I (rdC_of k31 (by rfl)) (ptr_i (rd_L (rdC_of hM1.top (by rfl)) ?_)))
    rw[s1]
    refine ptr_i (if_i s2 (rd_P s3 (ptr_i (rd_S (rdC_of (hM1.nod _ _ hget) (by rfl)) (ptr_i ?_)))))
    rw[wrap_id (by omega) (by omega)]
    refine st_i2 k31 sz_int (by rfl) (by rfl) ?_;intro τ2 p2
    refine hj τ2 (hg1.putF p2 n3) (p2.get n23 (p1.get n23 k2)) ?_
    have:=p2.same
    rw[z1,z2]
    have e1:((sumL (fun _=>1) A.nodes i+1:Nat):Int)=(sumL (fun _=>1) A.nodes i:Int)+1:=by omega
    have e2:((sumL (fun n=>n.data.size) A.nodes i+n.data.size:Nat):Int)=(sumL (fun n=>n.data.size) A.nodes i:Int)+((n.data.size:Nat):Int):=by omega
    rw[e1,e2]
    exact this
 exact key A.last.toNat 0 σ3 (by omega) g3 k2 k3
theorem s_rfRoom (hI:Wk.Inv A) (hB:Bd N A) (hN:N<=1000000000000) (hM:RfIn σ b A M) (i n:Int) {K:KH} (hK:K (.bool (A.roomE i n==0)) σ):callW Tryz.prog 93 [.pointer (some ⟨b,0,none⟩),.int .i64 i,.int .i64 n] K σ:=by
 refine pure_i _ hK (c93 _ _ _ ?_)
 clear hK
 unfold g93
 refine call_i (s_rfUsed hI hB hN hM ?_)
 (refine app_of rfl ?_;try dsimp only)
 refine al_i ?_;intro b6 σ1 g1 e1 n1
 refine st_i2 e1 sz_Quota (by rfl) (by rfl) ?_;intro σ2 p2
 have hg:Gr σ σ2:=g1.putF p2 n1
 have hM2:=hM.gr hg
 have k6:σ2 b6=some (.cells ⟨[.int .i64 A.ui,.int .i64 A.ub]⟩ 25 (0,0)):=p2.same
 refine rd_I (rdC_of k6 (by rfl)) (ptr_i (rd_I (rdC_of hM2.top (by rfl)) ?_))
 have hr:(A.roomE i n==0)=(decide (wr (A.ui+i)<=A.qi)&&decide (wr (A.ub+n)<=A.qb)):=by
  unfold AT.roomE
  by_cases h1:wr (A.ui+i)<=A.qi<;>by_cases h2:wr (A.ub+n)<=A.qb<;>simp[h1,h2]
 rw[hr]
 cases h1:decide (wr (A.ui+i)<=A.qi) with
 | true =>
  refine br_t h1 (rd_I (rdC_of k6 (by rfl)) (ptr_i (rd_I (rdC_of hM2.top (by rfl)) ?_)))
  exact⟨rfl,hg⟩
 | false=>exact br_f h1 ⟨rfl,hg⟩
end
theorem s_rfNew (qi qb:Int) {σ:H} {K:KH} (hN:newOk qi qb=false -> ∀σ',Gr σ σ'->K (.pointer none) σ')
 (hK:newOk qi qb=true -> ∀bf σ' D,RfAt σ' bf (newT qi qb) D->Gr σ σ'->(∀c,D c->σ c=none)->K (.pointer (some ⟨bf,0,none⟩)) σ') :
 callW Tryz.prog 36 [.agg ⟨[.int .i64 qi,.int .i64 qb]⟩] K σ:=by
 refine c36 _ _ ?_
 unfold g36
 refine al_i ?_;intro b3 σ1 g1 e1 n1
 refine j_i (fun j => ∀t:Bool,t = !newOk qi qb->j (some ⟨b3,0,none⟩) t σ1) ?_ ?_
 ·intro t ht
  cases t with
  | true=>exact br_t rfl (hN (by cases h:newOk qi qb<;>simp[h]at ht ⊢) σ1 g1)
  | false =>
   refine br_f rfl (ptr_i (rd_G (rdA_of' e1 (by rfl)) ?_))
   (refine app_of rfl ?_;try dsimp only)
   refine al_i ?_;intro b11 σ2 g2 e2 n2
   refine al_i ?_;intro b12 σ3 g3 e3 n3
   refine al_i ?_;intro b13 σ4 g4 e4 n4
   have z11:σ b11=none:=none_of g1 n2
   have z12:σ b12=none:=none_of (g1.trans g2) n3
   have z13:σ b13=none:=none_of ((g1.trans g2).trans g3) n4
   have d1:b11≠b12:=by intro e;rw[<-e,e2]at n3;cases n3
   have d2:b11≠b13:=by intro e;rw[<-e,g3.get e2]at n4;cases n4
   have d3:b12≠b13:=by intro e;rw[<-e,e3]at n4;cases n4
   have hget : ∀i n,(newT qi qb).get i=some n->i=1/\n=⟨2,493,⟨⟨[]⟩⟩,1,1,[]⟩:=by
    intro i n h
    unfold AT.get newT at h
    simp only[lk]at h
    by_cases e:i=1
    ·subst e;simp at h;exact⟨rfl,h.symm⟩
    ·have:(i==1)=false:=by simpa using e
     rw[this]at h;simp at h
   refine hK (by cases h:newOk qi qb<;>simp[h]at ht ⊢) b13 σ4 (fun c=>c=b11\/c=b12\/c=b13) ⟨⟨⟨some ⟨b12,0,none⟩,1,1⟩,fun _=>b11,fun _=>⟨none,0,0⟩,fun c=>if c=b13 then some (0,false)else if c=b12 then some (0,true)else if c=b11 then some (1,false)else none⟩,⟨?_,?_,?_,?_,?_,?_,?_,?_,?_⟩,?_⟩ (((g1.trans g2).trans g3).trans g4) ?_
   ·exact e4
   ·refine⟨rfl,by intro r hr;unfold ptrRow at hr;rw[List.mem_map]at hr;obtain⟨_,_,rfl⟩:=hr;rfl,.inr ⟨b12,[.pointer (some ⟨b11,0,none⟩)],rfl,g4.get e3,rfl,Nat.le_refl _,rfl⟩⟩
   ·intro i n hn
    obtain⟨rfl,rfl⟩:=hget i n hn
    exact(g3.trans g4).get e2
   ·intro i n hn
    obtain⟨rfl,rfl⟩:=hget i n hn
    exact RowsOwn.nil _ _ _
   ·simp
   ·intro g hg
    have hg:some (⟨b12,0,none⟩:Addr)=some ⟨g,0,none⟩:=hg
    injection hg with hg
    injection hg with hg
    subst hg
    simp[d3]
   ·intro i n hn
    obtain⟨rfl,rfl⟩:=hget i n hn
    simp[d1,d2]
   ·intro i n g _ h;cases h
   ·intro c hc
    by_cases h1:c=b13
    ·subst h1;rw[e4];simp
    by_cases h2:c=b12
    ·subst h2;rw[g4.get e3];simp
    by_cases h3:c=b11
    ·subst h3;rw[(g3.trans g4).get e2];simp
    ·simp[h1,h2,h3]at hc
   ·intro c
    by_cases h1:c=b13
    ·simp[h1]
    by_cases h2:c=b12
    ·simp[h2,d3]
    by_cases h3:c=b11
    ·simp[h3,d1,d2]
    ·simp[h1,h2,h3]
   ·rintro c (h | h | h)<;>subst h
    ·exact z11
    ·exact z12
    ·exact z13
 ·intro j hj
  have hnew:(!newOk qi qb)=(decide (qi<1)||(decide (qi>1048576)||(decide (qb<0)||decide (qb>1073741824)))):=by unfold newOk;simp
  rw[hnew]at hj
  refine rd_I (rdC_of e1 (by rfl)) ?_
  by_cases c1:qi<1
  ·exact br_t (by simpa using c1) (hj true (by simp[c1]))
  refine br_f (by simpa using c1) (rd_I (rdC_of e1 (by rfl)) ?_)
  by_cases c2:qi>1048576
  ·exact br_t (by simpa using c2) (hj true (by simp[c2]))
  refine br_f (by simpa using c2) (rd_I (rdC_of e1 (by rfl)) ?_)
  by_cases c3:qb<0
  ·exact br_t (by simpa using c3) (hj true (by simp[c3]))
  refine br_f (by simpa using c3) (rd_I (rdC_of e1 (by rfl)) ?_)
  exact hj _ (by simp[c1,c2,c3])
section
variable {σ σ' : H} {b : Nat} {A : AT} {M : RfM} {N : Nat}
def RfM.setE (M:RfM) (i:Int) (y':Sl):RfM:=⟨M.x,M.cb,fun j=>if j=i then y' else M.ey j,fun c=>if y'.base=some ⟨c,0,none⟩then some (i,true)else M.w c⟩
theorem RfIn.low (h:RfIn σ b A M) (hL:∀i n,A.get i=some n->1<=i) {i:Int} {n:AN} (hn:A.get i=some n):M.cb i≠b/\M.x.base≠some ⟨M.cb i,0,none⟩:=by
 have h1:=h.wn i n hn
 have:=hL i n hn
 refine⟨?_,?_⟩
 ·intro e;rw[e,h.wb]at h1;injection h1 with h1;injection h1 with h1 _;omega
 ·intro e;rw[h.wt _ e]at h1;injection h1 with h1;injection h1 with h1 _;omega
theorem RfIn.setN (h:RfIn σ b A M) (hL:∀i n,A.get i=some n->1<=i) {i:Int} {n n':AN} (hn:A.get i=some n) {y':Sl} (hp:Put σ (M.cb i) (nodeO n' y') σ') (ho:RowsOwn σ 165 2 (eRow n'.ents) y') (hy:∀g,y'.base=some ⟨g,0,none⟩->M.w g=none\/M.w g=some (i,true)):RfIn σ' b (A.set i n') (M.setE i y'):=by
 obtain⟨q1,q2⟩:=h.low hL hn
 have hw:=h.wn i n hn
 have hi1:=hL i n hn
 have hycb:y'.base≠some ⟨M.cb i,0,none⟩:=by
  intro e
  rcases hy _ e with e2 | e2<;>rw[hw]at e2
  ·cases e2
  ·injection e2 with e2;injection e2 with _ e2;cases e2
 have hyw : ∀c r,M.w c=some r->r≠(i,true)->y'.base≠some ⟨c,0,none⟩:=by
  intro c r hc hr e
  rcases hy _ e with e2 | e2<;>rw[hc]at e2
  ·cases e2
  ·injection e2 with e2;exact hr e2
 have hcb : ∀j m,A.get j=some m->j≠i->M.cb j≠M.cb i:=by
  intro j m hm hj e
  have:=h.wn j m hm
  rw[e,hw]at this;injection this with this;injection this with this _;exact hj this.symm
 have hget : ∀j m,(A.set i n').get j=some m->(j=i/\m=n')\/(j≠i/\A.get j=some m):=by
  intro j m hm
  rw[AT.get_set]at hm
  by_cases e:j=i
  ·rw[if_pos e]at hm;exact .inl ⟨e,(Option.some.inj hm).symm⟩
  ·rw[if_neg e]at hm;exact .inr ⟨e,hm⟩
 refine⟨?_,?_,?_,?_,?_,?_,?_,?_,?_⟩
 ·exact hp.get (Ne.symm q1) h.top
 ·have : ptrRow (A.set i n') M.cb = ptrRow A M.cb := by
   unfold ptrRow
   apply List.map_congr_left
   intro k _
   rw[AT.get_set]
   by_cases e:(k:Int)+1=i
   ·rw[if_pos e,e,hn];rfl
   ·rw[if_neg e]
  show RowsOwn σ' 104 1 (ptrRow (A.set i n') M.cb) M.x
  rw[this]
  exact h.tab.put hp q2
 ·intro j m hm
  rcases hget j m hm with⟨e1,e2⟩ | ⟨e1,e2⟩
  ·subst e1;subst e2
   show σ' (M.cb j)=some (nodeO m (if j=j then y' else M.ey j))
   rw[if_pos rfl];exact hp.same
  ·show σ' (M.cb j)=some (nodeO m (if j=i then y' else M.ey j))
   rw[if_neg e1];exact hp.get (hcb j m e2 e1) (h.nod j m e2)
 ·intro j m hm
  rcases hget j m hm with⟨e1,e2⟩ | ⟨e1,e2⟩
  ·subst e1;subst e2
   show RowsOwn σ' 165 2 (eRow m.ents) (if j=j then y' else M.ey j)
   rw[if_pos rfl];exact ho.put hp hycb
  ·show RowsOwn σ' 165 2 (eRow m.ents) (if j=i then y' else M.ey j)
   rw[if_neg e1]
   refine(h.ent j m e2).put hp fun e => ?_
   have:=h.we j m _ e2 e
   rw[hw]at this;injection this with this;injection this with _ this;cases this
 ·show(if y'.base=some ⟨b,0,none⟩then some (i,true)else M.w b)=_
  rw[if_neg (hyw b _ h.wb (by intro e;injection e with e _;omega))];exact h.wb
 ·intro g hg
  show(if y'.base=some ⟨g,0,none⟩then some (i,true)else M.w g)=_
  have:=h.wt g hg
  rw[if_neg (hyw g _ this (by intro e;injection e with e _;omega))];exact this
 ·intro j m hm
  show(if y'.base=some ⟨M.cb j,0,none⟩then some (i,true)else M.w (M.cb j))=_
  have:M.w (M.cb j)=some (j,false):=by
   rcases hget j m hm with⟨e1,e2⟩ | ⟨e1,e2⟩
   ·rw[e1];exact hw
   ·exact h.wn j m e2
  rw[if_neg (hyw _ _ this (by intro e;injection e with _ e;cases e))];exact this
 ·intro j m g hm hg
  show(if y'.base=some ⟨g,0,none⟩then some (i,true)else M.w g)=_
  rcases hget j m hm with⟨e1,e2⟩ | ⟨e1,e2⟩
  ·subst e1
   have hg:(if j=j then y' else M.ey j).base=some ⟨g,0,none⟩:=hg
   rw[if_pos rfl]at hg
   rw[if_pos hg]
  ·have hg:(if j=i then y' else M.ey j).base=some ⟨g,0,none⟩:=hg
   rw[if_neg e1]at hg
   have:=h.we j m g e2 hg
   rw[if_neg (hyw g _ this (by intro e;injection e with e _;exact e1 e))];exact this
 ·intro c hc
  have hc:(if y'.base=some ⟨c,0,none⟩then some (i,true)else M.w c)≠none:=hc
  have hs:σ c≠none:=by
   by_cases e:y'.base=some ⟨c,0,none⟩
   ·exact ho.has e
   ·rw[if_neg e]at hc;exact h.has c hc
  cases ho2:σ c with
  | none=>exact absurd ho2 hs
  | some o =>
   by_cases e:c=M.cb i
   ·rw[e,hp.same];simp
   ·rw[hp.get e ho2];simp
theorem und_REnts:Tryz.prog.underlying 105=some (.slice 165):=by kernel_rfl
theorem info_REntry : ∃i z,Tryz.prog.info? 165=some i/\i.zero=some z/\i.size=2/\i.bytes=24/\z.cells.size=2:=by
 have h1:(Tryz.prog.info? 165).map (fun i=>(i.zero.map (fun z=>z.cells.size),i.size,i.bytes))=some (some 2,2,24):=by kernel_rfl
 cases hi:Tryz.prog.info? 165 with
 | none=>rw[hi]at h1;cases h1
 | some i =>
  rw[hi]at h1
  simp only[Option.map_some,Option.some.injEq,Prod.mk.injEq]at h1
  cases hz:i.zero with
  | none=>rw[hz]at h1;cases h1.1
  | some z =>
   rw[hz]at h1
   exact⟨i,z,rfl,hz,h1.2.1,h1.2.2,by simpa using h1.1⟩
def EntNew (σ0 σ:H) (l:List (List Value)) (y:Sl):Prop:=Gr σ0 σ/\RowsOwn σ 165 2 l y /\ ∀g,y.base=some ⟨g,0,none⟩->σ0 g=none
theorem app_ent {σ0 σ:H} {l:List (List Value)} {y:Sl} {s:ByteArray} {v:Int} {ty:TypeId} {cs:List Bool} (h:EntNew σ0 σ l y) (hl:l.length<1000000000) {F:Sl->H->Prop} (hF:∀y' σ',EntNew σ0 σ' (l++[[.string s,.int .i64 v]]) y'->(∀c o,σ c=some o->y.base≠some ⟨c,0,none⟩->σ' c=some o)->F y' σ') :
 alW (.cells ⟨[.string s,.int .i64 v]⟩ 165 (0,0)) (fun(b48:Nat)=>biW Tryz.prog .append #[105,105] ty cs [.slice y.base y.len y.cap,.slice (some ⟨b48,0,none⟩) 1 1] kL F) σ:=by
 obtain⟨h1,h2,h3⟩:=h
 refine al_i ?_;intro b48 σ1 g1 e1 n1
 obtain⟨i,z,i1,i2,i3,i4,i5⟩:=info_REntry
 refine append_i und_REnts i1 i2 i3 i4 i5 (by decide) (h2.gr g1) e1 rfl (by intro u hu;simp at hu;rcases hu with rfl | rfl<;>rfl) hl (by decide) ?_
 intro y' σ' hy' hcase
 refine hF y' σ' ⟨?_,hy',?_⟩ ?_
 ·rcases hcase with⟨g,o,q1,q2,q3⟩ | ⟨g,q1,q2,q3⟩
  ·exact(h1.trans g1).putF q3 (h3 g q1)
  ·exact(h1.trans g1).trans q3
 ·intro g hg
  rcases hcase with⟨g',o,q1,q2,q3⟩ | ⟨g',q1,q2,q3⟩
  ·rw[q2]at hg;exact h3 g hg
  ·rw[q1]at hg
   injection hg with hg
   injection hg with hg
   subst hg
   exact none_of (h1.trans g1) q2
 ·intro c o hc hne
  rcases hcase with⟨g,o',q1,q2,q3⟩ | ⟨g,q1,q2,q3⟩
  ·exact q3.get (fun e=>hne (by rw[e];exact q1)) (g1.get hc)
  ·exact q3.get (g1.get hc)
theorem sz_REntry:sizeT Tryz.prog 165=some 2:=by kernel_rfl
theorem sz_REnts:sizeT Tryz.prog 105=some 1:=by kernel_rfl
theorem RfIn.slot2 (h:RfIn σ b A M) (hL:∀i n,A.get i=some n->1<=i/\i<=A.last) {d:Int} {n:AN} (hn:A.get (d+1)=some n) : ∃g o,M.x.base=some ⟨g,o,none⟩/\(0<=d/\d<((M.x.len:Nat):Int))/\rdC g (o+d.toNat * 1) σ=some (.pointer (some ⟨M.cb (d+1),0,none⟩)):=by
 obtain⟨l1,l2⟩:=hL _ _ hn
 obtain⟨g,o,h1,h2,h3⟩:=h.ptr (i:=d.toNat) (by omega)
 have e:((d.toNat:Nat):Int)=d:=by omega
 rw[e,hn]at h3
 rw[e]at h2
 exact⟨g,o,h1,h2,h3⟩
theorem rf_at2 (h:RfIn σ b A M) (hL:∀i n,A.get i=some n->1<=i/\i<=A.last) {d:Int} {n:AN} (hn:A.get (d+1)=some n) {F:Nat->Nat->H->Prop} (hF:F (M.cb (d+1)) 0 σ) :
 ptrW (some ⟨b,0,none⟩) (fun(b4 o5:Nat)=>rdT (rdC b4 (o5+2)) kL (fun(x6:Sl)=>ptrW x6.base (fun(b7 o8:Nat)=>ifW (0<=d/\d<((x6.len:Nat):Int)) (rdT (rdC b7 (o8+d.toNat * 1)) kP (fun x9=>ptrW x9 F))))) σ:=by
 obtain⟨g,o,h1,h2,h3⟩:=h.slot2 hL hn
 refine ptr_i (rd_L (rdC_of h.top (by rfl)) ?_)
 rw[h1]
 exact ptr_i (if_i h2 (rd_P h3 (ptr_i hF)))
theorem RfIn.congr (h:RfIn σ b A M) {A':AT} (q1:A'.qi=A.qi) (q2:A'.qb=A.qb) (q3:A'.last=A.last) (hg:∀j,A'.get j=A.get j):RfIn σ b A' M:=by
 refine⟨?_,?_,fun i n hn=>h.nod i n (by rw[<-hg];exact hn),fun i n hn=>h.ent i n (by rw[<-hg];exact hn),h.wb,h.wt,fun i n hn=>h.wn i n (by rw[<-hg];exact hn),fun i n g hn=>h.we i n g (by rw[<-hg];exact hn),h.has⟩
 ·rw[q1,q2];exact h.top
 ·have:ptrRow A' M.cb=ptrRow A M.cb:=by unfold ptrRow;rw[q3];apply List.map_congr_left;intro k _;rw[hg]
  rw[this];exact h.tab
theorem s_rfEnter {dir ino:Int} {nd ni:AN} {name:ByteArray} (hM:RfIn σ b A M) (hL:∀i n,A.get i=some n->1<=i/\i<=A.last) (hz:A.last<=1000000000000) (hd:A.get (dir+1)=some nd) (hi:A.get (ino+1)=some ni) (hne:dir≠ino) (hnk:lk name nd.ents=none) (hnod:(keysL nd.ents).Nodup) (hlen:nd.ents.length<=100000000) {K:KH}
 (hK:∀σ' M',(∀A':AT,A'.qi=A.qi->A'.qb=A.qb->A'.last=A.last->(∀j,A'.get j=if j=ino+1 then some (if ni.kind=2 then { ni with up:=dir+1 }else ni)else if j=dir+1 then some { nd with ents:=up name (ino+1) nd.ents }else A.get j)->RfIn σ' b A' M')->(∀c o,σ c=some o->M.w c=none->σ' c=some o/\M'.w c=none)->K (.tuple ⟨[]⟩) σ') :
 callW Tryz.prog 129 [.pointer (some ⟨b,0,none⟩),.int .i64 dir,.string name,.int .i64 ino] K σ:=by
 refine c129 _ _ _ _ ?_
 unfold g129
 refine loop_i ?_
 intro R hR
 generalize hks:sortN (keysL nd.ents)=ks
 have hkl:ks.length=nd.ents.length:=by rw[<-hks,(sortN_perm _).length_eq];simp[keysL]
 have hke : ∀ {τ:H},RfIn τ b A M->(M.ey (dir+1)).len=ks.length:=by
  intro τ h
  have:=(h.ent _ _ hd).1
  rw[<-hks];simpa[eRow]using this
 have hnm:name∉ks:=by rw[<-hks];intro h;exact(lk_none_iff.1 hnk) ((sortN_perm _).mem_iff.1 h)
 have hT:entR name [.string name,.int .i64 ino] (fun k=>[Value.string k,.int .i64 ((lk k nd.ents).getD 0 - 1)]) false ks=eRow (up name (ino+1) nd.ents):=by
  unfold eRow
  rw[keys_up_none hnk,sortN_snoc,hks,<- entR_eq]
  have e1:[Value.string name,.int .i64 ((lk name (up name (ino+1) nd.ents)).getD 0 - 1)]=[Value.string name,.int .i64 ino]:=by
   rw[lk_up];simp
  rw[e1]
  refine entR_congr _ _ ks false fun k hk => ?_
  have:k≠name:=fun e=>hnm (by rw[<-e];exact hk)
  rw[lk_up]
  have:(k==name)=false:=by simpa using this
  rw[this];rfl
 generalize hTe:eRow (up name (ino+1) nd.ents)=T at hT
 have wnew : ∀c,σ c=none->M.w c=none:=fun c hc=>hM.new hc
 have key : ∀ (c i:Nat) (l:Sl) (done:Bool) (acc:List (List Value)) (τ:H),c+i=ks.length->EntNew σ τ acc l->acc.length<=2 * i->acc++entR name [.string name,.int .i64 ino] (fun k=>[Value.string k,.int .i64 ((lk k nd.ents).getD 0 - 1)]) done (ks.drop i)=T->R (some ⟨b,0,none⟩) dir name ino l done (i:Int) τ:=by
  intro c
  induction c with
  | zero =>
   intro i l done acc τ hc hE hal hacc
   have hMt:=hM.gr hE.1
   have hlen2:=hke hMt
   rw[show ks.drop i=[]from List.drop_eq_nil_of_le (by omega)]at hacc
   refine hR _ _ _ _ _ _ _ _ ?_
   refine rf_at2 hMt hL hd (rd_L (rdC_of (hMt.nod _ _ hd) (by rfl)) (br_f (by simp only[decide_eq_false_iff_not];omega) ?_))
   refine j_i (fun j => ∀l' τ',EntNew σ τ' T l'->j (some ⟨b,0,none⟩) dir ino l' τ') ?_ ?_
   case refine_2 =>
    intro j hj
    cases done with
    | true =>
     have:acc=T:=by simpa[entR]using hacc
     rw[this]at hE
     exact br_f rfl (hj l τ hE)
    | false =>
     refine br_t rfl (app_ent hE (by omega) ?_)
     intro l' τ' hE' _
     have:acc++[[Value.string name,.int .i64 ino]]=T:=by simpa[entR]using hacc
     rw[this]at hE'
     exact hj l' τ' hE'
   intro l' τ' hE'
   have hM':=hM.gr hE'.1
   have hlow : ∀i n,A.get i=some n->1<=i:=fun i n hn=>(hL i n hn).1
   refine rf_at2 hM' hL hd ?_
   refine st_i2 (hM'.nod _ _ hd) sz_REnts (by rfl) (by rfl) ?_;intro τ1 p1
   have p1':Put τ' (M.cb (dir+1)) (nodeO { nd with ents:=up name (ino+1) nd.ents } l') τ1:=p1
   clear p1
   have hM1:=hM'.setN hlow hd (n':={ nd with ents:=up name (ino+1) nd.ents }) (y':=l') p1' (by rw[show eRow ({ nd with ents:=up name (ino+1) nd.ents }:AN).ents=T from hTe];exact hE'.2.1) (fun g hg => .inl (wnew g (hE'.2.2 g hg)))
   have hgi:(A.set (dir+1) { nd with ents:=up name (ino+1) nd.ents }).get (ino+1)=some ni:=by rw[AT.get_set_ne _ _ (by omega)];exact hi
   have hL1 : ∀i n,(A.set (dir+1) { nd with ents:=up name (ino+1) nd.ents }).get i=some n->1<=i/\i<=(A.set (dir+1) { nd with ents:=up name (ino+1) nd.ents }).last:=by
    intro i n hn
    rw[AT.get_set]at hn
    by_cases e:i=dir+1
    ·rw[e];exact hL _ _ hd
    ·rw[if_neg e]at hn;exact hL _ _ hn
   have fr1 : ∀c o,σ c=some o->M.w c=none->τ1 c=some o/\(M.setE (dir+1) l').w c=none:=by
    intro c o hc hw
    have h1:=hE'.1.get hc
    have hcb:c≠M.cb (dir+1):=fun e=>by rw[e,hM.wn _ _ hd]at hw;cases hw
    refine⟨p1'.get hcb h1,?_⟩
    show(if l'.base=some ⟨c,0,none⟩then some (dir+1,true)else M.w c)=none
    rw[if_neg (fun e=>by rw[hE'.2.2 c e]at hc;cases hc)];exact hw
   refine rf_at2 hM1 hL1 hgi (rd_I (rdC_of (hM1.nod _ _ hgi) (by rfl)) ?_)
   by_cases hk2:ni.kind=2
   ·refine br_t (by simpa using hk2) (rf_at2 hM1 hL1 hgi ?_)
    refine st_i2 (hM1.nod _ _ hgi) sz_int (by rfl) (by rfl) ?_;intro τ2 p2
    have p2':Put τ1 ((M.setE (dir+1) l').cb (ino+1)) (nodeO { ni with up:=dir+1 } ((M.setE (dir+1) l').ey (ino+1))) τ2:=by
     have e:upR ({ ni with up:=dir+1 }:AN)=dir:=by
      unfold upR
      rw[if_pos (show({ ni with up:=dir+1 }:AN).kind=2 from hk2)]
      show dir+1 - 1=dir
      omega
     unfold nodeO
     rw[e]
     exact p2
    clear p2
    have hM2:=hM1.setN (fun i n hn=>(hL1 i n hn).1) hgi (n':={ ni with up:=dir+1 }) p2' (show RowsOwn τ1 165 2 (eRow ni.ents) _ from hM1.ent _ _ hgi) (fun g hg => .inr (hM1.we _ _ g hgi hg))
    refine hK τ2 _ (fun A' q1 q2 q3 hg=>hM2.congr q1 q2 q3 fun j => ?_) ?_
    ·rw[hg j,AT.get_set,AT.get_set,if_pos hk2]
    ·intro c o hc hw
     obtain⟨f1,f2⟩:=fr1 c o hc hw
     have hcb:c≠M.cb (ino+1):=fun e=>by rw[e,hM.wn _ _ hi]at hw;cases hw
     refine⟨p2'.get hcb f1,?_⟩
     show(if((M.setE (dir+1) l').ey (ino+1)).base=some ⟨c,0,none⟩then some (ino+1,true)else(M.setE (dir+1) l').w c)=none
     rw[if_neg (fun e=>by rw[hM1.we _ _ c hgi e]at f2;cases f2)];exact f2
   ·refine br_f (by simpa using hk2) (hK τ1 _ (fun A' q1 q2 q3 hg=>hM1.congr q1 q2 q3 fun j => ?_) fr1)
    rw[hg j,AT.get_set,if_neg hk2]
    by_cases e:j=ino+1
    ·rw[if_pos e,e,if_neg (by omega)];exact hi.symm
    ·rw[if_neg e]
  | succ c ih =>
   intro i l done acc τ hc hE hal hacc
   have hMt:=hM.gr hE.1
   have hlen2:=hke hMt
   obtain⟨k,hk⟩ : ∃k,ks[i]? = some k:=⟨_,List.getElem?_eq_getElem (by omega)⟩
   have hdrop:ks.drop i=k::ks.drop (i+1):=by
    rw[List.drop_eq_getElem_cons (by omega)]
    rw[List.getElem?_eq_getElem (by omega)]at hk
    rw[Option.some.inj hk]
   rw[hdrop]at hacc
   obtain⟨gy,oy,q1,_,_,q4⟩:=erow_at (hMt.ent _ _ hd) (by rw[hks];exact hk)
   refine hR _ _ _ _ _ _ _ _ ?_
   refine rf_at2 hMt hL hd (rd_L (rdC_of (hMt.nod _ _ hd) (by rfl)) (br_t (by simp only[decide_eq_true_eq];omega) ?_))
   refine rf_at2 hMt hL hd (rd_L (rdC_of (hMt.nod _ _ hd) (by rfl)) ?_)
   rw[q1]
   have e0:(i:Int).toNat=i:=by omega
   refine ptr_i (if_i ⟨by omega,by show(i:Int)<(((M.ey (dir+1)).len:Nat):Int);omega⟩ (rd_G (by rw[e0];exact q4) ?_))
   (refine app_of rfl ?_;try dsimp only)
   refine al_i ?_;intro b35 τ1 g1 e1 n1
   refine st_i2 e1 sz_REntry (by rfl) (by rfl) ?_;intro τ2 p2
   have g2:Gr τ τ2:=g1.putF p2 n1
   have k35:τ2 b35=some (.cells ⟨[.string k,.int .i64 ((lk k nd.ents).getD 0 - 1)]⟩ 165 (0,0)):=p2.same
   clear p2 e1
   have hE2:EntNew σ τ2 acc l:=⟨hE.1.trans g2,hE.2.1.gr g2,hE.2.2⟩
   have hlb:l.base≠some ⟨b35,0,none⟩:=fun e=>hE.2.1.has e n1
   refine j_i (fun j => ∀ (l':Sl) (done':Bool) (acc':List (List Value)) (τ':H) v1 v2 v3 v4,EntNew σ τ' acc' l'->acc'.length<=2 * i+1->τ' b35=some (.cells ⟨[.string k,.int .i64 ((lk k nd.ents).getD 0 - 1)]⟩ 165 (0,0))->acc'++[.string k,.int .i64 ((lk k nd.ents).getD 0 - 1)]::entR name [.string name,.int .i64 ino] (fun k=>[Value.string k,.int .i64 ((lk k nd.ents).getD 0 - 1)]) done' (ks.drop (i+1))=T->j (some ⟨b,0,none⟩) dir name ino l' done' (i:Int) (some ⟨b35,0,none⟩) v1 v2 v3 v4 τ') ?_ ?_
   ·intro l' done' acc' τ' v1 v2 v3 v4 a1 a2 a3 a4
    refine ptr_i (rd_G (rdA_of' a3 (by rfl)) ?_)
    (refine app_of rfl ?_;try dsimp only)
    refine app_ent a1 (by omega) ?_
    intro l'' τ'' hE'' _
    rw[wrap_id (x:=(i:Int)+1) (by omega) (by omega)]
    rw[show(i:Int)+1=((i+1:Nat):Int)from by omega]
    refine ih (i+1) l'' done' _ τ'' (by omega) hE'' (by rw[List.length_append];simp;omega) ?_
    rw[List.append_assoc];exact a4
   intro j36 h36
   refine j_i (fun j => ∀v1 v2 v3 v4,j (some ⟨b,0,none⟩) dir name ino l done (i:Int) (some ⟨b35,0,none⟩) v1 v2 v3 v4 (!done&&ltB name k) τ2) ?_ ?_
   ·intro v1 v2 v3 v4
    cases ht:(!done&&ltB name k) with
    | false =>
     refine br_f rfl (h36 l done acc τ2 _ _ _ _ hE2 (by omega) k35 ?_)
     unfold entR at hacc
     rw[if_neg (by rw[ht];decide)]at hacc
     exact hacc
    | true =>
     refine br_t rfl (app_ent hE2 (by omega) ?_)
     intro l' τ' hE' hkeep
     refine h36 l' true _ τ' _ _ _ _ hE' (by rw[List.length_append];simp;omega) (hkeep _ _ k35 hlb) ?_
     unfold entR at hacc
     rw[if_pos ht]at hacc
     rw[List.append_assoc];exact hacc
   ·intro j55 h55
    cases done with
    | true=>exact br_f rfl (h55 _ _ _ _)
    | false =>
     refine br_t rfl (rd_S (rdC_of k35 (by rfl)) ?_)
     rw[strLt_eq]
     exact h55 _ _ _ _
 exact key ks.length 0 ⟨none,0,0⟩ false [] σ (by omega) ⟨Gr.refl _,RowsOwn.nil _ _ _,fun g h=>by cases h⟩ (by simp) (by simpa using hT)
end
section
variable {σ σ' : H} {b : Nat} {A : AT} {M : RfM} {N : Nat}
theorem und_RNodes:Tryz.prog.underlying 101=some (.slice 104):=by kernel_rfl
theorem sz_RNodes:sizeT Tryz.prog 101=some 1:=by kernel_rfl
theorem info_PRNode : ∃i z,Tryz.prog.info? 104=some i/\i.zero=some z/\i.size=1/\i.bytes=8/\z.cells.size=1:=by
 have h1:(Tryz.prog.info? 104).map (fun i=>(i.zero.map (fun z=>z.cells.size),i.size,i.bytes))=some (some 1,1,8):=by kernel_rfl
 cases hi:Tryz.prog.info? 104 with
 | none=>rw[hi]at h1;cases h1
 | some i =>
  rw[hi]at h1
  simp only[Option.map_some,Option.some.injEq,Prod.mk.injEq]at h1
  cases hz:i.zero with
  | none=>rw[hz]at h1;cases h1.1
  | some z =>
   rw[hz]at h1
   exact⟨i,z,rfl,hz,h1.2.1,h1.2.2,by simpa using h1.1⟩
def AT.plus (A:AT) (n:AN):AT:={ A with last:=A.last+1,nodes:=up (A.last+1) n A.nodes }
theorem plus_get (A:AT) (n:AN) (j:Int):(AT.plus A n).get j=if j=A.last+1 then some n else A.get j:=by
 unfold AT.plus AT.get;simp only[lk_up]
 by_cases h:j=A.last+1<;>simp[h]
def RfM.plus (M:RfM) (l:Int) (x':Sl) (c13:Nat):RfM:=⟨x',fun j=>if j=l then c13 else M.cb j,fun j=>if j=l then⟨none,0,0⟩else M.ey j,fun c=>if c=c13 then some (l,false)else if x'.base=some ⟨c,0,none⟩then some (0,true)else M.w c⟩
theorem RfIn.plus (h:RfIn σ b A M) (hI:Wk.Inv A) {n:AN} (hne:n.ents=[]) {c13:Nat} {x':Sl} {τ1 τ2:H} (hg:Gr σ σ') (hn13:σ c13=none) (h13:σ' c13=some (nodeO n ⟨none,0,0⟩))
 (hx:RowsOwn τ1 104 1 (ptrRow A M.cb++[[.pointer (some ⟨c13,0,none⟩)]]) x') (hcase:(∃g o,M.x.base=some ⟨g,0,none⟩/\x'.base=M.x.base/\Put σ' g o τ1)\/(∃g,x'.base=some ⟨g,0,none⟩/\σ' g=none/\Gr σ' τ1))
 (hp:Put τ1 b (.cells ⟨[.int .i64 A.qi,.int .i64 A.qb,.slice x'.base x'.len x'.cap]⟩ 103 (0,0)) τ2) :
 RfIn τ2 b (AT.plus A n) (M.plus (A.last+1) x' c13)/\(∀c o,σ c=some o->M.w c=none->τ2 c=some o/\(M.plus (A.last+1) x' c13).w c=none):=by
 have hlow : ∀i n,A.get i=some n->1<=i/\i<=A.last:=hI.low
 have hl0:=hI.last_pos
 have w13:M.w c13=none:=h.new hn13
 have hcb13:c13≠b:=fun e=>by rw[e,h.wb]at w13;cases w13
 -- the new row's block
 have hxw : ∀g,x'.base=some ⟨g,0,none⟩->M.w g=some (0,true)\/(σ' g=none/\M.w g=none):=by
  intro g hg2
  rcases hcase with⟨g',o,q1,q2,q3⟩ | ⟨g',q1,q2,q3⟩
  ·rw[q2]at hg2;exact .inl (h.wt g hg2)
  ·rw[q1]at hg2
   injection hg2 with hg2
   injection hg2 with hg2
   subst hg2
   exact .inr ⟨q2,h.new (none_of hg q2)⟩
 have hxb:x'.base≠some ⟨b,0,none⟩:=by
  intro e
  rcases hxw b e with e2 | ⟨_,e2⟩<;>rw[h.wb]at e2<;>cases e2
 have hx13:x'.base≠some ⟨c13,0,none⟩:=by
  intro e
  rcases hxw c13 e with e2 | ⟨e2,_⟩
  ·rw[w13]at e2;cases e2
  ·rw[h13]at e2;cases e2
 have keep : ∀c o,σ' c=some o->M.w c≠some (0,true)->c≠b->τ2 c=some o:=by
  intro c o hc hw hb
  refine hp.get hb ?_
  rcases hcase with⟨g',o',q1,q2,q3⟩ | ⟨g',q1,q2,q3⟩
  ·exact q3.get (fun e=>hw (by rw[e];exact h.wt g' q1)) hc
  ·exact q3.get hc
 have keepR : ∀i n,A.get i=some n->RowsOwn τ2 165 2 (eRow n.ents) (M.ey i):=by
  intro i m hm
  refine(h.ent i m hm).keep fun g o hg2 ho=>keep g o (hg.get ho) ?_ ?_
  ·rw[h.we i m g hm hg2]
   intro e;injection e with e;injection e with e _;have:=(hlow i m hm).1;omega
  ·intro e;have:=h.we i m g hm hg2;rw[e,h.wb]at this;injection this with this;injection this with _ this;cases this
 have hget : ∀j m,(AT.plus A n).get j=some m->(j=A.last+1/\m=n)\/(j≠A.last+1/\A.get j=some m):=by
  intro j m hm
  rw[plus_get]at hm
  by_cases e:j=A.last+1
  ·rw[if_pos e]at hm;exact .inl ⟨e,(Option.some.inj hm).symm⟩
  ·rw[if_neg e]at hm;exact .inr ⟨e,hm⟩
 have h13':τ2 c13=some (nodeO n ⟨none,0,0⟩):=keep c13 _ h13 (by rw[w13];simp) hcb13
 refine⟨⟨?_,?_,?_,?_,?_,?_,?_,?_,?_⟩,?_⟩
 ·exact hp.same
 ·have : ptrRow (AT.plus A n) (M.plus (A.last + 1) x' c13).cb = ptrRow A M.cb ++ [[.pointer (some ⟨c13, 0, none⟩)]] := by
   unfold ptrRow
   have e1:(AT.plus A n).last.toNat=A.last.toNat+1:=by show(A.last+1).toNat=_;omega
   rw[e1,List.range_succ,List.map_append]
   congr 1
   ·apply List.map_congr_left
    intro k hk
    have hk:k<A.last.toNat:=List.mem_range.1 hk
    rw[plus_get,if_neg (show ¬ ((k:Int)+1=A.last+1)by omega)]
    show [Value.pointer (if(A.get ((k:Int)+1)).isSome then some ⟨(if(k:Int)+1=A.last+1 then c13 else M.cb ((k:Int)+1)),0,none⟩else none)]=_
    rw[if_neg (show ¬ ((k:Int)+1=A.last+1)by omega)]
   ·have e2:((A.last.toNat:Nat):Int)+1=A.last+1:=by omega
    simp only[List.map_cons,List.map_nil,e2,plus_get,if_true]
    show [[Value.pointer (some ⟨(if A.last+1=A.last+1 then c13 else M.cb (A.last+1)),0,none⟩)]]=_
    rw[if_pos rfl]
  show RowsOwn τ2 104 1 (ptrRow (AT.plus A n) (M.plus (A.last+1) x' c13).cb) x'
  rw[this]
  exact hx.put hp hxb
 ·intro j m hm
  rcases hget j m hm with⟨e1,e2⟩ | ⟨e1,e2⟩
  ·subst e1;subst e2
   show τ2 (if A.last+1=A.last+1 then c13 else M.cb (A.last+1))=some (nodeO m (if A.last+1=A.last+1 then⟨none,0,0⟩else M.ey (A.last+1)))
   rw[if_pos rfl,if_pos rfl];exact h13'
  ·show τ2 (if j=A.last+1 then c13 else M.cb j)=some (nodeO m (if j=A.last+1 then⟨none,0,0⟩else M.ey j))
   rw[if_neg e1,if_neg e1]
   obtain⟨l1,_⟩:=h.low (fun i n hn=>(hlow i n hn).1) e2
   refine keep _ _ (hg.get (h.nod j m e2)) ?_ l1
   rw[h.wn j m e2]
   intro e;injection e with e;injection e with _ e;cases e
 ·intro j m hm
  rcases hget j m hm with⟨e1,e2⟩ | ⟨e1,e2⟩
  ·subst e1;subst e2
   show RowsOwn τ2 165 2 (eRow m.ents) (if A.last+1=A.last+1 then⟨none,0,0⟩else M.ey (A.last+1))
   rw[if_pos rfl,hne];exact RowsOwn.nil _ _ _
  ·show RowsOwn τ2 165 2 (eRow m.ents) (if j=A.last+1 then⟨none,0,0⟩else M.ey j)
   rw[if_neg e1];exact keepR j m e2
 ·show(if b=c13 then _ else if x'.base=some ⟨b,0,none⟩then _ else M.w b)=_
  rw[if_neg (Ne.symm hcb13),if_neg hxb];exact h.wb
 ·intro g hg2
  have hg2:x'.base=some ⟨g,0,none⟩:=hg2
  show(if g=c13 then _ else if x'.base=some ⟨g,0,none⟩then _ else M.w g)=_
  rw[if_neg (fun e=>hx13 (by rw[<-e];exact hg2)),if_pos hg2]
 ·intro j m hm
  rcases hget j m hm with⟨e1,e2⟩ | ⟨e1,e2⟩
  ·subst e1
   show(if(if A.last+1=A.last+1 then c13 else M.cb (A.last+1))=c13 then _ else _)=_
   rw[if_pos rfl,if_pos rfl]
  ·have hwj:=h.wn j m e2
   show(if(if j=A.last+1 then c13 else M.cb j)=c13 then _ else if x'.base=some ⟨(if j=A.last+1 then c13 else M.cb j),0,none⟩then _ else M.w (if j=A.last+1 then c13 else M.cb j))=_
   rw[if_neg e1,if_neg (fun e=>by rw[e,w13]at hwj;cases hwj),if_neg (fun e=>by
    rcases hxw _ e with e3 | ⟨_,e3⟩<;>rw[hwj]at e3
    ·injection e3 with e3;injection e3 with _ e3;cases e3
    ·cases e3)]
   exact hwj
 ·intro j m g hm hg2
  rcases hget j m hm with⟨e1,e2⟩ | ⟨e1,e2⟩
  ·subst e1
   have hg2:(if A.last+1=A.last+1 then(⟨none,0,0⟩:Sl)else M.ey (A.last+1)).base=some ⟨g,0,none⟩:=hg2
   rw[if_pos rfl]at hg2;cases hg2
  ·have hg2:(if j=A.last+1 then(⟨none,0,0⟩:Sl)else M.ey j).base=some ⟨g,0,none⟩:=hg2
   rw[if_neg e1]at hg2
   have hwj:=h.we j m g e2 hg2
   have hj1:=(hlow j m e2).1
   show(if g=c13 then _ else if x'.base=some ⟨g,0,none⟩then _ else M.w g)=_
   rw[if_neg (fun e=>by rw[e,w13]at hwj;cases hwj),if_neg (fun e=>by
    rcases hxw _ e with e3 | ⟨_,e3⟩<;>rw[hwj]at e3
    ·injection e3 with e3;injection e3 with e3 _;omega
    ·cases e3)]
   exact hwj
 ·intro c hc
  have hc:(if c=c13 then some (A.last+1,false)else if x'.base=some ⟨c,0,none⟩then some (0,true)else M.w c)≠none:=hc
  by_cases e1:c=c13
  ·rw[e1,h13'];simp
  by_cases e2:c=b
  ·rw[e2,hp.same];simp
  by_cases e3:x'.base=some ⟨c,0,none⟩
  ·exact(hx.put hp hxb).has e3
  ·rw[if_neg e1,if_neg e3]at hc
   have:=h.has c hc
   cases ho:σ c with
   | none=>exact absurd ho this
   | some o =>
    by_cases e4:M.w c=some (0,true)
    ·-- the old row: it stays,or it was the same block
     rcases hcase with⟨g',o',q1,q2,q3⟩ | ⟨g',q1,q2,q3⟩
     ·by_cases e5:c=g'
      ·exfalso;apply e3;rw[q2,q1,e5]
      ·rw[hp.get e2 (q3.get e5 (hg.get ho))];simp
     ·rw[hp.get e2 (q3.get (hg.get ho))];simp
    ·rw[keep c o (hg.get ho) e4 e2];simp
 ·intro c o hc hw
  refine⟨keep c o (hg.get hc) (by rw[hw];simp) (fun e=>by rw[e,h.wb]at hw;cases hw),?_⟩
  show(if c=c13 then some (A.last+1,false)else if x'.base=some ⟨c,0,none⟩then some (0,true)else M.w c)=none
  rw[if_neg (fun e=>by rw[e,hn13]at hc;cases hc),if_neg (fun e=>by
   rcases hxw _ e with e3 | ⟨e3,_⟩
   ·rw[hw]at e3;cases e3
   ·rw[hg.get hc]at e3;cases e3)]
  exact hw
end
section
variable {σ σ' : H} {b : Nat} {A : AT} {M : RfM} {N : Nat}
theorem s_rfMade (hI:Wk.Inv A) (hB:Bd N A) (hN:N<=100000000) (hM:RfIn σ b A M) {d:Int} {name data:ByteArray} {kind mode px:Int} (hdir:A.isDir (d+1)) (hnm:namedE name=0) (hlk:likeE kind mode data=0) (hf:A.find (d+1) name=none) {K:KH}
 (hK:∀σ' M',RfIn σ' b (A.makeR (d+1) name kind mode data).2.2 M'->(∀c o,σ c=some o->M.w c=none->σ' c=some o/\M'.w c=none)->K (.int .i64 (A.makeR (d+1) name kind mode data).2.1) σ') :
 callW Tryz.prog 92 [.pointer (some ⟨b,0,none⟩),.agg ⟨[.int .i64 d,.string name,.int .i64 px]⟩,.int .i64 kind,.int .i64 mode,.string data] K σ:=by
 have hmk:A.makeE (d+1) name kind mode data=A.roomE 1 (data.size:Int):=by
  unfold AT.makeE
  simp only[firstE,AT.dirE_of hdir,hnm,hlk,hf,Option.isSome_none,Bool.false_eq_true,if_false,if_true]
  by_cases h:A.roomE 1 (data.size:Int)=0
  ·rw[if_pos h,h]
  ·rw[if_neg h]
 refine c92 _ _ _ _ _ _ _ ?_
 unfold g92
 refine al_i ?_;intro b8 σ1 g1 e1 n1
 refine call_i (s_rfRoom hI hB (by omega) (hM.gr g1) 1 (data.size:Int) (app_B ?_))
 by_cases hr:A.roomE 1 (data.size:Int)=0
 case neg =>
  have h10:A.roomE 1 (data.size:Int)=10:=by
   unfold AT.roomE at hr ⊢
   split at hr
   ·exact absurd rfl hr
   ·rename_i h;rw[if_neg h]
  refine br_t (by simp[h10]) ?_
  have hmr:A.makeR (d+1) name kind mode data=(0,10,A):=by
   rw[makeR_n (by rw[hmk,h10];decide),hmk,h10]
  have:=hK σ1 M (by rw[hmr];exact hM.gr g1) (fun c o hc hw=>⟨g1.get hc,hw⟩)
  rw[hmr]at this
  exact this
 refine br_f (by simp[hr]) ?_
 have hmz:A.makeE (d+1) name kind mode data=0:=by rw[hmk,hr]
 have hlast:=hB.last
 have hl0:=hI.last_pos
 obtain⟨nd,hnd,hnd2⟩:=hdir
 have hM1:=hM.gr g1
 refine ptr_i (rd_L (rdC_of hM1.top (by rfl)) ?_)
 refine al_i ?_;intro b13 σ2 g2 e2 n2
 refine al_i ?_;intro b14 σ3 g3 e3 n3
 obtain⟨i,z,i1,i2,i3,i4,i5⟩:=info_PRNode
 have hM3:=hM1.gr (g2.trans g3)
 have hplen:(ptrRow A M.cb).length=A.last.toNat:=by simp[ptrRow]
 refine append_i und_RNodes i1 i2 i3 i4 i5 (by decide) hM3.tab e3 rfl (by intro u hu;simp at hu;subst hu;rfl) (by omega) (by decide) ?_
 intro x' τ1 hx hcase
 refine ptr_i ?_
 have htop1:τ1 b=some (.cells ⟨[.int .i64 A.qi,.int .i64 A.qb,.slice M.x.base M.x.len M.x.cap]⟩ 103 (0,0)):=by
  rcases hcase with⟨g,o,q1,q2,q3⟩ | ⟨g,q1,q2,q3⟩
  ·refine q3.get (fun e => ?_) hM3.top
   have:=hM3.wt g q1
   rw[<-e,hM3.wb]at this;injection this with this;injection this with _ this;cases this
  ·exact q3.get hM3.top
 refine st_i2 htop1 sz_RNodes (by rfl) (by rfl) ?_;intro τ2 p2
 have p2':Put τ1 b (.cells ⟨[.int .i64 A.qi,.int .i64 A.qb,.slice x'.base x'.len x'.cap]⟩ 103 (0,0)) τ2:=p2
 clear p2
 have hup:upR (⟨kind,mode,data,1,if kind=2 then 1 else 0,[]⟩:AN)=0:=by
  unfold upR
  by_cases h:kind=2
  ·rw[if_pos h];show(if kind=2 then(1:Int)else 0) - 1=0;rw[if_pos h];rfl
  ·rw[if_neg h]
 have h13:σ3 b13=some (nodeO ⟨kind,mode,data,1,if kind=2 then 1 else 0,[]⟩ ⟨none,0,0⟩):=by
  unfold nodeO
  rw[hup]
  exact g3.get e2
 obtain⟨hP,hPf⟩:=RfIn.plus (n:=⟨kind,mode,data,1,if kind=2 then 1 else 0,[]⟩) hM hI rfl ((g1.trans g2).trans g3) (none_of g1 n2) h13 hx hcase p2'
 -- the place is still there
 have k8:τ2 b8=some (.cells ⟨[.int .i64 d,.string name,.int .i64 px]⟩ 133 (0,0)):=by
  have h3:=(g2.trans g3).get e1
  have hb8:b8≠b:=by intro e;rw[e,hM.top]at n1;cases n1
  refine p2'.get hb8 ?_
  rcases hcase with⟨g,o,q1,q2,q3⟩ | ⟨g,q1,q2,q3⟩
  ·exact q3.get (fun e=>by rw[e]at n1;exact hM.tab.has q1 n1) h3
  ·exact q3.get h3
 refine rd_I (rdC_of k8 (by rfl)) (rd_S (rdC_of k8 (by rfl)) (ptr_i (rd_L (rdC_of p2'.same (by rfl)) ?_)))
 have hxl:x'.len=A.last.toNat+1:=by
  have:=hx.1
  rw[List.length_append,hplen]at this
  simpa using this
 have ew:IntKind.i64.wrap (((x'.len:Nat):Int) - 1)=A.last:=by
  rw[wrap_id (by omega) (by omega)];omega
 show callT _ _ [_,_,_,.int .i64 (IntKind.i64.wrap (((x'.len:Nat):Int) - 1))] _ _ _
 rw[ew]
 have hdl:=hI.low _ _ hnd
 have hd1:(AT.plus A ⟨kind,mode,data,1,if kind=2 then 1 else 0,[]⟩).get (d+1)=some nd:=by rw[plus_get,if_neg (by omega)];exact hnd
 have hd2:(AT.plus A ⟨kind,mode,data,1,if kind=2 then 1 else 0,[]⟩).get (A.last+1)=some ⟨kind,mode,data,1,if kind=2 then 1 else 0,[]⟩:=by rw[plus_get,if_pos rfl]
 have hL2 : ∀i n,(AT.plus A ⟨kind,mode,data,1,if kind=2 then 1 else 0,[]⟩).get i=some n->1<=i/\i<=(AT.plus A ⟨kind,mode,data,1,if kind=2 then 1 else 0,[]⟩).last:=by
  intro i n hn
  rw[plus_get]at hn
  show 1<=i/\i<=A.last+1
  by_cases e:i=A.last+1
  ·omega
  ·rw[if_neg e]at hn;have:=hI.low _ _ hn;omega
 have hfl:lk name nd.ents=none:=by unfold AT.find at hf;rw[hnd]at hf;exact hf
 refine call_i (s_rfEnter hP hL2 (by show A.last+1<=_;omega) hd1 hd2 (by omega) hfl (hI.enod _ _ hnd) (by have:=hB.ents _ _ hnd;omega) ?_)
 intro σ' M' hR hfr
 refine app_U ?_
 have hmr:A.makeR (d+1) name kind mode data=(wr (A.last+1),0,A.made (d+1) name kind mode data):=makeR_z hmz
 have hL62:A.last<4611686018427387904:=by omega
 have:=hK σ' M' (by
  rw[hmr]
  refine hR _ ?_ ?_ ?_ fun j => ?_
  ·show(A.made (d+1) name kind mode data).qi=A.qi;rw[made_eq hI hL62 hnd];rfl
  ·show(A.made (d+1) name kind mode data).qb=A.qb;rw[made_eq hI hL62 hnd];rfl
  ·show(A.made (d+1) name kind mode data).last=A.last+1;rw[made_eq hI hL62 hnd];rfl
  ·show(A.made (d+1) name kind mode data).get j=_
   rw[made_get hI hL62 hnd]
   by_cases e1:j=d+1
   ·rw[if_pos e1,if_neg (by omega),if_pos e1]
   ·rw[if_neg e1]
    by_cases e2:j=A.last+1
    ·rw[if_pos e2,if_pos e2]
     unfold newN
     by_cases h:kind=2
     ·rw[if_pos h];simp[h]
     ·rw[if_neg h]
      have:(kind==2)=false:=by simpa using h
      simp[this,h]
    ·rw[if_neg e2,if_neg e2,if_neg e1,plus_get,if_neg e2]) (fun c o hc hw=>by
  obtain⟨q1,q2⟩:=hPf c o hc hw
  exact hfr c o q1 q2)
 rw[hmr]at this
 exact this
theorem s_rfMkdir (hI:Wk.Inv A) (hB:Bd N A) (hN:N<=100000000) {D:Nat->Prop} (hA:RfAt σ b A D) (cwd path:ByteArray) {K:KH}
 (hK:∀σ' D',RfAt σ' b (A.mkdirF cwd path).2 D'->Sep σ D σ' D'->K (.int .i64 (A.mkdirF cwd path).1) σ') :
 callW Tryz.prog 37 [.pointer (some ⟨b,0,none⟩),.string cwd,.string path] K σ:=by
 obtain⟨M,hM,hD⟩:=hA
 refine c37 _ _ _ ?_
 unfold g37
 refine call_i (s_rfGo hI hB (by omega) hM cwd path false ?_)
 intro σ1 g1
 have hpl:=fun e=>locate_place hI cwd path false e
 have hmk:A.mkdirF cwd path=(let r:=A.locate cwd path false
  if r.1≠0 then(r.1,A)else if r.2.there=true then(6,A)else if(A.deep 13 r.2.dir).getD 0>=12 then(3,A)else let m:=A.makeR r.2.dir r.2.name 2 493 ⟨⟨[]⟩⟩;(m.2.1,m.2.2)):=by
  unfold AT.mkdirF AT.freshP
  simp only
  by_cases h:(A.locate cwd path false).1=0
  ·simp only[h,ne_eq,not_true_eq_false,if_false]
   cases h2:(A.locate cwd path false).2.there<;>simp
  ·simp[h]
 generalize A.locate cwd path false=r at hpl hmk ⊢
 obtain⟨e,p⟩:=r
 simp only at hmk
 have same : ∀ (τ:H) (x:Int),A.mkdirF cwd path=(x,A)->Gr σ τ->K (.int .i64 x) τ:=by
  intro τ x hx hg
  rw[hx]at hK
  exact hK τ D ⟨M,hM.gr hg,hD⟩ (Sep.gr hg)
 unfold plL
 by_cases he:e=0
 case neg =>
  rw[if_neg he]
  unfold plZ
  (refine app_of rfl ?_;try dsimp only)
  refine al_i ?_;intro b8 σ2 g2 e2 n2
  refine st_i2 e2 sz_RPlace (by rfl) (by rfl) ?_;intro σ3 p3
  refine br_t (by simpa using he) (same σ3 e (by rw[hmk,if_pos he]) (g1.trans (g2.putF p3 n2)))
 subst he
 rw[if_pos rfl]
 rw[if_neg (by decide)]at hmk
 unfold plV
 (refine app_of rfl ?_;try dsimp only)
 refine al_i ?_;intro b8 σ2 g2 e2 n2
 refine st_i2 e2 sz_RPlace (by rfl) (by rfl) ?_;intro σ3 p3
 have hg3:Gr σ σ3:=g1.trans (g2.putF p3 n2)
 have k8:σ3 b8=some (.cells ⟨[.int .i64 (p.dir - 1),.string p.name,.int .i64 (if p.there then p.ino - 1 else -1)]⟩ 133 (0,0)):=p3.same
 have hM3:=hM.gr hg3
 have hP:PlOk A p:=hpl rfl
 refine br_f rfl (rd_I (rdC_of k8 (by rfl)) ?_)
 cases ht:p.there with
 | true =>
  obtain⟨n,hn⟩:=PlOk.get hI hP ht
  have hlow:=(hI.low _ _ hn).1
  rw[if_pos ht]at hmk
  refine br_t (by simp;omega) (same σ3 6 hmk hg3)
 | false =>
  rw[if_neg (by rw[ht];decide)]at hmk
  have hdir:A.isDir p.dir:=hP.1
  obtain⟨x,x1,_,x3,x4⟩:=hI.deep13 hdir
  have hd11:p.dir - 1+1=p.dir:=by omega
  refine br_f rfl (rd_I (rdC_of k8 (by rfl)) (call_i (s_rfDeep hM3 hI (d:=p.dir - 1) (by rw[hd11];exact hdir) (by rw[hd11];exact x1) (app_I ?_))))
  rw[x1]at hmk
  simp only[Option.getD_some]at hmk
  by_cases hx:x>=12
  ·rw[if_pos hx]at hmk
   exact br_t (by simpa using hx) (same σ3 3 hmk hg3)
  ·rw[if_neg hx]at hmk
   refine br_f (by simpa using hx) (rd_G (rdA_of' k8 (by rfl)) ?_)
   (refine app_of rfl ?_;try dsimp only)
   obtain⟨nm,fd⟩:=hP.named (hP.notThere ht)
   rw[if_neg (by rw[ht];decide)]at fd
   refine call_i (s_rfMade hI hB hN hM3 (d:=p.dir - 1) (by rw[hd11];exact hdir) nm (by unfold likeE kindOkE;simp[lk,sEq_self]) (by rw[hd11];exact fd) ?_)
   intro σ' M' hR hfr
   rw[hd11]at hR ⊢
   rw[hmk]at hK
   refine app_I (hK σ' (fun c=>M'.w c≠none) ⟨M',hR,fun c=>Iff.rfl⟩ ?_)
   intro c o hc hn
   have hw:M.w c=none:=by
    cases h:M.w c with
    | none=>rfl
    | some r=>exact absurd ((hD c).2 (by rw[h];simp)) hn
   obtain⟨q1,q2⟩:=hfr c o (hg3.get hc) hw
   exact⟨q1,fun h=>h q2⟩
end
section
variable {σ σ' : H} {b : Nat} {A : AT} {M : RfM} {N : Nat}
theorem Sep.of_frame {D:Nat->Prop} {M M':RfM} (hD:∀c,D c↔M.w c≠none) (h:∀c o,σ c=some o->M.w c=none->σ' c=some o/\M'.w c=none):Sep σ D σ' (fun c=>M'.w c≠none):=by
 intro c o hc hn
 have hw:M.w c=none:=by
  cases h:M.w c with
  | none=>rfl
  | some r=>exact absurd ((hD c).2 (by rw[h];simp)) hn
 obtain⟨q1,q2⟩:=h c o hc hw
 exact⟨q1,fun h=>h q2⟩
theorem s_rfWrite (hI:Wk.Inv A) (hB:Bd N A) (hN:N<=100000000) {D:Nat->Prop} (hA:RfAt σ b A D) (cwd path data:ByteArray) (more:Bool) (hz:data.size<=1000000000000000) {K:KH}
 (hK:∀σ' D',RfAt σ' b (A.writeF cwd path data more).2 D'->Sep σ D σ' D'->K (.int .i64 (A.writeF cwd path data more).1) σ') :
 callW Tryz.prog 38 [.pointer (some ⟨b,0,none⟩),.string cwd,.string path,.string data,.bool more] K σ:=by
 obtain⟨M,hM,hD⟩:=hA
 refine c38 _ _ _ _ _ ?_
 unfold g38
 refine call_i (s_rfGo hI hB (by omega) hM cwd path true ?_)
 intro σ1 g1
 have hpl:=fun e=>locate_place hI cwd path true e
 have hnl:=fun e t=>locate_nolink hI cwd path e t
 have hmk:A.writeF cwd path data more=(let r:=A.locate cwd path true
  if r.1≠0 then(r.1,A)else if r.2.there=false then(let m:=A.makeR r.2.dir r.2.name 1 420 data;(m.2.1,m.2.2))else if A.kind r.2.ino=2 then(7,A)else A.writeR r.2.ino (if more then A.data r.2.ino++data else data)):=rfl
 generalize A.locate cwd path true=r at hpl hmk hnl ⊢
 obtain⟨e,p⟩:=r
 simp only at hmk
 have same : ∀ (τ:H) (x:Int),A.writeF cwd path data more=(x,A)->Gr σ τ->K (.int .i64 x) τ:=by
  intro τ x hx hg
  rw[hx]at hK
  exact hK τ D ⟨M,hM.gr hg,hD⟩ (Sep.gr hg)
 unfold plL
 by_cases he:e=0
 case neg =>
  rw[if_neg he]
  unfold plZ
  (refine app_of rfl ?_;try dsimp only)
  refine al_i ?_;intro b8 σ2 g2 e2 n2
  refine st_i2 e2 sz_RPlace (by rfl) (by rfl) ?_;intro σ3 p3
  refine br_t (by simpa using he) (same σ3 e (by rw[hmk,if_pos he]) (g1.trans (g2.putF p3 n2)))
 subst he
 rw[if_pos rfl]
 rw[if_neg (by decide)]at hmk
 unfold plV
 (refine app_of rfl ?_;try dsimp only)
 refine al_i ?_;intro b8 σ2 g2 e2 n2
 refine st_i2 e2 sz_RPlace (by rfl) (by rfl) ?_;intro σ3 p3
 have hg3:Gr σ σ3:=g1.trans (g2.putF p3 n2)
 have k8:σ3 b8=some (.cells ⟨[.int .i64 (p.dir - 1),.string p.name,.int .i64 (if p.there then p.ino - 1 else -1)]⟩ 133 (0,0)):=p3.same
 have hM3:=hM.gr hg3
 have hP:PlOk A p:=hpl rfl
 refine br_f rfl (rd_I (rdC_of k8 (by rfl)) ?_)
 cases ht:p.there with
 | false =>
  rw[if_pos ht]at hmk
  have hdir:A.isDir p.dir:=hP.1
  have hd11:p.dir - 1+1=p.dir:=by omega
  refine br_t rfl (rd_G (rdA_of' k8 (by rfl)) ?_)
  (refine app_of rfl ?_;try dsimp only)
  obtain⟨nm,fd⟩:=hP.named (hP.notThere ht)
  rw[if_neg (by rw[ht];decide)]at fd
  refine call_i (s_rfMade hI hB hN hM3 (d:=p.dir - 1) (by rw[hd11];exact hdir) nm (by unfold likeE kindOkE;simp[lk]) (by rw[hd11];exact fd) ?_)
  intro σ' M' hR hfr
  rw[hd11]at hR ⊢
  rw[hmk]at hK
  refine app_I (hK σ' (fun c=>M'.w c≠none) ⟨M',hR,fun c=>Iff.rfl⟩ (Sep.of_frame hD fun c o hc hw=>hfr c o (hg3.get hc) hw))
 | true =>
  obtain⟨n,hn⟩:=PlOk.get hI hP ht
  have hlow:=(hI.low _ _ hn).1
  have hkn:A.kind p.ino=n.kind:=by unfold AT.kind;rw[hn];rfl
  have hdat:A.data p.ino=n.data:=by unfold AT.data;rw[hn];rfl
  have hnl:=hnl rfl ht
  rw[if_neg (by rw[ht];decide),hkn,hdat]at hmk
  rw[hkn]at hnl
  rw[if_pos ht]at k8
  have h11:p.ino - 1+1=p.ino:=by omega
  obtain⟨gs,os,s1,s2,s3⟩:=hM3.slot hI (d:=p.ino - 1) (n:=n) (by rw[h11];exact hn)
  rw[h11]at s3
  rw[if_pos rfl]
  refine br_f (by simp only[decide_eq_false_iff_not];omega) (ptr_i (rd_L (rdC_of hM3.top (by rfl)) (rd_I (rdC_of k8 (by rfl)) ?_)))
  rw[s1]
  refine ptr_i (if_i s2 (rd_P s3 (ptr_i (rd_I (rdC_of (hM3.nod _ _ hn) (by rfl)) ?_))))
  by_cases hk2:n.kind=2
  ·rw[if_pos hk2]at hmk
   exact br_t (by simpa using hk2) (same σ3 7 hmk hg3)
  rw[if_neg hk2]at hmk
  have hk1:n.kind=1:=by
   rcases kind_cases (hI.like _ _ hn)with h | h | h
   ·exact h
   ·exact absurd h hk2
   ·exact absurd h hnl
  have hsz:=hI.size_le hn
  have hbq:=hI.bq
  refine br_f (by simpa using hk2) ?_
  refine j_i (fun j => ∀s:ByteArray,s=(if more then n.data++data else data)->j (some ⟨b,0,none⟩) s (some ⟨M.cb p.ino,0,none⟩) σ3) ?_ ?_
  case refine_2 =>
   intro j hj
   cases more with
   | true =>
    refine br_t rfl (ptr_i (rd_S (rdC_of (hM3.nod _ _ hn) (by rfl)) (if_i (by omega) (hj _ rfl))))
   | false=>exact br_f rfl (hj _ rfl)
  intro s hs
  rw[<-hs]at hmk
  have hss:s.size<=2000000000000000:=by
   rw[hs]
   cases more with
   | true=>rw[if_pos rfl,ByteArray.size_append];omega
   | false=>rw[if_neg (by decide)];omega
  refine ptr_i (rd_S (rdC_of (hM3.nod _ _ hn) (by rfl)) ?_)
  refine call_i (s_rfRoom hI hB (by omega) hM3 0 _ (app_B ?_))
  have hwe:A.writeE p.ino s=A.roomE 0 (IntKind.i64.wrap (((s.size:Nat):Int) - ((n.data.size:Nat):Int))):=by
   have hfe:A.fileE p.ino=0:=by unfold AT.fileE;rw[hn];simp[hk1]
   unfold AT.writeE
   rw[hn]
   simp only[firstE,hfe,if_true,Option.map_some,Option.getD_some]
   show(if A.roomE 0 (wr (((s.size:Nat):Int) - ((n.data.size:Nat):Int)))=0 then 0 else A.roomE 0 (wr (((s.size:Nat):Int) - ((n.data.size:Nat):Int))))=_
   by_cases h:A.roomE 0 (wr (((s.size:Nat):Int) - ((n.data.size:Nat):Int)))=0
   ·rw[if_pos h];exact h.symm
   ·rw[if_neg h];rfl
  by_cases hr:A.roomE 0 (IntKind.i64.wrap (((s.size:Nat):Int) - ((n.data.size:Nat):Int)))=0
  case neg =>
   have h10:A.roomE 0 (IntKind.i64.wrap (((s.size:Nat):Int) - ((n.data.size:Nat):Int)))=10:=by
    unfold AT.roomE at hr ⊢
    split at hr
    ·exact absurd rfl hr
    ·rename_i h;rw[if_neg h]
   refine br_t (by simp[h10]) (same σ3 10 ?_ hg3)
   rw[hmk];unfold AT.writeR
   rw[if_neg (by rw[hwe];exact hr),hwe,h10]
  ·refine br_f (by simp[hr]) (ptr_i ?_)
   refine st_i2 (hM3.nod _ _ hn) sz_string (by rfl) (by rfl) ?_;intro σ4 p4
   have p4':Put σ3 (M.cb p.ino) (nodeO { n with data:=s } (M.ey p.ino)) σ4:=p4
   have hlow2 : ∀i n,A.get i=some n->1<=i:=fun i n hn=>(hI.low i n hn).1
   have hM4:=hM3.setN hlow2 hn (n':={ n with data:=s }) (y':=M.ey p.ino) p4' (show RowsOwn σ3 165 2 (eRow n.ents) _ from hM3.ent _ _ hn) (fun g hg => .inr (hM3.we _ _ g hn hg))
   have hw0:A.writeF cwd path data more=(0,A.written p.ino s):=by
    rw[hmk];unfold AT.writeR;rw[if_pos (by rw[hwe];exact hr)]
   rw[hw0]at hK
   refine hK σ4 (fun c=>(M.setE p.ino (M.ey p.ino)).w c≠none) ⟨_,hM4.congr ?_ ?_ ?_ ?_,fun c=>Iff.rfl⟩ (Sep.of_frame hD fun c o hc hw => ?_)
   ·unfold AT.written;rw[hn]
   ·unfold AT.written;rw[hn]
   ·unfold AT.written;rw[hn]
   ·intro j;unfold AT.written;rw[hn];rfl
   ·have hcb:c≠M.cb p.ino:=fun e=>by rw[e,hM.wn _ _ hn]at hw;cases hw
    refine⟨p4'.get hcb (hg3.get hc),?_⟩
    show(if(M.ey p.ino).base=some ⟨c,0,none⟩then some (p.ino,true)else M.w c)=none
    rw[if_neg (fun e=>by rw[hM.we _ _ c hn e]at hw;cases hw)];exact hw
end
end Go.Proofs.YtbdlkofldmhoaaaGreatDoor

