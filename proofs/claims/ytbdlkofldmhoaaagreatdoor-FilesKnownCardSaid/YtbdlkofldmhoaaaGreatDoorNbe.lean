/- A part of the proof: FilesKnown holds. -/
import Derived.Test.YtbdlkofldmhoaaaGreatDoorNbd
import Derived.Stop.IfaceNil
set_option maxRecDepth 100000
namespace Go.Proofs.YtbdlkofldmhoaaaGreatDoor
open Go Go.HL Go.Wk
def dnF (d:Dn):List Value:=[.string d.out,.string d.err,.int .i64 d.st]
theorem right_def {nm:ByteArray} (got:ByteArray) (names:List ByteArray) (hc:sEq nm ⟨⟨[99,104,109,111,100]⟩⟩=false):rightP nm got names =
 if sEq nm ⟨⟨[108,110]⟩⟩then names.length==2
 else if sEq nm ⟨⟨[109,118]⟩⟩||sEq nm ⟨⟨[99,112]⟩⟩then Nat.ble 2 names.length
 else if sEq nm ⟨⟨[114,109]⟩⟩then Nat.ble 1 names.length||hasL got 102
 else if sEq nm ⟨⟨[108,115]⟩⟩then true
 else Nat.ble 1 names.length:=by
 unfold rightP
 rw[hc];rfl
theorem ble_dec (k n:Nat):decide (((n:Nat):Int)>=((k:Nat):Int))=Nat.ble k n:=by
 rw[Bool.eq_iff_iff,decide_eq_true_eq,Nat.ble_eq];omega
attribute [local irreducible] ptrW ifW brW andW rdT alW letJ stW muW biW vaW imW callT cvalT app callW invW callVW sizeT oW nilF oneK loopW rfW funW begW roundK exW idxW Gr Put
section
variable {σ τ : H} {bt : Nat} {C : TlC} {got : ByteArray} {y : Sl} {s : TS} {B : Nat -> Prop} {names : List ByteArray}
theorem s_fiRight (h:TlAt σ bt C got y s B) (hyl:y.len=names.length) (hc:sEq C.nm ⟨⟨[99,104,109,111,100]⟩⟩=false) {K:KH} (hK:K (.bool (rightP C.nm got names)) σ):callW Tryz.prog 52 [.pointer (some ⟨bt,0,none⟩)] K σ:=by
 refine c52 _ ?_
 unfold g52
 rw[right_def got names hc]at hK
 refine ptr_i (rd_Y (y:=y) (rdC_of h.cell (by rfl)) (ptr_i (rd_S (rdC_of h.cell (by rfl)) ?_)))
 rw[hyl]
 simp only[<-sEq_eq]
 cases h1:sEq C.nm ⟨⟨[108,110]⟩⟩ with
 | true =>
  rw[h1,if_pos rfl]at hK
  refine br_t rfl ?_
  have:((((names.length:Nat):Int):Int)==2)=(names.length==2):=by
   rw[Bool.eq_iff_iff];simp only[beq_iff_eq];omega
  rw[this];exact hK
 | false =>
 rw[h1,if_neg (by simp)]at hK
 refine br_f rfl (j_i (fun j => ∀b:Bool,b=(sEq C.nm ⟨⟨[109,118]⟩⟩||sEq C.nm ⟨⟨[99,112]⟩⟩)->j (some ⟨bt,0,none⟩) ((names.length:Nat):Int) C.nm b σ) ?_ ?_)
 ·intro b hb
  rw[<-hb]at hK
  cases b with
  | true =>
   rw[if_pos rfl]at hK
   refine br_t rfl ?_
   rw[show decide ((((names.length:Nat):Int):Int)>=2)=Nat.ble 2 names.length from ble_dec 2 _]
   exact hK
  | false =>
   rw[if_neg (by simp)]at hK
   refine br_f rfl (br_f hc ?_)
   cases h2:sEq C.nm ⟨⟨[114,109]⟩⟩ with
   | true =>
    rw[h2,if_pos rfl]at hK
    refine br_t rfl ?_
    cases h3:Nat.ble 1 names.length with
    | true =>
     rw[h3,Bool.true_or]at hK
     exact br_t ((ble_dec 1 _).trans h3) hK
    | false =>
     rw[h3,Bool.false_or]at hK
     exact br_f ((ble_dec 1 _).trans h3) (call_i (s_fiHas h 102 (app_B hK)))
   | false =>
    rw[h2,if_neg (by simp)]at hK
    refine br_f rfl ?_
    cases h3:sEq C.nm ⟨⟨[108,115]⟩⟩ with
    | true=>rw[h3,if_pos rfl]at hK;exact br_t rfl hK
    | false =>
     rw[h3,if_neg (by simp)]at hK
     refine br_f rfl ?_
     rw[show decide ((((names.length:Nat):Int):Int)>=1)=Nat.ble 1 names.length from ble_dec 1 _]
     exact hK
 ·intro j hj
  cases h2:sEq C.nm ⟨⟨[109,118]⟩⟩ with
  | true=>exact br_t rfl (hj _ (by rw[h2];rfl))
  | false=>exact br_f rfl (hj _ (by rw[h2];rfl))
end
theorem und_MSFu:Tryz.prog.underlying 86=some (.map 9 1):=by kernel_rfl
theorem und_MSS:Tryz.prog.underlying 87=some (.map 9 9):=by kernel_rfl
theorem sz_DoneF:sizeT Tryz.prog 43=some 3:=by kernel_rfl
def doL (b:Nat):List (ByteArray×Value):=[(⟨⟨[109,107,100,105,114]⟩⟩,.func (.func 42) ⟨[.pointer (some ⟨b,0,none⟩)]⟩ ⟨[]⟩),(⟨⟨[114,109,100,105,114]⟩⟩,.func (.func 43) ⟨[.pointer (some ⟨b,0,none⟩)]⟩ ⟨[]⟩),(⟨⟨[116,111,117,99,104]⟩⟩,.func (.func 44) ⟨[.pointer (some ⟨b,0,none⟩)]⟩ ⟨[]⟩),(⟨⟨[99,104,109,111,100]⟩⟩,.func (.func 45) ⟨[.pointer (some ⟨b,0,none⟩)]⟩ ⟨[]⟩),(⟨⟨[108,110]⟩⟩,.func (.func 46) ⟨[.pointer (some ⟨b,0,none⟩)]⟩ ⟨[]⟩),(⟨⟨[114,109]⟩⟩,.func (.func 47) ⟨[.pointer (some ⟨b,0,none⟩)]⟩ ⟨[]⟩),(⟨⟨[109,118]⟩⟩,.func (.func 48) ⟨[.pointer (some ⟨b,0,none⟩)]⟩ ⟨[]⟩),(⟨⟨[99,112]⟩⟩,.func (.func 49) ⟨[.pointer (some ⟨b,0,none⟩)]⟩ ⟨[]⟩),(⟨⟨[108,115]⟩⟩,.func (.func 50) ⟨[.pointer (some ⟨b,0,none⟩)]⟩ ⟨[]⟩)]
theorem doL_nd (b:Nat):((doL b).map fun x=>x.1.data.toList).Nodup:=by
 have e:(doL b).map (fun x=>x.1.data.toList)=toolsL.map fun x=>x.data.toList:=rfl
 rw[e];decide +kernel
theorem doL_none (b:Nat) {nm:ByteArray} (h:toolsL.any (fun t=>sEq nm t)=false):lk nm (doL b)=none:=by
 unfold toolsL at h
 simp only[List.any_cons,List.any_nil,Bool.or_false,Bool.or_eq_false_iff]at h
 obtain⟨h1,h2,h3,h4,h5,h6,h7,h8,h9⟩:=h
 unfold doL
 simp only[lkS]
 rw[h1,h2,h3,h4,h5,h6,h7,h8,h9]
 rfl
def letL:List (ByteArray×Value):=[(⟨⟨[109,107,100,105,114]⟩⟩,.string ⟨⟨[112]⟩⟩),(⟨⟨[108,110]⟩⟩,.string ⟨⟨[115,102]⟩⟩),(⟨⟨[114,109]⟩⟩,.string ⟨⟨[114,102]⟩⟩),(⟨⟨[109,118]⟩⟩,.string ⟨⟨[102]⟩⟩),(⟨⟨[99,112]⟩⟩,.string ⟨⟨[114]⟩⟩),(⟨⟨[108,115]⟩⟩,.string ⟨⟨[97,49]⟩⟩)]
theorem letL_get (q:ByteArray):(lk q letL).getD (.string ⟨⟨[]⟩⟩) = .string (lettersP q):=by
 unfold letL lettersP
 simp only[lkS]
 split
 ·rfl
 split
 ·rfl
 split
 ·rfl
 split
 ·rfl
 split
 ·rfl
 split
 ·rfl
 rfl
theorem mul_rdF {σ:H} {b:Nat} {l:List (ByteArray×Value)} (h:MapAt σ b (encL kkS (fun v:Value=>v) l)) (z:Value) (q:ByteArray):rdM .string z false (some b) (.string q) σ=some ((lk q l).getD z):=by
 have:=rdM_at (kk:=kkS) h z false q
 rw[Option.map_id']at this
 exact this
theorem letters_ok (nm:ByteArray):(lettersP nm).data.toList.length<=100 /\ ∀c∈(lettersP nm).data.toList,c.toNat<128:=by
 unfold lettersP
 split
 ·exact⟨by decide,by decide⟩
 split
 ·exact⟨by decide,by decide⟩
 split
 ·exact⟨by decide,by decide⟩
 split
 ·exact⟨by decide,by decide⟩
 split
 ·exact⟨by decide,by decide⟩
 split
 ·exact⟨by decide,by decide⟩
 exact⟨by decide,by decide⟩
theorem files_def {A:AT} {cwd nm:ByteArray} {args:List ByteArray} (ht:toolsL.any (fun t=>sEq nm t)=true) (hc:sEq nm ⟨⟨[99,104,109,111,100]⟩⟩=false):A.filesP cwd nm args=match optsP (lettersP nm) args ⟨⟨[]⟩⟩ with
 | none=>some (usageP nm,A)
 | some (got,names)=>if rightP nm got names then some (⟨(doP A nm cwd got names).out,(doP A nm cwd got names).err,(doP A nm cwd got names).st⟩,(doP A nm cwd got names).A)else some (usageP nm,A):=by
 unfold AT.filesP
 rw[if_pos ht,hc]
 rfl
theorem app_RBm {v:Value} {x:Bool} {F:Value->Bool->H->Prop} {σ:H} (h2:F v x σ):HL.app (.tup [.sc .raw,.sc .bool]) F (.tuple ⟨[v,.bool x]⟩) σ:=by
 unfold HL.app;exact h2
section
variable {σ τ : H} {bf : Nat} {A : AT} {B : Nat -> Prop}
theorem s_fiNone (hF:FsAt σ bf A B) (nm inn cwd:ByteArray) {x:Sl} (ht:toolsL.any (fun t=>sEq nm t)=false) {K:KH} (hK:K (.tuple ⟨[.agg ⟨dnF ⟨⟨⟨[]⟩⟩,⟨⟨[]⟩⟩,0⟩⟩,.bool false]⟩) σ) :
 callW Tryz.prog 16 [.pointer (some ⟨bf,0,none⟩),.agg ⟨[.string nm,.slice x.base x.len x.cap,.string inn,.string cwd]⟩] K σ:=by
 refine pure_i _ hK (c16 _ _ _ _ _ ?_)
 clear hK
 unfold g16
 refine al_i ?_;intro b6 σ1 g1 e1 n1
 refine al_i ?_;intro b7 σ2 g2 e2 n2
 have k6:=g2.get e1
 have f7:σ b7=none:=none_of g1 n2
 refine rd_G (rdA_of' k6 (by rfl)) ?_
 (refine app_of rfl ?_;try dsimp only)
 refine al_i ?_;intro b12 σ3 g3 e3 n3
 refine mul_i und_MSFu und_string (doL b12) (doL_nd b12) ?_
 intro bm σ4 g4 n4 hm
 have G4:Gr σ σ4:=((g1.trans g2).trans g3).trans g4
 refine rd_S (rdC_of (g4.get (g3.get k6)) (by rfl)) (rd_G (mul_rd hm .nilFunc nm) ?_)
 rw[doL_none b12 ht]
 refine app_RBm (br_t rfl ?_)
 refine st_i2 (g4.get (g3.get e2)) sz_DoneF (by rfl) (by rfl) ?_;intro τ2 p2
 refine rd_G (rdA_of' p2.same (by rfl)) ?_
 (refine app_of rfl ?_;try dsimp only)
 exact⟨rfl,G4.putF p2 f7⟩
theorem s_fiRun {f:FuncId} {Q:AT->Prop} (hF:FsAt σ bf A B) (hO:Off τ σ B) (nm inn cwd:ByteArray) {x:Sl} {args:List ByteArray} (hx:RowsAt τ 1 (strRows args) x) (hcap:x.len<=x.cap) (hn:nm.size<=1000) (ha:∀a∈args,a.size<=1000) (hl:args.length<=1000)
 (ht:toolsL.any (fun t=>sEq nm t)=true) (hc:sEq nm ⟨⟨[99,104,109,111,100]⟩⟩=false) (hgo:isGo Tryz.prog f=true) (hlk:∀b,lk nm (doL b)=some (.func (.func f) ⟨[.pointer (some ⟨b,0,none⟩)]⟩ ⟨[]⟩)) (hQ:Q A)
 (hdo:∀got names y bt σ1 B1 τ1,optsP (lettersP nm) args ⟨⟨[]⟩⟩=some (got,names)->rightP nm got names=true->TlAt σ1 bt ⟨nm,inn,cwd,x,bf⟩ got y (TS.new A) B1->Off τ1 σ1 B1->RowsAt τ1 1 (strRows names) y->y.len<=y.cap -> ∀K:Value->H->Prop,
  (∀σ' B' y',TlAt σ' bt ⟨nm,inn,cwd,x,bf⟩ got y' (doP A nm cwd got names) B'->Sep σ1 B1 σ' B'->Q (doP A nm cwd got names).A->K (.tuple ⟨[]⟩) σ')->callW Tryz.prog f [.pointer (some ⟨bt,0,none⟩)] K σ1)
 {K:KH} (hK:∀d A',A.filesP cwd nm args=some (d,A') -> ∀σ' B',FsAt σ' bf A' B'->Sep σ B σ' B'->Q A'->K (.tuple ⟨[.agg ⟨dnF d⟩,.bool true]⟩) σ') :
 callW Tryz.prog 16 [.pointer (some ⟨bf,0,none⟩),.agg ⟨[.string nm,.slice x.base x.len x.cap,.string inn,.string cwd]⟩] K σ:=by
 refine c16 _ _ _ _ _ ?_
 unfold g16
 rw[files_def ht hc]at hK
 refine al_i ?_;intro b6 σ1 g1 e1 n1
 refine al_i ?_;intro b7 σ2 g2 e2 n2
 have k6:=g2.get e1
 have f7:σ b7=none:=none_of g1 n2
 refine rd_G (rdA_of' k6 (by rfl)) ?_
 (refine app_of rfl ?_;try dsimp only)
 refine al_i ?_;intro b12 σ3 g3 e3 n3
 have f12:σ b12=none:=none_of (g1.trans g2) n3
 have nB12 : ¬B b12:=hF.fresh f12
 refine mul_i und_MSFu und_string (doL b12) (doL_nd b12) ?_
 intro bm σ4 g4 n4 hm
 refine rd_S (rdC_of (g4.get (g3.get k6)) (by rfl)) (rd_G (mul_rd hm .nilFunc nm) ?_)
 rw[hlk b12]
 refine app_RBm (br_f rfl ?_)
 refine mul_i und_MSS und_string letL (by decide +kernel) ?_
 intro bm2 σ5 g5 n5 hm2
 have G3:Gr σ3 σ5:=g4.trans g5
 have G5:Gr σ σ5:=((g1.trans g2).trans g3).trans G3
 have q6:=G3.get (g3.get k6)
 have q7:=G3.get (g3.get e2)
 have q12:σ5 b12=some (.cells ⟨toolV ⟨nm,inn,cwd,x,bf⟩ ⟨⟨[]⟩⟩ ⟨none,0,0⟩ (TS.new A)⟩ 84 (0,0)):=G3.get e3
 refine rd_S (rdC_of q6 (by rfl)) (rd_S (x:=lettersP nm) (by rw[mul_rdF hm2,letL_get]) ?_)
 have t5:TlAt σ5 b12 ⟨nm,inn,cwd,x,bf⟩ ⟨⟨[]⟩⟩ ⟨none,0,0⟩ (TS.new A) (fun b=>B b\/b=b12):=⟨B,q12,hF.gr G5,nB12,fun b=>Iff.rfl⟩
 have n6 : ¬ (B b6\/b6=b12):=by
  rintro (e | e)
  ·exact hF.fresh n1 e
  ·rw[<-e,g2.get e1]at n3;cases n3
 have n7 : ¬ (B b7\/b7=b12):=by
  rintro (e | e)
  ·exact hF.fresh f7 e
  ·rw[<-e,e2]at n3;cases n3
 obtain⟨τ5,O5,hO5⟩:=off_all σ5 (fun b=>B b\/b=b12)
 have x5:RowsAt τ5 1 (strRows args) x:=hx.gr (gr_of fun c o hc'=>hO5 c o (G5.get (hO.get hc')) (by
  rintro (e | e)
  ·exact hO.2 c o hc' e
  ·have:=hO.get hc'
   rw[e,f12]at this;cases this))
 have w6:=hO5 b6 _ q6 n6
 have w7:=hO5 b7 _ q7 n7
 have back : ∀ {σ' B' B0},Sep σ5 (fun b=>B b\/b=b12) σ' B'->(∀b,B' b↔(B0 b\/b=b12))->Sep σ B σ' B0:=by
  intro σ' B' B0 hs hb c o hc' hn'
  obtain⟨r1,r2⟩:=hs c o (G5.get hc') (by
   rintro (e | e)
   ·exact hn' e
   ·rw[e,f12]at hc';cases hc')
  exact⟨r1,fun e=>r2 ((hb c).2 (.inl e))⟩
 obtain⟨hl1,hl2⟩:=letters_ok nm
 generalize hlt:lettersP nm=lt at hK hdo hl1 hl2 ⊢
 obtain⟨⟨lt⟩⟩:=lt
 generalize hdv:Value.func (Fn.func f) ⟨[Value.pointer (some ⟨b12,0,none⟩)]⟩ ⟨[]⟩=dv
 refine j_i (fun j=>j (some ⟨b6,0,none⟩) (some ⟨b7,0,none⟩) (some ⟨b12,0,none⟩) dv ⟨⟨lt⟩⟩ false σ5) ?_ ?_
 ·refine j_i (fun j=>j (some ⟨b6,0,none⟩) (some ⟨b7,0,none⟩) (some ⟨b12,0,none⟩) dv ⟨⟨lt⟩⟩ false σ5) ?_ ?_
  ·refine j_i (fun j => ∀ (b : Bool) got y σ' , TlAt σ' b12 ⟨nm, inn, cwd, x, bf⟩ got y (TS.new A) (fun b => B b \/ b = b12) -> Sep σ5 (fun b => B b \/ b = b12) σ' (fun b => B b \/ b = b12) ->
    (b=true->A.filesP cwd nm args=some (usageP nm,A))->(b=false -> ∃names,optsP ⟨⟨lt⟩⟩ args ⟨⟨[]⟩⟩=some (got,names)/\rightP nm got names=true/\RowsAt τ5 1 (strRows names) y/\y.len<=y.cap)->j (some ⟨b6,0,none⟩) (some ⟨b7,0,none⟩) (some ⟨b12,0,none⟩) dv b σ') ?_ ?_
   ·intro b got y σ6 t6 s6 h1 h2
    have O6:=O5.sep s6
    cases b with
    | true =>
     refine br_t rfl (ptr_i (rd_S (rdC_of (O6.get w6) (by rfl)) (if_i (by show nm.size+8<=_;omega) ?_)))
     refine st_i2 (O6.get w7) sz_DoneF (by rfl) (by rfl) ?_;intro σ7 p7
     refine ptr_i (rd_G (rdA_of' p7.same (by rfl)) ?_)
     (refine app_of rfl ?_;try dsimp only)
     obtain⟨B0,a1,a2,a3,a4⟩:=t6
     have hu:=h1 rfl
     rw[files_def ht hc,hlt]at hu
     exact hK (usageP nm) A hu σ7 B0 (a2.put p7 (fun e=>n7 ((a4 b7).2 (.inl e)))) ((back s6 a4).putF p7 f7) hQ
    | false =>
     obtain⟨names,o1,o2,o3,o4⟩:=h2 rfl
     subst hdv
     refine br_f rfl (cval_i hgo (hdo got names y b12 σ6 _ τ5 o1 o2 t6 O6 o3 o4 _ ?_))
     intro σ7 B7 y7 t7 s7 hq7
     have O7:=O6.sep s7
     refine app_U (ptr_i (rd_G (rdA_of' t7.cell (by rfl)) ?_))
     (refine app_of rfl ?_;try dsimp only)
     refine st_i2 (O7.get w7) sz_DoneF (by rfl) (by rfl) ?_;intro σ8 p8
     refine ptr_i (rd_G (rdA_of' p8.same (by rfl)) ?_)
     (refine app_of rfl ?_;try dsimp only)
     obtain⟨B0,a1,a2,a3,a4⟩:=t7
     refine hK ⟨(doP A nm cwd got names).out,(doP A nm cwd got names).err,(doP A nm cwd got names).st⟩ (doP A nm cwd got names).A (by rw[o1];show(if rightP nm got names=true then _ else _)=_;rw[if_pos o2]) σ8 B0 (a2.put p8 (fun e=>O7.2 b7 _ w7 ((a4 b7).2 (.inl e)))) ((back (s6.trans s7) a4).putF p8 f7) hq7
   ·intro j hj
    refine br_t rfl (call_i (s_fiOptions t5 O5 x5 hcap lt hl1 hl2 ha hl ?_ ?_))
    ·intro ho σ6 got t6 s6
     refine app_B (br_t rfl (hj true got _ σ6 t6 s6 (fun _ => ?_) (fun e=>by cases e)))
     rw[files_def ht hc,hlt,ho]
    ·intro got names ho σ6 y t6 s6 ry cy
     refine app_B (br_f rfl (call_i (s_fiRight t6 (sLen ry) hc (app_B ?_))))
     cases hr:rightP nm got names with
     | true=>exact hj false got y σ6 t6 s6 (fun e=>by cases e) (fun _=>⟨names,ho,hr,ry,cy⟩)
     | false =>
      refine hj true got y σ6 t6 s6 (fun _ => ?_) (fun e=>by cases e)
      rw[files_def ht hc,hlt,ho]
      show(if rightP nm got names=true then _ else _)=_
      rw[hr];rfl
  ·intro j hj
   exact br_f rfl hj
 ·intro j hj
  refine rd_S (rdC_of q6 (by rfl)) (br_f (by rw[<-sEq_eq];exact hc) hj)
end
end Go.Proofs.YtbdlkofldmhoaaaGreatDoor

set_option maxRecDepth 100000
namespace Go.Wk
open Go Go.HL
def rootQ:Pl:=⟨1,⟨⟨[]⟩⟩,1,true⟩
theorem walk_rootQ (A:AT):A.walk 10 1 ⟨⟨[47]⟩⟩ true 8=(0,rootQ,8):=by
 rw[AT.walk]
 have h1:mayE ⟨⟨[47]⟩⟩=0:=by decide +kernel
 have h2:headIs 47 ⟨⟨[47]⟩⟩=true:=by decide +kernel
 have h3:partsB ⟨⟨[47]⟩⟩=[]:=by decide +kernel
 rw[h1,h2,h3];rfl
def bgT (qi qb:Int):AT :=
 let A:=newT qi qb
 let A:=(A.mkdirF ⟨⟨[47]⟩⟩ ⟨⟨[100]⟩⟩).2
 let A:=(A.mkdirF ⟨⟨[47]⟩⟩ ⟨⟨[100,47,115]⟩⟩).2
 let A:=(A.writeF ⟨⟨[47]⟩⟩ ⟨⟨[100,47,102]⟩⟩ ⟨⟨[104,105]⟩⟩ false).2
 let A:=(A.writeF ⟨⟨[47]⟩⟩ ⟨⟨[100,47,115,47,103]⟩⟩ ⟨⟨[114,117,110]⟩⟩ false).2
 let A:=(A.chmodF ⟨⟨[47]⟩⟩ ⟨⟨[100,47,115,47,103]⟩⟩ 493).2
 let A:=(A.symlinkF ⟨⟨[47]⟩⟩ ⟨⟨[100]⟩⟩ ⟨⟨[108]⟩⟩).2
 (A.symlinkF ⟨⟨[47]⟩⟩ ⟨⟨[110,111,110,101]⟩⟩ ⟨⟨[109]⟩⟩).2
end Go.Wk

set_option maxRecDepth 100000
namespace Go.Wk
open Go Go.HL
def tlL (r:List UInt8):List UInt8:=r.flatMap fun c=>[47,c]
def nB (r:List UInt8):List ByteArray:=r.map fun c=>(⟨⟨[c]⟩⟩:ByteArray)
def okR (r:List UInt8):Prop := ∀c∈r,c≠47/\c≠0/\c≠46
def rt:ByteArray:=⟨⟨[47]⟩⟩
end Go.Wk

set_option maxRecDepth 100000
namespace Go.Wk
open Go Go.HL
end Go.Wk

set_option maxRecDepth 100000
namespace Go.Wk
open Go Go.HL
end Go.Wk

set_option maxRecDepth 100000
namespace Go.Wk
open Go Go.HL
def mkN:ByteArray:=⟨⟨[109,107,100,105,114]⟩⟩
def rmN:ByteArray:=⟨⟨[114,109,100,105,114]⟩⟩
def zeroT:ByteArray:=⟨⟨[48]⟩⟩
end Go.Wk

set_option maxRecDepth 100000
namespace Go.Wk
open Go Go.HL
inductive NT where
 | mk (name:ByteArray) (ino kind mode:Int) (data:ByteArray) (kids:List NT)
def NT.name:NT->ByteArray | .mk n _ _ _ _ _=>n
def NT.ino:NT->Int | .mk _ i _ _ _ _=>i
def NT.kind:NT->Int | .mk _ _ k _ _ _=>k
def NT.mode:NT->Int | .mk _ _ _ m _ _=>m
def NT.data:NT->ByteArray | .mk _ _ _ _ d _=>d
def NT.kids:NT->List NT | .mk _ _ _ _ _ l=>l
def NT.ent (t:NT):ByteArray×Int:=(t.name,t.ino)
mutual
def NT.toks:NT->List (Int×Nat)
 | .mk _ i _ _ d kids=>(i,d.size)::NT.toksRow kids
def NT.toksRow:List NT->List (Int×Nat)
 | []=>[]
 | t::r=>NT.toks t++NT.toksRow r
end
theorem NT.toks_eq (t:NT):t.toks=(t.ino,t.data.size)::NT.toksRow t.kids:=by obtain⟨n,i,k,m,d,l⟩:=t;rfl
def NT.inos (t:NT):List Int:=t.toks.map (·.1)
def NT.inosRow (l:List NT):List Int:=(NT.toksRow l).map (·.1)
theorem NT.inos_eq (t:NT):t.inos=t.ino::NT.inosRow t.kids:=by unfold NT.inos NT.inosRow;rw[NT.toks_eq];rfl
theorem NT.inosRow_cons (t:NT) (r:List NT):NT.inosRow (t::r)=t.inos++NT.inosRow r:=by unfold NT.inos NT.inosRow;rw[NT.toksRow,List.map_append]
theorem NT.inosRow_mem {i:Int} {l:List NT}:i∈NT.inosRow l ↔ ∃t∈l,i∈t.inos:=by
 induction l with
 | nil=>simp[NT.inosRow,NT.toksRow]
 | cons t r ih=>rw[NT.inosRow_cons,List.mem_append,ih];simp
def sumB (l:List (Int×Nat)):Nat:=l.foldr (fun x n=>x.2+n) 0
theorem sumB_perm {a b:List (Int×Nat)} (h:a.Perm b):sumB a=sumB b:=by
 induction h with
 | nil=>rfl
 | cons x _ ih=>show x.2+_=x.2+_;exact congrArg _ ih
 | swap x y l=>show y.2+(x.2+_)=x.2+(y.2+_);omega
 | trans _ _ h1 h2=>exact h1.trans h2
theorem NT.toks_kid {t x:NT} (h:x∈t.kids):x.toks.length<t.toks.length:=by
 rw[NT.toks_eq t]
 have key : ∀l:List NT,x∈l->x.toks.length<=(NT.toksRow l).length:=by
  intro l
  induction l with
  | nil=>intro h;cases h
  | cons y r ih =>
   intro h
   rw[NT.toksRow,List.length_append]
   rcases List.mem_cons.1 h with e | e
   ·subst e;omega
   ·have:=ih e;omega
 have:=key t.kids h
 rw[List.length_cons];omega
theorem NT.ind {P:NT->Prop} (h:∀t,(∀x∈t.kids,P x)->P t) (t:NT):P t:=by
 have key : ∀ (n:Nat) (t:NT),t.toks.length<n->P t:=by
  intro n
  induction n with
  | zero=>intro t h;omega
  | succ n ih=>intro t ht;exact h t fun x hx=>ih x (by have:=NT.toks_kid hx;omega)
 exact key _ t (Nat.lt_succ_self _)
theorem NT.ino_mem (t:NT):t.ino∈t.inos:=by rw[NT.inos_eq];exact List.mem_cons_self ..
theorem NT.inos_kid {t x:NT} (h:x∈t.kids) {i:Int} (hi:i∈x.inos):i∈t.inos:=by
 rw[NT.inos_eq];exact List.mem_cons_of_mem _ (NT.inosRow_mem.2 ⟨x,h,hi⟩)
mutual
def Sub (A:AT) (up:Int):NT->Prop
 | .mk _ i k m d kids=>(∃es,A.get i=some ⟨k,m,d,1,if k==2 then up else 0,es⟩/\es.Perm (kids.map NT.ent))/\(k≠2->kids=[])/\SubRow A i kids
def SubRow (A:AT) (up:Int):List NT->Prop
 | []=>True
 | t::r=>Sub A up t/\SubRow A up r
end
def NT.node (t:NT) (up:Int) (es:List (ByteArray×Int)):AN:=⟨t.kind,t.mode,t.data,1,if t.kind==2 then up else 0,es⟩
theorem subRow_iff {A:AT} {up:Int} : ∀ {l:List NT},SubRow A up l ↔ ∀x∈l,Sub A up x:=by
 intro l
 induction l with
 | nil=>simp[SubRow]
 | cons t r ih=>simp only[SubRow,ih,List.mem_cons,forall_eq_or_imp]
theorem sub_iff {A:AT} {up:Int} {t:NT}:Sub A up t↔(∃es,A.get t.ino=some (t.node up es)/\es.Perm (t.kids.map NT.ent))/\(t.kind≠2->t.kids=[]) /\ ∀x∈t.kids,Sub A t.ino x:=by
 obtain⟨n,i,k,m,d,l⟩:=t
 rw[Sub,subRow_iff];rfl
theorem Sub.get {A:AT} {up:Int} {t:NT} (h:Sub A up t) : ∃es,A.get t.ino=some (t.node up es)/\es.Perm (t.kids.map NT.ent):=(sub_iff.1 h).1
theorem Sub.kid {A:AT} {up:Int} {t x:NT} (h:Sub A up t) (hx:x∈t.kids):Sub A t.ino x:=(sub_iff.1 h).2.2 x hx
theorem Sub.kind {A:AT} {up:Int} {t:NT} (h:Sub A up t):A.kind t.ino=t.kind:=by
 obtain⟨es,h1,_⟩:=h.get
 unfold AT.kind;rw[h1];rfl
theorem Sub.dir_of {A:AT} {up:Int} {t x:NT} (h:Sub A up t) (hx:x∈t.kids):t.kind=2:=by
 by_cases hk:t.kind=2
 ·exact hk
 ·rw[(sub_iff.1 h).2.1 hk]at hx;cases hx
mutual
def NT.addK (d:Int) (x:NT):NT->NT
 | .mk n i k m dt kids => .mk n i k m dt (if i=d then NT.addKR d x kids++[x]else NT.addKR d x kids)
def NT.addKR (d:Int) (x:NT):List NT->List NT
 | []=>[]
 | t::r=>NT.addK d x t::NT.addKR d x r
end
theorem NT.addKR_map (d:Int) (x:NT) (l:List NT):NT.addKR d x l=l.map (NT.addK d x):=by
 induction l with
 | nil=>rfl
 | cons t r ih=>rw[NT.addKR,ih];rfl
theorem NT.addk_eq (d:Int) (x t:NT):NT.addK d x t = .mk t.name t.ino t.kind t.mode t.data (if t.ino=d then t.kids.map (NT.addK d x)++[x]else t.kids.map (NT.addK d x)):=by
 obtain⟨n,i,k,m,dt,l⟩:=t
 rw[NT.addK,NT.addKR_map];rfl
theorem NT.addk_ent (d:Int) (x t:NT):(NT.addK d x t).ent=t.ent:=by rw[NT.addk_eq];rfl
theorem nodup_kids {t:NT} (h:t.inos.Nodup):t.ino∉NT.inosRow t.kids/\(NT.inosRow t.kids).Nodup:=by
 rw[NT.inos_eq]at h
 exact List.nodup_cons.1 h
end Go.Wk

set_option maxRecDepth 100000
namespace Go.Wk
open Go Go.HL
def NT.at:NT->List ByteArray->NT->Prop
 | t,[],s=>s=t
 | t,w::ws,s => ∃k∈t.kids,k.name=w/\NT.at k ws s
theorem Sub.at {A:AT} {s:NT} : ∀ {ws:List ByteArray} {t:NT} {up:Int},Sub A up t->NT.at t ws s -> ∃u,Sub A u s:=by
 intro ws
 induction ws with
 | nil=>intro t up h hs;have hs:s=t:=hs;subst hs;exact⟨up,h⟩
 | cons w ws ih=>intro t up h hs;obtain⟨k,h1,_,h3⟩:=hs;exact ih (h.kid h1) h3
theorem Sub.find {A:AT} (hI:Inv A) {up:Int} {t x:NT} (h:Sub A up t) (hx:x∈t.kids):A.find t.ino x.name=some x.ino:=by
 obtain⟨es,h1,h2⟩:=h.get
 unfold AT.find
 rw[h1]
 have hn:=hI.enod _ _ h1
 show lk x.name es=some x.ino
 exact lk_of_mem hn (h2.mem_iff.2 (List.mem_map.2 ⟨x,hx,rfl⟩))
theorem Sub.find_none {A:AT} {up:Int} {t:NT} {c:ByteArray} (h:Sub A up t) (hc:∀x∈t.kids,x.name≠c):A.find t.ino c=none:=by
 obtain⟨es,h1,h2⟩:=h.get
 unfold AT.find
 rw[h1]
 show lk c es=none
 rw[lk_none_iff]
 intro hm
 obtain⟨y,hy,e⟩:=List.mem_map.1 hm
 obtain⟨x,hx,rfl⟩:=List.mem_map.1 (h2.mem_iff.1 hy)
 exact hc x hx e
section
variable {A : AT} {go : Int -> ByteArray -> Int -> Int × Pl × Int} {fo : Bool} {h : Int}
theorem steps_to (hI:Inv A) {m:NT} (hm:m.kind=2) {rest:List ByteArray} : ∀ (us:List ByteArray) (t:NT) (up:Int) (p:Pl),Sub A up t->NT.at t us m->p.ino=t.ino->p.there=true->(∀n∈us,stepOk n) -> ∃q:Pl,q.ino=m.ino/\q.there=true/\A.steps go fo (us++rest) p h=A.steps go fo rest q h:=by
 intro us
 induction us with
 | nil =>
  intro t up p hS ha hp ht _
  have ha:m=t:=ha
  subst ha
  exact⟨p,hp,ht,rfl⟩
 | cons w us ih =>
  intro t up p hS ha hp ht hok
  obtain⟨k,h1,rfl,h3⟩:=ha
  have hk:=hS.kid h1
  have hkd:k.kind=2:=by
   cases us with
   | nil=>have h3:m=k:=h3;rw[<-h3];exact hm
   | cons v us=>obtain⟨k2,h4,_⟩:=h3;exact hk.dir_of h4
  obtain⟨s1,s2⟩:=hok _ (List.mem_cons_self ..)
  have hf:=hS.find hI h1
  rw[<-hp]at hf
  have hst:A.steps go fo (k.name::(us++rest)) p h=A.steps go fo (us++rest) ⟨p.ino,k.name,k.ino,true⟩ h:=by
   rw[steps_name ht (by rw[hp,hS.kind,hS.dir_of h1]) (sEq_false s1) (by omega) (.inr (.inr (by rw[hf,Option.getD_some,hk.kind,hkd];decide)))]
   rw[hf];rfl
  obtain⟨q,q1,q2,q3⟩:=ih k t.ino ⟨p.ino,k.name,k.ino,true⟩ hk h3 rfl rfl (fun n hn=>hok n (List.mem_cons_of_mem _ hn))
  exact⟨q,q1,q2,by rw[List.cons_append,hst,q3]⟩
theorem steps_hit (hI:Inv A) {m k:NT} {us:List ByteArray} {t:NT} {up:Int} {p:Pl} (hS:Sub A up t) (ha:NT.at t us m) (hk:k∈m.kids) (hf:fo=false\/k.kind≠3) (hp:p.ino=t.ino) (ht:p.there=true) (hok:∀n∈us++[k.name],stepOk n):A.steps go fo (us++[k.name]) p h=(0,⟨m.ino,k.name,k.ino,true⟩,h):=by
 obtain⟨u,hm⟩:=hS.at ha
 have hm2:=hm.dir_of hk
 obtain⟨q,q1,q2,q3⟩:=steps_to (go:=go) (fo:=fo) (h:=h) (rest:=[k.name]) hI hm2 us t up p hS ha hp ht (fun n hn=>hok n (List.mem_append_left _ hn))
 obtain⟨s1,s2⟩:=hok k.name (by simp)
 have hfd:=hm.find hI hk
 rw[<-q1]at hfd
 rw[q3,steps_name q2 (by rw[q1,hm.kind,hm2]) (sEq_false s1) (by omega) (by
  rcases hf with e | e
  ·exact .inr (.inl (by rw[e];rfl))
  ·exact .inr (.inr (by rw[hfd,Option.getD_some,(hm.kid hk).kind];exact e)))]
 rw[hfd,q1];rfl
theorem steps_miss (hI:Inv A) {m:NT} {c:ByteArray} {us:List ByteArray} {t:NT} {up:Int} {p:Pl} (hS:Sub A up t) (ha:NT.at t us m) (hm2:m.kind=2) (hc:∀x∈m.kids,x.name≠c) (hp:p.ino=t.ino) (ht:p.there=true) (hok:∀n∈us++[c],stepOk n):A.steps go fo (us++[c]) p h=(0,⟨m.ino,c,0,false⟩,h):=by
 obtain⟨u,hm⟩:=hS.at ha
 obtain⟨q,q1,q2,q3⟩:=steps_to (go:=go) (fo:=fo) (h:=h) (rest:=[c]) hI hm2 us t up p hS ha hp ht (fun n hn=>hok n (List.mem_append_left _ hn))
 obtain⟨s1,s2⟩:=hok c (by simp)
 have hfd:=hm.find_none hc
 rw[<-q1]at hfd
 rw[q3,steps_name q2 (by rw[q1,hm.kind,hm2]) (sEq_false s1) (by omega) (.inl (by rw[hfd];rfl))]
 rw[hfd,q1];rfl
end
structure RP (p:ByteArray) (ws:List ByteArray):Prop where
 may:mayE p=0
 parts:partsB p=ws
theorem rp_loc {A:AT} (hk:A.kind 1=2) {p:ByteArray} {ws:List ByteArray} {fo:Bool} (h:RP p ws):A.locate rt p fo=((A.steps (fun d s h'=>A.walk 9 d s true h') fo ws rootQ 8).1,(A.steps (fun d s h'=>A.walk 9 d s true h') fo ws rootQ 8).2.1):=by
 have h2:headIs 47 rt=true:=by decide +kernel
 have hne:sEq p ⟨⟨[]⟩⟩=false:=by
  have h0:=h.may
  cases hs:sEq p ⟨⟨[]⟩⟩ with
  | false=>rfl
  | true=>unfold mayE at h0;rw[hs]at h0;simp at h0
 have hw:A.walk 10 1 p fo 8=A.steps (fun d s h'=>A.walk 9 d s true h') fo ws rootQ 8:=by
  rw[AT.walk,h.may,h.parts]
  simp only[ne_eq,not_true_eq_false,if_false,ite_self]
  rfl
 unfold AT.locate
 rw[hne]
 cases hh:headIs 47 p with
 | true=>simp only[if_true,Bool.false_eq_true,if_false];rw[hw]
 | false =>
  rw[h2,show rt=⟨⟨[47]⟩⟩from rfl,walk_rootQ]
  simp only[rootQ,hk]
  simp only[Bool.false_eq_true,if_false,ne_eq,not_true_eq_false,Bool.true_eq_false]
  rw[hw]
  rfl
structure FS (A:AT) (R:NT):Prop where
 inv:Inv A
 sub:Sub A 1 R
 ino:R.ino=1
 kind:R.kind=2
 nod:R.inos.Nodup
 ui:A.ui=R.toks.length
 ub:A.ub=(sumB R.toks:Nat)
section
variable {A : AT} {R : NT}
theorem FS.k1 (h:FS A R):A.kind 1=2:=by rw[<-h.ino,h.sub.kind,h.kind]
theorem FS.hit (h:FS A R) {p:ByteArray} {us:List ByteArray} {m k:NT} {fo:Bool} (hp:RP p (us++[k.name])) (ha:NT.at R us m) (hk:k∈m.kids) (hf:fo=false\/k.kind≠3) (hok:∀n∈us++[k.name],stepOk n):A.locate rt p fo=(0,⟨m.ino,k.name,k.ino,true⟩):=by
 rw[rp_loc h.k1 hp,steps_hit h.inv h.sub ha hk hf (by rw[h.ino];rfl) rfl hok]
theorem FS.miss (h:FS A R) {p:ByteArray} {us:List ByteArray} {m:NT} {c:ByteArray} {fo:Bool} (hp:RP p (us++[c])) (ha:NT.at R us m) (hm:m.kind=2) (hc:∀x∈m.kids,x.name≠c) (hok:∀n∈us++[c],stepOk n):A.locate rt p fo=(0,⟨m.ino,c,0,false⟩):=by
 rw[rp_loc h.k1 hp,steps_miss h.inv h.sub ha hm hc (by rw[h.ino];rfl) rfl hok]
end
end Go.Wk

set_option maxRecDepth 100000
namespace Go.Wk
open Go Go.HL
theorem NT.addk_ino (d:Int) (x t:NT):(NT.addK d x t).ino=t.ino/\(NT.addK d x t).name=t.name/\(NT.addK d x t).kind=t.kind/\(NT.addK d x t).mode=t.mode/\(NT.addK d x t).data=t.data:=by rw[NT.addk_eq];exact⟨rfl,rfl,rfl,rfl,rfl⟩
theorem NT.addk_kids (d:Int) (x t:NT):(NT.addK d x t).kids=if t.ino=d then t.kids.map (NT.addK d x)++[x]else t.kids.map (NT.addK d x):=by rw[NT.addk_eq];rfl
theorem Sub.swap {A:AT} {d:Int} {x x':NT} (he:x'.ent=x.ent) (hx:∀u,Sub A u x->Sub A u x') : ∀ (t:NT) {up:Int},Sub A up (NT.addK d x t)->Sub A up (NT.addK d x' t):=by
 intro t
 refine NT.ind (P:=fun t => ∀ {up:Int},Sub A up (NT.addK d x t)->Sub A up (NT.addK d x' t)) ?_ t
 intro t ih up h
 have hm : ∀z:NT,(t.kids.map (NT.addK d z)).map NT.ent=t.kids.map NT.ent:=fun z=>by
  rw[List.map_map];exact List.map_congr_left fun y _=>NT.addk_ent d z y
 have hkids:((NT.addK d x' t).kids).map NT.ent=((NT.addK d x t).kids).map NT.ent:=by
  rw[NT.addk_kids,NT.addk_kids]
  split
  ·rw[List.map_append,List.map_append,hm,hm]
   show _++[x'.ent]=_++[x.ent]
   rw[he]
  ·rw[hm,hm]
 obtain⟨a1,a2,a3,a4,a5⟩:=NT.addk_ino d x t
 obtain⟨b1,b2,b3,b4,b5⟩:=NT.addk_ino d x' t
 obtain⟨⟨es,h1,h2⟩,h3,h4⟩:=sub_iff.1 h
 rw[sub_iff]
 have hmem : ∀z:NT,∀y∈t.kids,NT.addK d z y∈(NT.addK d z t).kids:=by
  intro z y hy
  rw[NT.addk_kids]
  have:=List.mem_map.2 ⟨y,hy,(rfl:NT.addK d z y=NT.addK d z y)⟩
  split
  ·exact List.mem_append_left _ this
  ·exact this
 refine⟨⟨es,?_,by rw[hkids];exact h2⟩,?_,?_⟩
 ·rw[b1,<- a1,h1]
  unfold NT.node
  rw[a3,a4,a5,b3,b4,b5]
 ·intro hk
  rw[b3,<- a3]at hk
  have:=h3 hk
  have hl:((NT.addK d x' t).kids).length=((NT.addK d x t).kids).length:=by
   have:=congrArg List.length hkids
   rw[List.length_map,List.length_map]at this;exact this
  rw[this]at hl
  exact List.length_eq_zero_iff.1 hl
 ·intro z hz
  rw[b1]
  rw[a1]at h4
  rw[NT.addk_kids]at hz
  have hcase:(∃y∈t.kids,NT.addK d x' y=z)\/(t.ino=d/\z=x'):=by
   split at hz
   ·rename_i e
    rcases List.mem_append.1 hz with hz | hz
    ·exact .inl (by obtain⟨y,hy,e⟩:=List.mem_map.1 hz;exact⟨y,hy,e⟩)
    ·exact .inr ⟨e,by simpa using hz⟩
   ·exact .inl (by obtain⟨y,hy,e⟩:=List.mem_map.1 hz;exact⟨y,hy,e⟩)
  rcases hcase with⟨y,hy,rfl⟩ | ⟨e,rfl⟩
  ·exact ih y hy (h4 _ (hmem x y hy))
  ·refine hx _ (h4 x ?_)
   rw[NT.addk_kids,if_pos e];simp
theorem FS.toks {A:AT} {R R':NT} (h:FS A R) (hs:Sub A 1 R') (h1:R'.ino=1) (h2:R'.kind=2) (hp:R'.toks.Perm R.toks):FS A R':=by
 refine⟨h.inv,hs,h1,h2,?_,by rw[h.ui,hp.length_eq],by rw[h.ub,sumB_perm hp]⟩
 exact(List.Perm.nodup_iff (hp.map Prod.fst)).2 h.nod
end Go.Wk

set_option maxRecDepth 100000
namespace Go.Wk
open Go Go.HL
theorem at_deep {A:AT} {m:NT} (hm:m.kind=2) : ∀ {ws:List ByteArray} {t:NT} {up:Int} (f:Nat),Sub A up t->NT.at t ws m->(∀x∈t.kids,(1:Int)∉x.inos)->A.deep (f+ws.length) m.ino=(A.deep f t.ino).map (· + (ws.length:Int)):=by
 intro ws
 induction ws with
 | nil =>
  intro t up f _ h _
  have h:m=t:=h
  subst h
  show A.deep f m.ino=_
  cases A.deep f m.ino with
  | none=>rfl
  | some d=>simp
 | cons w ws ih =>
  intro t up f hS h h1
  obtain⟨k,hk,_,ha⟩:=h
  have hks:=hS.kid hk
  have hkd:k.kind=2:=by
   cases ws with
   | nil=>have ha:m=k:=ha;rw[<-ha];exact hm
   | cons v us=>obtain⟨k2,h4,_⟩:=ha;exact hks.dir_of h4
  have hk1:k.ino≠1:=fun e=>h1 k hk (e ▸ k.ino_mem)
  have hup:A.upOf k.ino=t.ino:=by
   obtain⟨es,hg,_⟩:=hks.get
   unfold AT.upOf
   rw[hg]
   show(if k.kind==2 then t.ino else 0)=t.ino
   rw[hkd];rfl
  have hd:A.deep (f+1) k.ino=(A.deep f t.ino).map (· + 1):=by rw[AT.deep,if_neg hk1,hup]
  have:=ih (f+1) hks ha (fun x hx hi=>h1 k hk (NT.inos_kid hx hi))
  rw[show f+(w::ws).length=f+1+ws.length by rw[List.length_cons];omega,this,hd,Option.map_map]
  congr 1
  funext d
  show d+1+(ws.length:Int)=d+((w::ws).length:Int)
  rw[List.length_cons];omega
theorem FS.not1 {A:AT} {R:NT} (h:FS A R) : ∀x∈R.kids,(1:Int)∉x.inos:=by
 intro x hx hi
 have:=(nodup_kids h.nod).1
 rw[h.ino]at this
 exact this (NT.inosRow_mem.2 ⟨x,hx,hi⟩)
theorem FS.deep {A:AT} {R m:NT} {ws:List ByteArray} (h:FS A R) (ha:NT.at R ws m) (hm:m.kind=2):ws.length+1<=12 /\ ∀f:Nat,ws.length+1<=f->A.deep f m.ino=some ((ws.length:Int)+1):=by
 have h1:=at_deep hm 1 h.sub ha h.not1
 have h2:A.deep 1 R.ino=some 1:=by rw[AT.deep,if_pos h.ino]
 rw[h2,Option.map_some]at h1
 obtain⟨u,hs⟩:=h.sub.at ha
 have hD:A.isDir m.ino:=by
  obtain⟨es,hg,_⟩:=hs.get
  exact⟨_,hg,hm⟩
 obtain⟨d,hd⟩:=h.inv.deep _ hD
 have hb:=deep_bound hd
 have hlow : ∀f:Nat,ws.length+1<=f->A.deep f m.ino=some ((ws.length:Int)+1):=by
  intro f hf
  have:=deep_low h1 f (by omega)
  rw[this];congr 1;omega
 refine⟨?_,hlow⟩
 rcases Nat.lt_or_ge 12 (ws.length+1)with h3 | h3
 ·have:=deep_low hd (1+ws.length) (by omega)
  rw[this]at h1
  have:=Option.some.inj h1
  omega
 ·exact h3
def apth (a:UInt8) (cs:List UInt8):ByteArray:=⟨⟨47::a::tlL cs⟩⟩
theorem step_nB {cs:List UInt8} : ∀n∈nB cs,stepOk n:=by
 intro n hn
 obtain⟨c,_,rfl⟩:=List.mem_map.1 hn
 refine⟨fun e => ?_,by show 1<=56;omega⟩
 have:=congrArg (fun b:ByteArray=>b.data.toList.length) e
 simp at this
def n1 (c:UInt8):ByteArray:=⟨⟨[c]⟩⟩
theorem nB_cons (a:UInt8) (cs:List UInt8):nB (a::cs)=n1 a::nB cs:=rfl
mutual
def NT.all (P:NT->Prop):NT->Prop
 | .mk n i k m d kids=>P (.mk n i k m d kids)/\NT.allR P kids
def NT.allR (P:NT->Prop):List NT->Prop
 | []=>True
 | t::r=>NT.all P t/\NT.allR P r
end
def letter (c:UInt8):Prop:=97<=c.toNat/\c.toNat<=102
def upX:ByteArray:=⟨⟨[46,46,47,120]⟩⟩
def GrN (t:NT):Prop:=(∃c,letter c/\t.name=n1 c)/\((t.kind=2/\t.mode=493/\t.data=⟨⟨[]⟩⟩)\/(t.kind=3/\t.mode=511/\t.data=upX)\/(t.kind=1/\0<=t.mode/\t.mode<=511/\t.data.size=2))
theorem GrN.kids {n:ByteArray} {i k m:Int} {d:ByteArray} {l l':List NT} (h:GrN (.mk n i k m d l)):GrN (.mk n i k m d l'):=h
def rootT (T:NT):NT := .mk ⟨⟨[]⟩⟩ 1 2 493 ⟨⟨[]⟩⟩ [T]
structure Gw (A:AT) (T:NT) (dirs:List ByteArray) (n:Nat):Prop where
 fs:FS A (rootT T)
 bd:Bd (2+n) A
 name:T.name=n1 116
 top:T.kind=2/\T.mode=493/\T.data=⟨⟨[]⟩⟩
 kids : ∀x∈T.kids,x.all GrN
 dne:dirs≠[]
 dirs : ∀p∈dirs,∃cs m,p=apth 116 cs/\(∀c∈cs,letter c)/\NT.at T (nB cs) m/\m.kind=2
 qi:A.qi=300
 qb:A.qb=5000
 num:T.toks.length<=1+n
 byt:sumB T.toks<=4 * n
theorem letter_ok {c:UInt8} (h:letter c):c≠47/\c≠0/\c≠46:=by
 unfold letter at h
 refine⟨?_,?_,?_⟩<;>(rintro rfl;revert h;decide)
end Go.Wk

set_option maxRecDepth 100000
namespace Go.Wk
open Go Go.HL
section
variable {A : AT} {T : NT} {dirs : List ByteArray} {n : Nat}
end
end Go.Wk

set_option maxRecDepth 100000
namespace Go.Wk
open Go Go.HL
section
variable {A : AT} {T : NT} {dirs : List ByteArray} {n : Nat}
theorem Gw.last (h:Gw A T dirs n):A.last<=2+n:=by have:=h.bd.last;omega
end
end Go.Wk

set_option maxRecDepth 100000
namespace Go.Wk
open Go Go.HL
def NT.names (t:NT):List ByteArray:=sortN (t.kids.map NT.name)
theorem Sub.names {A:AT} {up:Int} {t:NT} (h:Sub A up t):A.names t.ino=t.names:=by
 obtain⟨es,h1,h2⟩:=h.get
 unfold AT.names NT.names
 rw[h1]
 show sortN (keysL es)=_
 refine sortN_eq ?_
 have:=h2.map Prod.fst
 rw[List.map_map]at this
 exact this
structure PB (p:ByteArray) (ws:List ByteArray) (k:Nat):Prop where
 rp : ∀cs,okR cs->cs.length<=k->RP ⟨⟨p.data.toList++tlL cs⟩⟩ (ws++nB cs)
 ok : ∀n∈ws,stepOk n
theorem PB.sub {p:ByteArray} {ws:List ByteArray} {k:Nat} (h:PB p ws (k+1)) {c:UInt8} (hc:letter c):PB (sub p (n1 c)) (ws++[n1 c]) k:=by
 refine⟨fun cs hcs hl => ?_,fun n hn => ?_⟩
 ·have := h.rp (c :: cs) (fun d hd => by
   rcases List.mem_cons.1 hd with e | e
   ·rw[e];exact letter_ok hc
   ·exact hcs d e) (by rw[List.length_cons];omega)
  rw[sub_data]
  rw[nB_cons]at this
  have e1:p.data.toList++47::(n1 c).data.toList++tlL cs=p.data.toList++tlL (c::cs):=by
   show p.data.toList++47::[c]++tlL cs=p.data.toList++([47,c]++tlL cs)
   simp
  rw[e1,show ws++[n1 c]++nB cs=ws++n1 c::nB cs by simp]
  exact this
 ·rcases List.mem_append.1 hn with e | e
  ·exact h.ok n e
  ·rw[List.mem_singleton]at e;rw[e];exact step_nB (cs:=[c]) _ (List.mem_singleton.2 rfl)
end Go.Wk

set_option maxRecDepth 100000
namespace Go.Wk
open Go Go.HL
theorem NT.at_last {s:NT} : ∀ {ws:List ByteArray} {t:NT},NT.at t ws s->ws≠[] -> ∃us m,ws=us++[s.name]/\NT.at t us m/\s∈m.kids:=by
 intro ws
 induction ws with
 | nil=>intro t _ h;exact absurd rfl h
 | cons w ws ih =>
  intro t h _
  obtain⟨k,h1,h2,h3⟩:=h
  cases ws with
  | nil =>
   have h3:s=k:=h3
   subst h3
   exact⟨[],t,by rw[h2];rfl,rfl,h1⟩
  | cons v vs =>
   obtain⟨us,m,e,a,b⟩:=ih h3 (by simp)
   exact⟨w::us,m,by rw[e];rfl,⟨k,h1,h2,a⟩,b⟩
section
variable {A : AT} {R : NT}
theorem FS.loc (h:FS A R) {p:ByteArray} {ws:List ByteArray} {t:NT} {fo:Bool} (hp:RP p ws) (ha:NT.at R ws t) (hf:fo=false\/t.kind≠3) (hok:∀n∈ws,stepOk n) : ∃q:Pl,A.locate rt p fo=(0,q)/\q.ino=t.ino/\q.there=true/\(t.kind=2->ws=[]->q.dir=1):=by
 cases ws with
 | nil =>
  have ha:t=R:=ha
  subst ha
  refine⟨rootQ,?_,h.ino.symm,rfl,fun _ _=>rfl⟩
  rw[rp_loc h.k1 hp];rfl
 | cons w vs =>
  obtain⟨us,m,e,a,b⟩:=NT.at_last ha (by simp)
  rw[e]at hp hok
  exact⟨_,h.hit hp a b hf hok,rfl,rfl,fun _ h=>by cases h⟩
theorem FS.stat (h:FS A R) {p:ByteArray} {ws:List ByteArray} {t:NT} {fo:Bool} (hp:RP p ws) (ha:NT.at R ws t) (hf:fo=false\/t.kind≠3) (hok:∀n∈ws,stepOk n):A.stat rt p fo=(0,⟨t.kind,t.mode,t.data,1⟩)/\A.with_ rt p fo=(0,t.ino,⟨t.kind,t.mode,t.data,1⟩):=by
 obtain⟨q,h1,h2,h3,_⟩:=h.loc hp ha hf hok
 obtain⟨u,hs⟩:=h.sub.at ha
 obtain⟨es,hg,_⟩:=hs.get
 have hw:A.with_ rt p fo=(0,t.ino,⟨t.kind,t.mode,t.data,1⟩):=by
  unfold AT.with_
  rw[h1]
  simp only[ne_eq,not_true_eq_false,if_false]
  rw[h3,h2,hg]
  simp only[Bool.true_eq_false,if_false]
  rfl
 exact⟨by unfold AT.stat;rw[hw],hw⟩
end
end Go.Wk

set_option maxRecDepth 100000
namespace Go.Wk
open Go Go.HL
structure Spot (A:AT) (R:NT) (N:Nat) (us:List ByteArray) (M:NT) (c:UInt8) (p:ByteArray):Prop where
 fs:FS A R
 bd:Bd N A
 small:N<=100000
 at_:NT.at R us M
 dir:M.kind=2
 ok:c≠47/\c≠0/\c≠46
 miss : ∀x∈M.kids,x.name≠n1 c
 rp:RP p (us++[n1 c])
 oks : ∀n∈us,stepOk n
section
variable {A : AT} {R M : NT} {N : Nat} {us : List ByteArray} {c : UInt8} {p : ByteArray}
theorem step_n1 (c:UInt8):stepOk (n1 c):=step_nB (cs:=[c]) _ (List.mem_singleton.2 rfl)
theorem Spot.oks1 (h:Spot A R N us M c p) : ∀n∈us++[n1 c],stepOk n:=by
 intro n hn
 rcases List.mem_append.1 hn with e | e
 ·exact h.oks n e
 ·rw[List.mem_singleton]at e;rw[e];exact step_n1 c
theorem Spot.loc (h:Spot A R N us M c p) (fo:Bool):A.locate rt p fo=(0,⟨M.ino,n1 c,0,false⟩):=h.fs.miss h.rp h.at_ h.dir h.miss h.oks1
theorem Spot.stat (h:Spot A R N us M c p) (fo:Bool):(A.stat rt p fo).1=5:=by
 unfold AT.stat AT.with_
 rw[h.loc fo];simp
theorem Spot.last (h:Spot A R N us M c p):1<=A.last/\A.last<=100000:=by
 have h1:=h.bd.last
 have h2:=h.small
 have h3:=h.fs.inv.last_pos
 omega
theorem Spot.node (h:Spot A R N us M c p) : ∃nd,A.get M.ino=some nd/\nd.kind=2:=by
 obtain⟨u,hms⟩:=h.fs.sub.at h.at_
 obtain⟨es,hg,_⟩:=hms.get
 exact⟨_,hg,h.dir⟩
end
end Go.Wk

set_option maxRecDepth 100000
namespace Go.Wk
open Go Go.HL
section
variable {A : AT} {R : NT}
end
end Go.Wk

set_option maxRecDepth 100000
namespace Go.Wk
open Go Go.HL
def cpN:ByteArray:=⟨⟨[99,112]⟩⟩
section
variable {A : AT} {R M : NT} {N : Nat} {us : List ByteArray} {c : UInt8}
end
end Go.Wk

set_option maxRecDepth 100000
namespace Go.Wk
open Go Go.HL
inductive Both (P:NT->NT->Prop):List NT->List NT->Prop
 | nil:Both P [] []
 | cons {x y:NT} {l m:List NT}:P x y->Both P l m->Both P (x::l) (y::m)
theorem Both.right {P:NT->NT->Prop} {l m:List NT} (h:Both P l m) : ∀y∈m,∃x∈l,P x y:=by
 induction h with
 | nil=>intro y hy;cases hy
 | cons hp _ ih =>
  intro y hy
  rcases List.mem_cons.1 hy with e | e
  ·subst e;exact⟨_,List.mem_cons_self ..,hp⟩
  ·obtain⟨x,hx,q⟩:=ih y e
   exact⟨x,List.mem_cons_of_mem _ hx,q⟩
theorem Both.names {P:NT->NT->Prop} (hP:∀x y,P x y->y.name=x.name) {l m:List NT} (h:Both P l m):m.map NT.name=l.map NT.name:=by
 induction h with
 | nil=>rfl
 | cons hp _ ih=>rw[List.map_cons,List.map_cons,ih,hP _ _ hp]
end Go.Wk

set_option maxRecDepth 100000
namespace Go.Wk
open Go Go.HL
section
variable {A : AT} {R M x : NT} {N : Nat} {us : List ByteArray}
end
end Go.Wk

set_option maxRecDepth 100000
namespace Go.Wk
open Go Go.HL
def rmT:ByteArray:=⟨⟨[114,109]⟩⟩
section
variable {A : AT} {R M x : NT} {N : Nat} {us : List ByteArray}
end
theorem PB.mono {p:ByteArray} {ws:List ByteArray} {k j:Nat} (h:PB p ws k) (hj:j<=k):PB p ws j:=⟨fun cs hcs hl=>h.rp cs hcs (by omega),h.ok⟩
end Go.Wk

set_option maxRecDepth 100000
namespace Go.Wk
open Go Go.HL
section
variable {A : AT} {R M1 M2 x : NT} {u1 u2 : List ByteArray} {as_ : ByteArray}
end
end Go.Wk

set_option maxRecDepth 100000
namespace Go.Wk
open Go Go.HL
def dR:ByteArray:=⟨⟨[45,114]⟩⟩
end Go.Wk

set_option maxRecDepth 100000
namespace Go.Wk
open Go Go.HL
def mvN:ByteArray:=⟨⟨[109,118]⟩⟩
section
variable {A : AT} {R M1 M2 x : NT} {N m : Nat} {u1 u2 : List ByteArray} {as_ src tq : ByteArray}
end
end Go.Wk

set_option maxRecDepth 100000
namespace Go.Wk
open Go Go.HL
end Go.Wk

set_option maxRecDepth 100000
namespace Go.Wk
open Go Go.HL
end Go.Wk

set_option maxRecDepth 100000
namespace Go.Wk
open Go Go.HL
section
variable {A : AT} {T k : NT} {c : UInt8}
end
end Go.Wk

set_option maxRecDepth 100000
namespace Go.Wk
open Go Go.HL
def lsN:ByteArray:=⟨⟨[108,115]⟩⟩
end Go.Wk

namespace Go.Wk
open Go Go.HL
theorem opts_mem (letters:ByteArray) : ∀ (args:List ByteArray) (got g':ByteArray) (names:List ByteArray),optsP letters args got=some (g',names)->(∀n∈names,n∈args)/\names.length<=args.length:=by
 intro args
 induction args with
 | nil =>
  intro got g' names h
  have h:some (got,([]:List ByteArray))=some (g',names):=h
  simp only[Option.some.injEq,Prod.mk.injEq]at h
  rw[<-h.2]
  exact⟨fun n hn=>hn,Nat.le_refl _⟩
 | cons a r ih =>
  intro got g' names h
  unfold optsP at h
  rw[List.length_cons]
  split at h
  ·simp only[Option.some.injEq,Prod.mk.injEq]at h
   rw[<-h.2]
   exact⟨fun n hn=>List.mem_cons_of_mem _ hn,by omega⟩
  split at h
  ·simp only[Option.some.injEq,Prod.mk.injEq]at h
   rw[<-h.2]
   exact⟨fun n hn=>hn,by rw[List.length_cons];omega⟩
  split at h
  ·obtain⟨h1,h2⟩:=ih _ _ _ h
   exact⟨fun n hn=>List.mem_cons_of_mem _ (h1 n hn),by omega⟩
  ·cases h
theorem fail_st (nm:ByteArray) {s:TS} (n:ByteArray) (e:Int) (h:0<=s.st):0<=(s.fail nm n e).st:=by
 unfold TS.fail
 split
 ·exact h
 ·show 0<=(if e==10 then(3:Int)else if s.st<1 then 1 else s.st)
  split
  ·decide
  ·split
   ·decide
   ·exact h
theorem each_st {nm:ByteArray} {do_:TS->ByteArray->Int×TS} (h:∀t n,0<=t.st->0<=(do_ t n).2.st) : ∀ (l:List ByteArray) (s:TS),0<=s.st->0<=(TS.each nm do_ l s).st:=by
 intro l
 induction l with
 | nil=>intro s hs;exact hs
 | cons n r ih =>
  intro s hs
  unfold TS.each
  split
  ·exact hs
  ·exact ih _ (fail_st _ _ _ (h _ _ hs))
theorem into_st {nm cwd:ByteArray} {do_:TS->ByteArray->ByteArray->Int×TS} (h:∀t a b,0<=t.st->0<=(do_ t a b).2.st) (l:List ByteArray) (s:TS) (hs:0<=s.st):0<=(TS.into nm cwd do_ l s).st:=by
 unfold TS.into
 split
 ·exact hs
 ·simp only
  split
  ·exact fail_st _ _ _ hs
  ·exact each_st (fun t n ht=>h _ _ _ ht) _ _ hs
theorem foldl_st {f:TS->ByteArray->TS} (h:∀t n,0<=t.st->0<=(f t n).st) : ∀ (l:List ByteArray) (s:TS),0<=s.st->0<=(l.foldl f s).st:=by
 intro l
 induction l with
 | nil=>intro s hs;exact hs
 | cons n r ih=>intro s hs;rw[List.foldl_cons];exact ih _ (h _ _ hs)
theorem rm_st (nm cwd got:ByteArray) : ∀ (f:Nat) (s:TS) (p:ByteArray),0<=s.st->0<=(TS.rm nm cwd got f s p).2.st:=by
 intro f
 induction f with
 | zero=>intro s p h;exact h
 | succ f ih =>
  intro s p h
  unfold TS.rm
  simp only
  split
  ·exact h
  split
  ·exact h
  split
  ·exact h
  ·show 0<=(if(s.A.stat cwd p false).2.kind==2 then(s.A.listF cwd p).2.foldl (rmStep nm cwd got p f) s else s).st
   split
   ·exact foldl_st (fun t n ht=>fail_st _ _ _ (ih _ _ ht)) _ _ h
   ·exact h
theorem cp_st (nm cwd got:ByteArray) : ∀ (f:Nat) (s:TS) (a b:ByteArray),0<=s.st->0<=(TS.cp nm cwd got f s a b).2.st:=by
 intro f
 induction f with
 | zero=>intro s a b h;exact h
 | succ f ih =>
  intro s a b h
  unfold TS.cp
  simp only
  split
  ·exact h
  split
  ·exact h
  split
  ·exact h
  split
  ·exact h
  split
  ·exact h
  split
  ·exact h
  ·refine foldl_st (fun t n ht => ?_) _ _ h
   split
   ·exact ht
   ·exact fail_st _ _ _ (ih _ _ _ ht)
theorem sift_st (nm cwd:ByteArray) : ∀ (l:List ByteArray) (s:TS) (p d:List ByteArray),0<=s.st->0<=(TS.sift nm cwd l s p d).1.st:=by
 intro l
 induction l with
 | nil=>intro s p d h;exact h
 | cons n r ih =>
  intro s p d h
  unfold TS.sift
  split
  ·exact h
  split
  ·exact ih _ _ _ h
  ·exact ih _ _ _ (fail_st _ _ _ h)
theorem ls_st (nm cwd got:ByteArray) (names:List ByteArray) (s:TS) (h:0<=s.st):0<=(TS.ls nm cwd got names s).st:=by
 unfold TS.ls
 simp only
 refine foldl_st (fun t n ht => ?_) _ _ (foldl_st (f:=TS.say) (fun t n ht=>ht) _ _ (sift_st _ _ _ _ _ _ h))
 unfold TS.listed
 simp only
 have h2 : ∀b:Bool,0<=(if b then t.say (n++⟨⟨[58]⟩⟩)else t).st:=fun b=>by cases b<;>exact ht
 refine foldl_st (fun t n ht => ?_) _ _ (h2 _)
 split
 ·exact ht
 ·exact ht
theorem do_st (A:AT) (nm cwd got:ByteArray) (names:List ByteArray):0<=(doP A nm cwd got names).st:=by
 have h0:0<=(TS.new A).st:=Int.le_refl _
 unfold doP
 simp only
 split
 ·exact each_st (fun t n ht=>ht) _ _ h0
 split
 ·exact each_st (fun t n ht=>ht) _ _ h0
 split
 ·exact each_st (fun t n ht=>ht) _ _ h0
 split
 ·split
  ·exact h0
  ·exact each_st (fun t n ht=>ht) _ _ h0
 split
 ·split
  ·exact h0
  ·exact each_st (fun t n ht=>ht) _ _ h0
 split
 ·exact each_st (fun t n ht=>rm_st _ _ _ _ _ _ ht) _ _ h0
 split
 ·exact into_st (fun t a b ht=>ht) _ _ h0
 split
 ·exact into_st (fun t a b ht=>cp_st _ _ _ _ _ _ _ ht) _ _ h0
 ·exact ls_st _ _ _ _ _ h0
theorem files_st {A:AT} {cwd nm:ByteArray} {args:List ByteArray} {d:Dn} {A':AT} (h:A.filesP cwd nm args=some (d,A')):0<=d.st:=by
 unfold AT.filesP at h
 split at h
 ·simp only at h
  split at h
  ·cases h;exact Int.le.intro 2 rfl
  ·split at h
   ·cases h;exact do_st _ _ _ _ _
   ·cases h;exact Int.le.intro 2 rfl
 ·cases h
theorem call_some {A:AT} {nm:ByteArray} {args:List ByteArray} {d:Dn} {A':AT} (h:A.filesP ⟨⟨[47]⟩⟩ nm args=some (d,A')):callP A nm args=(⟨⟨[(48+d.st.toNat).toUInt8]⟩⟩++d.out++d.err,A'):=by
 unfold callP
 rw[h]
theorem do_mk (A:AT) (cwd got:ByteArray) (names:List ByteArray):doP A mkN cwd got names=TS.each mkN (fun t n=>onA t (if hasL got 112 then t.A.allF cwd (waysP n++[n])else t.A.mkdirF cwd n)) names (TS.new A):=by
 unfold doP
 simp only
 rw[if_pos (by decide +kernel)]
theorem do_rmdir (A:AT) (cwd got:ByteArray) (names:List ByteArray):doP A rmN cwd got names=TS.each rmN (fun t n=>onA t (t.A.rmdirP cwd n)) names (TS.new A):=by
 unfold doP
 simp only
 rw[if_neg (by decide +kernel),if_pos (by decide +kernel)]
theorem do_rm (A:AT) (cwd got:ByteArray) (names:List ByteArray):doP A rmT cwd got names=TS.each rmT (fun t n=>TS.rm rmT cwd got FU t n) names (TS.new A):=by
 unfold doP
 simp only
 rw[if_neg (by decide +kernel),if_neg (by decide +kernel),if_neg (by decide +kernel),if_neg (by decide +kernel),if_neg (by decide +kernel),if_pos (by decide +kernel)]
theorem do_mv (A:AT) (cwd got:ByteArray) (names:List ByteArray):doP A mvN cwd got names=TS.into mvN cwd (fun t a b=>onA t (t.A.renameF cwd a b)) names (TS.new A):=by
 unfold doP
 simp only
 rw[if_neg (by decide +kernel),if_neg (by decide +kernel),if_neg (by decide +kernel),if_neg (by decide +kernel),if_neg (by decide +kernel),if_neg (by decide +kernel),if_pos (by decide +kernel)]
theorem do_cp (A:AT) (cwd got:ByteArray) (names:List ByteArray):doP A cpN cwd got names=TS.into cpN cwd (fun t a b=>TS.cp cpN cwd got FU t a b) names (TS.new A):=by
 unfold doP
 simp only
 rw[if_neg (by decide +kernel),if_neg (by decide +kernel),if_neg (by decide +kernel),if_neg (by decide +kernel),if_neg (by decide +kernel),if_neg (by decide +kernel),if_neg (by decide +kernel),if_pos (by decide +kernel)]
theorem do_ls (A:AT) (cwd got:ByteArray) (names:List ByteArray):doP A lsN cwd got names=TS.ls lsN cwd got names (TS.new A):=by
 unfold doP
 simp only
 rw[if_neg (by decide +kernel),if_neg (by decide +kernel),if_neg (by decide +kernel),if_neg (by decide +kernel),if_neg (by decide +kernel),if_neg (by decide +kernel),if_neg (by decide +kernel),if_neg (by decide +kernel)]
theorem right_cp {got:ByteArray} {names:List ByteArray} (h:rightP cpN got names=true):names≠[]:=by
 rintro rfl
 exact absurd h (by rw[show rightP cpN got []=false from rfl];decide)
theorem right_mv {got:ByteArray} {names:List ByteArray} (h:rightP mvN got names=true):names≠[]:=by
 rintro rfl
 exact absurd h (by rw[show rightP mvN got []=false from rfl];decide)
end Go.Wk

set_option maxRecDepth 100000
namespace Go.Proofs.YtbdlkofldmhoaaaGreatDoor
open Go Go.HL Go.Wk
theorem u8_st {st:Int} (h:0<=st):IntKind.u8.wrap (48+IntKind.u8.wrap st)=(((48+st.toNat).toUInt8.toNat:Nat):Int):=by
 obtain⟨n,rfl⟩ : ∃n:Nat,st=n:=⟨st.toNat,by omega⟩
 rw[IntKind.wrap_u8,IntKind.wrap_u8,Int.toNat_natCast]
 show _=((((48+n) % 256:Nat)):Int)
 omega
attribute [local irreducible] ptrW ifW brW andW rdT alW letJ stW muW biW vaW imW callT cvalT app callW invW callVW sizeT oW nilF oneK loopW rfW funW begW roundK exW idxW Gr Put
theorem und_bytesF:Tryz.prog.underlying 57=some (.slice 5):=Tryz.underlying57
theorem und_u8F:Tryz.prog.underlying 5=some (.int .u8):=Tryz.underlying5
section
variable {σ τ : H} {bf : Nat} {A : AT} {B : Nat -> Prop}
theorem s_call19 {Q:AT->Prop} {nm:ByteArray} {x:Sl} {args:List ByteArray} (hrun:∀K:Value->H->Prop,(∀d A',A.filesP ⟨⟨[47]⟩⟩ nm args=some (d,A') -> ∀σ' B',FsAt σ' bf A' B'->Sep σ B σ' B'->Q A'->K (.tuple ⟨[.agg ⟨dnF d⟩,.bool true]⟩) σ')->callW Tryz.prog 16 [.pointer (some ⟨bf,0,none⟩),.agg ⟨[.string nm,.slice x.base x.len x.cap,.string ⟨⟨[]⟩⟩,.string ⟨⟨[47]⟩⟩]⟩] K σ)
 (hz:(callP A nm args).1.size<=1000000000000) {K:KH} (hK:∀σ' B',FsAt σ' bf (callP A nm args).2 B'->Sep σ B σ' B'->Q (callP A nm args).2->K (.string (callP A nm args).1) σ') :
 callW Tryz.prog 12 [.pointer (some ⟨bf,0,none⟩),.string nm,.slice x.base x.len x.cap] K σ:=by
 refine c12 _ _ _ ?_
 unfold g12
 refine call_i (hrun _ ?_)
 intro d A' he σ1 B1 F1 s1 hq
 rw[call_some he]at hz hK
 have hst:=files_st he
 unfold dnF
 (refine app_of rfl ?_;try dsimp only)
 refine al_i ?_;intro b8 σ2 g2 e2 n2
 refine st_i2 e2 sz_DoneF (by rfl) (by rfl) ?_;intro σ3 p3
 have g3:Gr σ1 σ3:=g2.putF p3 n2
 have k3:=p3.same
 clear p3 e2 g2
 refine br_f rfl (rd_I (rdC_of k3 (by rfl)) ?_)
 rw[u8_st hst]
 refine al_i ?_;intro b10 σ4 g4 e4 n4
 have k4:=g4.get k3
 have G4:=g3.trans g4
 simp only[ByteArray.size_append]at hz
 refine bstr_i und_bytesF und_u8F und_string (l:=[(48+d.st.toNat).toUInt8]) (x:=⟨some ⟨b10,0,none⟩,1,1⟩) ⟨rfl,.inr ⟨b10,0,_,_,_,rfl,e4,fun i r hr => ?_⟩⟩ ?_
 ·match i,hr with
  | 0,hr=>cases hr;exact⟨rfl,rfl⟩
  | i+1,hr=>simp[brows]at hr
 ·refine rd_S (rdC_of k4 (by rfl)) (if_i (by omega) (rd_S (rdC_of k4 (by rfl)) (if_i (by rw[ByteArray.size_append];omega) ?_)))
  exact hK σ4 B1 (F1.gr G4) (s1.grR G4) hq
end
section
variable {σ τ : H} {bf : Nat} {A : AT} {B : Nat -> Prop} {x : Sl} {args : List ByteArray} {K : KH}
theorem lk_mk (b:Nat):lk mkN (doL b)=some (.func (.func 42) ⟨[.pointer (some ⟨b,0,none⟩)]⟩ ⟨[]⟩):=by
 unfold doL;simp only[lkS]
 rw[if_pos (by decide +kernel)]
theorem lk_rmdir (b:Nat):lk rmN (doL b)=some (.func (.func 43) ⟨[.pointer (some ⟨b,0,none⟩)]⟩ ⟨[]⟩):=by
 unfold doL;simp only[lkS]
 rw[if_neg (by decide +kernel),if_pos (by decide +kernel)]
theorem lk_rm (b:Nat):lk rmT (doL b)=some (.func (.func 47) ⟨[.pointer (some ⟨b,0,none⟩)]⟩ ⟨[]⟩):=by
 unfold doL;simp only[lkS]
 rw[if_neg (by decide +kernel),if_neg (by decide +kernel),if_neg (by decide +kernel),if_neg (by decide +kernel),if_neg (by decide +kernel),if_pos (by decide +kernel)]
theorem lk_mv (b:Nat):lk mvN (doL b)=some (.func (.func 48) ⟨[.pointer (some ⟨b,0,none⟩)]⟩ ⟨[]⟩):=by
 unfold doL;simp only[lkS]
 rw[if_neg (by decide +kernel),if_neg (by decide +kernel),if_neg (by decide +kernel),if_neg (by decide +kernel),if_neg (by decide +kernel),if_neg (by decide +kernel),if_pos (by decide +kernel)]
theorem lk_cp (b:Nat):lk cpN (doL b)=some (.func (.func 49) ⟨[.pointer (some ⟨b,0,none⟩)]⟩ ⟨[]⟩):=by
 unfold doL;simp only[lkS]
 rw[if_neg (by decide +kernel),if_neg (by decide +kernel),if_neg (by decide +kernel),if_neg (by decide +kernel),if_neg (by decide +kernel),if_neg (by decide +kernel),if_neg (by decide +kernel),if_pos (by decide +kernel)]
theorem lk_ls (b:Nat):lk lsN (doL b)=some (.func (.func 50) ⟨[.pointer (some ⟨b,0,none⟩)]⟩ ⟨[]⟩):=by
 unfold doL;simp only[lkS]
 rw[if_neg (by decide +kernel),if_neg (by decide +kernel),if_neg (by decide +kernel),if_neg (by decide +kernel),if_neg (by decide +kernel),if_neg (by decide +kernel),if_neg (by decide +kernel),if_neg (by decide +kernel),if_pos (by decide +kernel)]
theorem call_size {nm got:ByteArray} {names:List ByteArray} (ht:toolsL.any (fun t=>sEq nm t)=true) (hc:sEq nm ⟨⟨[99,104,109,111,100]⟩⟩=false) (h1:optsP (lettersP nm) args ⟨⟨[]⟩⟩=some (got,names)) (h2:rightP nm got names=true) (hz:(callP A nm args).1.size<=1000000000000):(doP A nm ⟨⟨[47]⟩⟩ got names).err.size<=1000000000000/\(doP A nm ⟨⟨[47]⟩⟩ got names).out.size<=1000000000000:=by
 have he:A.filesP ⟨⟨[47]⟩⟩ nm args=some (⟨(doP A nm ⟨⟨[47]⟩⟩ got names).out,(doP A nm ⟨⟨[47]⟩⟩ got names).err,(doP A nm ⟨⟨[47]⟩⟩ got names).st⟩,(doP A nm ⟨⟨[47]⟩⟩ got names).A):=by
  rw[files_def ht hc,h1]
  show(if rightP nm got names=true then _ else _)=_
  rw[if_pos h2]
 rw[call_some he]at hz
 simp only[ByteArray.size_append]at hz
 omega
structure ArgOk (τ:H) (args:List ByteArray) (x:Sl):Prop where
 rows:RowsAt τ 1 (strRows args) x
 cap:x.len<=x.cap
 sz : ∀a∈args,a.size<=1000
 len:args.length<=1000
theorem c_mkdir {M:Nat} (hF:FsAt σ bf A B) (hO:Off τ σ B) (ha:ArgOk τ args x) (hp:Pot M A) (hM:M<=900000000000) (hz:(callP A mkN args).1.size<=1000000000000)
 (hK:∀σ' B',FsAt σ' bf (callP A mkN args).2 B'->Sep σ B σ' B'->Pot M (callP A mkN args).2->K (.string (callP A mkN args).1) σ'):callW Tryz.prog 12 [.pointer (some ⟨bf,0,none⟩),.string mkN,.slice x.base x.len x.cap] K σ:=by
 refine s_call19 (B:=B) (Q:=Pot M) (fun K' hK'=>s_fiRun (Q:=Pot M) hF hO mkN _ _ ha.rows ha.cap (by decide) ha.sz ha.len (by decide +kernel) (by decide +kernel) (by kernel_rfl) lk_mk hp ?_ hK') hz hK
 intro got names y bt σ1 B1 τ1 h1 h2 t1 o1 r1 c1 K2 hK2
 obtain⟨m1,m2⟩:=opts_mem _ _ _ _ _ h1
 obtain⟨z1,_⟩:=call_size (A:=A) (by decide +kernel) (by decide +kernel) h1 h2 hz
 have hl:=ha.len
 rw[do_mk]at z1 hK2
 exact s_fiMkdir t1 o1 r1 hp hM (by show mkN.size<=_;decide) (by omega) (fun n hn=>Nat.le_trans (ha.sz n (m1 n hn)) (by decide)) z1 fun σ' B' t' s' p'=>hK2 σ' B' y t' s' p'
theorem c_rmdir {N:Nat} (hF:FsAt σ bf A B) (hO:Off τ σ B) (ha:ArgOk τ args x) (hI:Inv A/\Bd N A) (hN:N<=1000000000000) (hz:(callP A rmN args).1.size<=1000000000000)
 (hK:∀σ' B',FsAt σ' bf (callP A rmN args).2 B'->Sep σ B σ' B'->(Inv (callP A rmN args).2/\Bd N (callP A rmN args).2)->K (.string (callP A rmN args).1) σ'):callW Tryz.prog 12 [.pointer (some ⟨bf,0,none⟩),.string rmN,.slice x.base x.len x.cap] K σ:=by
 refine s_call19 (B:=B) (Q:=fun A=>Inv A/\Bd N A) (fun K' hK'=>s_fiRun (Q:=fun A=>Inv A/\Bd N A) hF hO rmN _ _ ha.rows ha.cap (by decide) ha.sz ha.len (by decide +kernel) (by decide +kernel) (by kernel_rfl) lk_rmdir hI ?_ hK') hz hK
 intro got names y bt σ1 B1 τ1 h1 h2 t1 o1 r1 c1 K2 hK2
 obtain⟨m1,m2⟩:=opts_mem _ _ _ _ _ h1
 obtain⟨z1,_⟩:=call_size (A:=A) (by decide +kernel) (by decide +kernel) h1 h2 hz
 have hl:=ha.len
 rw[do_rmdir]at z1 hK2
 exact s_fiRmdir t1 o1 r1 hI hN (by show rmN.size<=_;decide) (by omega) (fun n hn=>Nat.le_trans (ha.sz n (m1 n hn)) (by decide)) z1 fun σ' B' t' s' p'=>hK2 σ' B' y t' s' p'
theorem c_rm {N:Nat} (hF:FsAt σ bf A B) (hO:Off τ σ B) (ha:ArgOk τ args x) (hI:Inv A/\Bd N A) (hN:N<=1000000000000) (hz:(callP A rmT args).1.size<=1000000000000)
 (hK:∀σ' B',FsAt σ' bf (callP A rmT args).2 B'->Sep σ B σ' B'->(Inv (callP A rmT args).2/\Bd N (callP A rmT args).2)->K (.string (callP A rmT args).1) σ'):callW Tryz.prog 12 [.pointer (some ⟨bf,0,none⟩),.string rmT,.slice x.base x.len x.cap] K σ:=by
 refine s_call19 (B:=B) (Q:=fun A=>Inv A/\Bd N A) (fun K' hK'=>s_fiRun (Q:=fun A=>Inv A/\Bd N A) hF hO rmT _ _ ha.rows ha.cap (by decide) ha.sz ha.len (by decide +kernel) (by decide +kernel) (by kernel_rfl) lk_rm hI ?_ hK') hz hK
 intro got names y bt σ1 B1 τ1 h1 h2 t1 o1 r1 c1 K2 hK2
 obtain⟨m1,m2⟩:=opts_mem _ _ _ _ _ h1
 obtain⟨z1,_⟩:=call_size (A:=A) (by decide +kernel) (by decide +kernel) h1 h2 hz
 have hl:=ha.len
 rw[do_rm]at z1 hK2
 exact s_fiRm t1 o1 r1 hI hN (by show rmT.size<=_;decide) (by omega) (fun n hn=>Nat.le_trans (ha.sz n (m1 n hn)) (by decide)) z1 fun σ' B' t' s' p'=>hK2 σ' B' y t' s' p'
theorem c_mv {N:Nat} (hF:FsAt σ bf A B) (hO:Off τ σ B) (ha:ArgOk τ args x) (hI:Inv A/\Bd N A) (hN:N+1000<=1000000000000) (hz:(callP A mvN args).1.size<=1000000000000)
 (hK:∀σ' B',FsAt σ' bf (callP A mvN args).2 B'->Sep σ B σ' B'->(Inv (callP A mvN args).2/\Bd (N+1000) (callP A mvN args).2)->K (.string (callP A mvN args).1) σ'):callW Tryz.prog 12 [.pointer (some ⟨bf,0,none⟩),.string mvN,.slice x.base x.len x.cap] K σ:=by
 refine s_call19 (B:=B) (Q:=fun A=>Inv A/\Bd (N+1000) A) (fun K' hK'=>s_fiRun (Q:=fun A=>Inv A/\Bd (N+1000) A) hF hO mvN _ _ ha.rows ha.cap (by decide) ha.sz ha.len (by decide +kernel) (by decide +kernel) (by kernel_rfl) lk_mv ⟨hI.1,hI.2.mono (by omega)⟩ ?_ hK') hz hK
 intro got names y bt σ1 B1 τ1 h1 h2 t1 o1 r1 c1 K2 hK2
 obtain⟨m1,m2⟩:=opts_mem _ _ _ _ _ h1
 obtain⟨z1,_⟩:=call_size (A:=A) (by decide +kernel) (by decide +kernel) h1 h2 hz
 have hl:=ha.len
 rw[do_mv]at z1 hK2
 exact s_fiMv t1 o1 r1 c1 (right_mv h2) (by omega) hI hN (by show mvN.size<=_;decide) (fun n hn=>Nat.le_trans (ha.sz n (m1 n hn)) (by decide)) z1 fun σ' B' y' t' s' p'=>hK2 σ' B' y' t' s' ⟨p'.1,p'.2.mono (by omega)⟩
theorem c_cp {M:Nat} (hF:FsAt σ bf A B) (hO:Off τ σ B) (ha:ArgOk τ args x) (hp:Pot M A) (hM:M<=900000000000) (hz:(callP A cpN args).1.size<=1000000000000)
 (hK:∀σ' B',FsAt σ' bf (callP A cpN args).2 B'->Sep σ B σ' B'->Pot M (callP A cpN args).2->K (.string (callP A cpN args).1) σ'):callW Tryz.prog 12 [.pointer (some ⟨bf,0,none⟩),.string cpN,.slice x.base x.len x.cap] K σ:=by
 refine s_call19 (B:=B) (Q:=Pot M) (fun K' hK'=>s_fiRun (Q:=Pot M) hF hO cpN _ _ ha.rows ha.cap (by decide) ha.sz ha.len (by decide +kernel) (by decide +kernel) (by kernel_rfl) lk_cp hp ?_ hK') hz hK
 intro got names y bt σ1 B1 τ1 h1 h2 t1 o1 r1 c1 K2 hK2
 obtain⟨m1,m2⟩:=opts_mem _ _ _ _ _ h1
 obtain⟨z1,_⟩:=call_size (A:=A) (by decide +kernel) (by decide +kernel) h1 h2 hz
 have hl:=ha.len
 rw[do_cp]at z1 hK2
 exact s_fiCp t1 o1 r1 c1 (right_cp h2) (by omega) hp hM (by show cpN.size<=_;decide) (fun n hn=>Nat.le_trans (ha.sz n (m1 n hn)) (by decide)) z1 fun σ' B' y' t' s' p'=>hK2 σ' B' y' t' s' p'
theorem ls_A (nm cwd got:ByteArray) (names:List ByteArray) (s:TS):(TS.ls nm cwd got names s).A=s.A:=by
 rw[ls_def nm cwd got names _ rfl,(listeds_keep _ _ _ _ _).1,(says_keep _ _).1,(sift_keep _ _ _ _ _ _).1]
theorem c_ls {N:Nat} (hF:FsAt σ bf A B) (hO:Off τ σ B) (ha:ArgOk τ args x) (hI:Inv A/\Bd N A) (hN:N<=1000000000000) (hz:(callP A lsN args).1.size<=1000000000000)
 (hK:∀σ' B',FsAt σ' bf (callP A lsN args).2 B'->Sep σ B σ' B'->(callP A lsN args).2=A->K (.string (callP A lsN args).1) σ'):callW Tryz.prog 12 [.pointer (some ⟨bf,0,none⟩),.string lsN,.slice x.base x.len x.cap] K σ:=by
 refine s_call19 (B:=B) (Q:=fun A'=>A'=A) (fun K' hK'=>s_fiRun (Q:=fun A'=>A'=A) hF hO lsN _ _ ha.rows ha.cap (by decide) ha.sz ha.len (by decide +kernel) (by decide +kernel) (by kernel_rfl) lk_ls rfl ?_ hK') hz hK
 intro got names y bt σ1 B1 τ1 h1 h2 t1 o1 r1 c1 K2 hK2
 obtain⟨m1,m2⟩:=opts_mem _ _ _ _ _ h1
 obtain⟨z1,z2⟩:=call_size (A:=A) (by decide +kernel) (by decide +kernel) h1 h2 hz
 have hl:=ha.len
 rw[do_ls]at z1 z2 hK2
 exact s_fiLs t1 o1 r1 hI.1 hI.2 hN (by show lsN.size<=_;decide) (by omega) (fun n hn=>Nat.le_trans (ha.sz n (m1 n hn)) (by decide)) z1 z2 fun σ' y' t' s'=>hK2 σ' B1 y' t' s' (ls_A _ _ _ _ _)
end
end Go.Proofs.YtbdlkofldmhoaaaGreatDoor

set_option maxRecDepth 100000
namespace Go.Proofs.YtbdlkofldmhoaaaGreatDoor
open Go Go.HL Go.Wk
def octd (c:UInt8):Bool:=Nat.ble 48 c.toNat&&Nat.ble c.toNat 55
def octL:List UInt8:=[48,49,50,51,52,53,54,55]
def numO (l:List UInt8):Nat:=l.foldl (fun n c=>8 * n+(c.toNat - 48)) 0
theorem octL_all : ∀n,n<256->octL.contains (UInt8.ofNat n)=octd (UInt8.ofNat n):=by decide +kernel
theorem octL_d (c:UInt8):octL.contains c=octd c:=by
 have:=octL_all c.toNat (UInt8.toNat_lt c)
 rwa [UInt8.ofNat_toNat]at this
theorem octd_rng {c:UInt8} (h:octd c=true):48<=c.toNat/\c.toNat<=55:=by
 unfold octd at h;rw[Bool.and_eq_true]at h
 exact⟨Nat.le_of_ble_eq_true h.1,Nat.le_of_ble_eq_true h.2⟩
theorem numO_snoc (l:List UInt8) (c:UInt8):numO (l++[c])=8 * numO l+(c.toNat - 48):=by unfold numO;rw[List.foldl_append];rfl
theorem numO_lt : ∀ (k:Nat) (l:List UInt8),l.length=k->l.all octd=true->numO l<8 ^ k:=by
 intro k
 induction k with
 | zero =>
  intro l hl _
  have:l=[]:=List.eq_nil_of_length_eq_zero hl
  subst this
  show(0:Nat)<1;decide
 | succ k ih =>
  intro l hl ha
  obtain⟨m,x,rfl,hm⟩:=snoc_of hl
  rw[List.all_append,Bool.and_eq_true]at ha
  have h1:=ih m hm ha.1
  have hx:octd x=true:=by have:=ha.2;simpa using this
  have h2:=octd_rng hx
  rw[numO_snoc,Nat.pow_succ]
  omega
theorem octP_def (l:List UInt8):octP ⟨⟨l⟩⟩=if l.isEmpty||(decide (l.length>3) || !l.all octd)then none else some ((numO l:Nat):Int):=rfl
theorem trimO (l:List UInt8):(Lib.trimS l octL).isEmpty=l.all octd:=by
 rw[trimS_all,funext octL_d]
theorem nilneF {x:Operand} {F:Bool->H->Prop} {σ:H} (hF:F false σ):vaW Tryz.prog (do eqGuard .neq 175 x (.const (.nilIface)) (.nilIface) (.nilIface);binOp .neq 175 (.nilIface) (.nilIface)) kB F σ:=by
 intro w hw
 have h1:(eqGuard .neq 175 x (.const (.nilIface)) (.nilIface) (.nilIface)).run Tryz.prog w = .ok () w:=by simp[eqGuard]
 have h2:(binOp .neq 175 (.nilIface) (.nilIface)).run Tryz.prog w = .ok (.bool false) w:=run_neq_nil_nil_at w 175 (by kernel_rfl)
 simp only[valS,Sem.run_bind,h1,h2,Result.andThen_ok,Sem.run_pure]
 exact⟨_,Ext.refl hw,app_B hF⟩
theorem nileqF {x:Operand} {F:Bool->H->Prop} {σ:H} (hF:F true σ):vaW Tryz.prog (do eqGuard .eql 175 x (.const (.nilIface)) (.nilIface) (.nilIface);binOp .eql 175 (.nilIface) (.nilIface)) kB F σ:=by
 intro w hw
 have h1:(eqGuard .eql 175 x (.const (.nilIface)) (.nilIface) (.nilIface)).run Tryz.prog w = .ok () w:=by simp[eqGuard]
 have h2:(binOp .eql 175 (.nilIface) (.nilIface)).run Tryz.prog w = .ok (.bool true) w:=run_eql_nil_nil_at w 175 (by kernel_rfl)
 simp only[valS,Sem.run_bind,h1,h2,Result.andThen_ok,Sem.run_pure]
 exact⟨_,Ext.refl hw,app_B hF⟩
theorem app_IRf {n:Int} {v:Value} {k:IntKind} {F:Int->Value->H->Prop} {σ:H} (h2:F n v σ):HL.app (.tup [.sc (.int k),.sc .raw]) F (.tuple ⟨[.int k n,v]⟩) σ:=by
 simp only[HL.app,TK.prj,CK.prj,SK.prj,prjInt,sameK_self,tupOf,prjC];exact h2
attribute [local irreducible] ptrW ifW brW andW rdT alW letJ stW muW biW vaW imW callT cvalT app callW invW callVW sizeT oW nilF oneK loopW rfW funW begW roundK exW idxW Gr Put
theorem x_Puint (l:List UInt8) (h1:l≠[]) (h2:l.length<=3) (h3:l.all octd=true) {σ:H} {K:KH} (hK:K (.tuple ⟨[.int .u64 ((numO l:Nat):Int),.nilIface]⟩) σ):callW Tryz.prog 219 [.string ⟨⟨l⟩⟩,.int .i64 8,.int .i64 32] K σ:=by
 refine pure_i _ hK (c219 _ _ _ ?_)
 clear hK
 unfold g219
 refine br_f (by rw[strEq_nil];cases l with | nil=>exact absurd rfl h1 | cons=>rfl) ?_
 refine j_d (j_d (br_t (by decide) ?_))
 refine br_t (by decide) (j_d (br_f (by decide) (j_d (br_f (by decide) ?_))))
 refine br_f (by decide) (j_d (br_f (by decide) (br_f (by decide) (if_i (by decide) (if_i (by decide) ?_)))))
 refine sbytes_i und_string und_bytesF und_u8F ⟨⟨l⟩⟩ ?_
 intro x σ1 g1 hx
 have hxl:x.len=l.length:=by rw[hx.1,brows_len]
 refine loop_i ?_
 intro R hR
 have hc8:IntKind.u64.wrap ((IntKind.u64.wrap (Int.tdiv 18446744073709551615 (IntKind.u64.wrap 8)))+1)=2305843009213693952:=by decide
 have hmv:IntKind.u64.wrap ((IntKind.u64.wrap (1 * 2 ^ min (Int.toNat (IntKind.u64.wrap 32)) (IntKind.bits .u64))) - 1)=4294967295:=by decide
 rw[hc8,hmv]
 have key : ∀ (k i:Nat),k+i=l.length->R 8 false ⟨⟨l⟩⟩ 2305843009213693952 4294967295 false ((numO (l.take i):Nat):Int) x ((x.len:Nat):Int) (i:Int) σ1:=by
  intro k
  induction k with
  | zero =>
   intro i hi
   refine hR _ _ _ _ _ _ _ _ _ _ _ ?_
   refine br_f (by simp only[decide_eq_false_iff_not];omega) (j_d (br_f rfl (br_f rfl ⟨?_,g1⟩)))
   rw[List.take_of_length_le (by omega)]
  | succ k ih =>
   intro i hi
   obtain⟨q,hq⟩ : ∃q,l[i]? = some q:=⟨_,List.getElem?_eq_getElem (by omega)⟩
   have hr:=octd_rng (all_at h3 hq)
   obtain⟨g,o,a1,_,a3⟩:=hx.rdA (i:=i) (r:=[.int .u8 q.toNat]) (by show(brows l)[i]? = _;unfold brows;rw[List.getElem?_map,hq];rfl) (by decide)
   have a4:=a3 0 _ rfl
   have ht:(l.take i).all octd=true:=by
    rw[List.all_eq_true]at h3 ⊢
    exact fun z hz=>h3 z (List.mem_of_mem_take hz)
   have hb:=numO_lt (l.take i).length (l.take i) rfl ht
   have hb2:8 ^ (l.take i).length<=8 ^ 3:=Nat.pow_le_pow_right (by decide) (by rw[List.length_take];omega)
   have hb3:numO (l.take i)<512:=Nat.lt_of_lt_of_le hb hb2
   have hnx:numO (l.take (i+1))=8 * numO (l.take i)+(q.toNat - 48):=by rw[List.take_add_one,hq];exact numO_snoc _ _
   have e1:IntKind.u8.wrap (((q.toNat:Nat):Int) - 48)=((q.toNat - 48:Nat):Int):=by
    have:IntKind.u8.wrap (((q.toNat:Nat):Int) - 48)=(((q.toNat:Nat):Int) - 48) % 256:=rfl
    rw[this];omega
   have e8:IntKind.u8.wrap 8=8:=by decide
   have e64:IntKind.u64.wrap 8=8:=by decide
   have w64 : ∀z:Int,0<=z->z<=1000000->IntKind.u64.wrap z=z:=by
    intro z z0 z1
    rw[IntKind.wrap_u64];omega
   have e2:IntKind.u64.wrap (((numO (l.take i):Nat):Int) * IntKind.u64.wrap 8)=8 * ((numO (l.take i):Nat):Int):=by rw[e64,w64 _ (by omega) (by omega)];omega
   have e3:IntKind.u64.wrap ((q.toNat - 48:Nat):Int)=((q.toNat - 48:Nat):Int):=w64 _ (by omega) (by omega)
   have e4:IntKind.u64.wrap (8 * ((numO (l.take i):Nat):Int)+((q.toNat - 48:Nat):Int))=((numO (l.take (i+1)):Nat):Int):=by rw[w64 _ (by omega) (by omega),hnx];omega
   refine hR _ _ _ _ _ _ _ _ _ _ _ (br_t (by simp only[decide_eq_true_eq];omega) ?_)
   refine j_i (fun j => ∀v,j 8 false ⟨⟨l⟩⟩ 2305843009213693952 4294967295 false ((numO (l.take (i+1)):Nat):Int) x ((x.len:Nat):Int) (i:Int) v σ1) ?_ ?_
   ·intro v
    rw[wrapS (i:=i) (by omega)]
    exact ih (i+1) (by omega)
   ·intro j hj
    rw[a1]
    refine ptr_i (if_i ⟨by omega,by omega⟩ (rd_I (by rw[Int.toNat_natCast];exact a4) ?_))
    refine j_i (fun j' => ∀v1 v2 v3,j' 8 false ⟨⟨l⟩⟩ 2305843009213693952 4294967295 false ((numO (l.take i):Nat):Int) ((q.toNat - 48:Nat):Int) x ((x.len:Nat):Int) (i:Int) v1 v2 v3 σ1) ?_ ?_
    ·intro v1 v2 v3
     rw[e8,e2,e3,e4]
     refine br_f (by rw[decide_eq_false_iff_not];omega) (br_f (by rw[decide_eq_false_iff_not];omega) ?_)
     refine j_i (fun j'' => ∀u1 u2 u3 u4 u5 u6,j'' 8 false ⟨⟨l⟩⟩ 2305843009213693952 4294967295 false ((numO (l.take (i+1)):Nat):Int) x ((x.len:Nat):Int) (i:Int) u1 u2 u3 u4 u5 u6 false σ1) ?_ ?_
     ·intro u1 u2 u3 u4 u5 u6
      exact br_f rfl (hj _)
     ·intro j'' hj''
      refine br_f (by rw[decide_eq_false_iff_not,hnx];omega) ?_
      rw[show decide (((numO (l.take (i+1)):Nat):Int)>4294967295)=false from by rw[decide_eq_false_iff_not,hnx];omega]
      exact hj'' _ _ _ _ _ _
    ·intro j' hj'
     refine j_i (fun j2 => ∀v,j2 8 false ⟨⟨l⟩⟩ 2305843009213693952 4294967295 false ((numO (l.take i):Nat):Int) ((q.toNat:Nat):Int) x ((x.len:Nat):Int) (i:Int) false v σ1) ?_ ?_
     ·intro v
      refine br_f rfl (j_i (fun j3 => ∀v1 v2 v3,j3 8 false ⟨⟨l⟩⟩ 2305843009213693952 4294967295 false ((numO (l.take i):Nat):Int) ((q.toNat:Nat):Int) x ((x.len:Nat):Int) (i:Int) v1 true v2 v3 σ1) ?_ ?_)
      ·intro v1 v2 v3
       refine br_t rfl ?_
       rw[e1]
       exact hj' _ _ _
      ·intro j3 hj3
       refine br_t (by rw[decide_eq_true_eq];omega) ?_
       rw[show decide (((q.toNat:Nat):Int)<=57)=true from by rw[decide_eq_true_eq];omega]
       exact hj3 _ _ _
     ·intro j2 hj2
      exact br_f (by simp only[beq_eq_false_iff_ne,ne_eq];omega) (hj2 _)
 exact key l.length 0 (by omega)
theorem x_Pint (l:List UInt8) (h1:l≠[]) (h2:l.length<=3) (h3:l.all octd=true) {σ:H} {K:KH} (hK:K (.tuple ⟨[.int .i64 ((numO l:Nat):Int),.nilIface]⟩) σ):callW Tryz.prog 156 [.string ⟨⟨l⟩⟩,.int .i64 8,.int .i64 32] K σ:=by
 refine c156 _ _ _ ?_
 unfold g156
 refine call_i (c187 _ _ _ ?_)
 unfold g187
 obtain⟨c,r,rfl⟩ : ∃c r,l=c::r:=by
  cases l with
  | nil=>exact absurd rfl h1
  | cons c r=>exact⟨c,r,rfl⟩
 have hr:=octd_rng (all_at h3 (i:=0) (c:=c) rfl)
 have hb:=numO_lt (c::r).length (c::r) rfl h3
 have hb2:8 ^ (c::r).length<=8 ^ 3:=Nat.pow_le_pow_right (by decide) h2
 have hb3:numO (c::r)<512:=Nat.lt_of_lt_of_le hb hb2
 refine br_f (by rw[strEq_nil];rfl) ?_
 refine j_i (fun j=>j ⟨⟨c::r⟩⟩ 8 32 false σ) ?_ ?_
 ·refine call_i (x_Puint (c::r) h1 h2 h3 (app_IRf ?_))
  refine j_i (fun j=>j 32 .nilIface false ((numO (c::r):Nat):Int) false σ) ?_ ?_
  ·refine br_f rfl (j_i (fun j=>j 32 false ((numO (c::r):Nat):Int) σ) ?_ ?_)
   ·refine if_i (by decide) (j_i (fun j => ∀v,j false ((numO (c::r):Nat):Int) v false σ) ?_ ?_)
    ·intro v
     refine br_f rfl (j_i (fun j => ∀v,j false ((numO (c::r):Nat):Int) v false σ) ?_ ?_)
     ·intro v
      refine br_f rfl (j_i (fun j=>j ((numO (c::r):Nat):Int) σ) ?_ ?_)
      ·exact app_IRf (nilneF (br_f rfl hK))
      ·intro j hj
       refine br_f rfl ?_
       rw[wrap_id (x:=((numO (c::r):Nat):Int)) (by omega) (by omega)]
       exact hj
     ·intro j hj
      exact br_f rfl (hj _)
    ·intro j hj
     refine br_t rfl ?_
     have hcut:IntKind.u64.wrap (1 * 2 ^ min (Int.toNat (IntKind.u64.wrap (IntKind.i64.wrap (32 - 1)))) (IntKind.bits .u64))=2147483648:=by decide
     rw[hcut,show decide (((numO (c::r):Nat):Int)>=2147483648)=false from by rw[decide_eq_false_iff_not];omega]
     exact hj _
   ·intro j hj
    exact br_f (by decide) hj
  ·intro j hj
   exact nilneF (br_f rfl hj)
 ·intro j hj
  refine idx_l (c:=c) (by omega) (by rfl) ?_
  rw[show((((c.toNat:Nat):Int):Int)==43)=(c==43)from u8e c 43,show((((c.toNat:Nat):Int):Int)==45)=(c==45)from u8e c 45]
  have k1:(c==43)=false:=by
   rw[beq_eq_false_iff_ne];rintro rfl;exact absurd hr.1 (by decide)
  have k2:(c==45)=false:=by
   rw[beq_eq_false_iff_ne];rintro rfl;exact absurd hr.1 (by decide)
  exact br_f k1 (br_f k2 hj)
theorem s_fiOctal (l:List UInt8) (h1:l≠[]) (hl:l.length<=1000000) {σ:H} {K:KH} (hK:K (.tuple ⟨[.int .i64 ((octP ⟨⟨l⟩⟩).getD 0),.bool (octP ⟨⟨l⟩⟩).isSome]⟩) σ):callW Tryz.prog 107 [.string ⟨⟨l⟩⟩] K σ:=by
 refine c107 _ ?_
 unfold g107
 rw[octP_def]at hK
 have hemp:l.isEmpty=false:=by cases l with | nil=>exact absurd rfl h1 | cons=>rfl
 rw[hemp,Bool.false_or]at hK
 refine j_i (fun j => ∀b:Bool,b=(decide (l.length>3) || !l.all octd)->j ⟨⟨l⟩⟩ b σ) ?_ ?_
 ·intro b hb
  rw[<-hb]at hK
  cases b with
  | true=>exact br_t rfl hK
  | false =>
   have hb:=hb.symm
   rw[Bool.or_eq_false_iff,decide_eq_false_iff_not]at hb
   have ha:l.all octd=true:=by simpa using hb.2
   refine br_f rfl (call_i (x_Pint l h1 (by omega) ha (app_IRf (nileqF ?_))))
   exact hK
 ·intro j hj
  by_cases h3:l.length>3
  ·exact br_t (by rw[bsz,decide_eq_true_eq];omega) (hj _ (by rw[decide_eq_true h3];rfl))
  ·refine br_f (by rw[bsz,decide_eq_false_iff_not];omega) (call_i (trim_laid l octL (by omega) (by decide) (by decide) (app_S ?_)))
   rw[strEq_nil,trimO]
   exact hj _ (by rw[decide_eq_false h3];rfl)
end Go.Proofs.YtbdlkofldmhoaaaGreatDoor

set_option maxRecDepth 100000
namespace Go.Proofs.YtbdlkofldmhoaaaGreatDoor
open Go Go.HL Go.Wk
def chmN:ByteArray:=⟨⟨[99,104,109,111,100]⟩⟩
def touN:ByteArray:=⟨⟨[116,111,117,99,104]⟩⟩
def lnN:ByteArray:=⟨⟨[108,110]⟩⟩
theorem do_tou (A:AT) (cwd got:ByteArray) (names:List ByteArray):doP A touN cwd got names=TS.each touN (fun t n=>onA t (t.A.writeF cwd n ⟨⟨[]⟩⟩ true)) names (TS.new A):=by
 unfold doP
 simp only
 rw[if_neg (by decide +kernel),if_neg (by decide +kernel),if_pos (by decide +kernel)]
theorem do_chm (A:AT) (cwd got how:ByteArray) (r:List ByteArray):doP A chmN cwd got (how::r)=TS.each chmN (fun t n=>onA t (t.A.chmodP cwd how n)) r (TS.new A):=by
 unfold doP
 simp only
 rw[if_neg (by decide +kernel),if_neg (by decide +kernel),if_neg (by decide +kernel),if_pos (by decide +kernel)]
theorem do_ln (A:AT) (cwd got src:ByteArray) (r:List ByteArray):doP A lnN cwd got (src::r)=TS.each lnN (fun t n=>onA t (t.A.lnP cwd got src n)) r (TS.new A):=by
 unfold doP
 simp only
 rw[if_neg (by decide +kernel),if_neg (by decide +kernel),if_neg (by decide +kernel),if_neg (by decide +kernel),if_pos (by decide +kernel)]
theorem chmodP_ok {N:Nat} {A:AT} (h:Inv A/\Bd N A) (cwd how n:ByteArray):Inv (A.chmodP cwd how n).2/\Bd N (A.chmodP cwd how n).2:=by
 unfold AT.chmodP
 split
 ·have:=chmodF_ok h.1 h.2 cwd n
  exact⟨(this _).inv,(this _).bd⟩
 ·simp only
  split
  ·have:=chmodF_ok h.1 h.2 cwd n
   exact⟨(this _).inv,(this _).bd⟩
  ·exact h
def chmX (A:AT) (cwd how n:ByteArray):Option Int->Int×AT
 | some m=>A.chmodF cwd n m
 | none=>if(A.stat cwd n true).1==0 then A.chmodF cwd n (if sEq how ⟨⟨[45,120]⟩⟩then lessX (A.stat cwd n true).2.mode else orX (A.stat cwd n true).2.mode)else((A.stat cwd n true).1,A)
def chmM (A:AT) (cwd how n:ByteArray):Option Int->Int->Prop
 | some q,m=>m=q
 | none,m=>((A.stat cwd n true).1==0)=true/\m=(if sEq how ⟨⟨[45,120]⟩⟩then lessX (A.stat cwd n true).2.mode else orX (A.stat cwd n true).2.mode)
theorem chmX_of {A:AT} {cwd how n:ByteArray} {oc:Option Int} {m:Int} (h:chmM A cwd how n oc m):chmX A cwd how n oc=A.chmodF cwd n m:=by
 cases oc with
 | some q=>have h:m=q:=h;rw[h];rfl
 | none =>
  obtain⟨h1,h2⟩:=h
  unfold chmX
  simp only
  rw[if_pos h1,<- h2]
theorem chmX_no {A:AT} {cwd how n:ByteArray} (h:((A.stat cwd n true).1==0)=false):chmX A cwd how n none=((A.stat cwd n true).1,A):=by
 unfold chmX
 simp only
 rw[h];rfl
theorem lnP_ok {N:Nat} {A:AT} (h:Inv A/\Bd N A) (hN:N<1000000000000) (cwd got src tq:ByteArray):Inv (A.lnP cwd got src tq).2/\Bd (N+1) (A.lnP cwd got src tq).2:=by
 unfold AT.lnP
 simp only
 have hx:Inv (if hasL got 102&&((A.stat cwd tq false).1==0 && !((A.stat cwd tq false).2.kind==2))then A.removeF cwd tq else(0,A)).2/\Bd N (if hasL got 102&&((A.stat cwd tq false).1==0 && !((A.stat cwd tq false).2.kind==2))then A.removeF cwd tq else(0,A)).2:=by
  split
  ·have:=removeF_ok h.1 h.2 (by omega) cwd tq
   exact⟨this.inv,this.bd⟩
  ·exact h
 generalize (if hasL got 102&&((A.stat cwd tq false).1==0 && !((A.stat cwd tq false).2.kind==2))then A.removeF cwd tq else(0,A))=X at hx ⊢
 split
 ·split
  ·have:=symlinkF_ok hx.1 hx.2 (by omega) cwd src tq
   exact⟨this.inv,this.bd⟩
  ·have:=hardF_ok hx.1 hx.2 (by omega) cwd src tq
   exact⟨this.inv,this.bd⟩
 ·exact⟨hx.1,hx.2.mono (by omega)⟩
attribute [local irreducible] ptrW ifW brW andW rdT alW letJ stW muW biW vaW imW callT cvalT app callW invW callVW sizeT oW nilF oneK loopW rfW funW begW roundK exW idxW Gr Put
theorem go_fiTouch1:isGo Tryz.prog 105=true:=by kernel_rfl
theorem go_fiChmod1:isGo Tryz.prog 106=true:=by kernel_rfl
theorem go_fiLn1:isGo Tryz.prog 108=true:=by kernel_rfl
section
variable {σ τ : H} {bt b2 b10 : Nat} {C : TlC} {got : ByteArray} {y : Sl} {s : TS} {B : Nat -> Prop} {names : List ByteArray}
def touchD (C:TlC) (t:TS) (n:ByteArray):Int×TS:=onA t (t.A.writeF C.cwd n ⟨⟨[]⟩⟩ true)
theorem s_fiTouch {M:Nat} (h:TlAt σ bt C got y s B) (hO:Off τ σ B) (hy:RowsAt τ 1 (strRows names) y) (hp:Pot M s.A) (hM:M<=900000000000) (hnm:C.nm.size<=1000000) (hl:names.length<=1000000) (hnz:∀n∈names,n.size<=1000000)
 (hz:(TS.each C.nm (touchD C) names s).err.size<=1000000000000) {K:KH}
 (hK:∀σ' B',TlAt σ' bt C got y (TS.each C.nm (touchD C) names s) B'->Sep σ B σ' B'->Pot M (TS.each C.nm (touchD C) names s).A->K (.tuple ⟨[]⟩) σ'):callW Tryz.prog 44 [.pointer (some ⟨bt,0,none⟩)] K σ:=by
 refine c44 _ ?_
 unfold g44
 refine al_i ?_;intro b2 σ1 g1 e1 n1
 have nb : ¬B b2:=h.fresh n1
 have O1:Off (τ.put b2 (ptT bt)) σ1 B:=(hO.gr g1).add e1 nb
 have nt:τ b2=none:=none_of hO.1 n1
 have h0:(⟨⟨[]⟩⟩:ByteArray).size=0:=rfl
 refine rd_P (rdC_of e1 (by rfl)) (call_i (s_fiEach (P:=fun _ s=>Pot M s.A) (do_:=touchD C) (hy.gr (Gr.put nt _)) hl _ hnm hnz ?_ ?_ ?_ ?_ (h.gr g1) O1 hp hz ?_))
 ·intro s n;exact er_write _ _ _ _
 ·intro s n;exact Nat.le_refl _
 ·intro k s n hk _
  rw[fail_A];exact hk.write (by omega) _ _ _ _ (by omega)
 ·intro n s σ2 B2 k hn _ hp2 t2 o2 _ K' hK'
  refine callVW_of go_fiTouch1 (c105 _ _ ?_)
  unfold g105
  have k2:σ2 b2=some (ptT bt):=o2.get (H.put_same _ _ _)
  refine ptr_i (rd_P (rdC_of k2 (by rfl)) (ptr_i (rd_P (rdC_of t2.cell (by rfl)) (ptr_i (rd_P (rdC_of k2 (by rfl)) (ptr_i (rd_S (rdC_of t2.cell (by rfl)) ?_)))))))
  obtain⟨B0,hF,hup⟩:=t2.fs
  refine call_i (s_Write hp2.inv hp2.bd' (by omega) hF _ _ _ _ (by omega) ?_)
  intro σ4 B4 F4 S4
  obtain⟨B5,t5,s5⟩:=hup F4 S4
  exact app_I (hK' σ4 B5 t5 s5)
 ·intro σ' B' k t' s' _ hp'
  exact app_U (hK σ' B' t' (Sep.of_gr g1 s') hp')
theorem s_fiChmod1 (h:TlAt σ bt C got y s B) (h2:σ b2=some (ptT bt)) (n2:¬B b2) (how:List UInt8) (hne:how≠[]) (hhz:how.length<=1000000) (h10:σ b10=some (.cells ⟨[.string ⟨⟨how⟩⟩]⟩ 9 (0,0))) (n10:¬B b10) (n:ByteArray) {K:KH}
 (hK:∀σ' B',TlAt σ' bt C got y { s with A:=(s.A.chmodP C.cwd ⟨⟨how⟩⟩ n).2 } B'->Sep σ B σ' B'->K (.int .i64 (s.A.chmodP C.cwd ⟨⟨how⟩⟩ n).1) σ') :
 callVW Tryz.prog (.func (.func 106) ⟨[]⟩ ⟨[.pointer (some ⟨b10,0,none⟩),.pointer (some ⟨b2,0,none⟩)]⟩) [.string n] K σ:=by
 refine callVW_of go_fiChmod1 (c106 _ _ _ ?_)
 unfold g106
 refine ptr_i (rd_S (rdC_of h10 (by rfl)) (call_i (s_fiOctal how hne hhz ?_)))
 have hcp:s.A.chmodP C.cwd ⟨⟨how⟩⟩ n=chmX s.A C.cwd ⟨⟨how⟩⟩ n (octP ⟨⟨how⟩⟩):=rfl
 rw[hcp]at hK
 clear hcp
 generalize octP ⟨⟨how⟩⟩=oc at hK ⊢
 refine app_IB ?_
 refine j_i (fun j => ∀m σ',chmM s.A C.cwd ⟨⟨how⟩⟩ n oc m->Gr σ σ'->j n (some ⟨b2,0,none⟩) m σ') ?_ ?_
 ·intro m σ' hm g
  have k2:=g.get h2
  have t2:=h.gr g
  rw[chmX_of hm]at hK
  refine ptr_i (rd_P (rdC_of k2 (by rfl)) (ptr_i (rd_P (rdC_of t2.cell (by rfl)) (ptr_i (rd_P (rdC_of k2 (by rfl)) (ptr_i (rd_S (rdC_of t2.cell (by rfl)) ?_)))))))
  obtain⟨B0,hF,hup⟩:=t2.fs
  refine call_i (s_Chmod hF _ _ _ ?_)
  intro σ4 B4 F4 S4
  obtain⟨B5,t5,s5⟩:=hup F4 S4
  exact app_I (hK σ4 B5 t5 (Sep.of_gr g s5))
 ·intro j hj
  cases oc with
  | some q=>exact br_f rfl (hj q σ rfl (Gr.refl _))
  | none =>
   refine br_t rfl (ptr_i (rd_P (rdC_of h2 (by rfl)) (call_i (s_fiStat h n true ?_))))
   unfold inV
   (refine app_of rfl ?_;try dsimp only)
   refine al_i ?_;intro b34 σ1 g1 e1 n1
   refine st_i2 e1 sz_InoF (by rfl) (by rfl) ?_;intro σ2 p2
   have g2:Gr σ σ2:=g1.putF p2 n1
   cases h0:(s.A.stat C.cwd n true).1==0 with
   | false =>
    refine br_t (by rw[bne,h0];rfl) ?_
    rw[chmX_no h0]at hK
    exact hK σ2 B (h.gr g2) (Sep.gr g2)
   | true =>
    refine br_f (by rw[bne,h0];rfl) (rd_I (rdC_of p2.same (by rfl)) (ptr_i (rd_S (rdC_of (g2.get h10) (by rfl)) ?_)))
    rw[<-sEq_eq]
    cases hx:sEq ⟨⟨how⟩⟩ ⟨⟨[45,120]⟩⟩ with
    | true=>exact br_t rfl (rd_I (rdC_of p2.same (by rfl)) (hj _ σ2 ⟨h0,by rw[hx];rfl⟩ g2))
    | false=>exact br_f rfl (hj _ σ2 ⟨h0,by rw[hx];rfl⟩ g2)
def chmodD (C:TlC) (how:ByteArray) (t:TS) (n:ByteArray):Int×TS:=onA t (t.A.chmodP C.cwd how n)
theorem s_fiChmod {N:Nat} {how:ByteArray} (h:TlAt σ bt C got y s B) (hO:Off τ σ B) (hy:RowsAt τ 1 (strRows (how::names)) y) (hc:y.len<=y.cap) (hne:how≠⟨⟨[]⟩⟩) (hhz:how.size<=1000000) (hI:Inv s.A/\Bd N s.A) (hnm:C.nm.size<=1000000) (hl:names.length<=1000000) (hnz:∀n∈names,n.size<=1000000)
 (hz:(TS.each C.nm (chmodD C how) names s).err.size<=1000000000000) {K:KH}
 (hK:∀σ' B' y',TlAt σ' bt C got y' (TS.each C.nm (chmodD C how) names s) B'->Sep σ B σ' B'->Inv (TS.each C.nm (chmodD C how) names s).A/\Bd N (TS.each C.nm (chmodD C how) names s).A->K (.tuple ⟨[]⟩) σ'):callW Tryz.prog 45 [.pointer (some ⟨bt,0,none⟩)] K σ:=by
 refine c45 _ ?_
 unfold g45
 have hB:B bt:=by obtain⟨_,_,_,_,q⟩:=h;exact(q bt).2 (.inr rfl)
 have hyl:=sLen hy
 rw[List.length_cons]at hyl
 refine al_i ?_;intro b2 σ1 g1 e1 n1
 have nb : ¬B b2:=h.fresh n1
 have t1:=h.gr g1
 refine rd_P (rdC_of e1 (by rfl)) (ptr_i (rd_Y (y:=y) (rdC_of t1.cell (by rfl)) ?_))
 obtain⟨g,o,a1,a2,a3⟩:=sRow (hy.gr (hO.1.trans g1)) (i:=0) (s:=how) rfl
 rw[a1]
 refine ptr_i (if_i ⟨by decide,by omega⟩ (rd_S a3 ?_))
 refine al_i ?_;intro b10 σ2 g2 e2 n2
 refine st_i2 e2 sz_string (by rfl) (by rfl) ?_;intro σ3 p3
 have g3:Gr σ1 σ3:=g2.putF p3 n2
 have t3:=t1.gr g3
 have nb10 : ¬B b10:=t1.fresh n2
 have k2:=g3.get e1
 refine rd_P (rdC_of k2 (by rfl)) (rd_P (rdC_of k2 (by rfl)) (ptr_i (rd_Y (y:=y) (rdC_of t3.cell (by rfl)) (if_i ⟨bnd_none,bnd_some (by decide) (by omega)⟩ (ptr_i ?_)))))
 refine st_i2 t3.cell sz_strs (by rfl) (by rfl) ?_;intro σ4 p4
 have t4:TlAt σ4 bt C got ⟨slBase y.base 1 y.cap 1,y.len - 1,y.cap - 1⟩ s B:=t3.say (got':=got) (y':=⟨slBase y.base 1 y.cap 1,y.len - 1,y.cap - 1⟩) (s':=s) rfl p4
 have k24:=p4.get (c:=b2) (fun e=>nb (by rw[e];exact hB)) k2
 have k10:σ4 b10=some (.cells ⟨[.string how]⟩ 9 (0,0)):=p4.get (c:=b10) (fun e=>nb10 (by rw[e];exact hB)) p3.same
 have s4:Sep σ B σ4 B:=by
  intro c oc hc hn
  exact⟨p4.get (fun e=>hn (e ▸ hB)) ((g1.trans g3).get hc),hn⟩
 have O4:=hO.sep s4
 have G1:=gr_add O4.1 k24
 have O5:=O4.add k24 nb
 have G2:=gr_add O5.1 k10
 have O6:=O5.add k10 nb10
 have q2:=G2.get (H.put_same τ b2 (.cells ⟨[.pointer (some ⟨bt,0,none⟩)]⟩ 82 (0,0)))
 have q10:=H.put_same (τ.put b2 (.cells ⟨[.pointer (some ⟨bt,0,none⟩)]⟩ 82 (0,0))) b10 (.cells ⟨[.string how]⟩ 9 (0,0))
 have y4:=((sTail hy hc).gr G1).gr G2
 refine rd_P (rdC_of k24 (by rfl)) (call_i (s_fiEach (P:=fun _ s=>Inv s.A/\Bd N s.A) (do_:=chmodD C how) y4 hl _ hnm hnz ?_ ?_ ?_ ?_ t4 O6 hI hz ?_))
 ·intro s n;exact er_chmodP _ _ _
 ·intro s n;exact Nat.le_refl _
 ·intro k s n hk _
  rw[fail_A];exact chmodP_ok hk _ _ _
 ·intro n s σ5 B5 k hn _ hp2 t5 o5 _ K' hK'
  obtain⟨⟨hw⟩⟩:=how
  exact s_fiChmod1 t5 (o5.get q2) (o5.2 _ _ q2) hw (fun e=>hne (by rw[e])) hhz (o5.get q10) (o5.2 _ _ q10) n hK'
 ·intro σ' B' k t' s' _ hp'
  exact app_U (hK σ' B' _ t' (s4.trans s') hp')
theorem s_fiLn1 {N:Nat} (h:TlAt σ bt C got y s B) (hI:Inv s.A/\Bd N s.A) (hN:N<1000000000000) (h2:σ b2=some (ptT bt)) (n2:¬B b2) (src:ByteArray) (h10:σ b10=some (.cells ⟨[.string src]⟩ 9 (0,0))) (n10:¬B b10) (tq:ByteArray) {K:KH}
 (hK:∀σ' B',TlAt σ' bt C got y { s with A:=(s.A.lnP C.cwd got src tq).2 } B'->Sep σ B σ' B'->K (.int .i64 (s.A.lnP C.cwd got src tq).1) σ') :
 callVW Tryz.prog (.func (.func 108) ⟨[]⟩ ⟨[.pointer (some ⟨b2,0,none⟩),.pointer (some ⟨b10,0,none⟩)]⟩) [.string tq] K σ:=by
 refine callVW_of go_fiLn1 (c108 _ _ _ ?_)
 unfold g108
 have hlp:s.A.lnP C.cwd got src tq=(let x:=if hasL got 102&&((s.A.stat C.cwd tq false).1==0 && !((s.A.stat C.cwd tq false).2.kind==2))then s.A.removeF C.cwd tq else(0,s.A)
  if x.1==0 then(if hasL got 115 then x.2.symlinkF C.cwd src tq else x.2.hardF C.cwd src tq)else x):=rfl
 rw[hlp]at hK
 clear hlp
 generalize hX:(if hasL got 102&&((s.A.stat C.cwd tq false).1==0 && !((s.A.stat C.cwd tq false).2.kind==2))then s.A.removeF C.cwd tq else(0,s.A))=X at hK
 simp only at hK
 refine j_i (fun j=>(X.1==0)=true -> ∀σ' B',TlAt σ' bt C got y { s with A:=X.2 } B'->Sep σ B σ' B'->(Inv X.2/\Bd N X.2)->j tq (some ⟨b2,0,none⟩) (some ⟨b10,0,none⟩) σ') ?_ ?_
 ·intro x0 σ' B' t' s' i'
  rw[x0,if_pos rfl]at hK
  obtain⟨k2,_⟩:=s' b2 _ h2 n2
  obtain⟨k10,_⟩:=s' b10 _ h10 n10
  refine ptr_i (rd_P (rdC_of k2 (by rfl)) (call_i (s_fiHas t' 115 (app_B ?_))))
  obtain⟨B0,hF,hup⟩:=t'.fs
  cases hg:hasL got 115 with
  | true =>
   rw[hg,if_pos rfl]at hK
   refine br_t rfl (ptr_i (rd_P (rdC_of k2 (by rfl)) (ptr_i (rd_P (rdC_of t'.cell (by rfl)) (ptr_i (rd_P (rdC_of k2 (by rfl)) (ptr_i (rd_S (rdC_of t'.cell (by rfl)) (ptr_i (rd_S (rdC_of k10 (by rfl)) ?_))))))))))
   refine call_i (s_Symlink i'.1 i'.2 (by omega) hF _ _ _ ?_)
   intro σ4 B4 F4 S4
   obtain⟨B5,t5,s5⟩:=hup F4 S4
   exact app_I (hK σ4 B5 t5 (s'.trans s5))
  | false =>
   rw[hg,if_neg (by simp)]at hK
   refine br_f rfl (ptr_i (rd_P (rdC_of k2 (by rfl)) (ptr_i (rd_P (rdC_of t'.cell (by rfl)) (ptr_i (rd_P (rdC_of k2 (by rfl)) (ptr_i (rd_S (rdC_of t'.cell (by rfl)) (ptr_i (rd_S (rdC_of k10 (by rfl)) ?_))))))))))
   refine call_i (s_Hard hF _ _ _ ?_)
   intro σ4 B4 F4 S4
   obtain⟨B5,t5,s5⟩:=hup F4 S4
   exact app_I (hK σ4 B5 t5 (s'.trans s5))
 ·intro j4 h4
  refine ptr_i (rd_P (rdC_of h2 (by rfl)) (call_i (s_fiStat h tq false ?_)))
  generalize s.A.stat C.cwd tq false=r at hX ⊢
  obtain⟨e,nd⟩:=r
  simp only at hX ⊢
  unfold inV
  (refine app_of rfl ?_;try dsimp only)
  refine al_i ?_;intro b52 σ1 g1 e1 n1
  refine st_i2 e1 sz_InoF (by rfl) (by rfl) ?_;intro σ2 p3
  have g2:Gr σ σ2:=g1.putF p3 n1
  have k2:=g2.get h2
  have t2:=h.gr g2
  have k52:=p3.same
  refine j_i (fun j => ∀b:Bool,b=(hasL got 102&&(e==0 && !(nd.kind==2)))->j tq (some ⟨b2,0,none⟩) (some ⟨b10,0,none⟩) b σ2) ?_ ?_
  ·intro b hb
   rw[<-hb]at hX
   cases b with
   | false =>
    rw[if_neg (by simp)]at hX
    subst hX
    exact br_f rfl (h4 rfl σ2 B t2 (Sep.gr g2) hI)
   | true =>
    rw[if_pos rfl]at hX
    subst hX
    refine br_t rfl (ptr_i (rd_P (rdC_of k2 (by rfl)) (ptr_i (rd_P (rdC_of t2.cell (by rfl)) (ptr_i (rd_P (rdC_of k2 (by rfl)) (ptr_i (rd_S (rdC_of t2.cell (by rfl)) ?_))))))))
    obtain⟨B0,hF,hup⟩:=t2.fs
    refine call_i (s_Remove hI.1 hI.2 (by omega) hF _ _ ?_)
    intro σ4 B4 F4 S4
    obtain⟨B5,t5,s5⟩:=hup F4 S4
    have hok:=removeF_ok hI.1 hI.2 (by omega) C.cwd tq
    refine app_I ?_
    cases hz:(s.A.removeF C.cwd tq).1==0 with
    | true=>exact br_f (by rw[bne,hz];rfl) (h4 hz σ4 B5 t5 (Sep.of_gr g2 s5) ⟨hok.inv,hok.bd⟩)
    | false =>
     rw[hz,if_neg (by simp)]at hK
     exact br_t (by rw[bne,hz];rfl) (hK σ4 B5 t5 (Sep.of_gr g2 s5))
  ·intro j hj
   refine ptr_i (rd_P (rdC_of k2 (by rfl)) (call_i (s_fiHas t2 102 (app_B ?_))))
   cases hg:hasL got 102 with
   | false=>exact br_f rfl (hj false (by rw[hg];rfl))
   | true =>
    refine br_t rfl ?_
    cases h0:e==0 with
    | false=>exact br_f rfl (hj false (by rw[hg,h0];rfl))
    | true=>exact br_t rfl (rd_I (rdC_of k52 (by rfl)) (hj _ (by rw[hg,h0];rfl)))
def lnD (C:TlC) (got src:ByteArray) (t:TS) (n:ByteArray):Int×TS:=onA t (t.A.lnP C.cwd got src n)
theorem s_fiLn {N:Nat} {src:ByteArray} (h:TlAt σ bt C got y s B) (hO:Off τ σ B) (hy:RowsAt τ 1 (strRows (src::names)) y) (hc:y.len<=y.cap) (hI:Inv s.A/\Bd N s.A) (hN:N+1000<1000000000000) (hnm:C.nm.size<=1000000) (hl:names.length<=1000) (hnz:∀n∈names,n.size<=1000000)
 (hz:(TS.each C.nm (lnD C got src) names s).err.size<=1000000000000) {K:KH}
 (hK:∀σ' B' y',TlAt σ' bt C got y' (TS.each C.nm (lnD C got src) names s) B'->Sep σ B σ' B'->Inv (TS.each C.nm (lnD C got src) names s).A/\Bd (N+1000) (TS.each C.nm (lnD C got src) names s).A->K (.tuple ⟨[]⟩) σ'):callW Tryz.prog 46 [.pointer (some ⟨bt,0,none⟩)] K σ:=by
 refine c46 _ ?_
 unfold g46
 have hB:B bt:=by obtain⟨_,_,_,_,q⟩:=h;exact(q bt).2 (.inr rfl)
 have hyl:=sLen hy
 rw[List.length_cons]at hyl
 refine al_i ?_;intro b2 σ1 g1 e1 n1
 have nb : ¬B b2:=h.fresh n1
 have t1:=h.gr g1
 refine rd_P (rdC_of e1 (by rfl)) (ptr_i (rd_Y (y:=y) (rdC_of t1.cell (by rfl)) ?_))
 obtain⟨g,o,a1,a2,a3⟩:=sRow (hy.gr (hO.1.trans g1)) (i:=0) (s:=src) rfl
 rw[a1]
 refine ptr_i (if_i ⟨by decide,by omega⟩ (rd_S a3 ?_))
 refine al_i ?_;intro b10 σ2 g2 e2 n2
 refine st_i2 e2 sz_string (by rfl) (by rfl) ?_;intro σ3 p3
 have g3:Gr σ1 σ3:=g2.putF p3 n2
 have t3:=t1.gr g3
 have nb10 : ¬B b10:=t1.fresh n2
 have k2:=g3.get e1
 refine rd_P (rdC_of k2 (by rfl)) (rd_P (rdC_of k2 (by rfl)) (ptr_i (rd_Y (y:=y) (rdC_of t3.cell (by rfl)) (if_i ⟨bnd_none,bnd_some (by decide) (by omega)⟩ (ptr_i ?_)))))
 refine st_i2 t3.cell sz_strs (by rfl) (by rfl) ?_;intro σ4 p4
 have t4:TlAt σ4 bt C got ⟨slBase y.base 1 y.cap 1,y.len - 1,y.cap - 1⟩ s B:=t3.say (got':=got) (y':=⟨slBase y.base 1 y.cap 1,y.len - 1,y.cap - 1⟩) (s':=s) rfl p4
 have k24:=p4.get (c:=b2) (fun e=>nb (by rw[e];exact hB)) k2
 have k10:σ4 b10=some (.cells ⟨[.string src]⟩ 9 (0,0)):=p4.get (c:=b10) (fun e=>nb10 (by rw[e];exact hB)) p3.same
 have s4:Sep σ B σ4 B:=by
  intro c oc hc hn
  exact⟨p4.get (fun e=>hn (e ▸ hB)) ((g1.trans g3).get hc),hn⟩
 have O4:=hO.sep s4
 have G1:=gr_add O4.1 k24
 have O5:=O4.add k24 nb
 have G2:=gr_add O5.1 k10
 have O6:=O5.add k10 nb10
 have q2:=G2.get (H.put_same τ b2 (.cells ⟨[.pointer (some ⟨bt,0,none⟩)]⟩ 82 (0,0)))
 have q10:=H.put_same (τ.put b2 (.cells ⟨[.pointer (some ⟨bt,0,none⟩)]⟩ 82 (0,0))) b10 (.cells ⟨[.string src]⟩ 9 (0,0))
 have y4:=((sTail hy hc).gr G1).gr G2
 refine rd_P (rdC_of k24 (by rfl)) (call_i (s_fiEach (P:=fun k s=>Inv s.A/\Bd (N+k) s.A) (do_:=lnD C got src) y4 (by omega) _ hnm hnz ?_ ?_ ?_ ?_ t4 O6 hI hz ?_))
 ·intro s n;exact er_lnP _ _ _ _
 ·intro s n;exact Nat.le_refl _
 ·intro k s n hk hkl
  rw[fail_A];exact lnP_ok hk (by omega) _ _ _ _
 ·intro n s σ5 B5 k hn hkl hp2 t5 o5 _ K' hK'
  exact s_fiLn1 t5 hp2 (by omega) (o5.get q2) (o5.2 _ _ q2) src (o5.get q10) (o5.2 _ _ q10) n hK'
 ·intro σ' B' k t' s' hkl hp'
  exact app_U (hK σ' B' _ t' (s4.trans s') ⟨hp'.1,hp'.2.mono (by omega)⟩)
end
end Go.Proofs.YtbdlkofldmhoaaaGreatDoor

set_option maxRecDepth 100000
namespace Go.Proofs.YtbdlkofldmhoaaaGreatDoor
open Go Go.HL Go.Wk
def bareP (args:List ByteArray):Bool:=match args with
 | a::_=>sEq a ⟨⟨[45,120]⟩⟩
 | []=>false
def chmArgs (args:List ByteArray):Option (ByteArray×List ByteArray):=if bareP args then some (⟨⟨[]⟩⟩,args)else optsP ⟨⟨[]⟩⟩ args ⟨⟨[]⟩⟩
theorem files_chm (A:AT) (cwd:ByteArray) (args:List ByteArray):A.filesP cwd chmN args=match chmArgs args with
 | none=>some (usageP chmN,A)
 | some (got,names)=>if rightP chmN got names then some (⟨(doP A chmN cwd got names).out,(doP A chmN cwd got names).err,(doP A chmN cwd got names).st⟩,(doP A chmN cwd got names).A)else some (usageP chmN,A):=by
 unfold AT.filesP
 rw[if_pos (by decide +kernel)]
 have h1:sEq chmN ⟨⟨[99,104,109,111,100]⟩⟩=true:=by decide +kernel
 have h2:lettersP chmN=⟨⟨[]⟩⟩:=sEq_iff.1 (by decide +kernel)
 rw[h1,h2]
 rfl
theorem chm_mem {args:List ByteArray} {got:ByteArray} {names:List ByteArray} (h:chmArgs args=some (got,names)):(∀n∈names,n∈args)/\names.length<=args.length:=by
 unfold chmArgs at h
 split at h
 ·simp only[Option.some.injEq,Prod.mk.injEq]at h
  rw[<-h.2]
  exact⟨fun n hn=>hn,Nat.le_refl _⟩
 ·exact opts_mem _ _ _ _ _ h
theorem right_chm (got:ByteArray) (names:List ByteArray):rightP chmN got names=match names with
 | how::_::_=>(octP how).isSome||(sEq how ⟨⟨[43,120]⟩⟩||sEq how ⟨⟨[45,120]⟩⟩)
 | _=>false:=by
 unfold rightP
 rw[if_neg (by decide +kernel),if_neg (by decide +kernel),if_pos (by decide +kernel)]
 match names with
 | []=>rfl
 | [_]=>rfl
 | _::_::_=>rfl
attribute [local irreducible] ptrW ifW brW andW rdT alW letJ stW muW biW vaW imW callT cvalT app callW invW callVW sizeT oW nilF oneK loopW rfW funW begW roundK exW idxW Gr Put
section
variable {σ τ : H} {bt : Nat} {C : TlC} {got : ByteArray} {y : Sl} {s : TS} {B : Nat -> Prop} {names : List ByteArray}
theorem s_fiRightC (h:TlAt σ bt C got y s B) (hO:Off τ σ B) (hy:RowsAt τ 1 (strRows names) y) (hnz:∀n∈names,n≠⟨⟨[]⟩⟩/\n.size<=1000000) (hc:C.nm=chmN) {K:KH} (hK:K (.bool (rightP chmN got names)) σ):callW Tryz.prog 52 [.pointer (some ⟨bt,0,none⟩)] K σ:=by
 refine c52 _ ?_
 unfold g52
 rw[right_chm]at hK
 have hyl:=sLen hy
 refine ptr_i (rd_Y (y:=y) (rdC_of h.cell (by rfl)) (ptr_i (rd_S (rdC_of h.cell (by rfl)) ?_)))
 rw[hyl,hc]
 simp only[<-sEq_eq]
 refine br_f (by decide +kernel) (j_i (fun j=>j (some ⟨bt,0,none⟩) ((names.length:Nat):Int) chmN false σ) ?_ ?_)
 ·refine br_f rfl (br_t (by decide +kernel) ?_)
  match names,hy,hnz,hK,hyl with
  | [],_,_,hK,_=>exact br_t (by decide) hK
  | [_],_,_,hK,_=>exact br_t rfl hK
  | how::b::r,hy,hnz,hK,hyl =>
   rw[List.length_cons,List.length_cons]at hyl
   refine br_f (by rw[decide_eq_false_iff_not,List.length_cons,List.length_cons];omega) (ptr_i (rd_Y (y:=y) (rdC_of h.cell (by rfl)) ?_))
   obtain⟨g,o,a1,a2,a3⟩:=sRow (hy.gr hO.1) (i:=0) (s:=how) rfl
   obtain⟨q1,q2⟩:=hnz how (List.mem_cons_self ..)
   rw[a1]
   obtain⟨⟨hw⟩⟩:=how
   refine ptr_i (if_i ⟨by decide,by omega⟩ (rd_S a3 (call_i (s_fiOctal hw (fun e=>q1 (by rw[e])) q2 (app_IB ?_)))))
   have hK:K (.bool ((octP ⟨⟨hw⟩⟩).isSome||(sEq ⟨⟨hw⟩⟩ ⟨⟨[43,120]⟩⟩||sEq ⟨⟨hw⟩⟩ ⟨⟨[45,120]⟩⟩))) σ:=hK
   cases ho:(octP ⟨⟨hw⟩⟩).isSome with
   | true=>rw[ho,Bool.true_or]at hK;exact br_t rfl hK
   | false =>
    rw[ho,Bool.false_or]at hK
    refine br_f rfl (ptr_i (rd_Y (y:=y) (rdC_of h.cell (by rfl)) ?_))
    rw[a1]
    refine ptr_i (if_i ⟨by decide,by omega⟩ (rd_S a3 ?_))
    cases hx:sEq ⟨⟨hw⟩⟩ ⟨⟨[43,120]⟩⟩ with
    | true=>rw[hx,Bool.true_or]at hK;exact br_t rfl hK
    | false =>
     rw[hx,Bool.false_or]at hK
     refine br_f rfl (ptr_i (rd_Y (y:=y) (rdC_of h.cell (by rfl)) ?_))
     rw[a1]
     exact ptr_i (if_i ⟨by decide,by omega⟩ (rd_S a3 hK))
 ·intro j hj
  refine br_f (by decide +kernel) ?_
  rw[show sEq chmN ⟨⟨[99,112]⟩⟩=false from by decide +kernel]
  exact hj
end
theorem lk_chm (b:Nat):lk chmN (doL b)=some (.func (.func 45) ⟨[.pointer (some ⟨b,0,none⟩)]⟩ ⟨[]⟩):=by
 unfold doL;simp only[lkS]
 rw[if_neg (by decide +kernel),if_neg (by decide +kernel),if_neg (by decide +kernel),if_pos (by decide +kernel)]
theorem lk_tou (b:Nat):lk touN (doL b)=some (.func (.func 44) ⟨[.pointer (some ⟨b,0,none⟩)]⟩ ⟨[]⟩):=by
 unfold doL;simp only[lkS]
 rw[if_neg (by decide +kernel),if_neg (by decide +kernel),if_pos (by decide +kernel)]
theorem lk_ln (b:Nat):lk lnN (doL b)=some (.func (.func 46) ⟨[.pointer (some ⟨b,0,none⟩)]⟩ ⟨[]⟩):=by
 unfold doL;simp only[lkS]
 rw[if_neg (by decide +kernel),if_neg (by decide +kernel),if_neg (by decide +kernel),if_neg (by decide +kernel),if_pos (by decide +kernel)]
section
variable {σ τ : H} {bf : Nat} {A : AT} {B : Nat -> Prop} {x : Sl} {args : List ByteArray}
theorem s_fiRunC {Q:AT->Prop} (hF:FsAt σ bf A B) (hO:Off τ σ B) (inn cwd:ByteArray) (ha:ArgOk τ args x) (hne:∀a∈args,a≠⟨⟨[]⟩⟩) (ha0:args≠[]) (hQ:Q A)
 (hdo:∀got names y bt σ1 B1 τ1,chmArgs args=some (got,names)->rightP chmN got names=true->TlAt σ1 bt ⟨chmN,inn,cwd,x,bf⟩ got y (TS.new A) B1->Off τ1 σ1 B1->RowsAt τ1 1 (strRows names) y->y.len<=y.cap -> ∀K:Value->H->Prop,
  (∀σ' B' y',TlAt σ' bt ⟨chmN,inn,cwd,x,bf⟩ got y' (doP A chmN cwd got names) B'->Sep σ1 B1 σ' B'->Q (doP A chmN cwd got names).A->K (.tuple ⟨[]⟩) σ')->callW Tryz.prog 45 [.pointer (some ⟨bt,0,none⟩)] K σ1)
 {K:KH} (hK:∀d A',A.filesP cwd chmN args=some (d,A') -> ∀σ' B',FsAt σ' bf A' B'->Sep σ B σ' B'->Q A'->K (.tuple ⟨[.agg ⟨dnF d⟩,.bool true]⟩) σ') :
 callW Tryz.prog 16 [.pointer (some ⟨bf,0,none⟩),.agg ⟨[.string chmN,.slice x.base x.len x.cap,.string inn,.string cwd]⟩] K σ:=by
 refine c16 _ _ _ _ _ ?_
 unfold g16
 rw[files_chm]at hK
 obtain⟨a0,rest,hargs⟩ : ∃a0 rest,args=a0::rest:=by
  cases args with
  | nil=>exact absurd rfl ha0
  | cons a r=>exact⟨a,r,rfl⟩
 refine al_i ?_;intro b6 σ1 g1 e1 n1
 refine al_i ?_;intro b7 σ2 g2 e2 n2
 have k6:=g2.get e1
 have f7:σ b7=none:=none_of g1 n2
 refine rd_G (rdA_of' k6 (by rfl)) ?_
 (refine app_of rfl ?_;try dsimp only)
 refine al_i ?_;intro b12 σ3 g3 e3 n3
 have f12:σ b12=none:=none_of (g1.trans g2) n3
 have nB12 : ¬B b12:=hF.fresh f12
 refine mul_i und_MSFu und_string (doL b12) (doL_nd b12) ?_
 intro bm σ4 g4 n4 hm
 refine rd_S (rdC_of (g4.get (g3.get k6)) (by rfl)) (rd_G (mul_rd hm .nilFunc chmN) ?_)
 rw[lk_chm b12]
 refine app_RBm (br_f rfl ?_)
 refine mul_i und_MSS und_string letL (by decide +kernel) ?_
 intro bm2 σ5 g5 n5 hm2
 have G3:Gr σ3 σ5:=g4.trans g5
 have G5:Gr σ σ5:=((g1.trans g2).trans g3).trans G3
 have q6:=G3.get (g3.get k6)
 have q7:=G3.get (g3.get e2)
 have q12:σ5 b12=some (.cells ⟨toolV ⟨chmN,inn,cwd,x,bf⟩ ⟨⟨[]⟩⟩ ⟨none,0,0⟩ (TS.new A)⟩ 84 (0,0)):=G3.get e3
 have h2:lettersP chmN=⟨⟨[]⟩⟩:=sEq_iff.1 (by decide +kernel)
 refine rd_S (rdC_of q6 (by rfl)) (rd_S (x:=⟨⟨[]⟩⟩) (by rw[mul_rdF hm2,letL_get,h2]) ?_)
 have t5:TlAt σ5 b12 ⟨chmN,inn,cwd,x,bf⟩ ⟨⟨[]⟩⟩ ⟨none,0,0⟩ (TS.new A) (fun b=>B b\/b=b12):=⟨B,q12,hF.gr G5,nB12,fun b=>Iff.rfl⟩
 have n6 : ¬ (B b6\/b6=b12):=by
  rintro (e | e)
  ·exact hF.fresh n1 e
  ·rw[<-e,g2.get e1]at n3;cases n3
 have n7 : ¬ (B b7\/b7=b12):=by
  rintro (e | e)
  ·exact hF.fresh f7 e
  ·rw[<-e,e2]at n3;cases n3
 obtain⟨τ5,O5,hO5⟩:=off_all σ5 (fun b=>B b\/b=b12)
 have x5:RowsAt τ5 1 (strRows args) x:=ha.rows.gr (gr_of fun c o hc'=>hO5 c o (G5.get (hO.get hc')) (by
  rintro (e | e)
  ·exact hO.2 c o hc' e
  ·have:=hO.get hc'
   rw[e,f12]at this;cases this))
 have w6:=hO5 b6 _ q6 n6
 have w7:=hO5 b7 _ q7 n7
 have hxl:=sLen x5
 have back : ∀ {σ' B' B0},Sep σ5 (fun b=>B b\/b=b12) σ' B'->(∀b,B' b↔(B0 b\/b=b12))->Sep σ B σ' B0:=by
  intro σ' B' B0 hs hb c o hc' hn'
  obtain⟨r1,r2⟩:=hs c o (G5.get hc') (by
   rintro (e | e)
   ·exact hn' e
   ·rw[e,f12]at hc';cases hc')
  exact⟨r1,fun e=>r2 ((hb c).2 (.inl e))⟩
 generalize hdv:Value.func (Fn.func 45) ⟨[Value.pointer (some ⟨b12,0,none⟩)]⟩ ⟨[]⟩=dv
 have hB12:(fun b=>B b\/b=b12) b12 := .inr rfl
 refine j_i (fun j=>j (some ⟨b6,0,none⟩) (some ⟨b7,0,none⟩) (some ⟨b12,0,none⟩) dv ⟨⟨[]⟩⟩ (sEq a0 ⟨⟨[45,120]⟩⟩) σ5) ?_ ?_
 ·refine j_i (fun j => ∀y σ',TlAt σ' b12 ⟨chmN,inn,cwd,x,bf⟩ ⟨⟨[]⟩⟩ y (TS.new A) (fun b=>B b\/b=b12)->Sep σ5 (fun b=>B b\/b=b12) σ' (fun b=>B b\/b=b12)->(sEq a0 ⟨⟨[45,120]⟩⟩=true->y=x)->(sEq a0 ⟨⟨[45,120]⟩⟩=false->y=⟨none,0,0⟩)->j (some ⟨b6,0,none⟩) (some ⟨b7,0,none⟩) (some ⟨b12,0,none⟩) dv ⟨⟨[]⟩⟩ (sEq a0 ⟨⟨[45,120]⟩⟩) σ') ?_ ?_
  ·intro y σ6 t6 s6 hb1 hb2
   have O6:=O5.sep s6
   refine j_i (fun j => ∀ (b:Bool) got y σ' ,TlAt σ' b12 ⟨chmN,inn,cwd,x,bf⟩ got y (TS.new A) (fun b=>B b\/b=b12)->Sep σ5 (fun b=>B b\/b=b12) σ' (fun b=>B b\/b=b12) ->
    (b=true->A.filesP cwd chmN args=some (usageP chmN,A))->(b=false -> ∃names,chmArgs args=some (got,names)/\rightP chmN got names=true/\RowsAt τ5 1 (strRows names) y/\y.len<=y.cap)->j (some ⟨b6,0,none⟩) (some ⟨b7,0,none⟩) (some ⟨b12,0,none⟩) dv b σ') ?_ ?_
   ·intro b got y σ6 t6 s6 h1 h2
    have O6:=O5.sep s6
    cases b with
    | true =>
     refine br_t rfl (ptr_i (rd_S (rdC_of (O6.get w6) (by rfl)) (if_i (by decide) ?_)))
     refine st_i2 (O6.get w7) sz_DoneF (by rfl) (by rfl) ?_;intro σ7 p7
     refine ptr_i (rd_G (rdA_of' p7.same (by rfl)) ?_)
     (refine app_of rfl ?_;try dsimp only)
     obtain⟨B0,a1,a2,a3,a4⟩:=t6
     have hu:=h1 rfl
     rw[files_chm]at hu
     exact hK (usageP chmN) A hu σ7 B0 (a2.put p7 (fun e=>n7 ((a4 b7).2 (.inl e)))) ((back s6 a4).putF p7 f7) hQ
    | false =>
     obtain⟨names,o1,o2,o3,o4⟩:=h2 rfl
     subst hdv
     refine br_f rfl (cval_i (by kernel_rfl) (hdo got names y b12 σ6 _ τ5 o1 o2 t6 O6 o3 o4 _ ?_))
     intro σ7 B7 y7 t7 s7 hq7
     have O7:=O6.sep s7
     refine app_U (ptr_i (rd_G (rdA_of' t7.cell (by rfl)) ?_))
     (refine app_of rfl ?_;try dsimp only)
     refine st_i2 (O7.get w7) sz_DoneF (by rfl) (by rfl) ?_;intro σ8 p8
     refine ptr_i (rd_G (rdA_of' p8.same (by rfl)) ?_)
     (refine app_of rfl ?_;try dsimp only)
     obtain⟨B0,a1,a2,a3,a4⟩:=t7
     refine hK ⟨(doP A chmN cwd got names).out,(doP A chmN cwd got names).err,(doP A chmN cwd got names).st⟩ (doP A chmN cwd got names).A (by rw[o1];show(if rightP chmN got names=true then _ else _)=_;rw[if_pos o2]) σ8 B0 (a2.put p8 (fun e=>O7.2 b7 _ w7 ((a4 b7).2 (.inl e)))) ((back (s6.trans s7) a4).putF p8 f7) hq7
   ·intro j hj
    have hbare:bareP args=sEq a0 ⟨⟨[45,120]⟩⟩:=by rw[hargs];rfl
    cases hba:sEq a0 ⟨⟨[45,120]⟩⟩ with
    | true =>
     have hy:=hb1 hba
     subst hy
     have hca:chmArgs args=some (⟨⟨[]⟩⟩,args):=by unfold chmArgs;rw[hbare,hba];rfl
     refine br_f rfl (call_i (s_fiRightC t6 O6 x5 (fun n hn=>⟨hne n hn,Nat.le_trans (ha.sz n hn) (by decide)⟩) rfl (app_B ?_)))
     cases hr:rightP chmN ⟨⟨[]⟩⟩ args with
     | true=>exact hj false _ y σ6 t6 s6 (fun e=>by cases e) (fun _=>⟨args,hca,hr,x5,ha.cap⟩)
     | false =>
      refine hj true _ y σ6 t6 s6 (fun _ => ?_) (fun e=>by cases e)
      rw[files_chm,hca]
      show(if rightP chmN ⟨⟨[]⟩⟩ args=true then _ else _)=_
      rw[hr];rfl
    | false =>
     have hy:=hb2 hba
     subst hy
     have hca:chmArgs args=optsP ⟨⟨[]⟩⟩ args ⟨⟨[]⟩⟩:=by unfold chmArgs;rw[hbare,hba];rfl
     refine br_t rfl (call_i (s_fiOptions t6 O6 x5 ha.cap [] (by decide) (fun c hc=>by cases hc) ha.sz ha.len ?_ ?_))
     ·intro ho σ7 got t7 s7
      refine app_B (br_t rfl (hj true got _ σ7 t7 (s6.trans s7) (fun _ => ?_) (fun e=>by cases e)))
      rw[files_chm,hca,ho]
     ·intro got names ho σ7 y t7 s7 ry cy
      obtain⟨m1,m2⟩:=opts_mem _ _ _ _ _ ho
      refine app_B (br_f rfl (call_i (s_fiRightC t7 (O6.sep s7) ry (fun n hn=>⟨hne n (m1 n hn),Nat.le_trans (ha.sz n (m1 n hn)) (by decide)⟩) rfl (app_B ?_))))
      cases hr:rightP chmN got names with
      | true=>exact hj false got y σ7 t7 (s6.trans s7) (fun e=>by cases e) (fun _=>⟨names,by rw[hca,ho],hr,ry,cy⟩)
      | false =>
       refine hj true got y σ7 t7 (s6.trans s7) (fun _ => ?_) (fun e=>by cases e)
       rw[files_chm,hca,ho]
       show(if rightP chmN got names=true then _ else _)=_
       rw[hr];rfl
  ·intro j hj
   cases hba:sEq a0 ⟨⟨[45,120]⟩⟩ with
   | true =>
    rw[hba]at hj
    refine br_t rfl (ptr_i (rd_Y (y:=x) (rdC_of q6 (by rfl)) (ptr_i ?_)))
    refine st_i2 q12 sz_strs (by rfl) (by rfl) ?_;intro σ6 p6
    refine hj x σ6 (t5.say (got':=⟨⟨[]⟩⟩) (y':=x) (s':=TS.new A) rfl p6) (fun c oc hoc hn=>⟨p6.get (fun e=>hn (by rw[e];exact .inr rfl)) hoc,hn⟩) (fun _=>rfl) (fun e=>by cases e)
   | false =>
    rw[hba]at hj
    exact br_f rfl (hj ⟨none,0,0⟩ σ5 t5 (Sep.refl _ _) (fun e=>by cases e) (fun _=>rfl))
 ·intro j hj
  refine rd_S (rdC_of q6 (by rfl)) (br_t (by rw[<-sEq_eq];decide +kernel) (rd_Y (y:=x) (rdC_of q6 (by rfl)) ?_))
  rw[hargs,List.length_cons]at hxl
  obtain⟨g,o,a1,a2,a3⟩:=sRow (x5.gr O5.1) (i:=0) (s:=a0) (by rw[hargs];rfl)
  refine br_t (by rw[decide_eq_true_eq];omega) (rd_Y (y:=x) (rdC_of q6 (by rfl)) ?_)
  rw[a1]
  refine ptr_i (if_i ⟨by decide,by omega⟩ (rd_S a3 ?_))
  rw[<-sEq_eq]
  exact hj
theorem c_touch {M:Nat} (hF:FsAt σ bf A B) (hO:Off τ σ B) (ha:ArgOk τ args x) (hp:Pot M A) (hM:M<=900000000000) (hz:(callP A touN args).1.size<=1000000000000) {K:KH}
 (hK:∀σ' B',FsAt σ' bf (callP A touN args).2 B'->Sep σ B σ' B'->Pot M (callP A touN args).2->K (.string (callP A touN args).1) σ'):callW Tryz.prog 12 [.pointer (some ⟨bf,0,none⟩),.string touN,.slice x.base x.len x.cap] K σ:=by
 refine s_call19 (B:=B) (Q:=Pot M) (fun K' hK'=>s_fiRun (Q:=Pot M) hF hO touN _ _ ha.rows ha.cap (by decide) ha.sz ha.len (by decide +kernel) (by decide +kernel) (by kernel_rfl) lk_tou hp ?_ hK') hz hK
 intro got names y bt σ1 B1 τ1 h1 h2 t1 o1 r1 c1 K2 hK2
 obtain⟨m1,m2⟩:=opts_mem _ _ _ _ _ h1
 obtain⟨z1,_⟩:=call_size (A:=A) (by decide +kernel) (by decide +kernel) h1 h2 hz
 have hl:=ha.len
 rw[do_tou]at z1 hK2
 exact s_fiTouch t1 o1 r1 hp hM (by show touN.size<=_;decide) (by omega) (fun n hn=>Nat.le_trans (ha.sz n (m1 n hn)) (by decide)) z1 fun σ' B' t' s' p'=>hK2 σ' B' y t' s' p'
theorem right_ln {got:ByteArray} {names:List ByteArray} (h:rightP lnN got names=true) : ∃a b,names=[a,b]:=by
 have h':(names.length==2)=true:=by
  have e:rightP lnN got names=(names.length==2):=by
   unfold rightP
   rw[if_pos (by decide +kernel)]
  rw[<-e];exact h
 rw[beq_iff_eq]at h'
 match names,h' with
 | [a,b],_=>exact⟨a,b,rfl⟩
theorem c_ln {N:Nat} (hF:FsAt σ bf A B) (hO:Off τ σ B) (ha:ArgOk τ args x) (hI:Inv A/\Bd N A) (hN:N+1000<1000000000000) (hz:(callP A lnN args).1.size<=1000000000000) {K:KH}
 (hK:∀σ' B',FsAt σ' bf (callP A lnN args).2 B'->Sep σ B σ' B'->(Inv (callP A lnN args).2/\Bd (N+1000) (callP A lnN args).2)->K (.string (callP A lnN args).1) σ'):callW Tryz.prog 12 [.pointer (some ⟨bf,0,none⟩),.string lnN,.slice x.base x.len x.cap] K σ:=by
 refine s_call19 (B:=B) (Q:=fun A=>Inv A/\Bd (N+1000) A) (fun K' hK'=>s_fiRun (Q:=fun A=>Inv A/\Bd (N+1000) A) hF hO lnN _ _ ha.rows ha.cap (by decide) ha.sz ha.len (by decide +kernel) (by decide +kernel) (by kernel_rfl) lk_ln ⟨hI.1,hI.2.mono (by omega)⟩ ?_ hK') hz hK
 intro got names y bt σ1 B1 τ1 h1 h2 t1 o1 r1 c1 K2 hK2
 obtain⟨m1,m2⟩:=opts_mem _ _ _ _ _ h1
 obtain⟨z1,_⟩:=call_size (A:=A) (by decide +kernel) (by decide +kernel) h1 h2 hz
 obtain⟨a,b,rfl⟩:=right_ln h2
 rw[do_ln]at z1 hK2
 exact s_fiLn t1 o1 r1 c1 hI hN (by show lnN.size<=_;decide) (by show(1:Nat)<=1000;decide) (fun n hn=>Nat.le_trans (ha.sz n (m1 n (List.mem_cons_of_mem _ hn))) (by decide)) z1 fun σ' B' y' t' s' p'=>hK2 σ' B' y' t' s' p'
theorem c_chmod {N:Nat} (hF:FsAt σ bf A B) (hO:Off τ σ B) (ha:ArgOk τ args x) (hne:∀a∈args,a≠⟨⟨[]⟩⟩) (ha0:args≠[]) (hI:Inv A/\Bd N A) (hz:(callP A chmN args).1.size<=1000000000000) {K:KH}
 (hK:∀σ' B',FsAt σ' bf (callP A chmN args).2 B'->Sep σ B σ' B'->(Inv (callP A chmN args).2/\Bd N (callP A chmN args).2)->K (.string (callP A chmN args).1) σ'):callW Tryz.prog 12 [.pointer (some ⟨bf,0,none⟩),.string chmN,.slice x.base x.len x.cap] K σ:=by
 refine s_call19 (B:=B) (Q:=fun A=>Inv A/\Bd N A) (fun K' hK'=>s_fiRunC (Q:=fun A=>Inv A/\Bd N A) hF hO _ _ ha hne ha0 hI ?_ hK') hz hK
 intro got names y bt σ1 B1 τ1 h1 h2 t1 o1 r1 c1 K2 hK2
 obtain⟨m1,m2⟩:=chm_mem h1
 have he:A.filesP ⟨⟨[47]⟩⟩ chmN args=some (⟨(doP A chmN ⟨⟨[47]⟩⟩ got names).out,(doP A chmN ⟨⟨[47]⟩⟩ got names).err,(doP A chmN ⟨⟨[47]⟩⟩ got names).st⟩,(doP A chmN ⟨⟨[47]⟩⟩ got names).A):=by
  rw[files_chm,h1]
  show(if rightP chmN got names=true then _ else _)=_
  rw[if_pos h2]
 rw[call_some he]at hz
 simp only[ByteArray.size_append]at hz
 have z1:(doP A chmN ⟨⟨[47]⟩⟩ got names).err.size<=1000000000000:=by omega
 obtain⟨how,b,r,rfl⟩ : ∃how b r,names=how::b::r:=by
  rw[right_chm]at h2
  match names,h2 with
  | how::b::r,_=>exact⟨how,b,r,rfl⟩
 have hl:=ha.len
 rw[List.length_cons]at m2
 rw[do_chm]at z1 hK2
 exact s_fiChmod t1 o1 r1 c1 (hne how (m1 how (List.mem_cons_self ..))) (Nat.le_trans (ha.sz how (m1 how (List.mem_cons_self ..))) (by decide)) hI (by show chmN.size<=_;decide) (by omega) (fun n hn=>Nat.le_trans (ha.sz n (m1 n (List.mem_cons_of_mem _ hn))) (by decide)) z1 fun σ' B' y' t' s' p'=>hK2 σ' B' y' t' s' p'
end
end Go.Proofs.YtbdlkofldmhoaaaGreatDoor

set_option maxRecDepth 100000
namespace Go.Proofs.YtbdlkofldmhoaaaGreatDoor
open Go Go.HL Go.Wk
attribute [local irreducible] ptrW ifW brW andW rdT alW letJ stW muW biW vaW imW callT cvalT app callW invW callVW sizeT oW nilF oneK loopW rfW funW begW roundK exW idxW Gr Put
def eRow (es:List (ByteArray×Int)):List (List Value):=(sortN (keysL es)).map fun k=>[.string k,.int .i64 ((lk k es).getD 0 - 1)]
def ptrRow (A:AT) (cb:Int->Nat):List (List Value):=(List.range A.last.toNat).map fun(i:Nat)=>[.pointer (if(A.get ((i:Int)+1)).isSome then some ⟨cb ((i:Int)+1),0,none⟩else none)]
def upR (n:AN):Int:=if n.kind=2 then n.up - 1 else 0
def nodeO (n:AN) (y:Sl):Obj := .cells ⟨[.int .i64 n.kind,.int .i64 n.mode,.string n.data,.slice y.base y.len y.cap,.int .i64 (upR n)]⟩ 107 (0,0)
structure RfM where
 x:Sl
 cb:Int->Nat
 ey:Int->Sl
 w:Nat->Option (Int×Bool)
structure RfIn (σ:H) (b:Nat) (A:AT) (M:RfM):Prop where
 top:σ b=some (.cells ⟨[.int .i64 A.qi,.int .i64 A.qb,.slice M.x.base M.x.len M.x.cap]⟩ 103 (0,0))
 tab:RowsOwn σ 104 1 (ptrRow A M.cb) M.x
 nod : ∀i n,A.get i=some n->σ (M.cb i)=some (nodeO n (M.ey i))
 ent : ∀i n,A.get i=some n->RowsOwn σ 165 2 (eRow n.ents) (M.ey i)
 wb:M.w b=some (0,false)
 wt : ∀g,M.x.base=some ⟨g,0,none⟩->M.w g=some (0,true)
 wn : ∀i n,A.get i=some n->M.w (M.cb i)=some (i,false)
 we : ∀i n g,A.get i=some n->(M.ey i).base=some ⟨g,0,none⟩->M.w g=some (i,true)
 has : ∀c,M.w c≠none->σ c≠none
def RfAt (σ:H) (b:Nat) (A:AT) (D:Nat->Prop):Prop := ∃M,RfIn σ b A M /\ ∀c,D c↔M.w c≠none
theorem RfIn.gr {σ σ':H} {b:Nat} {A:AT} {M:RfM} (h:RfIn σ b A M) (hg:Gr σ σ'):RfIn σ' b A M :=
 ⟨hg.get h.top,h.tab.gr hg,fun i n hn=>hg.get (h.nod i n hn),fun i n hn=>(h.ent i n hn).gr hg,h.wb,h.wt,h.wn,h.we,fun c hc=>by
  have:=h.has c hc
  cases ho:σ c with
  | none=>exact absurd ho this
  | some o=>rw[hg.get ho];simp⟩
theorem RfAt.gr {σ σ':H} {b:Nat} {A:AT} {D:Nat->Prop} (h:RfAt σ b A D) (hg:Gr σ σ'):RfAt σ' b A D:=by
 obtain⟨M,h1,h2⟩:=h
 exact⟨M,h1.gr hg,h2⟩
section
variable {σ : H} {b : Nat} {A : AT} {M : RfM}
theorem RfIn.len (h:RfIn σ b A M):M.x.len=A.last.toNat:=by
 have:=h.tab.1
 simpa[ptrRow]using this
theorem RfIn.slot (h:RfIn σ b A M) (hI:Inv A) {d:Int} {n:AN} (hn:A.get (d+1)=some n) : ∃g o,M.x.base=some ⟨g,o,none⟩/\(0<=d/\d<((M.x.len:Nat):Int))/\rdC g (o+d.toNat * 1) σ=some (.pointer (some ⟨M.cb (d+1),0,none⟩)):=by
 obtain⟨l1,l2⟩:=hI.low _ _ hn
 have hl:=h.len
 have hr:(ptrRow A M.cb)[d.toNat]? = some [.pointer (some ⟨M.cb (d+1),0,none⟩)]:=by
  unfold ptrRow
  rw[List.getElem?_map,List.getElem?_range (by omega)]
  have:((d.toNat:Nat):Int)=d:=by omega
  simp[this,hn]
 obtain⟨g,o,h2,h3⟩:=RowsAt.rd h.tab.rows hr (by decide)
 refine⟨g,o,h2,by omega,?_⟩
 obtain⟨h1,h4 | ⟨g',o',cur,t,fz,q2,q3,q4⟩⟩:=h.tab.rows
 ·rw[h4]at hr;simp at hr
 ·rw[h2]at q2
  injection q2 with q2
  injection q2 with e1 e2
  subst e1;subst e2
  refine rdC_of q3 ?_
  obtain⟨_,h5⟩:=q4 _ _ hr
  have:((cur.drop (o+d.toNat * 1)).take 1)[0]? = some (.pointer (some ⟨M.cb (d+1),0,none⟩)):=by rw[h5];rfl
  rw[List.getElem?_take]at this
  simpa using this
theorem rf_p (h:RfIn σ b A M) (hI:Inv A) {d:Int} {n:AN} (hn:A.get (d+1)=some n) {F:Option Addr->H->Prop} (hF:F (some ⟨M.cb (d+1),0,none⟩) σ) :
 ptrW (some ⟨b,0,none⟩) (fun(b4 o5:Nat)=>rdT (rdC b4 (o5+2)) kL (fun(x6:Sl)=>ptrW x6.base (fun(b7 o8:Nat)=>ifW (0<=d/\d<((x6.len:Nat):Int)) (rdT (rdC b7 (o8+d.toNat * 1)) kP F)))) σ:=by
 obtain⟨g,o,h1,h2,h3⟩:=h.slot hI hn
 refine ptr_i (rd_L (rdC_of h.top (by rfl)) ?_)
 rw[h1]
 exact ptr_i (if_i h2 (rd_P h3 hF))
theorem rf_at (h:RfIn σ b A M) (hI:Inv A) {d:Int} {n:AN} (hn:A.get (d+1)=some n) {F:Nat->Nat->H->Prop} (hF:F (M.cb (d+1)) 0 σ) :
 ptrW (some ⟨b,0,none⟩) (fun(b4 o5:Nat)=>rdT (rdC b4 (o5+2)) kL (fun(x6:Sl)=>ptrW x6.base (fun(b7 o8:Nat)=>ifW (0<=d/\d<((x6.len:Nat):Int)) (rdT (rdC b7 (o8+d.toNat * 1)) kP (fun x9=>ptrW x9 F))))) σ :=
 rf_p h hI hn (ptr_i hF)
def less1 (o:Option Int):Int:=(o.map (· - 1)).getD (-1)
theorem erow_at {es:List (ByteArray×Int)} {y:Sl} (h:RowsOwn σ 165 2 (eRow es) y) {i:Nat} {k:ByteArray} (hk:(sortN (keysL es))[i]? = some k) : ∃g o,y.base=some ⟨g,o,none⟩/\rdC g (o+i * 2) σ=some (.string k)/\rdC g (o+i * 2+1) σ=some (.int .i64 ((lk k es).getD 0 - 1))/\rdA 2 g (o+i * 2) σ=some (.agg ⟨[.string k,.int .i64 ((lk k es).getD 0 - 1)]⟩):=by
 have hr:(eRow es)[i]? = some [.string k,.int .i64 ((lk k es).getD 0 - 1)]:=by unfold eRow;rw[List.getElem?_map,hk];rfl
 obtain⟨g,o,h2,h3⟩:=RowsAt.rd h.rows hr (by decide)
 refine⟨g,o,h2,?_,?_,h3⟩
 all_goals
  obtain⟨h1,h4 | ⟨g',o',cur,t,fz,q2,q3,q4⟩⟩:=h.rows
  ·rw[h4]at hr;simp at hr
  ·rw[h2]at q2
   injection q2 with q2
   injection q2 with e1 e2
   subst e1;subst e2
   refine rdC_of q3 ?_
   obtain⟨_,h5⟩:=q4 _ _ hr
   first
    | (have : ((cur.drop (o + i * 2)).take 2)[0]? = some (.string k) := by rw [h5]; rfl
       rw[List.getElem?_take]at this
       simpa using this)
    | (have : ((cur.drop (o + i * 2)).take 2)[1]? = some (.int .i64 ((lk k es).getD 0 - 1)) := by rw [h5]; rfl
       rw[List.getElem?_take]at this
       simpa[Nat.add_assoc]using this)
theorem s_rfFind (h:RfIn σ b A M) (hI:Inv A) {N:Nat} (hB:Bd N A) (hN:N<=1000000000000) {d:Int} {n:AN} (hn:A.get (d+1)=some n) (name:ByteArray) {K:KH} (hK:K (.int .i64 (less1 (A.find (d+1) name))) σ) :
 callW Tryz.prog 217 [.pointer (some ⟨b,0,none⟩),.int .i64 d,.string name] K σ:=by
 refine c217 _ _ _ ?_
 unfold g217
 have hf:A.find (d+1) name=lk name n.ents:=by unfold AT.find;rw[hn];rfl
 rw[hf]at hK
 refine rf_at h hI hn (rd_L (rdC_of (h.nod _ _ hn) (by rfl)) (loop_i ?_))
 intro R hR
 have he:=h.ent _ _ hn
 have hlen:(M.ey (d+1)).len=(sortN (keysL n.ents)).length:=by have:=he.1;simpa[eRow]using this
 have hle:(sortN (keysL n.ents)).length<=N:=by
  rw[(sortN_perm _).length_eq]
  have:=hB.ents _ _ hn
  simpa[keysL]using this
 have key : ∀ (c i:Nat),c+i=(sortN (keysL n.ents)).length->name∉(sortN (keysL n.ents)).take i->R name (M.ey (d+1)) (i:Int) σ:=by
  intro c
  induction c with
  | zero =>
   intro i hc hno
   refine hR _ _ _ _ ?_
   refine br_f (by simp only[decide_eq_false_iff_not];omega) ?_
   have:lk name n.ents=none:=by
    rw[lk_none_iff]
    intro hm
    apply hno
    rw[show i=(sortN (keysL n.ents)).length from by omega,List.take_length]
    exact(sortN_perm _).mem_iff.2 hm
   rw[this]at hK
   exact hK
  | succ c ih =>
   intro i hc hno
   refine hR _ _ _ _ ?_
   refine br_t (by simp only[decide_eq_true_eq];omega) ?_
   obtain⟨k,hk⟩ : ∃k,(sortN (keysL n.ents))[i]? = some k:=⟨_,List.getElem?_eq_getElem (by omega)⟩
   obtain⟨g,o,q1,q2,q3,_⟩:=erow_at he hk
   rw[q1]
   have e0:(i:Int).toNat=i:=by omega
   refine ptr_i (if_i ⟨by omega,by omega⟩ (rd_S (by rw[e0];exact q2) ?_))
   by_cases hkn:k=name
   ·subst hkn
    refine br_t (strEq_iff.2 rfl) (ptr_i (if_i ⟨by omega,by omega⟩ (rd_I (by rw[e0];exact q3) ?_)))
    have hm:k∈keysL n.ents:=(sortN_perm _).mem_iff.1 (List.mem_of_getElem? hk)
    cases hl:lk k n.ents with
    | none=>exact absurd hm (lk_none_iff.1 hl)
    | some v=>rw[hl]at hK;exact hK
   ·refine br_f (by rw[Bool.eq_false_iff];intro e;exact hkn (strEq_iff.1 e)) ?_
    rw[wrap_id (x:=(i:Int)+1) (by omega) (by omega)]
    refine ih (i+1) (by omega) ?_
    rw[List.take_add_one,hk]
    simp only[Option.toList_some,List.mem_append,List.mem_singleton,not_or]
    exact⟨hno,fun e=>hkn e.symm⟩
 exact key _ 0 (by omega) (by simp)
theorem s_rfDeep (h:RfIn σ b A M) (hI:Inv A) {d:Int} (hd:A.isDir (d+1)) {x:Int} (hx:A.deep 13 (d+1)=some x) {K:KH} (hK:K (.int .i64 x) σ):callW Tryz.prog 91 [.pointer (some ⟨b,0,none⟩),.int .i64 d] K σ:=by
 refine c91 _ _ ?_
 unfold g91
 refine loop_i ?_
 intro R hR
 have key : ∀ (f:Nat) (d c y:Int),f<=13->A.isDir (d+1)->A.deep f (d+1)=some y->c+y - 1=x->0<=c->c+f<=14->R (some ⟨b,0,none⟩) d c σ:=by
  intro f
  induction f with
  | zero=>intro d c y _ _ h;simp[AT.deep]at h
  | succ f ih =>
   intro d c y hf hd hy hc h0 h1
   refine hR _ _ _ _ ?_
   rw[AT.deep]at hy
   by_cases e:d=0
   ·subst e
    rw[if_pos (show(0:Int)+1=1 from rfl)]at hy
    have:y=1:=(Option.some.inj hy).symm
    refine br_f rfl ?_
    rw[show c=x from by omega]
    exact hK
   ·rw[if_neg (by omega)]at hy
    obtain⟨n,hn,hk⟩:=hd
    have hu:A.upOf (d+1)=n.up:=by unfold AT.upOf;rw[hn];rfl
    have hdu:=hI.isDir_up ⟨n,hn,hk⟩
    rw[hu]at hy hdu
    cases hy':A.deep f n.up with
    | none=>rw[hy']at hy;cases hy
    | some y' =>
     rw[hy']at hy
     have hy2:y=y'+1:=(Option.some.inj hy).symm
     refine br_t (by simpa using e) (rf_at h hI hn (rd_I (rdC_of (h.nod _ _ hn) (by rfl)) ?_))
     rw[wrap_id (x:=c+1) (by omega) (by omega)]
     have hup:upR n=n.up - 1:=by unfold upR;rw[if_pos hk]
     rw[hup]
     exact ih (n.up - 1) (c+1) y' (by omega) (by rw[show n.up - 1+1=n.up from by omega];exact hdu) (by rw[show n.up - 1+1=n.up from by omega];exact hy') (by omega) (by omega) (by omega)
 exact key 13 d 1 x (by omega) hd hx (by omega) (by omega) (by omega)
theorem sz_RPlace:sizeT Tryz.prog 133=some 3:=by kernel_rfl
def plV (p:Pl):List Value:=[.int .i64 (p.dir - 1),.string p.name,.int .i64 (if p.there then p.ino - 1 else -1)]
def plZ:List Value:=[.int .i64 0,.string ⟨⟨[]⟩⟩,.int .i64 0]
theorem s_rfStep (h:RfIn σ b A M) (hI:Inv A) {N:Nat} (hB:Bd N A) (hN:N<=1000000000000) {d:Int} {n:AN} (hn:A.get (d+1)=some n) (name:ByteArray) {K:KH}
 (hK:∀σ',Gr σ σ'->K (if A.kind (d+1)≠2 then .tuple ⟨[.agg ⟨plZ⟩,.int .i64 8]⟩else if sEq name ⟨⟨[46,46]⟩⟩=true then .tuple ⟨[.agg ⟨plV ⟨A.upOf (d+1),⟨⟨[]⟩⟩,A.upOf (d+1),true⟩⟩,.int .i64 0]⟩else if name.size>56 then .tuple ⟨[.agg ⟨plZ⟩,.int .i64 3]⟩else .tuple ⟨[.agg ⟨plV ⟨d+1,name,(A.find (d+1) name).getD 0,(A.find (d+1) name).isSome⟩⟩,.int .i64 0]⟩) σ') :
 callW Tryz.prog 184 [.pointer (some ⟨b,0,none⟩),.int .i64 d,.string name] K σ:=by
 refine c184 _ _ _ ?_
 unfold g184
 refine al_i ?_;intro b4 σ1 g1 e1 n1
 have h1:=h.gr g1
 have hk:A.kind (d+1)=n.kind:=by unfold AT.kind;rw[hn];rfl
 have hu:A.upOf (d+1)=n.up:=by unfold AT.upOf;rw[hn];rfl
 rw[hk,hu]at hK
 refine rf_at h1 hI hn (rd_I (rdC_of (h1.nod _ _ hn) (by rfl)) ?_)
 by_cases c1:n.kind=2
 ·refine br_f (by simpa using c1) ?_
  rw[if_neg (by simpa using c1)]at hK
  have hup:upR n=n.up - 1:=by unfold upR;rw[if_pos c1]
  by_cases c2:sEq name ⟨⟨[46,46]⟩⟩=true
  ·rw[if_pos c2]at hK
   refine br_t (by rw[<-sEq_eq];exact c2) ?_
   refine rf_at h1 hI hn (rd_I (rdC_of (h1.nod _ _ hn) (by rfl)) ?_)
   refine rf_at h1 hI hn (rd_I (rdC_of (h1.nod _ _ hn) (by rfl)) ?_)
   refine st_i2 e1 sz_RPlace (by rfl) (by rfl) ?_;intro σ2 p2
   refine rd_G (rdA_of' p2.same (by rfl)) ?_
   (refine app_of rfl ?_;try dsimp only)
   rw[hup]
   exact hK σ2 (g1.putF p2 n1)
  ·rw[if_neg c2]at hK
   refine br_f (by rw[<-sEq_eq];simpa using c2) ?_
   by_cases c3:name.size>56
   ·rw[if_pos c3]at hK
    refine br_t (by simp only[decide_eq_true_eq];omega) ?_
    refine st_i2 e1 sz_RPlace (by rfl) (by rfl) ?_;intro σ2 p2
    refine rd_G (rdA_of' p2.same (by rfl)) ?_
    (refine app_of rfl ?_;try dsimp only)
    exact hK σ2 (g1.putF p2 n1)
   ·rw[if_neg c3]at hK
    refine br_f (by simp only[decide_eq_false_iff_not];omega) (call_i (s_rfFind h1 hI hB hN hn name (app_I ?_)))
    refine st_i2 e1 sz_RPlace (by rfl) (by rfl) ?_;intro σ2 p2
    refine rd_G (rdA_of' p2.same (by rfl)) ?_
    (refine app_of rfl ?_;try dsimp only)
    have:=hK σ2 (g1.putF p2 n1)
    have e2:d+1 - 1=d:=by omega
    have e3:(if(A.find (d+1) name).isSome then(A.find (d+1) name).getD 0 - 1 else -1)=less1 (A.find (d+1) name):=by
     cases A.find (d+1) name<;>rfl
    unfold plV at this
    simp only[e2,e3]at this
    exact this
 ·refine br_t (by simpa using c1) ?_
  rw[if_pos (by simpa using c1)]at hK
  refine st_i2 e1 sz_RPlace (by rfl) (by rfl) ?_;intro σ2 p2
  refine rd_G (rdA_of' p2.same (by rfl)) ?_
  (refine app_of rfl ?_;try dsimp only)
  exact hK σ2 (g1.putF p2 n1)
end
theorem und_strs:Tryz.prog.underlying 30=some (.slice 9):=by kernel_rfl
theorem info_strR : ∃i,Tryz.prog.info? 9=some i/\i.zero=some (.string ⟨⟨[]⟩⟩)/\i.size=1/\i.bytes=16:=by
 have h1:(Tryz.prog.info? 9).map (fun i=>(i.zero,i.size,i.bytes))=some (some (.string ⟨⟨[]⟩⟩),1,16):=by kernel_rfl
 cases hi:Tryz.prog.info? 9 with
 | none=>rw[hi]at h1;cases h1
 | some i =>
  rw[hi]at h1
  simp only[Option.map_some,Option.some.injEq,Prod.mk.injEq]at h1
  exact⟨i,rfl,h1.1,h1.2.1,h1.2.2⟩
def srows (l:List ByteArray):List (List Value):=l.map fun s=>[.string s]
def StrsNew (σ0 σ:H) (l:List ByteArray) (y:Sl):Prop:=Gr σ0 σ/\RowsOwn σ 9 1 (srows l) y /\ ∀g,y.base=some ⟨g,0,none⟩->σ0 g=none
theorem app_str {σ0 σ:H} {l:List ByteArray} {y:Sl} {s:ByteArray} {ty:TypeId} {cs:List Bool} (h:StrsNew σ0 σ l y) (hl:l.length<1000000000) {F:Sl->H->Prop} (hF:∀y' σ',StrsNew σ0 σ' (l++[s]) y'->F y' σ') :
 alW (.cells ⟨[.string s]⟩ 9 (0,0)) (fun(b48:Nat)=>biW Tryz.prog .append #[30,30] ty cs [.slice y.base y.len y.cap,.slice (some ⟨b48,0,none⟩) 1 1] kL F) σ:=by
 obtain⟨h1,h2,h3⟩:=h
 refine al_i ?_;intro b48 σ1 g1 e1 n1
 obtain⟨i,i1,i2,i3,i4⟩:=info_strR
 refine append_i und_strs i1 i2 i3 i4 rfl (by decide) (h2.gr g1) e1 rfl (by intro u hu;simp at hu;subst hu;rfl) (by simpa[srows]using hl) (by decide) ?_
 intro y' σ' hy' hcase
 refine hF y' σ' ⟨?_,by simpa[srows]using hy',?_⟩
 ·rcases hcase with⟨g,o,q1,q2,q3⟩ | ⟨g,q1,q2,q3⟩
  ·exact(h1.trans g1).putF q3 (h3 g q1)
  ·exact(h1.trans g1).trans q3
 ·intro g hg
  rcases hcase with⟨g',o,q1,q2,q3⟩ | ⟨g',q1,q2,q3⟩
  ·rw[q2]at hg;exact h3 g hg
  ·rw[q1]at hg
   injection hg with hg
   injection hg with hg
   subst hg
   exact none_of (h1.trans g1) q2
theorem take_one {l:List UInt8} {i:Nat} {c:UInt8} (h:l[i]? = some c) (f:Nat) (hf:f<=i):(l.drop f).take (i+1 - f)=(l.drop f).take (i - f)++[c]:=by
 rw[show i+1 - f=(i - f)+1 from by omega,List.take_add_one]
 congr 1
 rw[List.getElem?_drop,show f+(i - f)=i from by omega,h];rfl
def okP (s:ByteArray):List ByteArray:=if okPart s then [s]else []
theorem parts_cons {l a b:List UInt8} (hl:l=a++47::b) (ha:(47:UInt8)∉a):((splitL 47 l).map fun l=>(⟨⟨l⟩⟩:ByteArray)).filter okPart=okP ⟨⟨a⟩⟩++((splitL 47 b).map fun l=>(⟨⟨l⟩⟩:ByteArray)).filter okPart:=by
 rw[hl,splitL_some ha]
 simp only[List.map_cons,List.filter_cons,okP]
 split<;>simp
theorem parts_end {l:List UInt8} (ha:(47:UInt8)∉l):((splitL 47 l).map fun l=>(⟨⟨l⟩⟩:ByteArray)).filter okPart=okP ⟨⟨l⟩⟩:=by
 rw[splitL_none ha]
 simp only[List.map_cons,List.map_nil,List.filter_cons,okP,List.filter_nil]
theorem s_rfNames (path:ByteArray) (hz:path.size<=1000000) {σ:H} {K:KH} (hK:∀y σ',StrsNew σ σ' (partsB path) y->K (.slice y.base y.len y.cap) σ'):callW Tryz.prog 183 [.string path] K σ:=by
 refine c183 _ ?_
 unfold g183
 have hlen:path.data.toList.length=path.size:=(size_list path).symm
 refine loop_i ?_
 intro R hR
 have fin : ∀ (y:Sl) (f:Int) (τ:H),StrsNew σ τ (partsB path) y->R path y f ((path.size+1:Nat):Int) τ:=by
  intro y f τ h
  refine hR _ _ _ _ _ ?_
  exact br_f (by simp only[decide_eq_false_iff_not];omega) (hK y τ h)
 have key : ∀ (c i f:Nat) (out:List ByteArray) (y:Sl) (τ:H),c+i=path.size->f<=i->out.length<=i->StrsNew σ τ out y->(47:UInt8)∉(path.data.toList.drop f).take (i - f)->out++((splitL 47 (path.data.toList.drop f)).map fun l=>(⟨⟨l⟩⟩:ByteArray)).filter okPart=partsB path->R path y (f:Int) (i:Int) τ:=by
  intro c
  induction c with
  | zero =>
   intro i f out y τ hc hf hol hS hno hp
   have hi:i=path.size:=by omega
   refine hR _ _ _ _ _ ?_
   refine br_t (by simp only[decide_eq_true_eq];omega) ?_
   refine j_i (fun j => ∀y' τ' v1 v2 v3 v4,StrsNew σ τ' (partsB path) y'->j path y' (((path.size+1:Nat)):Int) (i:Int) v1 v2 v3 v4 τ') ?_ ?_
   ·intro y' τ' v1 v2 v3 v4 h
    rw[wrap_id (x:=(i:Int)+1) (by omega) (by omega)]
    rw[show(i:Int)+1=((path.size+1:Nat):Int)from by omega]
    exact fin y' _ τ' h
   intro j7 hj7
   refine j_i (fun j => ∀v1 v2 v3 v4,j path y (f:Int) (i:Int) v1 v2 v3 v4 false τ) ?_ ?_
   case refine_2 =>
    intro j hj
    exact br_f (by simp only[decide_eq_false_iff_not];omega) (hj _ _ _ _)
   intro v1 v2 v3 v4
   have e0:(i:Int).toNat=i:=by omega
   have e1:(f:Int).toNat=f:=by omega
   refine br_f rfl (if_i ⟨bnd_some (by omega) (by omega),bnd_some (by omega) (by omega)⟩ ?_)
   rw[e0,e1]
   have hex:path.extract f i=⟨⟨path.data.toList.drop f⟩⟩:=by
    apply bytes_ext
    rw[extract_toList,hi,<- hlen,List.take_length]
   rw[hex]
   have hfull:(path.data.toList.drop f).take (i - f)=path.data.toList.drop f:=by
    rw[List.take_of_length_le];rw[List.length_drop];omega
   rw[hfull]at hno
   rw[parts_end hno]at hp
   generalize (⟨⟨path.data.toList.drop f⟩⟩:ByteArray)=s at hp
   refine j_i (fun j => ∀y' τ' v1 v2 v3 v4 v5 v6,StrsNew σ τ' (partsB path) y'->j path y' (i:Int) v1 v2 v3 v4 v5 v6 τ') ?_ ?_
   ·intro y' τ' v1 v2 v3 v4 v5 v6 h
    rw[wrap_id (x:=(i:Int)+1) (by omega) (by omega)]
    rw[show(i:Int)+1=((path.size+1:Nat):Int)from by omega]
    exact hj7 _ _ _ _ _ _ h
   intro j26 hj26
   refine j_i (fun j => ∀v1 v2 v3 v4 v5 v6,j path y (i:Int) s v1 v2 v3 v4 v5 v6 (okPart s) τ) ?_ ?_
   ·intro v1 v2 v3 v4 v5 v6
    unfold okP at hp
    cases ho:okPart s with
    | true =>
     rw[ho]at hp
     refine br_t rfl (app_str hS (by omega) ?_)
     intro y' σ' h'
     rw[show out++[s]=partsB path from hp]at h'
     exact hj26 _ _ _ _ _ _ _ _ h'
    | false =>
     rw[ho]at hp
     have hp:out=partsB path:=by simpa using hp
     rw[hp]at hS
     exact br_f rfl (hj26 _ _ _ _ _ _ _ _ hS)
   ·intro j36 hj36
    have ho:okPart s=(!strEq s ⟨⟨[]⟩⟩ && !strEq s ⟨⟨[46]⟩⟩):=by unfold okPart;rw[sEq_eq,sEq_eq]
    cases hs0:strEq s ⟨⟨[]⟩⟩ with
    | true =>
     have:=hj36 v1 v2 v3 v4 (.tuple ⟨[]⟩) (.tuple ⟨[]⟩)
     rw[ho,hs0]at this
     exact br_f rfl this
    | false =>
     have:=fun a b=>hj36 v1 v2 v3 v4 a b
     rw[ho,hs0]at this
     exact br_t rfl (this _ _)
  | succ c ih =>
   intro i f out y τ hc hf hol hS hno hp
   refine hR _ _ _ _ _ ?_
   refine br_t (by simp only[decide_eq_true_eq];omega) ?_
   obtain⟨ch,hch⟩ : ∃ch,path.data.toList[i]? = some ch:=⟨_,List.getElem?_eq_getElem (by omega)⟩
   refine j_i (fun j => ∀ (f':Nat) out' y' τ' v1 v2 v3 v4,f'<=i+1->out'.length<=i+1->StrsNew σ τ' out' y'->(47:UInt8)∉(path.data.toList.drop f').take (i+1 - f')->out'++((splitL 47 (path.data.toList.drop f')).map fun l=>(⟨⟨l⟩⟩:ByteArray)).filter okPart=partsB path->j path y' (f':Int) (i:Int) v1 v2 v3 v4 τ') ?_ ?_
   ·intro f' out' y' τ' v1 v2 v3 v4 a1 a2 a3 a4 a5
    rw[wrap_id (x:=(i:Int)+1) (by omega) (by omega)]
    rw[show(i:Int)+1=((i+1:Nat):Int)from by omega]
    exact ih (i+1) f' out' y' τ' (by omega) a1 a2 a3 a4 a5
   intro j7 hj7
   refine j_i (fun j => ∀v1 v2 v3 v4,j path y (f:Int) (i:Int) v1 v2 v3 v4 (((ch.toNat:Int):Int) != 47) τ) ?_ ?_
   case refine_2 =>
    intro j hj
    refine br_t (by simp only[decide_eq_true_eq];omega) (idx_l (c:=ch) (by omega) (by simpa using hch) ?_)
    exact hj _ _ _ _
   intro v1 v2 v3 v4
   by_cases hc47:ch=47
   ·subst hc47
    have e0:(i:Int).toNat=i:=by omega
    have e1:(f:Int).toNat=f:=by omega
    refine br_f (by decide) (if_i ⟨bnd_some (by omega) (by omega),bnd_some (by omega) (by omega)⟩ ?_)
    rw[e0,e1]
    have hsp:path.data.toList.drop f=(path.data.toList.drop f).take (i - f)++47::path.data.toList.drop (i+1):=by
     have h1:(path.data.toList.drop f).drop (i - f)=47::path.data.toList.drop (i+1):=by
      rw[List.drop_drop,show f+(i - f)=i from by omega,List.drop_eq_getElem_cons (by omega)]
      rw[List.getElem?_eq_getElem (by omega)]at hch
      rw[Option.some.inj hch]
     conv=>lhs;rw[<-List.take_append_drop (i - f) (path.data.toList.drop f),h1]
    have hex:path.extract f i=⟨⟨(path.data.toList.drop f).take (i - f)⟩⟩:=by
     apply bytes_ext
     rw[extract_toList]
     simp[List.drop_take]
    rw[hex]
    rw[parts_cons hsp hno]at hp
    generalize (⟨⟨(path.data.toList.drop f).take (i - f)⟩⟩:ByteArray)=s at hp
    have hol2:(okP s).length<=1:=by unfold okP;split<;>simp
    refine j_i (fun j => ∀y' τ' v1 v2 v3 v4 v5 v6,StrsNew σ τ' (out++okP s) y'->j path y' (i:Int) v1 v2 v3 v4 v5 v6 τ') ?_ ?_
    ·intro y' τ' v1 v2 v3 v4 v5 v6 h
     rw[wrap_id (x:=(i:Int)+1) (by omega) (by omega)]
     have:=hj7 (i+1) (out++okP s) y' τ' v1 v2 v3 v4 (by omega) (by rw[List.length_append];omega) h (by simp) (by rw[List.append_assoc];exact hp)
     rw[show(i:Int)+1=((i+1:Nat):Int)from by omega]
     exact this
    intro j26 hj26
    refine j_i (fun j => ∀v1 v2 v3 v4 v5 v6,j path y (i:Int) s v1 v2 v3 v4 v5 v6 (okPart s) τ) ?_ ?_
    ·intro v1 v2 v3 v4 v5 v6
     cases ho:okPart s with
     | true =>
      refine br_t rfl (app_str hS (by omega) ?_)
      intro y' σ' h'
      exact hj26 _ _ _ _ _ _ _ _ (by unfold okP;rw[ho];exact h')
     | false =>
      refine br_f rfl (hj26 _ _ _ _ _ _ _ _ (by unfold okP;rw[ho];simpa using hS))
    ·intro j36 hj36
     have ho:okPart s=(!strEq s ⟨⟨[]⟩⟩ && !strEq s ⟨⟨[46]⟩⟩):=by unfold okPart;rw[sEq_eq,sEq_eq]
     cases hs0:strEq s ⟨⟨[]⟩⟩ with
     | true =>
      have:=hj36 v1 v2 v3 v4 (.tuple ⟨[]⟩) (.tuple ⟨[]⟩)
      rw[ho,hs0]at this
      exact br_f rfl this
     | false =>
      have:=fun a b=>hj36 v1 v2 v3 v4 a b
      rw[ho,hs0]at this
      exact br_t rfl (this _ _)
   ·have hne : ¬ ((ch.toNat : Int) = 47) := by
     intro e
     apply hc47
     have:ch.toNat=47:=by omega
     exact UInt8.toNat_inj.1 this
    refine br_t (by simpa using hne) ?_
    refine hj7 f out y τ _ _ _ _ (by omega) (by omega) hS ?_ hp
    rw[take_one hch f hf]
    simp only[List.mem_append,List.mem_singleton,not_or]
    exact⟨hno,fun e=>hc47 e.symm⟩
 exact key path.size 0 0 [] ⟨none,0,0⟩ σ (by omega) (by omega) (by simp) ⟨Gr.refl _,RowsOwn.nil _ _ _,by intro g h;cases h⟩ (by simp) (by simp[partsB])
theorem RfIn.keep {σ σ':H} {b:Nat} {A:AT} {M:RfM} (h:RfIn σ b A M) (hk:∀c o,σ c=some o->M.w c≠none->σ' c=some o):RfIn σ' b A M:=by
 have hw : ∀c r,M.w c=some r->M.w c≠none:=fun c r e=>by rw[e];simp
 refine⟨hk _ _ h.top (hw _ _ h.wb),h.tab.keep fun g o hx hg=>hk g o hg (hw _ _ (h.wt g hx)),fun i n hn=>hk _ _ (h.nod i n hn) (hw _ _ (h.wn i n hn)),fun i n hn=>(h.ent i n hn).keep fun g o hx hg=>hk g o hg (hw _ _ (h.we i n g hn hx)),h.wb,h.wt,h.wn,h.we,fun c hc => ?_⟩
 have:=h.has c hc
 cases ho:σ c with
 | none=>exact absurd ho this
 | some o=>rw[hk c o ho hc];simp
def But (bh:Nat) (σ σ':H):Prop := ∀c o,σ c=some o->c≠bh->σ' c=some o
theorem But.of_gr {bh:Nat} {σ σ':H} (h:Gr σ σ'):But bh σ σ':=fun _ _ hc _=>h.get hc
theorem But.trans {bh:Nat} {σ σ' σ'':H} (h:But bh σ σ') (k:But bh σ' σ''):But bh σ σ'':=fun c o hc hn=>k c o (h c o hc hn) hn
theorem But.put {bh b:Nat} {o:Obj} {σ σ' σ'':H} (h:But bh σ σ') (hp:Put σ' b o σ'') (hn:σ b=none):But bh σ σ'':=fun c o hc hne=>hp.get (fun e=>by rw[e,hn]at hc;cases hc) (h c o hc hne)
theorem But.puth {bh:Nat} {o:Obj} {σ σ' σ'':H} (h:But bh σ σ') (hp:Put σ' bh o σ''):But bh σ σ'':=fun c o hc hne=>hp.get hne (h c o hc hne)
theorem RfIn.but {bh:Nat} {σ σ':H} {b:Nat} {A:AT} {M:RfM} (h:RfIn σ b A M) (hw:M.w bh=none) (hb:But bh σ σ'):RfIn σ' b A M:=h.keep fun c o hc hwc=>hb c o hc (fun e=>hwc (by rw[e];exact hw))
theorem ret_pl {τ:H} {b6:Nat} {l:List Value} {x z e:Int} {s:ByteArray} (h6:τ b6=some (.cells ⟨l⟩ 133 (0,0))) (hl:l.length=3) {K:KH} (hK:∀τ' o,Put τ b6 o τ'->K (.tuple ⟨[.agg ⟨[.int .i64 x,.string s,.int .i64 z]⟩,.int .i64 e]⟩) τ') :
 stW Tryz.prog 133 (.pointer (some ⟨b6,0,none⟩)) (.agg ⟨[.int .i64 x,.string s,.int .i64 z]⟩) (ptrW (some ⟨b6,0,none⟩) (fun(b22 o23:Nat)=>rdT (rdA 3 b22 o23) (.one (.agg [(.int .i64),.str,(.int .i64)])) (fun(r24:Int) (r25:ByteArray) (r26:Int)=>K (.tuple ⟨[.agg ⟨[.int .i64 r24,.string r25,.int .i64 r26]⟩,.int .i64 e]⟩)))) τ:=by
 match l,hl with
 | [l0,l1,l2],_ =>
  refine st_i2 h6 sz_RPlace (by rfl) (by rfl) ?_;intro τ' p
  refine ptr_i (rd_G (rdA_of' p.same (by rfl)) ?_)
  (refine app_of rfl ?_;try dsimp only)
  exact hK τ' _ p
theorem srow_at {τ:H} {L:List ByteArray} {y:Sl} (h:RowsOwn τ 9 1 (srows L) y) {i:Nat} {s:ByteArray} (hi:L[i]? = some s) : ∃g o,y.base=some ⟨g,o,none⟩/\rdC g (o+i * 1) τ=some (.string s):=by
 have hr:(srows L)[i]? = some [.string s]:=by unfold srows;rw[List.getElem?_map,hi];rfl
 obtain⟨h1,h2 | ⟨g,o,cur,t,fz,h2,h3,h4⟩⟩:=h.rows
 ·rw[h2]at hr;simp at hr
 ·refine⟨g,o,h2,rdC_of h3 ?_⟩
  obtain⟨_,h5⟩:=h4 i _ hr
  have:((cur.drop (o+i * 1)).take 1)[0]? = some (.string s):=by rw[h5];rfl
  rw[List.getElem?_take]at this
  simpa using this
theorem split_len (l:List UInt8):(splitL 47 l).length<=l.length+1:=by
 induction l with
 | nil=>simp[splitL]
 | cons x r ih =>
  unfold splitL
  cases (x==47) with
  | true=>simp;exact ih
  | false =>
   cases h:splitL 47 r with
   | nil=>simp
   | cons a t=>rw[h]at ih;simp at ih ⊢;omega
theorem parts_len (path:ByteArray):(partsB path).length<=path.size+1:=by
 unfold partsB
 refine Nat.le_trans (List.length_filter_le ..) ?_
 rw[List.length_map,size_list]
 exact split_len _
def Good (A:AT) (p:Pl):Prop:=p.there=true -> ∃n,A.get p.ino=some n
def plR (r:Int×Pl×Int):List Value:=if r.1=0 then plV r.2.1 else plZ
section
variable {A : AT} {N : Nat}
theorem step_case (hI:Wk.Inv A) {f:Nat} {fo:Bool} {name:ByteArray} {rest:List ByteArray} {p:Pl} {h':Int} {r:Int×Pl×Int} {n:AN} (ht:p.there=true) (hn:A.get p.ino=some n)
 (hr:A.steps (fun d s x=>A.walk f d s true x) fo (name::rest) p h'=r) :
 (∃e:Int,e≠0/\(if A.kind p.ino≠2 then Value.tuple ⟨[.agg ⟨plZ⟩,.int .i64 8]⟩else if sEq name ⟨⟨[46,46]⟩⟩=true then .tuple ⟨[.agg ⟨plV ⟨A.upOf p.ino,⟨⟨[]⟩⟩,A.upOf p.ino,true⟩⟩,.int .i64 0]⟩else if name.size>56 then .tuple ⟨[.agg ⟨plZ⟩,.int .i64 3]⟩else .tuple ⟨[.agg ⟨plV ⟨p.ino,name,(A.find p.ino name).getD 0,(A.find p.ino name).isSome⟩⟩,.int .i64 0]⟩) = .tuple ⟨[.agg ⟨plZ⟩,.int .i64 e]⟩/\r=(e,Pl.z,h')) \/
 ∃q:Pl,(if A.kind p.ino≠2 then Value.tuple ⟨[.agg ⟨plZ⟩,.int .i64 8]⟩else if sEq name ⟨⟨[46,46]⟩⟩=true then .tuple ⟨[.agg ⟨plV ⟨A.upOf p.ino,⟨⟨[]⟩⟩,A.upOf p.ino,true⟩⟩,.int .i64 0]⟩else if name.size>56 then .tuple ⟨[.agg ⟨plZ⟩,.int .i64 3]⟩else .tuple ⟨[.agg ⟨plV ⟨p.ino,name,(A.find p.ino name).getD 0,(A.find p.ino name).isSome⟩⟩,.int .i64 0]⟩) = .tuple ⟨[.agg ⟨plV q⟩,.int .i64 0]⟩/\Good A q /\
  ((((!rest.isEmpty)||fo)&&(q.there&&(A.kind q.ino==3)))=false->A.steps (fun d s x=>A.walk f d s true x) fo rest q h'=r) /\
  ((((!rest.isEmpty)||fo)&&(q.there&&(A.kind q.ino==3)))=true->A.isDir q.dir/\((h' - 1<0->r=(9,Pl.z,h' - 1))/\(¬h' - 1<0->((A.walk f q.dir (A.data q.ino) true (h' - 1)).1≠0->r=((A.walk f q.dir (A.data q.ino) true (h' - 1)).1,Pl.z,(A.walk f q.dir (A.data q.ino) true (h' - 1)).2.2))/\((A.walk f q.dir (A.data q.ino) true (h' - 1)).1=0->A.steps (fun d s x=>A.walk f d s true x) fo rest (A.walk f q.dir (A.data q.ino) true (h' - 1)).2.1 (A.walk f q.dir (A.data q.ino) true (h' - 1)).2.2=r)))):=by
 by_cases h2:A.kind p.ino=2
 case neg=>exact .inl ⟨8,by decide,by rw[if_pos h2],by rw[<-hr,steps_notdir ht h2]⟩
 have hd:=kind_dir h2
 rw[if_neg (by simpa using h2)]
 cases h3:sEq name ⟨⟨[46,46]⟩⟩ with
 | true =>
  refine .inr ⟨⟨A.upOf p.ino,⟨⟨[]⟩⟩,A.upOf p.ino,true⟩,by rw[if_pos rfl],?_,?_,?_⟩
  ·intro _
   obtain⟨m,hm,_⟩:=hI.isDir_up hd
   exact⟨m,hm⟩
  ·intro _;rw[<-hr,steps_up ht h2 h3]
  ·intro hc
   have:A.kind (A.upOf p.ino)=2:=dir_kind (hI.isDir_up hd)
   simp[this]at hc
 | false =>
  rw[if_neg (by decide)]
  by_cases h4:name.size>56
  ·exact .inl ⟨3,by decide,by rw[if_pos h4],by rw[<-hr,steps_long ht h2 h3 h4]⟩
  rw[if_neg h4]
  refine .inr ⟨⟨p.ino,name,(A.find p.ino name).getD 0,(A.find p.ino name).isSome⟩,rfl,?_,?_,?_⟩
  ·intro hs
   obtain⟨j,hj⟩:=Option.isSome_iff_exists.1 hs
   obtain⟨_,_,_,_,_,m,hm,_⟩:=hI.find hj
   exact⟨m,by rw[hj];exact hm⟩
  ·intro hc
   have h5:(A.find p.ino name).isSome=false\/(rest.isEmpty && !fo)=true\/A.kind ((A.find p.ino name).getD 0)≠3:=by
    cases c1:(A.find p.ino name).isSome with
    | false=>exact .inl rfl
    | true =>
     by_cases c3:A.kind ((A.find p.ino name).getD 0)=3
     ·refine .inr (.inl ?_)
      simp only[c1,c3,beq_self_eq_true,Bool.and_true]at hc
      cases c4:rest.isEmpty<;>cases c5:fo<;>simp[c4,c5]at hc ⊢
     ·exact .inr (.inr c3)
   rw[<-hr,steps_name ht h2 h3 h4 h5]
  ·intro hc
   have h5 : ¬ ((A.find p.ino name).isSome=false\/(rest.isEmpty && !fo)=true\/A.kind ((A.find p.ino name).getD 0)≠3):=by
    simp only[Bool.and_eq_true,Bool.or_eq_true,Bool.not_eq_true',beq_iff_eq]at hc
    obtain⟨q1,q2,q3⟩:=hc
    rintro (e | e | e)
    ·rw[e]at q2;cases q2
    ·simp only[Bool.and_eq_true,Bool.not_eq_true']at e
     rcases q1 with q1 | q1
     ·rw[q1]at e;cases e.1
     ·rw[q1]at e;cases e.2
    ·exact e q3
   refine⟨hd,fun h6 => ?_,fun h6=>⟨fun h7 => ?_,fun h7 => ?_⟩⟩
   ·rw[<-hr,steps_loop ht h2 h3 h4 h5 h6]
   ·rw[<-hr,steps_err ht h2 h3 h4 h5 h6 h7]
   ·rw[<-hr,steps_link ht h2 h3 h4 h5 h6 h7]
theorem s_rfWay (hI:Wk.Inv A) (hB:Bd N A) (hN:N<=1000000000000) : ∀ (f:Nat) (d:Int) (path:ByteArray) (fo:Bool) (h:Int) {σ:H} {b bh:Nat} {M:RfM},RfIn σ b A M->A.isDir (d+1)->0<=h->h+2<=f->f<=100->σ bh=some (.cells ⟨[.int .i64 h]⟩ 3 (0,0))->M.w bh=none -> ∀ {K:KH},(∀σ',But bh σ σ'->σ' bh=some (.cells ⟨[.int .i64 (A.walk f (d+1) path fo h).2.2]⟩ 3 (0,0))->K (.tuple ⟨[.agg ⟨plR (A.walk f (d+1) path fo h)⟩,.int .i64 (A.walk f (d+1) path fo h).1]⟩) σ') ->
 callW Tryz.prog 150 [.pointer (some ⟨b,0,none⟩),.int .i64 d,.string path,.bool fo,.pointer (some ⟨bh,0,none⟩)] K σ:=by
 intro f
 induction f with
 | zero=>intro d path fo h σ b bh M _ _ h0 hh;omega
 | succ f ih =>
  intro d path fo h σ b bh M hM hd h0 hh hf hbh hw K hK
  have hE : ∀e,mayE path=e->e≠0 -> ∀σ2,But bh σ σ2->σ2 bh=some (.cells ⟨[.int .i64 h]⟩ 3 (0,0))->K (.tuple ⟨[.agg ⟨plZ⟩,.int .i64 e]⟩) σ2:=by
   intro e he hne σ2 hb hc
   have hwk:A.walk (f+1) (d+1) path fo h=(e,Pl.z,h):=by rw[AT.walk,if_pos (by rw[he];exact hne),he]
   rw[hwk]at hK
   have:=hK σ2 hb hc
   unfold plR at this
   rw[if_neg hne]at this
   exact this
  refine c150 _ _ _ _ _ ?_
  unfold g150
  refine al_i ?_;intro b6 σ1 g1 e1 n1
  have hbh1:=g1.get hbh
  have nb6:b6≠bh:=by intro e;rw[e,hbh]at n1;cases n1
  cases c1:sEq path ⟨⟨[]⟩⟩ with
  | true =>
   refine br_t (by rw[<-sEq_eq];exact c1) ?_
   refine st_i2 e1 sz_RPlace (by rfl) (by rfl) ?_;intro σ2 p2
   refine rd_G (rdA_of' p2.same (by rfl)) ?_
   (refine app_of rfl ?_;try dsimp only)
   exact hE 5 (by unfold mayE;rw[c1];rfl) (by decide) σ2 ((But.of_gr g1).put p2 n1) (p2.get (Ne.symm nb6) hbh1)
  | false =>
  refine br_f (by rw[<-sEq_eq];exact c1) ?_
  by_cases c2:path.size>255
  ·refine br_t (by simp only[decide_eq_true_eq];omega) ?_
   refine st_i2 e1 sz_RPlace (by rfl) (by rfl) ?_;intro σ2 p2
   refine rd_G (rdA_of' p2.same (by rfl)) ?_
   (refine app_of rfl ?_;try dsimp only)
   exact hE 3 (by unfold mayE;rw[c1,if_neg (by decide),if_pos c2]) (by decide) σ2 ((But.of_gr g1).put p2 n1) (p2.get (Ne.symm nb6) hbh1)
  refine br_f (by simp only[decide_eq_false_iff_not];omega) (loop_i ?_)
  intro R hR
  have hlen:path.data.toList.length=path.size:=(size_list path).symm
  have key : ∀ (c i:Nat),c+i=path.size->(0:UInt8)∉path.data.toList.take i->R (some ⟨b,0,none⟩) d path fo (some ⟨bh,0,none⟩) (some ⟨b6,0,none⟩) (i:Int) σ1:=by
   intro c
   induction c with
   | succ c ihc =>
    intro i hc hno
    refine hR _ _ _ _ _ _ _ _ ?_
    obtain⟨ch,hch⟩ : ∃ch,path.data.toList[i]? = some ch:=⟨_,List.getElem?_eq_getElem (by omega)⟩
    refine br_t (by simp only[decide_eq_true_eq];omega) (idx_l (c:=ch) (by omega) (by simpa using hch) ?_)
    by_cases hc0:ch=0
    ·subst hc0
     have hnul:hasNul path=true:=by
      unfold hasNul
      rw[List.any_eq_true]
      exact⟨0,List.mem_of_getElem? hch,by decide⟩
     refine br_t rfl (ret_pl e1 rfl ?_)
     intro σ2 o p2
     exact hE 2 (by unfold mayE;rw[c1,if_neg (by decide),if_neg c2,hnul];rfl) (by decide) σ2 ((But.of_gr g1).put p2 n1) (p2.get (Ne.symm nb6) hbh1)
    ·refine br_f ?_ ?_
     ·have : ¬ ((ch.toNat : Int) = 0) := by
       intro e;apply hc0
       have:ch.toNat=0:=by omega
       exact UInt8.toNat_inj.1 this
      simpa using this
     ·rw[wrap_id (x:=(i:Int)+1) (by omega) (by omega)]
      refine ihc (i+1) (by omega) ?_
      rw[List.take_add_one,hch]
      simp only[Option.toList_some,List.mem_append,List.mem_singleton,not_or]
      exact⟨hno,fun e=>hc0 e.symm⟩
   | zero =>
    intro i hc hno
    have hi:i=path.size:=by omega
    have hnul:hasNul path=false:=by
     rw[hi,<- hlen,List.take_length]at hno
     unfold hasNul
     rw[List.any_eq_false]
     intro x hx
     simp only[beq_iff_eq]
     rintro rfl;exact hno hx
    have hm:mayE path=0:=by unfold mayE;rw[c1,if_neg (by decide),if_neg c2,hnul];rfl
    refine hR _ _ _ _ _ _ _ _ ?_
    refine br_f (by simp only[decide_eq_false_iff_not];omega) ?_
    have hwk:A.walk (f+1) (d+1) path fo h=A.steps (fun d s h'=>A.walk f d s true h') fo (partsB path) ⟨if headIs 47 path then 1 else d+1,⟨⟨[]⟩⟩,if headIs 47 path then 1 else d+1,true⟩ h:=by
     rw[AT.walk,if_neg (by simpa using hm)]
    generalize hr:A.walk (f+1) (d+1) path fo h=r at hK hwk
    refine j_i (fun j => ∀ad:Int,ad+1=(if headIs 47 path then 1 else d+1)->j (some ⟨b,0,none⟩) ad path fo (some ⟨bh,0,none⟩) (some ⟨b6,0,none⟩) σ1) ?_ ?_
    case refine_2 =>
     intro j hj
     cases hl:path.data.toList with
     | nil =>
      exfalso
      have:path=⟨⟨[]⟩⟩:=bytes_ext hl
      rw[this]at c1;exact absurd c1 (by decide)
     | cons c0 cr =>
      have hh0:headIs 47 path=(c0==47):=by unfold headIs;rw[hl]
      refine idx_l (c:=c0) (by decide) (by rw[hl];rfl) ?_
      rw[hh0]at hj
      by_cases e47:c0=47
      ·subst e47
       exact br_t rfl (hj 0 (by simp))
      ·refine br_f ?_ (hj d (by simp[e47]))
       have : ¬ ((c0.toNat:Int)=47):=by
        intro e;apply e47
        have:c0.toNat=47:=by omega
        exact UInt8.toNat_inj.1 this
       simpa using this
    intro ad had
    rw[<-had]at hwk
    have hda:A.isDir (ad+1):=by
     rw[had]
     cases headIs 47 path with
     | true=>exact hI.root_dir
     | false=>exact hd
    refine al_i ?_;intro b34 σ2 g2 e2 n2
    refine st_i2 e2 sz_RPlace (by rfl) (by rfl) ?_;intro σ3 p3
    have k34:σ3 b34=some (.cells ⟨plV ⟨ad+1,⟨⟨[]⟩⟩,ad+1,true⟩⟩ 133 (0,0)):=by
     have e:plV ⟨ad+1,⟨⟨[]⟩⟩,ad+1,true⟩=[.int .i64 ad,.string ⟨⟨[]⟩⟩,.int .i64 ad]:=by
      unfold plV;simp
     rw[e];exact p3.same
    have g3:Gr σ1 σ3:=g2.putF p3 n2
    refine call_i (s_rfNames path (by omega) ?_)
    intro y σ4 hS
    obtain⟨g4,own,fr⟩:=hS
    refine app_L (loop_i ?_)
    intro R2 hR2
    have n6:σ b6=none:=n1
    have n34:σ b34=none:=none_of g1 n2
    have nb34:b34≠bh:=by intro e;rw[e,hbh]at n34;cases n34
    have nb34b:b34≠b6:=by intro e;rw[e,e1]at n2;cases n2
    have hyb : ∀g,y.base=some ⟨g,0,none⟩->g≠bh/\g≠b34/\g≠b6:=by
     intro g hg
     have hn:=fr g hg
     refine⟨?_,?_,?_⟩
     ·intro e;rw[e,g3.get hbh1]at hn;cases hn
     ·intro e;rw[e,k34]at hn;cases hn
     ·intro e;rw[e,g3.get e1]at hn;cases hn
    have hLz:(partsB path).length<=300:=by
     have:=parts_len path
     omega
    generalize partsB path=L at hwk own hLz
    have hyl:y.len=L.length:=by have:=own.1;simpa[srows]using this
    have key2 : ∀ (c i:Nat) (p:Pl) (h':Int) (τ:H),c+i=L.length->But bh σ τ->τ b6=some (.cells ⟨plZ⟩ 133 (0,0))->τ b34=some (.cells ⟨plV p⟩ 133 (0,0))->τ bh=some (.cells ⟨[.int .i64 h']⟩ 3 (0,0))->RowsOwn τ 9 1 (srows L) y->Good A p->0<=h'->h'<=h->A.steps (fun d s h'=>A.walk f d s true h') fo (L.drop i) p h'=r->R2 (some ⟨b,0,none⟩) fo (some ⟨bh,0,none⟩) (some ⟨b6,0,none⟩) (some ⟨b34,0,none⟩) y (i:Int) τ:=by
     intro c
     induction c with
     | zero =>
      intro i p h' τ hc hBu k6 k34 kh own hG z0 z1 hs
      rw[show L.drop i=[]from List.drop_eq_nil_of_le (by omega)]at hs
      have hs:(0,p,h')=r:=hs
      subst hs
      refine hR2 _ _ _ _ _ _ _ _ ?_
      unfold plV at k34
      refine br_f (by simp only[decide_eq_false_iff_not];omega) (ptr_i (rd_G (rdA_of' k34 (by rfl)) ?_))
      (refine app_of rfl ?_;try dsimp only)
      refine ret_pl k6 rfl ?_
      intro τ' o hp
      exact hK τ' (hBu.put hp n6) (hp.get (Ne.symm nb6) kh)
     | succ c ihc =>
      intro i p h' τ hc hBu k6 k34 kh own hG z0 z1 hs
      refine hR2 _ _ _ _ _ _ _ _ ?_
      refine br_t (by simp only[decide_eq_true_eq];omega) ?_
      have ferr : ∀ (e:Int) (h'':Int) (τ':H),e≠0->r=(e,Pl.z,h'')->But bh σ τ'->τ' bh=some (.cells ⟨[.int .i64 h'']⟩ 3 (0,0))->K (.tuple ⟨[.agg ⟨[.int .i64 0,.string ⟨⟨[]⟩⟩,.int .i64 0]⟩,.int .i64 e]⟩) τ':=by
       intro e h'' τ' he hre hb hk
       subst hre
       have:=hK τ' hb hk
       unfold plR at this
       rw[if_neg he]at this
       exact this
      refine j_i (fun j => ∀ (p':Pl) (h'':Int) (τ':H) v1 v2 v3 v4 v5 v6 v7 v8 v9 v10 v11 v12 v13 v14 v15 v16,But bh σ τ'->τ' b6=some (.cells ⟨plZ⟩ 133 (0,0))->τ' b34=some (.cells ⟨plV p'⟩ 133 (0,0))->τ' bh=some (.cells ⟨[.int .i64 h'']⟩ 3 (0,0))->RowsOwn τ' 9 1 (srows L) y->Good A p'->0<=h''->h''<=h->A.steps (fun d s h'=>A.walk f d s true h') fo (L.drop (i+1)) p' h''=r->j (some ⟨b,0,none⟩) fo (some ⟨bh,0,none⟩) (some ⟨b6,0,none⟩) (some ⟨b34,0,none⟩) y (i:Int) v1 v2 v3 v4 v5 v6 v7 v8 v9 v10 v11 v12 v13 v14 v15 v16 τ') ?_ ?_
      ·intro p' h'' τ' v1 v2 v3 v4 v5 v6 v7 v8 v9 v10 v11 v12 v13 v14 v15 v16 a1 a2 a3 a4 a5 a6 a7 a8 a9
       rw[wrap_id (x:=(i:Int)+1) (by omega) (by omega)]
       rw[show(i:Int)+1=((i+1:Nat):Int)from by omega]
       exact ihc (i+1) p' h'' τ' (by omega) a1 a2 a3 a4 a5 a6 a7 a8 a9
      intro j44 h44
      obtain⟨name,hname⟩ : ∃name,L[i]? = some name:=⟨_,List.getElem?_eq_getElem (by omega)⟩
      have hdrop:L.drop i=name::L.drop (i+1):=by
       rw[List.drop_eq_getElem_cons (by omega)]
       rw[List.getElem?_eq_getElem (by omega)]at hname
       rw[Option.some.inj hname]
      rw[hdrop]at hs
      cases ht:p.there with
      | false =>
       rw[steps_none ht]at hs
       unfold plV at k34
       rw[ht]at k34
       refine ptr_i (rd_I (rdC_of k34 (by rfl)) (br_t rfl (ret_pl k6 rfl ?_)))
       intro τ' o hp
       exact ferr 5 h' τ' (by decide) hs.symm (hBu.put hp n6) (hp.get (Ne.symm nb6) kh)
      | true =>
       obtain⟨n,hn⟩:=hG ht
       have hlow:=(hI.low _ _ hn).1
       have hcase:=step_case hI ht hn hs
       have hp1:p.ino - 1+1=p.ino:=by omega
       unfold plV at k34
       rw[if_pos ht]at k34
       obtain⟨gy,oy,q1,q2⟩:=srow_at own hname
       refine ptr_i (rd_I (rdC_of k34 (by rfl)) (br_f (by simp only[decide_eq_false_iff_not];omega) (ptr_i (rd_I (rdC_of k34 (by rfl)) ?_))))
       rw[q1]
       have e0:(i:Int).toNat=i:=by omega
       refine ptr_i (if_i ⟨by omega,by omega⟩ (rd_S (by rw[e0];exact q2) ?_))
       refine call_i (s_rfStep (hM.but hw hBu) hI hB hN (d:=p.ino - 1) (n:=n) (by rw[hp1];exact hn) name ?_)
       intro τ1 gt
       rw[hp1]
       have k6:=gt.get k6
       have k34:=gt.get k34
       have kh:=gt.get kh
       have own:=own.gr gt
       have hBu:=hBu.trans (But.of_gr gt)
       rcases hcase with⟨e,he,hv,hre⟩ | ⟨q,hv,hGq,hq1,hq2⟩
       ·rw[hv]
        unfold plZ
        (refine app_of rfl ?_;try dsimp only)
        refine al_i ?_;intro b86 τ2 g5 e5 n5
        refine st_i2 e5 sz_RPlace (by rfl) (by rfl) ?_;intro τ3 p5
        have g6:Gr τ1 τ3:=g5.putF p5 n5
        refine br_t (by simpa using he) (ret_pl (g6.get k6) rfl ?_)
        intro τ' o hp
        exact ferr e h' τ' he hre ((hBu.trans (But.of_gr g6)).put hp n6) (hp.get (Ne.symm nb6) (g6.get kh))
       ·rw[hv]
        unfold plV
        (refine app_of rfl ?_;try dsimp only)
        refine al_i ?_;intro b86 τ2 g5 e5 n5
        refine st_i2 e5 sz_RPlace (by rfl) (by rfl) ?_;intro τ3 p5
        have g6:Gr τ1 τ3:=g5.putF p5 n5
        refine br_f rfl (rd_G (rdA_of' p5.same (by rfl)) ?_)
        (refine app_of rfl ?_;try dsimp only)
        refine st_i2 (g6.get k34) sz_RPlace (by rfl) (by rfl) ?_;intro τ4 p6
        have k34q:τ4 b34=some (.cells ⟨[.int .i64 (q.dir - 1),.string q.name,.int .i64 (if q.there then q.ino - 1 else -1)]⟩ 133 (0,0)):=p6.same
        have k6q:=p6.get (Ne.symm nb34b) (g6.get k6)
        have khq:=p6.get (Ne.symm nb34) (g6.get kh)
        have ownq:=(own.gr g6).put p6 (fun e=>(hyb b34 e).2.1 rfl)
        have hBq:But bh σ τ4:=(hBu.trans (But.of_gr g6)).put p6 n34
        have hM4:=hM.but hw hBq
        clear p5 p6 e5 k34 k6 kh own hBu
        have hmore:decide ((i:Int)+1<((y.len:Nat):Int)) = !(L.drop (i+1)).isEmpty:=by
         have hdl:(L.drop (i+1)).length=L.length - (i+1):=List.length_drop
         cases hD:L.drop (i+1) with
         | nil=>rw[hD]at hdl;simp at hdl;simp;omega
         | cons a r=>rw[hD]at hdl;simp at hdl;simp;omega
        generalize hT:(((!(L.drop (i+1)).isEmpty)||fo)&&(q.there&&(A.kind q.ino==3)))=t at hq1 hq2
        refine j_i (fun j => ∀v1 v2 v3 v4 v5 v6 v7 v8 v9 v10 v11 v12 v13 v14 v15 v16,j (some ⟨b,0,none⟩) fo (some ⟨bh,0,none⟩) (some ⟨b6,0,none⟩) (some ⟨b34,0,none⟩) y (i:Int) v1 v2 v3 v4 v5 v6 v7 v8 v9 v10 v11 v12 v13 v14 v15 v16 t τ4) ?_ ?_
        case refine_2 =>
         intro j95 h95
         rw[wrap_id (x:=(i:Int)+1) (by omega) (by omega),hmore]
         cases hqt:q.there with
         | false =>
          have ht0:t=false:=by rw[<-hT,hqt];simp
          rw[ht0]at h95
          rw[if_neg (by rw[hqt];decide)]at k34q
          cases (L.drop (i+1)).isEmpty with
          | false=>exact br_t rfl (ptr_i (rd_I (rdC_of k34q (by rfl)) (br_f rfl (h95 _ _ _ _ _ _ _ _ _ _ _ _ _ _ _ _))))
          | true =>
           refine br_f rfl ?_
           cases fo with
           | true=>exact br_t rfl (ptr_i (rd_I (rdC_of k34q (by rfl)) (br_f rfl (h95 _ _ _ _ _ _ _ _ _ _ _ _ _ _ _ _))))
           | false=>exact br_f rfl (h95 _ _ _ _ _ _ _ _ _ _ _ _ _ _ _ _)
         | true =>
          obtain⟨nq,hnq⟩:=hGq hqt
          have hqlow:=(hI.low _ _ hnq).1
          have hq11:q.ino - 1+1=q.ino:=by omega
          have hkq:A.kind q.ino=nq.kind:=by unfold AT.kind;rw[hnq];rfl
          rw[if_pos hqt]at k34q
          obtain⟨gs,os,s1,s2,s3⟩:=hM4.slot hI (d:=q.ino - 1) (n:=nq) (by rw[hq11];exact hnq)
          rw[hq11]at s3
          rw[hkq,hqt]at hT
          cases hem:(L.drop (i+1)).isEmpty with
          | false =>
           have ht1:t=(nq.kind==3):=by rw[<-hT,hem];simp
           rw[ht1]at h95
           refine br_t rfl (ptr_i (rd_I (rdC_of k34q (by rfl)) (br_t (by simp only[decide_eq_true_eq];omega) ?_)))
           refine ptr_i (rd_L (rdC_of hM4.top (by rfl)) (ptr_i (rd_I (rdC_of k34q (by rfl)) ?_)))
           rw[s1]
           exact ptr_i (if_i s2 (rd_P s3 (ptr_i (rd_I (rdC_of (hM4.nod _ _ hnq) (by rfl)) (h95 _ _ _ _ _ _ _ _ _ _ _ _ _ _ _ _)))))
          | true =>
           refine br_f rfl ?_
           cases fo with
           | true =>
            have ht1:t=(nq.kind==3):=by rw[<-hT,hem];simp
            rw[ht1]at h95
            refine br_t rfl (ptr_i (rd_I (rdC_of k34q (by rfl)) (br_t (by simp only[decide_eq_true_eq];omega) ?_)))
            refine ptr_i (rd_L (rdC_of hM4.top (by rfl)) (ptr_i (rd_I (rdC_of k34q (by rfl)) ?_)))
            rw[s1]
            exact ptr_i (if_i s2 (rd_P s3 (ptr_i (rd_I (rdC_of (hM4.nod _ _ hnq) (by rfl)) (h95 _ _ _ _ _ _ _ _ _ _ _ _ _ _ _ _)))))
           | false =>
            have ht1:t=false:=by rw[<-hT,hem];simp
            rw[ht1]at h95
            exact br_f rfl (h95 _ _ _ _ _ _ _ _ _ _ _ _ _ _ _ _)
        intro v1 v2 v3 v4 v5 v6 v7 v8 v9 v10 v11 v12 v13 v14 v15 v16
        cases t with
        | false =>
         exact br_f rfl (h44 q h' τ4 _ _ _ _ _ _ _ _ _ _ _ _ _ _ _ _ hBq k6q k34q khq ownq hGq z0 z1 (hq1 rfl))
        | true =>
         obtain⟨hqd,hq9,hqw⟩:=hq2 rfl
         have hqt:q.there=true:=by
          simp only[Bool.and_eq_true]at hT
          exact hT.2.1
         obtain⟨nq,hnq⟩:=hGq hqt
         have hqlow:=(hI.low _ _ hnq).1
         have hq11:q.ino - 1+1=q.ino:=by omega
         have hd11:q.dir - 1+1=q.dir:=by omega
         have hdat:A.data q.ino=nq.data:=by unfold AT.data;rw[hnq];rfl
         rw[hdat]at hqw
         rw[if_pos hqt]at k34q
         refine br_t rfl (ptr_i (rd_I (rdC_of khq (by rfl)) (ptr_i ?_)))
         rw[wrap_id (x:=h' - 1) (by omega) (by omega)]
         refine st_i2 khq sz_int (by rfl) (by rfl) ?_;intro τ5 p7
         have kh5:τ5 bh=some (.cells ⟨[.int .i64 (h' - 1)]⟩ 3 (0,0)):=p7.same
         have k65:=p7.get nb6 k6q
         have k345:=p7.get nb34 k34q
         have own5:=ownq.put p7 (fun e=>(hyb bh e).1 rfl)
         have hB5:But bh σ τ5:=hBq.puth p7
         have hM5:=hM.but hw hB5
         clear p7
         refine ptr_i (rd_I (rdC_of kh5 (by rfl)) ?_)
         by_cases h6:h' - 1<0
         ·refine br_t (by simpa using h6) (ret_pl k65 rfl ?_)
          intro τ' o hp
          exact ferr 9 (h' - 1) τ' (by decide) (hq9 h6) (hB5.put hp n6) (hp.get (Ne.symm nb6) kh5)
         ·obtain⟨hw1,hw2⟩:=hqw h6
          obtain⟨gs,os,s1,s2,s3⟩:=hM5.slot hI (d:=q.ino - 1) (n:=nq) (by rw[hq11];exact hnq)
          rw[hq11]at s3
          refine br_f (by simpa using h6) (ptr_i (rd_I (rdC_of k345 (by rfl)) ?_))
          refine ptr_i (rd_L (rdC_of hM5.top (by rfl)) (ptr_i (rd_I (rdC_of k345 (by rfl)) ?_)))
          rw[s1]
          refine ptr_i (if_i s2 (rd_P s3 (ptr_i (rd_S (rdC_of (hM5.nod _ _ hnq) (by rfl)) ?_))))
          refine call_i (ih (q.dir - 1) nq.data true (h' - 1) hM5 (by rw[hd11];exact hqd) (by omega) (by omega) (by omega) kh5 hw ?_)
          intro τ6 hb6 kh6
          rw[hd11]at kh6 ⊢
          have hops:=walk_hops A f q.dir nq.data true (h' - 1) (by omega)
          have hpl:=fun e=>walk_place hI f q.dir nq.data true (h' - 1) hqd e
          generalize A.walk f q.dir nq.data true (h' - 1)=W at hw1 hw2 kh6 hops hpl ⊢
          obtain⟨w1,w2,w3⟩:=W
          have k66:=hb6 _ _ k65 nb6
          have k346:=hb6 _ _ k345 nb34
          have own6:=own5.keep fun g o hx hg=>hb6 g o hg (hyb g hx).1
          have hB6:=hB5.trans hb6
          by_cases hW0:w1=0
          ·subst hW0
           have hgw:Good A w2:=fun e=>PlOk.get hI (hpl rfl) e
           unfold plR
           rw[if_pos rfl]
           unfold plV
           (refine app_of rfl ?_;try dsimp only)
           refine st_i2 k346 sz_RPlace (by rfl) (by rfl) ?_;intro τ7 p8
           refine br_f rfl (h44 w2 w3 τ7 _ _ _ _ _ _ _ _ _ _ _ _ _ _ _ _ (hB6.put p8 n34) (p8.get (Ne.symm nb34b) k66) p8.same (p8.get (Ne.symm nb34) kh6) (own6.put p8 (fun e=>(hyb b34 e).2.1 rfl)) hgw (hops.2.2 rfl) (by have:=hops.2.1;simp only at this;omega) (hw2 rfl))
          ·unfold plR
           rw[if_neg hW0]
           unfold plZ
           (refine app_of rfl ?_;try dsimp only)
           refine st_i2 k346 sz_RPlace (by rfl) (by rfl) ?_;intro τ7 p8
           refine br_t (by simpa using hW0) (ret_pl (p8.get (Ne.symm nb34b) k66) rfl ?_)
           intro τ' o hp
           exact ferr w1 w3 τ' hW0 (hw1 hW0) ((hB6.put p8 n34).put hp n6) (hp.get (Ne.symm nb6) (p8.get (Ne.symm nb34) kh6))
    refine key2 L.length 0 ⟨ad+1,⟨⟨[]⟩⟩,ad+1,true⟩ h σ4 (by omega) (But.of_gr (g1.trans (g3.trans g4))) (g4.get (g3.get e1)) (g4.get k34) (g4.get (g3.get hbh1)) own ?_ h0 (Int.le_refl _) (by simpa using hwk.symm)
    intro _
    obtain⟨n,hn,_⟩:=hda
    exact⟨n,hn⟩
  exact key path.size 0 (by omega) (by simp)
end
end Go.Proofs.YtbdlkofldmhoaaaGreatDoor

set_option maxRecDepth 100000
namespace Go.Proofs.YtbdlkofldmhoaaaGreatDoor
open Go Go.HL Go.Wk
theorem But.gr {bh:Nat} {σ σ':H} (h:But bh σ σ') (hn:σ bh=none):Gr σ σ':=fun c o hc=>h c o hc (fun e=>by rw[e,hn]at hc;cases hc)
attribute [local irreducible] ptrW ifW brW andW rdT alW letJ stW muW biW vaW imW callT cvalT app callW invW callVW sizeT oW nilF oneK loopW rfW funW begW roundK exW idxW Gr Put
theorem byte_ne (c:UInt8):(((c.toNat:Int):Int) != 47) = !(c==47):=by
 by_cases h:c=47
 ·subst h;rfl
 ·have : ¬ ((c.toNat : Int) = 47) := by
   intro e;apply h
   have:c.toNat=47:=by omega
   exact UInt8.toNat_inj.1 this
  have h1:(((c.toNat:Int):Int) != 47)=true:=by simpa using this
  have h2:(c==47)=false:=by simpa using h
  rw[h1,h2];rfl
theorem head_at {s:ByteArray} (h:sEq s ⟨⟨[]⟩⟩=false) : ∃c,s.data.toList[(0:Int).toNat]? = some c/\headIs 47 s=(c==47):=by
 cases hl:s.data.toList with
 | nil =>
  exfalso
  have:s=⟨⟨[]⟩⟩:=bytes_ext hl
  rw[this]at h;exact absurd h (by decide)
 | cons c r=>exact⟨c,rfl,by unfold headIs;rw[hl]⟩
def plL (r:Int×Pl):List Value:=if r.1=0 then plV r.2 else plZ
section
variable {σ : H} {b : Nat} {A : AT} {M : RfM} {N : Nat}
theorem RfIn.new (h:RfIn σ b A M) {c:Nat} (hc:σ c=none):M.w c=none:=by
 cases hw:M.w c with
 | none=>rfl
 | some r=>exact absurd hc (h.has c (by rw[hw];simp))
theorem s_rfGo (hI:Wk.Inv A) (hB:Bd N A) (hN:N<=1000000000000) (hM:RfIn σ b A M) (cwd path:ByteArray) (fo:Bool) {K:KH} (hK:∀σ',Gr σ σ'->K (.tuple ⟨[.agg ⟨plL (A.locate cwd path fo)⟩,.int .i64 (A.locate cwd path fo).1]⟩) σ') :
 callW Tryz.prog 90 [.pointer (some ⟨b,0,none⟩),.string cwd,.string path,.bool fo] K σ:=by
 refine c90 _ _ _ _ ?_
 unfold g90
 refine al_i ?_;intro b5 σ1 g1 e1 n1
 refine al_i ?_;intro b6 σ2 g2 e2 n2
 refine st_i2 e2 sz_int (by rfl) (by rfl) ?_;intro σ3 p3
 have k6:σ3 b6=some (.cells ⟨[.int .i64 8]⟩ 3 (0,0)):=p3.same
 have n6:σ b6=none:=none_of g1 n2
 have n56:b5≠b6:=by intro e;rw[<-e,e1]at n2;cases n2
 have g3:Gr σ σ3:=(g1.trans g2).putF p3 n6
 have k5:σ3 b5=some (.cells ⟨plZ⟩ 133 (0,0)):=p3.get n56 (g2.get e1)
 have hw6:=hM.new n6
 clear p3 e1 e2
 generalize hloc:A.locate cwd path fo=r at hK
 have hR : ∀e τ,e≠0->r.1=e->Gr σ τ->K (.tuple ⟨[.agg ⟨[.int .i64 0,.string ⟨⟨[]⟩⟩,.int .i64 0]⟩,.int .i64 e]⟩) τ:=by
  intro e τ he hr hg
  have:=hK τ hg
  unfold plL at this
  rw[hr,if_neg he]at this
  exact this
 refine j_i (fun j => ∀ (ad:Int) τ,A.isDir (ad+1)->(A.walk 10 (ad+1) path fo 8).1=r.1->((A.walk 10 (ad+1) path fo 8).1=0->(A.walk 10 (ad+1) path fo 8).2.1=r.2)->But b6 σ τ->τ b5=some (.cells ⟨plZ⟩ 133 (0,0))->τ b6=some (.cells ⟨[.int .i64 8]⟩ 3 (0,0))->j (some ⟨b,0,none⟩) path fo (some ⟨b5,0,none⟩) ad (some ⟨b6,0,none⟩) τ) ?_ ?_
 ·intro ad τ hd w1 w2 hBu k5 k6
  refine call_i (s_rfWay hI hB hN 10 ad path fo 8 (hM.but hw6 hBu) hd (by decide) (by decide) (by decide) k6 hw6 ?_)
  intro τ' hb kh
  generalize A.walk 10 (ad+1) path fo 8=W at w1 w2 kh ⊢
  obtain⟨x1,x2,x3⟩:=W
  have k5':=hb _ _ k5 n56
  have hB':=hBu.trans hb
  unfold plR
  by_cases h0:x1=0
  ·subst h0
   rw[if_pos rfl]
   unfold plV
   (refine app_of rfl ?_;try dsimp only)
   refine ret_pl k5' rfl ?_
   intro τ2 o hp
   have:=hK τ2 ((hB'.gr n6).putF hp n1)
   unfold plL at this
   have hr1:r.1=0:=w1.symm
   rw[hr1,if_pos rfl,<- w2 rfl]at this
   exact this
  ·rw[if_neg h0]
   unfold plZ
   (refine app_of rfl ?_;try dsimp only)
   refine ret_pl k5' rfl ?_
   intro τ2 o hp
   exact hR x1 τ2 h0 w1.symm ((hB'.gr n6).putF hp n1)
 intro j7 h7
 have hB3:But b6 σ σ3:=But.of_gr g3
 refine j_i (fun j => ∀t:Bool,(t=false->headIs 47 path=true)->(t=true->headIs 47 path=false)->j (some ⟨b,0,none⟩) cwd path fo (some ⟨b5,0,none⟩) 0 (some ⟨b6,0,none⟩) t σ3) ?_ ?_
 case refine_2 =>
  intro j hj
  cases h0:sEq path ⟨⟨[]⟩⟩ with
  | true=>exact br_t (by rw[<-sEq_eq];exact h0) (hj true (fun e=>by cases e) (fun _=>by rw[sEq_iff.1 h0];rfl))
  | false =>
   obtain⟨c,hc,hh⟩:=head_at h0
   refine br_f (by rw[<-sEq_eq];exact h0) (idx_l (by decide) hc ?_)
   rw[byte_ne]
   refine hj _ (fun e => ?_) (fun e => ?_)
   ·rw[hh];simpa using e
   ·rw[hh];simpa using e
 intro t ht1 ht2
 cases t with
 | false =>
  have hh:=ht1 rfl
  have h0:sEq path ⟨⟨[]⟩⟩=false:=headIs_ne hh
  refine br_f rfl (h7 0 σ3 hI.root_dir ?_ ?_ hB3 k5 k6)
  ·rw[<-hloc];unfold AT.locate;rw[h0,hh];rfl
  ·intro _;rw[<-hloc];unfold AT.locate;rw[h0,hh];rfl
 | true =>
  have hh:=ht2 rfl
  refine br_t rfl ?_
  cases h0:sEq path ⟨⟨[]⟩⟩ with
  | true =>
   refine br_t (by rw[<-sEq_eq];exact h0) (ret_pl k5 rfl ?_)
   intro τ o hp
   exact hR 5 τ (by decide) (by rw[<-hloc];unfold AT.locate;rw[h0];rfl) (g3.putF hp n1)
  | false =>
   refine br_f (by rw[<-sEq_eq];exact h0) ?_
   refine j_i (fun j => ∀t:Bool,(t=false->headIs 47 cwd=true)->(t=true->headIs 47 cwd=false)->j (some ⟨b,0,none⟩) cwd path fo (some ⟨b5,0,none⟩) (some ⟨b6,0,none⟩) t σ3) ?_ ?_
   case refine_2 =>
    intro j hj
    cases hc0:sEq cwd ⟨⟨[]⟩⟩ with
    | true=>exact br_t (by rw[<-sEq_eq];exact hc0) (hj true (fun e=>by cases e) (fun _=>by rw[sEq_iff.1 hc0];rfl))
    | false =>
     obtain⟨c,hc,hhc⟩:=head_at hc0
     refine br_f (by rw[<-sEq_eq];exact hc0) (idx_l (by decide) hc ?_)
     rw[byte_ne]
     refine hj _ (fun e => ?_) (fun e => ?_)
     ·rw[hhc];simpa using e
     ·rw[hhc];simpa using e
   intro t ht1 ht2
   cases t with
   | true =>
    have hc:=ht2 rfl
    refine br_t rfl (ret_pl k5 rfl ?_)
    intro τ o hp
    exact hR 5 τ (by decide) (by rw[<-hloc];unfold AT.locate;rw[h0,hh,hc];rfl) (g3.putF hp n1)
   | false =>
    have hc:=ht1 rfl
    refine br_f rfl (call_i (s_rfWay hI hB hN 10 0 cwd true 8 (hM.but hw6 hB3) hI.root_dir (by decide) (by decide) (by decide) k6 hw6 ?_))
    intro τ hb kh
    have hl:r=(let w:=A.walk 10 1 cwd true 8
     if w.1≠0 then(w.1,Pl.z)else if w.2.1.there=false then(5,Pl.z)else if A.kind w.2.1.ino≠2 then(8,Pl.z)else let r':=A.walk 10 w.2.1.ino path fo 8;(r'.1,r'.2.1)):=by
     rw[<-hloc];unfold AT.locate;rw[h0,hh,hc];rfl
    have hpl:=fun e=>walk_place hI 10 1 cwd true 8 hI.root_dir e
    rw[show(0:Int)+1=1 from rfl]at kh ⊢
    generalize A.walk 10 1 cwd true 8=W at hl kh hpl ⊢
    obtain⟨x1,x2,x3⟩:=W
    have k5':=hb _ _ k5 n56
    have hB':=hB3.trans hb
    unfold plR
    by_cases hx:x1=0
    case neg =>
     rw[if_neg hx]
     have hl1:r=(x1,Pl.z):=by rw[hl];simp[hx]
     unfold plZ
     (refine app_of rfl ?_;try dsimp only)
     refine al_i ?_;intro b54 τ2 g4 e4 n4
     refine st_i2 e4 sz_RPlace (by rfl) (by rfl) ?_;intro τ3 p4
     have g5:Gr τ τ3:=g4.putF p4 n4
     refine br_t (by simpa using hx) (ret_pl (g5.get k5') rfl ?_)
     intro τ4 o hp
     exact hR x1 τ4 hx (by rw[hl1]) (((hB'.gr n6).trans g5).putF hp n1)
    subst hx
    rw[if_pos rfl]
    simp only[ne_eq,not_true_eq_false,if_false]at hl
    unfold plV
    (refine app_of rfl ?_;try dsimp only)
    refine al_i ?_;intro b54 τ2 g4 e4 n4
    refine st_i2 e4 sz_RPlace (by rfl) (by rfl) ?_;intro τ3 p4
    have g5:Gr τ τ3:=g4.putF p4 n4
    have k54:τ3 b54=some (.cells ⟨[.int .i64 (x2.dir - 1),.string x2.name,.int .i64 (if x2.there then x2.ino - 1 else -1)]⟩ 133 (0,0)):=p4.same
    have hB5:But b6 σ τ3:=hB'.trans (But.of_gr g5)
    have hM5:=hM.but hw6 hB5
    have k55:=g5.get k5'
    have kh5:=g5.get kh
    have n546:b54≠b6:=by intro e;rw[e,kh]at n4;cases n4
    clear p4 e4
    cases hxt:x2.there with
    | false =>
     rw[if_neg (by rw[hxt];decide)]at k54
     rw[if_pos hxt]at hl
     refine br_f rfl (rd_I (rdC_of k54 (by rfl)) (br_t rfl (ret_pl k55 rfl ?_)))
     intro τ4 o hp
     exact hR 5 τ4 (by decide) (by rw[hl]) ((hB5.gr n6).putF hp n1)
    | true =>
     obtain⟨nx,hnx⟩:=PlOk.get hI (hpl rfl) hxt
     have hlow:=(hI.low _ _ hnx).1
     have h11:x2.ino - 1+1=x2.ino:=by omega
     have hkx:A.kind x2.ino=nx.kind:=by unfold AT.kind;rw[hnx];rfl
     rw[if_pos hxt]at k54
     rw[if_neg (by rw[hxt];decide)]at hl
     obtain⟨gs,os,s1,s2,s3⟩:=hM5.slot hI (d:=x2.ino - 1) (n:=nx) (by rw[h11];exact hnx)
     rw[h11]at s3
     refine br_f rfl (rd_I (rdC_of k54 (by rfl)) (br_f (by simp only[decide_eq_false_iff_not];omega) ?_))
     refine ptr_i (rd_L (rdC_of hM5.top (by rfl)) (rd_I (rdC_of k54 (by rfl)) ?_))
     rw[s1]
     refine ptr_i (if_i s2 (rd_P s3 (ptr_i (rd_I (rdC_of (hM5.nod _ _ hnx) (by rfl)) ?_))))
     rw[hkx]at hl
     by_cases hk2:nx.kind=2
     ·rw[if_neg (by simpa using hk2)]at hl
      refine br_f (by simpa using hk2) (rd_I (rdC_of k54 (by rfl)) ?_)
      refine st_i2 kh5 sz_int (by rfl) (by rfl) ?_;intro τ6 p6
      refine h7 (x2.ino - 1) τ6 (by rw[h11];exact⟨nx,hnx,hk2⟩) ?_ ?_ (hB5.puth p6) (p6.get n56 k55) p6.same
      ·rw[h11,hl]
      ·intro _;rw[h11,hl]
     ·rw[if_pos (by simpa using hk2)]at hl
      refine br_t (by simpa using hk2) (ret_pl k55 rfl ?_)
      intro τ4 o hp
      exact hR 8 τ4 (by decide) (by rw[hl]) ((hB5.gr n6).putF hp n1)
end
end Go.Proofs.YtbdlkofldmhoaaaGreatDoor

namespace Go.Wk
open Go Go.HL
def sumL (f:AN->Nat) (l:List (Int×AN)):Nat->Nat
 | 0=>0
 | i+1=>sumL f l i+((lk ((i:Int)+1) l).map f).getD 0
theorem sumL_cons (f:AN->Nat) {k:Int} {v:AN} {r:List (Int×AN)} (h:lk k r=none) : ∀n:Nat,sumL f ((k,v)::r) n=sumL f r n+if 1<=k/\k<=n then f v else 0:=by
 intro n
 induction n with
 | zero=>simp only[sumL];rw[if_neg (by omega)]
 | succ n ih =>
  simp only[sumL,ih]
  by_cases e:(n:Int)+1=k
  ·have h1:lk ((n:Int)+1) ((k,v)::r)=some v:=by simp[lk,e]
   have h2:lk ((n:Int)+1) r=none:=by rw[e];exact h
   rw[h1,h2,if_neg (by omega),if_pos (by omega)]
   simp
  ·have h1 : lk ((n : Int) + 1) ((k, v) :: r) = lk ((n : Int) + 1) r := by
    have:(((n:Int)+1)==k)=false:=by simpa using e
    simp[lk,this]
   rw[h1]
   by_cases c:1<=k/\k<=n
   ·rw[if_pos c,if_pos (by omega)];omega
   ·rw[if_neg c,if_neg (by omega)];omega
theorem sumL_all (f:AN->Nat) : ∀ (l:List (Int×AN)) (n:Nat),(keysL l).Nodup->(∀k∈keysL l,1<=k/\k<=n)->sumL f l n=sumF f l:=by
 intro l
 induction l with
 | nil =>
  intro n _ _
  have : ∀n:Nat,sumL f [] n=0:=by
   intro n
   induction n with
   | zero=>rfl
   | succ n ih=>simp only[sumL,ih];rfl
  rw[this];rfl
 | cons p r ih =>
  intro n h1 h2
  obtain⟨k,v⟩:=p
  obtain⟨h3,h4⟩:=List.nodup_cons.1 (show(k::keysL r).Nodup from h1)
  rw[sumL_cons f (lk_none_iff.2 h3),ih n h4 fun x hx=>h2 x (List.mem_cons_of_mem _ hx)]
  have:=h2 k (List.mem_cons_self ..)
  rw[if_pos this]
  simp only[sumF];omega
theorem sumL_mono (f:AN->Nat) (l:List (Int×AN)) : ∀ {n m:Nat},n<=m->sumL f l n<=sumL f l m:=by
 intro n m h
 induction h with
 | refl=>exact Nat.le_refl _
 | step _ ih=>simp only[sumL];omega
theorem Inv.sums {A:AT} (h:Inv A):(sumL (fun _=>1) A.nodes A.last.toNat:Int)=A.ui/\(sumL (fun n=>n.data.size) A.nodes A.last.toNat:Int)=A.ub:=by
 have hk : ∀k∈keysL A.nodes,1<=k/\k<=((A.last.toNat:Nat):Int):=by
  intro k hk
  cases hl:A.get k with
  | none=>exact absurd hk (lk_none_iff.1 hl)
  | some n=>have:=h.low k n hl;omega
 rw[sumL_all _ _ _ h.nodup hk,sumL_all _ _ _ h.nodup hk]
 refine⟨?_,?_⟩
 ·rw[sumF_len,h.ui]
 ·rw[h.ub];rfl
def entN (name:ByteArray):List ByteArray->List ByteArray
 | []=>[name]
 | k::r=>if ltB name k=true then name::k::r else k::entN name r
theorem entN_perm (name:ByteArray) : ∀l,(entN name l).Perm (name::l):=by
 intro l
 induction l with
 | nil=>exact List.Perm.refl _
 | cons k r ih =>
  unfold entN
  split
  ·exact List.Perm.refl _
  ·exact(ih.cons k).trans (List.Perm.swap name k r)
def leN (a b:ByteArray):Prop:=a.data.toList<=b.data.toList
theorem entN_sorted {name:ByteArray} : ∀ {l:List ByteArray},l.Pairwise leN->(entN name l).Pairwise leN:=by
 intro l
 induction l with
 | nil=>intro _;simp[entN]
 | cons k r ih =>
  intro h
  obtain⟨h1,h2⟩:=List.pairwise_cons.1 h
  unfold entN
  by_cases c:ltB name k=true
  ·rw[if_pos c]
   have hnk:leN name k:=by
    unfold ltB at c
    cases hb:leB k.data.toList name.data.toList with
    | true=>rw[hb]at c;cases c
    | false =>
     have : ¬k.data.toList<=name.data.toList:=by rw[<-leB_iff,hb];simp
     exact(List.le_total _ _).resolve_left this
   refine List.pairwise_cons.2 ⟨fun z hz => ?_,h⟩
   rcases List.mem_cons.1 hz with e | e
   ·rw[e];exact hnk
   ·exact List.le_trans hnk (h1 z e)
  ·rw[if_neg c]
   have hkn:leN k name:=by
    unfold ltB at c
    cases hb:leB k.data.toList name.data.toList with
    | false=>rw[hb]at c;exact absurd rfl c
    | true=>exact(leB_iff _ _).1 hb
   refine List.pairwise_cons.2 ⟨fun z hz => ?_,ih h2⟩
   rcases List.mem_cons.1 ((entN_perm name r).mem_iff.1 hz)with e | e
   ·rw[e];exact hkn
   ·exact h1 z e
theorem sortN_sorted (l:List ByteArray):(sortN l).Pairwise leN:=by
 unfold sortN
 rw[List.pairwise_map]
 exact(sortB_sorted _).imp fun h=>h
theorem sorted_eq {a b:List ByteArray} (ha:a.Pairwise leN) (hb:b.Pairwise leN) (h:a.Perm b):a=b :=
 List.Perm.eq_of_pairwise (le:=leN) (fun x y _ _ h1 h2=>bytes_ext (List.le_antisymm h1 h2)) ha hb h
theorem sortN_snoc (l:List ByteArray) (name:ByteArray):sortN (l++[name])=entN name (sortN l):=by
 refine sorted_eq (sortN_sorted _) (entN_sorted (sortN_sorted _)) ?_
 refine(sortN_perm _).trans ?_
 refine List.Perm.trans ?_ (entN_perm name _).symm
 refine(List.perm_append_comm (l₁:=l) (l₂:=[name])).trans ?_
 exact((sortN_perm l).symm).cons name
def entR {α:Type} (name:ByteArray) (new:α) (row:ByteArray->α):Bool->List ByteArray->List α
 | done,[]=>if done then []else [new]
 | done,k::r=>if(!done&&ltB name k)=true then new::row k::entR name new row true r else row k::entR name new row done r
theorem entR_done {α:Type} (name:ByteArray) (new:α) (row:ByteArray->α) : ∀l,entR name new row true l=l.map row:=by
 intro l
 induction l with
 | nil=>rfl
 | cons k r ih=>unfold entR;simp[ih]
theorem entR_eq {α:Type} (name:ByteArray) (row:ByteArray->α) : ∀l,entR name (row name) row false l=(entN name l).map row:=by
 intro l
 induction l with
 | nil=>rfl
 | cons k r ih =>
  unfold entR entN
  by_cases c:ltB name k=true
  ·rw[if_pos (by simp[c]),if_pos c,entR_done];rfl
  ·rw[if_neg (by simp[c]),if_neg c,ih];rfl
theorem entR_congr {α:Type} (name:ByteArray) (new:α) {row row':ByteArray->α} : ∀ (l:List ByteArray) (d:Bool),(∀k∈l,row k=row' k)->entR name new row d l=entR name new row' d l:=by
 intro l
 induction l with
 | nil=>intro d _;cases d<;>rfl
 | cons k r ih =>
  intro d h
  unfold entR
  rw[h k (List.mem_cons_self ..),ih true fun x hx=>h x (List.mem_cons_of_mem _ hx),ih d fun x hx=>h x (List.mem_cons_of_mem _ hx)]
theorem steps_nolink {A:AT} (hI:Inv A) {go:Int->ByteArray->Int->Int×Pl×Int} (hgo:∀d s x,A.isDir d->(go d s x).1=0->(go d s x).2.1.there=true->A.kind (go d s x).2.1.ino≠3) : ∀ (l:List ByteArray) (p:Pl) (h:Int),(p.there=true->A.kind p.ino≠3)->(A.steps go true l p h).1=0->(A.steps go true l p h).2.1.there=true->A.kind (A.steps go true l p h).2.1.ino≠3:=by
 intro l
 induction l with
 | nil=>intro p h hp _;exact hp
 | cons n r ih =>
  intro p h hp he
  cases h1:p.there with
  | false=>rw[steps_none h1]at he;cases he
  | true =>
   by_cases h2:A.kind p.ino=2
   case neg=>rw[steps_notdir h1 h2]at he;cases he
   have hd:=kind_dir h2
   cases h3:sEq n ⟨⟨[46,46]⟩⟩ with
   | true =>
    rw[steps_up h1 h2 h3]at he ⊢
    exact ih _ h (fun _=>by show A.kind (A.upOf p.ino)≠3;rw[dir_kind (hI.isDir_up hd)];decide) he
   | false =>
    by_cases h4:n.size>56
    ·rw[steps_long h1 h2 h3 h4]at he;cases he
    by_cases h5:(A.find p.ino n).isSome=false\/(r.isEmpty && !true)=true\/A.kind ((A.find p.ino n).getD 0)≠3
    ·rw[steps_name h1 h2 h3 h4 h5]at he ⊢
     refine ih _ h (fun hs => ?_) he
     have hs:(A.find p.ino n).isSome=true:=hs
     rcases h5 with e | e | e
     ·rw[hs]at e;cases e
     ·simp at e
     ·exact e
    by_cases h6:h - 1<0
    ·rw[steps_loop h1 h2 h3 h4 h5 h6]at he;cases he
    by_cases h7:(go p.ino (A.data ((A.find p.ino n).getD 0)) (h - 1)).1=0
    ·rw[steps_link h1 h2 h3 h4 h5 h6 h7]at he ⊢
     exact ih _ _ (hgo _ _ _ hd h7) he
    ·rw[steps_err h1 h2 h3 h4 h5 h6 h7]at he;exact absurd he h7
theorem walk_nolink {A:AT} (hI:Inv A) : ∀ (f:Nat) (d:Int) (s:ByteArray) (h:Int),A.isDir d->(A.walk f d s true h).1=0->(A.walk f d s true h).2.1.there=true->A.kind (A.walk f d s true h).2.1.ino≠3:=by
 intro f
 induction f with
 | zero=>intro d s h _ he;cases he
 | succ f ih =>
  intro d s h hd he
  rw[AT.walk]at he ⊢
  by_cases hm:mayE s=0
  case neg=>rw[if_pos hm]at he;exact absurd he hm
  rw[if_neg (by simpa using hm)]at he ⊢
  refine steps_nolink hI (fun d s x hd he=>ih d s x hd he) _ _ _ (fun _ => ?_) he
  show A.kind (if headIs 47 s then 1 else d)≠3
  cases headIs 47 s with
  | true=>rw[if_pos rfl,dir_kind hI.root_dir];decide
  | false=>rw[if_neg (by decide),dir_kind hd];decide
theorem locate_nolink {A:AT} (hI:Inv A) (cwd path:ByteArray) (he:(A.locate cwd path true).1=0) (ht:(A.locate cwd path true).2.there=true):A.kind (A.locate cwd path true).2.ino≠3:=by
 unfold AT.locate at he ht ⊢
 cases h1:sEq path ⟨⟨[]⟩⟩ with
 | true=>rw[h1]at he;simp at he
 | false =>
  rw[h1]at he ht
  simp only[Bool.false_eq_true,if_false]at he ht ⊢
  cases h2:headIs 47 path with
  | true=>rw[h2]at he ht;exact walk_nolink hI 10 1 path 8 hI.root_dir he ht
  | false =>
   rw[h2]at he ht
   simp only[Bool.false_eq_true,if_false]at he ht ⊢
   cases h3:headIs 47 cwd with
   | false=>rw[h3]at he;simp at he
   | true =>
    rw[h3]at he ht
    simp only[Bool.true_eq_false,if_false]at he ht ⊢
    by_cases h4:(A.walk 10 1 cwd true 8).1=0
    case neg=>rw[if_pos h4]at he;exact absurd he h4
    rw[if_neg (by simpa using h4)]at he ht ⊢
    cases h5:(A.walk 10 1 cwd true 8).2.1.there with
    | false=>rw[h5]at he;simp at he
    | true =>
     rw[h5]at he ht
     simp only[Bool.true_eq_false,if_false]at he ht ⊢
     by_cases h6:A.kind (A.walk 10 1 cwd true 8).2.1.ino=2
     case neg=>rw[if_pos h6]at he;simp at he
     rw[if_neg (by simpa using h6)]at he ht ⊢
     exact walk_nolink hI 10 _ path 8 (kind_dir h6) he ht
theorem kind_cases {k m:Int} {d:ByteArray} (h:likeE k m d=0):k=1\/k=2\/k=3:=by
 unfold likeE at h
 by_cases hk:kindOkE k d=true
 ·unfold kindOkE at hk
  simp only[lk]at hk
  by_cases e1:k=1
  ·exact .inl e1
  by_cases e2:k=2
  ·exact .inr (.inl e2)
  by_cases e3:k=3
  ·exact .inr (.inr e3)
  have h1:(k==1)=false:=by simpa using e1
  have h2:(k==2)=false:=by simpa using e2
  have h3:(k==3)=false:=by simpa using e3
  rw[h1,h2,h3]at hk
  simp at hk
 ·have:kindOkE k d=false:=by simpa using hk
  rw[this]at h;simp at h
end Go.Wk

set_option maxRecDepth 100000
namespace Go.Proofs.YtbdlkofldmhoaaaGreatDoor
open Go Go.HL Go.Wk
attribute [local irreducible] ptrW ifW brW andW rdT alW letJ stW muW biW vaW imW callT cvalT app callW invW callVW sizeT oW nilF oneK loopW rfW funW begW roundK exW idxW Gr Put
section
variable {σ : H} {b : Nat} {A : AT} {M : RfM} {N : Nat}
theorem RfIn.ptr (h:RfIn σ b A M) {i:Nat} (hi:i<A.last.toNat) : ∃g o,M.x.base=some ⟨g,o,none⟩/\(0<=(i:Int)/\(i:Int)<((M.x.len:Nat):Int))/\rdC g (o+(i:Int).toNat * 1) σ=some (.pointer (if(A.get ((i:Int)+1)).isSome then some ⟨M.cb ((i:Int)+1),0,none⟩else none)):=by
 have hl:=h.len
 have hr:(ptrRow A M.cb)[i]? = some [.pointer (if(A.get ((i:Int)+1)).isSome then some ⟨M.cb ((i:Int)+1),0,none⟩else none)]:=by
  unfold ptrRow
  rw[List.getElem?_map,List.getElem?_range (by omega)];rfl
 obtain⟨h1,h4 | ⟨g,o,cur,t,fz,q2,q3,q4⟩⟩:=h.tab.rows
 ·rw[h4]at hr;simp at hr
 ·refine⟨g,o,q2,by omega,rdC_of q3 ?_⟩
  obtain⟨_,h5⟩:=q4 _ _ hr
  have:((cur.drop (o+i * 1)).take 1)[0]? = some (.pointer (if(A.get ((i:Int)+1)).isSome then some ⟨M.cb ((i:Int)+1),0,none⟩else none)):=by rw[h5];rfl
  rw[List.getElem?_take]at this
  simpa using this
theorem s_rfUsed (hI:Wk.Inv A) (hB:Bd N A) (hN:N<=1000000000000) (hM:RfIn σ b A M) {K:KH} (hK:K (.agg ⟨[.int .i64 A.ui,.int .i64 A.ub]⟩) σ):callW Tryz.prog 19 [.pointer (some ⟨b,0,none⟩)] K σ:=by
 refine pure_i _ hK (c19 _ ?_)
 clear hK
 unfold g19
 refine al_i ?_;intro b2 σ1 g1 e1 n1
 refine al_i ?_;intro b3 σ2 g2 e2 n2
 refine st_i2 e2 sz_Quota (by rfl) (by rfl) ?_;intro σ3 p3
 have n3:σ b3=none:=none_of g1 n2
 have n23:b2≠b3:=by intro e;rw[<-e,e1]at n2;cases n2
 have k3:σ3 b3=some (.cells ⟨[.int .i64 0,.int .i64 0]⟩ 25 (0,0)):=p3.same
 have k2:σ3 b2=some (.cells ⟨[.int .i64 0,.int .i64 0]⟩ 25 (0,0)):=p3.get n23 (g2.get e1)
 have g3:Gr σ σ3:=(g1.trans g2).putF p3 n3
 clear p3 e1 e2
 refine loop_i ?_
 intro R hR
 obtain⟨u1,u2⟩:=hI.sums
 have hl:=hM.len
 have hlast:=hB.last
 have hub:=hI.bq
 have huq:=hI.uq
 have key : ∀ (c i:Nat) (τ:H),c+i=A.last.toNat->Gr σ τ->τ b2=some (.cells ⟨[.int .i64 0,.int .i64 0]⟩ 25 (0,0))->τ b3=some (.cells ⟨[.int .i64 (sumL (fun _=>1) A.nodes i:Int),.int .i64 (sumL (fun n=>n.data.size) A.nodes i:Int)]⟩ 25 (0,0)) ->
  R (some ⟨b,0,none⟩) (some ⟨b2,0,none⟩) (some ⟨b3,0,none⟩) (i:Int) τ:=by
  intro c
  induction c with
  | zero =>
   intro i τ hc hg k2 k3
   have hMt:=hM.gr hg
   refine hR _ _ _ _ _ ?_
   refine ptr_i (rd_L (rdC_of hMt.top (by rfl)) (br_f (by simp only[decide_eq_false_iff_not];omega) ?_))
   refine ptr_i (rd_G (rdA_of' k3 (by rfl)) ?_)
   (refine app_of rfl ?_;try dsimp only)
   refine st_i2 k2 sz_Quota (by rfl) (by rfl) ?_;intro τ' p
   refine ptr_i (rd_G (rdA_of' p.same (by rfl)) ?_)
   (refine app_of rfl ?_;try dsimp only)
   have hi:i=A.last.toNat:=by omega
   rw[hi,u1,u2]
   exact⟨rfl,hg.putF p n1⟩
  | succ c ih =>
   intro i τ hc hg k2 k3
   have hMt:=hM.gr hg
   obtain⟨gs,os,s1,s2,s3⟩:=hMt.ptr (i:=i) (by omega)
   refine hR _ _ _ _ _ ?_
   refine ptr_i (rd_L (rdC_of hMt.top (by rfl)) (br_t (by simp only[decide_eq_true_eq];omega) ?_))
   refine j_i (fun j => ∀τ',Gr σ τ'->τ' b2=some (.cells ⟨[.int .i64 0,.int .i64 0]⟩ 25 (0,0))->τ' b3=some (.cells ⟨[.int .i64 (sumL (fun _=>1) A.nodes (i+1):Int),.int .i64 (sumL (fun n=>n.data.size) A.nodes (i+1):Int)]⟩ 25 (0,0))->j (some ⟨b,0,none⟩) (some ⟨b2,0,none⟩) (some ⟨b3,0,none⟩) (i:Int) τ') ?_ ?_
   ·intro τ' a1 a2 a3
    rw[wrap_id (x:=(i:Int)+1) (by omega) (by omega)]
    rw[show(i:Int)+1=((i+1:Nat):Int)from by omega]
    exact ih (i+1) τ' (by omega) a1 a2 a3
   intro j hj
   refine ptr_i (rd_L (rdC_of hMt.top (by rfl)) ?_)
   rw[s1]
   refine ptr_i (if_i s2 (rd_P s3 ?_))
   have hm1:=sumL_mono (fun _=>1) A.nodes (n:=i+1) (m:=A.last.toNat) (by omega)
   have hm2:=sumL_mono (fun n=>n.data.size) A.nodes (n:=i+1) (m:=A.last.toNat) (by omega)
   cases hget:A.get ((i:Int)+1) with
   | none =>
    have z1:sumL (fun _=>1) A.nodes (i+1)=sumL (fun _=>1) A.nodes i:=by
     simp only[sumL];rw[show lk ((i:Int)+1) A.nodes=none from hget];rfl
    have z2:sumL (fun n=>n.data.size) A.nodes (i+1)=sumL (fun n=>n.data.size) A.nodes i:=by
     simp only[sumL];rw[show lk ((i:Int)+1) A.nodes=none from hget];rfl
    refine br_f rfl (hj τ hg k2 ?_)
    rw[z1,z2];exact k3
   | some n =>
    have z1:sumL (fun _=>1) A.nodes (i+1)=sumL (fun _=>1) A.nodes i+1:=by
     simp only[sumL];rw[show lk ((i:Int)+1) A.nodes=some n from hget];rfl
    have z2:sumL (fun n=>n.data.size) A.nodes (i+1)=sumL (fun n=>n.data.size) A.nodes i+n.data.size:=by
     simp only[sumL];rw[show lk ((i:Int)+1) A.nodes=some n from hget];rfl
    rw[z1]at hm1
    rw[z2]at hm2
    refine br_t rfl (ptr_i (rd_I (rdC_of k3 (by rfl)) (ptr_i ?_)))
    rw[wrap_id (by omega) (by omega)]
    refine st_i2 k3 sz_int (by rfl) (by rfl) ?_;intro τ1 p1
    have k31:τ1 b3=some (.cells ⟨[.int .i64 ((sumL (fun _=>1) A.nodes i:Int)+1),.int .i64 (sumL (fun n=>n.data.size) A.nodes i:Int)]⟩ 25 (0,0)):=p1.same
    have hg1:=hg.putF p1 n3
    have hM1:=hM.gr hg1
    obtain⟨gs,os,s1,s2,s3⟩:=hM1.ptr (i:=i) (by omega)
    rw[hget]at s3
    refine ptr_i (rd_I (rdC_of k31 (by rfl)) (ptr_i (rd_L (rdC_of hM1.top (by rfl)) ?_)))
    rw[s1]
    refine ptr_i (if_i s2 (rd_P s3 (ptr_i (rd_S (rdC_of (hM1.nod _ _ hget) (by rfl)) (ptr_i ?_)))))
    rw[wrap_id (by omega) (by omega)]
    refine st_i2 k31 sz_int (by rfl) (by rfl) ?_;intro τ2 p2
    refine hj τ2 (hg1.putF p2 n3) (p2.get n23 (p1.get n23 k2)) ?_
    have:=p2.same
    rw[z1,z2]
    have e1:((sumL (fun _=>1) A.nodes i+1:Nat):Int)=(sumL (fun _=>1) A.nodes i:Int)+1:=by omega
    have e2:((sumL (fun n=>n.data.size) A.nodes i+n.data.size:Nat):Int)=(sumL (fun n=>n.data.size) A.nodes i:Int)+((n.data.size:Nat):Int):=by omega
    rw[e1,e2]
    exact this
 exact key A.last.toNat 0 σ3 (by omega) g3 k2 k3
theorem s_rfRoom (hI:Wk.Inv A) (hB:Bd N A) (hN:N<=1000000000000) (hM:RfIn σ b A M) (i n:Int) {K:KH} (hK:K (.bool (A.roomE i n==0)) σ):callW Tryz.prog 93 [.pointer (some ⟨b,0,none⟩),.int .i64 i,.int .i64 n] K σ:=by
 refine pure_i _ hK (c93 _ _ _ ?_)
 clear hK
 unfold g93
 refine call_i (s_rfUsed hI hB hN hM ?_)
 (refine app_of rfl ?_;try dsimp only)
 refine al_i ?_;intro b6 σ1 g1 e1 n1
 refine st_i2 e1 sz_Quota (by rfl) (by rfl) ?_;intro σ2 p2
 have hg:Gr σ σ2:=g1.putF p2 n1
 have hM2:=hM.gr hg
 have k6:σ2 b6=some (.cells ⟨[.int .i64 A.ui,.int .i64 A.ub]⟩ 25 (0,0)):=p2.same
 refine rd_I (rdC_of k6 (by rfl)) (ptr_i (rd_I (rdC_of hM2.top (by rfl)) ?_))
 have hr:(A.roomE i n==0)=(decide (wr (A.ui+i)<=A.qi)&&decide (wr (A.ub+n)<=A.qb)):=by
  unfold AT.roomE
  by_cases h1:wr (A.ui+i)<=A.qi<;>by_cases h2:wr (A.ub+n)<=A.qb<;>simp[h1,h2]
 rw[hr]
 cases h1:decide (wr (A.ui+i)<=A.qi) with
 | true =>
  refine br_t h1 (rd_I (rdC_of k6 (by rfl)) (ptr_i (rd_I (rdC_of hM2.top (by rfl)) ?_)))
  exact⟨rfl,hg⟩
 | false=>exact br_f h1 ⟨rfl,hg⟩
end
theorem s_rfNew (qi qb:Int) {σ:H} {K:KH} (hN:newOk qi qb=false -> ∀σ',Gr σ σ'->K (.pointer none) σ')
 (hK:newOk qi qb=true -> ∀bf σ' D,RfAt σ' bf (newT qi qb) D->Gr σ σ'->(∀c,D c->σ c=none)->K (.pointer (some ⟨bf,0,none⟩)) σ') :
 callW Tryz.prog 36 [.agg ⟨[.int .i64 qi,.int .i64 qb]⟩] K σ:=by
 refine c36 _ _ ?_
 unfold g36
 refine al_i ?_;intro b3 σ1 g1 e1 n1
 refine j_i (fun j => ∀t:Bool,t = !newOk qi qb->j (some ⟨b3,0,none⟩) t σ1) ?_ ?_
 ·intro t ht
  cases t with
  | true=>exact br_t rfl (hN (by cases h:newOk qi qb<;>simp[h]at ht ⊢) σ1 g1)
  | false =>
   refine br_f rfl (ptr_i (rd_G (rdA_of' e1 (by rfl)) ?_))
   (refine app_of rfl ?_;try dsimp only)
   refine al_i ?_;intro b11 σ2 g2 e2 n2
   refine al_i ?_;intro b12 σ3 g3 e3 n3
   refine al_i ?_;intro b13 σ4 g4 e4 n4
   have z11:σ b11=none:=none_of g1 n2
   have z12:σ b12=none:=none_of (g1.trans g2) n3
   have z13:σ b13=none:=none_of ((g1.trans g2).trans g3) n4
   have d1:b11≠b12:=by intro e;rw[<-e,e2]at n3;cases n3
   have d2:b11≠b13:=by intro e;rw[<-e,g3.get e2]at n4;cases n4
   have d3:b12≠b13:=by intro e;rw[<-e,e3]at n4;cases n4
   have hget : ∀i n,(newT qi qb).get i=some n->i=1/\n=⟨2,493,⟨⟨[]⟩⟩,1,1,[]⟩:=by
    intro i n h
    unfold AT.get newT at h
    simp only[lk]at h
    by_cases e:i=1
    ·subst e;simp at h;exact⟨rfl,h.symm⟩
    ·have:(i==1)=false:=by simpa using e
     rw[this]at h;simp at h
   refine hK (by cases h:newOk qi qb<;>simp[h]at ht ⊢) b13 σ4 (fun c=>c=b11\/c=b12\/c=b13) ⟨⟨⟨some ⟨b12,0,none⟩,1,1⟩,fun _=>b11,fun _=>⟨none,0,0⟩,fun c=>if c=b13 then some (0,false)else if c=b12 then some (0,true)else if c=b11 then some (1,false)else none⟩,⟨?_,?_,?_,?_,?_,?_,?_,?_,?_⟩,?_⟩ (((g1.trans g2).trans g3).trans g4) ?_
   ·exact e4
   ·refine⟨rfl,by intro r hr;unfold ptrRow at hr;rw[List.mem_map]at hr;obtain⟨_,_,rfl⟩:=hr;rfl,.inr ⟨b12,[.pointer (some ⟨b11,0,none⟩)],rfl,g4.get e3,rfl,Nat.le_refl _,rfl⟩⟩
   ·intro i n hn
    obtain⟨rfl,rfl⟩:=hget i n hn
    exact(g3.trans g4).get e2
   ·intro i n hn
    obtain⟨rfl,rfl⟩:=hget i n hn
    exact RowsOwn.nil _ _ _
   ·simp
   ·intro g hg
    have hg:some (⟨b12,0,none⟩:Addr)=some ⟨g,0,none⟩:=hg
    injection hg with hg
    injection hg with hg
    subst hg
    simp[d3]
   ·intro i n hn
    obtain⟨rfl,rfl⟩:=hget i n hn
    simp[d1,d2]
   ·intro i n g _ h;cases h
   ·intro c hc
    by_cases h1:c=b13
    ·subst h1;rw[e4];simp
    by_cases h2:c=b12
    ·subst h2;rw[g4.get e3];simp
    by_cases h3:c=b11
    ·subst h3;rw[(g3.trans g4).get e2];simp
    ·simp[h1,h2,h3]at hc
   ·intro c
    by_cases h1:c=b13
    ·simp[h1]
    by_cases h2:c=b12
    ·simp[h2,d3]
    by_cases h3:c=b11
    ·simp[h3,d1,d2]
    ·simp[h1,h2,h3]
   ·rintro c (h | h | h)<;>subst h
    ·exact z11
    ·exact z12
    ·exact z13
 ·intro j hj
  have hnew:(!newOk qi qb)=(decide (qi<1)||(decide (qi>1048576)||(decide (qb<0)||decide (qb>1073741824)))):=by unfold newOk;simp
  rw[hnew]at hj
  refine rd_I (rdC_of e1 (by rfl)) ?_
  by_cases c1:qi<1
  ·exact br_t (by simpa using c1) (hj true (by simp[c1]))
  refine br_f (by simpa using c1) (rd_I (rdC_of e1 (by rfl)) ?_)
  by_cases c2:qi>1048576
  ·exact br_t (by simpa using c2) (hj true (by simp[c2]))
  refine br_f (by simpa using c2) (rd_I (rdC_of e1 (by rfl)) ?_)
  by_cases c3:qb<0
  ·exact br_t (by simpa using c3) (hj true (by simp[c3]))
  refine br_f (by simpa using c3) (rd_I (rdC_of e1 (by rfl)) ?_)
  exact hj _ (by simp[c1,c2,c3])
section
variable {σ σ' : H} {b : Nat} {A : AT} {M : RfM} {N : Nat}
def RfM.setE (M:RfM) (i:Int) (y':Sl):RfM:=⟨M.x,M.cb,fun j=>if j=i then y' else M.ey j,fun c=>if y'.base=some ⟨c,0,none⟩then some (i,true)else M.w c⟩
theorem RfIn.low (h:RfIn σ b A M) (hL:∀i n,A.get i=some n->1<=i) {i:Int} {n:AN} (hn:A.get i=some n):M.cb i≠b/\M.x.base≠some ⟨M.cb i,0,none⟩:=by
 have h1:=h.wn i n hn
 have:=hL i n hn
 refine⟨?_,?_⟩
 ·intro e;rw[e,h.wb]at h1;injection h1 with h1;injection h1 with h1 _;omega
 ·intro e;rw[h.wt _ e]at h1;injection h1 with h1;injection h1 with h1 _;omega
theorem RfIn.setN (h:RfIn σ b A M) (hL:∀i n,A.get i=some n->1<=i) {i:Int} {n n':AN} (hn:A.get i=some n) {y':Sl} (hp:Put σ (M.cb i) (nodeO n' y') σ') (ho:RowsOwn σ 165 2 (eRow n'.ents) y') (hy:∀g,y'.base=some ⟨g,0,none⟩->M.w g=none\/M.w g=some (i,true)):RfIn σ' b (A.set i n') (M.setE i y'):=by
 obtain⟨q1,q2⟩:=h.low hL hn
 have hw:=h.wn i n hn
 have hi1:=hL i n hn
 have hycb:y'.base≠some ⟨M.cb i,0,none⟩:=by
  intro e
  rcases hy _ e with e2 | e2<;>rw[hw]at e2
  ·cases e2
  ·injection e2 with e2;injection e2 with _ e2;cases e2
 have hyw : ∀c r,M.w c=some r->r≠(i,true)->y'.base≠some ⟨c,0,none⟩:=by
  intro c r hc hr e
  rcases hy _ e with e2 | e2<;>rw[hc]at e2
  ·cases e2
  ·injection e2 with e2;exact hr e2
 have hcb : ∀j m,A.get j=some m->j≠i->M.cb j≠M.cb i:=by
  intro j m hm hj e
  have:=h.wn j m hm
  rw[e,hw]at this;injection this with this;injection this with this _;exact hj this.symm
 have hget : ∀j m,(A.set i n').get j=some m->(j=i/\m=n')\/(j≠i/\A.get j=some m):=by
  intro j m hm
  rw[AT.get_set]at hm
  by_cases e:j=i
  ·rw[if_pos e]at hm;exact .inl ⟨e,(Option.some.inj hm).symm⟩
  ·rw[if_neg e]at hm;exact .inr ⟨e,hm⟩
 refine⟨?_,?_,?_,?_,?_,?_,?_,?_,?_⟩
 ·exact hp.get (Ne.symm q1) h.top
 ·have : ptrRow (A.set i n') M.cb = ptrRow A M.cb := by
   unfold ptrRow
   apply List.map_congr_left
   intro k _
   rw[AT.get_set]
   by_cases e:(k:Int)+1=i
   ·rw[if_pos e,e,hn];rfl
   ·rw[if_neg e]
  show RowsOwn σ' 104 1 (ptrRow (A.set i n') M.cb) M.x
  rw[this]
  exact h.tab.put hp q2
 ·intro j m hm
  rcases hget j m hm with⟨e1,e2⟩ | ⟨e1,e2⟩
  ·subst e1;subst e2
   show σ' (M.cb j)=some (nodeO m (if j=j then y' else M.ey j))
   rw[if_pos rfl];exact hp.same
  ·show σ' (M.cb j)=some (nodeO m (if j=i then y' else M.ey j))
   rw[if_neg e1];exact hp.get (hcb j m e2 e1) (h.nod j m e2)
 ·intro j m hm
  rcases hget j m hm with⟨e1,e2⟩ | ⟨e1,e2⟩
  ·subst e1;subst e2
   show RowsOwn σ' 165 2 (eRow m.ents) (if j=j then y' else M.ey j)
   rw[if_pos rfl];exact ho.put hp hycb
  ·show RowsOwn σ' 165 2 (eRow m.ents) (if j=i then y' else M.ey j)
   rw[if_neg e1]
   refine(h.ent j m e2).put hp fun e => ?_
   have:=h.we j m _ e2 e
   rw[hw]at this;injection this with this;injection this with _ this;cases this
 ·show(if y'.base=some ⟨b,0,none⟩then some (i,true)else M.w b)=_
  rw[if_neg (hyw b _ h.wb (by intro e;injection e with e _;omega))];exact h.wb
 ·intro g hg
  show(if y'.base=some ⟨g,0,none⟩then some (i,true)else M.w g)=_
  have:=h.wt g hg
  rw[if_neg (hyw g _ this (by intro e;injection e with e _;omega))];exact this
 ·intro j m hm
  show(if y'.base=some ⟨M.cb j,0,none⟩then some (i,true)else M.w (M.cb j))=_
  have:M.w (M.cb j)=some (j,false):=by
   rcases hget j m hm with⟨e1,e2⟩ | ⟨e1,e2⟩
   ·rw[e1];exact hw
   ·exact h.wn j m e2
  rw[if_neg (hyw _ _ this (by intro e;injection e with _ e;cases e))];exact this
 ·intro j m g hm hg
  show(if y'.base=some ⟨g,0,none⟩then some (i,true)else M.w g)=_
  rcases hget j m hm with⟨e1,e2⟩ | ⟨e1,e2⟩
  ·subst e1
   have hg:(if j=j then y' else M.ey j).base=some ⟨g,0,none⟩:=hg
   rw[if_pos rfl]at hg
   rw[if_pos hg]
  ·have hg:(if j=i then y' else M.ey j).base=some ⟨g,0,none⟩:=hg
   rw[if_neg e1]at hg
   have:=h.we j m g e2 hg
   rw[if_neg (hyw g _ this (by intro e;injection e with e _;exact e1 e))];exact this
 ·intro c hc
  have hc:(if y'.base=some ⟨c,0,none⟩then some (i,true)else M.w c)≠none:=hc
  have hs:σ c≠none:=by
   by_cases e:y'.base=some ⟨c,0,none⟩
   ·exact ho.has e
   ·rw[if_neg e]at hc;exact h.has c hc
  cases ho2:σ c with
  | none=>exact absurd ho2 hs
  | some o =>
   by_cases e:c=M.cb i
   ·rw[e,hp.same];simp
   ·rw[hp.get e ho2];simp
theorem und_REnts:Tryz.prog.underlying 105=some (.slice 165):=by kernel_rfl
theorem info_REntry : ∃i z,Tryz.prog.info? 165=some i/\i.zero=some z/\i.size=2/\i.bytes=24/\z.cells.size=2:=by
 have h1:(Tryz.prog.info? 165).map (fun i=>(i.zero.map (fun z=>z.cells.size),i.size,i.bytes))=some (some 2,2,24):=by kernel_rfl
 cases hi:Tryz.prog.info? 165 with
 | none=>rw[hi]at h1;cases h1
 | some i =>
  rw[hi]at h1
  simp only[Option.map_some,Option.some.injEq,Prod.mk.injEq]at h1
  cases hz:i.zero with
  | none=>rw[hz]at h1;cases h1.1
  | some z =>
   rw[hz]at h1
   exact⟨i,z,rfl,hz,h1.2.1,h1.2.2,by simpa using h1.1⟩
def EntNew (σ0 σ:H) (l:List (List Value)) (y:Sl):Prop:=Gr σ0 σ/\RowsOwn σ 165 2 l y /\ ∀g,y.base=some ⟨g,0,none⟩->σ0 g=none
theorem app_ent {σ0 σ:H} {l:List (List Value)} {y:Sl} {s:ByteArray} {v:Int} {ty:TypeId} {cs:List Bool} (h:EntNew σ0 σ l y) (hl:l.length<1000000000) {F:Sl->H->Prop} (hF:∀y' σ',EntNew σ0 σ' (l++[[.string s,.int .i64 v]]) y'->(∀c o,σ c=some o->y.base≠some ⟨c,0,none⟩->σ' c=some o)->F y' σ') :
 alW (.cells ⟨[.string s,.int .i64 v]⟩ 165 (0,0)) (fun(b48:Nat)=>biW Tryz.prog .append #[105,105] ty cs [.slice y.base y.len y.cap,.slice (some ⟨b48,0,none⟩) 1 1] kL F) σ:=by
 obtain⟨h1,h2,h3⟩:=h
 refine al_i ?_;intro b48 σ1 g1 e1 n1
 obtain⟨i,z,i1,i2,i3,i4,i5⟩:=info_REntry
 refine append_i und_REnts i1 i2 i3 i4 i5 (by decide) (h2.gr g1) e1 rfl (by intro u hu;simp at hu;rcases hu with rfl | rfl<;>rfl) hl (by decide) ?_
 intro y' σ' hy' hcase
 refine hF y' σ' ⟨?_,hy',?_⟩ ?_
 ·rcases hcase with⟨g,o,q1,q2,q3⟩ | ⟨g,q1,q2,q3⟩
  ·exact(h1.trans g1).putF q3 (h3 g q1)
  ·exact(h1.trans g1).trans q3
 ·intro g hg
  rcases hcase with⟨g',o,q1,q2,q3⟩ | ⟨g',q1,q2,q3⟩
  ·rw[q2]at hg;exact h3 g hg
  ·rw[q1]at hg
   injection hg with hg
   injection hg with hg
   subst hg
   exact none_of (h1.trans g1) q2
 ·intro c o hc hne
  rcases hcase with⟨g,o',q1,q2,q3⟩ | ⟨g,q1,q2,q3⟩
  ·exact q3.get (fun e=>hne (by rw[e];exact q1)) (g1.get hc)
  ·exact q3.get (g1.get hc)
theorem sz_REntry:sizeT Tryz.prog 165=some 2:=by kernel_rfl
theorem sz_REnts:sizeT Tryz.prog 105=some 1:=by kernel_rfl
theorem RfIn.slot2 (h:RfIn σ b A M) (hL:∀i n,A.get i=some n->1<=i/\i<=A.last) {d:Int} {n:AN} (hn:A.get (d+1)=some n) : ∃g o,M.x.base=some ⟨g,o,none⟩/\(0<=d/\d<((M.x.len:Nat):Int))/\rdC g (o+d.toNat * 1) σ=some (.pointer (some ⟨M.cb (d+1),0,none⟩)):=by
 obtain⟨l1,l2⟩:=hL _ _ hn
 obtain⟨g,o,h1,h2,h3⟩:=h.ptr (i:=d.toNat) (by omega)
 have e:((d.toNat:Nat):Int)=d:=by omega
 rw[e,hn]at h3
 rw[e]at h2
 exact⟨g,o,h1,h2,h3⟩
theorem rf_at2 (h:RfIn σ b A M) (hL:∀i n,A.get i=some n->1<=i/\i<=A.last) {d:Int} {n:AN} (hn:A.get (d+1)=some n) {F:Nat->Nat->H->Prop} (hF:F (M.cb (d+1)) 0 σ) :
 ptrW (some ⟨b,0,none⟩) (fun(b4 o5:Nat)=>rdT (rdC b4 (o5+2)) kL (fun(x6:Sl)=>ptrW x6.base (fun(b7 o8:Nat)=>ifW (0<=d/\d<((x6.len:Nat):Int)) (rdT (rdC b7 (o8+d.toNat * 1)) kP (fun x9=>ptrW x9 F))))) σ:=by
 obtain⟨g,o,h1,h2,h3⟩:=h.slot2 hL hn
 refine ptr_i (rd_L (rdC_of h.top (by rfl)) ?_)
 rw[h1]
 exact ptr_i (if_i h2 (rd_P h3 (ptr_i hF)))
theorem RfIn.congr (h:RfIn σ b A M) {A':AT} (q1:A'.qi=A.qi) (q2:A'.qb=A.qb) (q3:A'.last=A.last) (hg:∀j,A'.get j=A.get j):RfIn σ b A' M:=by
 refine⟨?_,?_,fun i n hn=>h.nod i n (by rw[<-hg];exact hn),fun i n hn=>h.ent i n (by rw[<-hg];exact hn),h.wb,h.wt,fun i n hn=>h.wn i n (by rw[<-hg];exact hn),fun i n g hn=>h.we i n g (by rw[<-hg];exact hn),h.has⟩
 ·rw[q1,q2];exact h.top
 ·have:ptrRow A' M.cb=ptrRow A M.cb:=by unfold ptrRow;rw[q3];apply List.map_congr_left;intro k _;rw[hg]
  rw[this];exact h.tab
theorem s_rfEnter {dir ino:Int} {nd ni:AN} {name:ByteArray} (hM:RfIn σ b A M) (hL:∀i n,A.get i=some n->1<=i/\i<=A.last) (hz:A.last<=1000000000000) (hd:A.get (dir+1)=some nd) (hi:A.get (ino+1)=some ni) (hne:dir≠ino) (hnk:lk name nd.ents=none) (hnod:(keysL nd.ents).Nodup) (hlen:nd.ents.length<=100000000) {K:KH}
 (hK:∀σ' M',(∀A':AT,A'.qi=A.qi->A'.qb=A.qb->A'.last=A.last->(∀j,A'.get j=if j=ino+1 then some (if ni.kind=2 then { ni with up:=dir+1 }else ni)else if j=dir+1 then some { nd with ents:=up name (ino+1) nd.ents }else A.get j)->RfIn σ' b A' M')->(∀c o,σ c=some o->M.w c=none->σ' c=some o/\M'.w c=none)->K (.tuple ⟨[]⟩) σ') :
 callW Tryz.prog 129 [.pointer (some ⟨b,0,none⟩),.int .i64 dir,.string name,.int .i64 ino] K σ:=by
 refine c129 _ _ _ _ ?_
 unfold g129
 refine loop_i ?_
 intro R hR
 generalize hks:sortN (keysL nd.ents)=ks
 have hkl:ks.length=nd.ents.length:=by rw[<-hks,(sortN_perm _).length_eq];simp[keysL]
 have hke : ∀ {τ:H},RfIn τ b A M->(M.ey (dir+1)).len=ks.length:=by
  intro τ h
  have:=(h.ent _ _ hd).1
  rw[<-hks];simpa[eRow]using this
 have hnm:name∉ks:=by rw[<-hks];intro h;exact(lk_none_iff.1 hnk) ((sortN_perm _).mem_iff.1 h)
 have hT:entR name [.string name,.int .i64 ino] (fun k=>[Value.string k,.int .i64 ((lk k nd.ents).getD 0 - 1)]) false ks=eRow (up name (ino+1) nd.ents):=by
  unfold eRow
  rw[keys_up_none hnk,sortN_snoc,hks,<- entR_eq]
  have e1:[Value.string name,.int .i64 ((lk name (up name (ino+1) nd.ents)).getD 0 - 1)]=[Value.string name,.int .i64 ino]:=by
   rw[lk_up];simp
  rw[e1]
  refine entR_congr _ _ ks false fun k hk => ?_
  have:k≠name:=fun e=>hnm (by rw[<-e];exact hk)
  rw[lk_up]
  have:(k==name)=false:=by simpa using this
  rw[this];rfl
 generalize hTe:eRow (up name (ino+1) nd.ents)=T at hT
 have wnew : ∀c,σ c=none->M.w c=none:=fun c hc=>hM.new hc
 have key : ∀ (c i:Nat) (l:Sl) (done:Bool) (acc:List (List Value)) (τ:H),c+i=ks.length->EntNew σ τ acc l->acc.length<=2 * i->acc++entR name [.string name,.int .i64 ino] (fun k=>[Value.string k,.int .i64 ((lk k nd.ents).getD 0 - 1)]) done (ks.drop i)=T->R (some ⟨b,0,none⟩) dir name ino l done (i:Int) τ:=by
  intro c
  induction c with
  | zero =>
   intro i l done acc τ hc hE hal hacc
   have hMt:=hM.gr hE.1
   have hlen2:=hke hMt
   rw[show ks.drop i=[]from List.drop_eq_nil_of_le (by omega)]at hacc
   refine hR _ _ _ _ _ _ _ _ ?_
   refine rf_at2 hMt hL hd (rd_L (rdC_of (hMt.nod _ _ hd) (by rfl)) (br_f (by simp only[decide_eq_false_iff_not];omega) ?_))
   refine j_i (fun j => ∀l' τ',EntNew σ τ' T l'->j (some ⟨b,0,none⟩) dir ino l' τ') ?_ ?_
   case refine_2 =>
    intro j hj
    cases done with
    | true =>
     have:acc=T:=by simpa[entR]using hacc
     rw[this]at hE
     exact br_f rfl (hj l τ hE)
    | false =>
     refine br_t rfl (app_ent hE (by omega) ?_)
     intro l' τ' hE' _
     have:acc++[[Value.string name,.int .i64 ino]]=T:=by simpa[entR]using hacc
     rw[this]at hE'
     exact hj l' τ' hE'
   intro l' τ' hE'
   have hM':=hM.gr hE'.1
   have hlow : ∀i n,A.get i=some n->1<=i:=fun i n hn=>(hL i n hn).1
   refine rf_at2 hM' hL hd ?_
   refine st_i2 (hM'.nod _ _ hd) sz_REnts (by rfl) (by rfl) ?_;intro τ1 p1
   have p1':Put τ' (M.cb (dir+1)) (nodeO { nd with ents:=up name (ino+1) nd.ents } l') τ1:=p1
   clear p1
   have hM1:=hM'.setN hlow hd (n':={ nd with ents:=up name (ino+1) nd.ents }) (y':=l') p1' (by rw[show eRow ({ nd with ents:=up name (ino+1) nd.ents }:AN).ents=T from hTe];exact hE'.2.1) (fun g hg => .inl (wnew g (hE'.2.2 g hg)))
   have hgi:(A.set (dir+1) { nd with ents:=up name (ino+1) nd.ents }).get (ino+1)=some ni:=by rw[AT.get_set_ne _ _ (by omega)];exact hi
   have hL1 : ∀i n,(A.set (dir+1) { nd with ents:=up name (ino+1) nd.ents }).get i=some n->1<=i/\i<=(A.set (dir+1) { nd with ents:=up name (ino+1) nd.ents }).last:=by
    intro i n hn
    rw[AT.get_set]at hn
    by_cases e:i=dir+1
    ·rw[e];exact hL _ _ hd
    ·rw[if_neg e]at hn;exact hL _ _ hn
   have fr1 : ∀c o,σ c=some o->M.w c=none->τ1 c=some o/\(M.setE (dir+1) l').w c=none:=by
    intro c o hc hw
    have h1:=hE'.1.get hc
    have hcb:c≠M.cb (dir+1):=fun e=>by rw[e,hM.wn _ _ hd]at hw;cases hw
    refine⟨p1'.get hcb h1,?_⟩
    show(if l'.base=some ⟨c,0,none⟩then some (dir+1,true)else M.w c)=none
    rw[if_neg (fun e=>by rw[hE'.2.2 c e]at hc;cases hc)];exact hw
   refine rf_at2 hM1 hL1 hgi (rd_I (rdC_of (hM1.nod _ _ hgi) (by rfl)) ?_)
   by_cases hk2:ni.kind=2
   ·refine br_t (by simpa using hk2) (rf_at2 hM1 hL1 hgi ?_)
    refine st_i2 (hM1.nod _ _ hgi) sz_int (by rfl) (by rfl) ?_;intro τ2 p2
    have p2':Put τ1 ((M.setE (dir+1) l').cb (ino+1)) (nodeO { ni with up:=dir+1 } ((M.setE (dir+1) l').ey (ino+1))) τ2:=by
     have e:upR ({ ni with up:=dir+1 }:AN)=dir:=by
      unfold upR
      rw[if_pos (show({ ni with up:=dir+1 }:AN).kind=2 from hk2)]
      show dir+1 - 1=dir
      omega
     unfold nodeO
     rw[e]
     exact p2
    clear p2
    have hM2:=hM1.setN (fun i n hn=>(hL1 i n hn).1) hgi (n':={ ni with up:=dir+1 }) p2' (show RowsOwn τ1 165 2 (eRow ni.ents) _ from hM1.ent _ _ hgi) (fun g hg => .inr (hM1.we _ _ g hgi hg))
    refine hK τ2 _ (fun A' q1 q2 q3 hg=>hM2.congr q1 q2 q3 fun j => ?_) ?_
    ·rw[hg j,AT.get_set,AT.get_set,if_pos hk2]
    ·intro c o hc hw
     obtain⟨f1,f2⟩:=fr1 c o hc hw
     have hcb:c≠M.cb (ino+1):=fun e=>by rw[e,hM.wn _ _ hi]at hw;cases hw
     refine⟨p2'.get hcb f1,?_⟩
     show(if((M.setE (dir+1) l').ey (ino+1)).base=some ⟨c,0,none⟩then some (ino+1,true)else(M.setE (dir+1) l').w c)=none
     rw[if_neg (fun e=>by rw[hM1.we _ _ c hgi e]at f2;cases f2)];exact f2
   ·refine br_f (by simpa using hk2) (hK τ1 _ (fun A' q1 q2 q3 hg=>hM1.congr q1 q2 q3 fun j => ?_) fr1)
    rw[hg j,AT.get_set,if_neg hk2]
    by_cases e:j=ino+1
    ·rw[if_pos e,e,if_neg (by omega)];exact hi.symm
    ·rw[if_neg e]
  | succ c ih =>
   intro i l done acc τ hc hE hal hacc
   have hMt:=hM.gr hE.1
   have hlen2:=hke hMt
   obtain⟨k,hk⟩ : ∃k,ks[i]? = some k:=⟨_,List.getElem?_eq_getElem (by omega)⟩
   have hdrop:ks.drop i=k::ks.drop (i+1):=by
    rw[List.drop_eq_getElem_cons (by omega)]
    rw[List.getElem?_eq_getElem (by omega)]at hk
    rw[Option.some.inj hk]
   rw[hdrop]at hacc
   obtain⟨gy,oy,q1,_,_,q4⟩:=erow_at (hMt.ent _ _ hd) (by rw[hks];exact hk)
   refine hR _ _ _ _ _ _ _ _ ?_
   refine rf_at2 hMt hL hd (rd_L (rdC_of (hMt.nod _ _ hd) (by rfl)) (br_t (by simp only[decide_eq_true_eq];omega) ?_))
   refine rf_at2 hMt hL hd (rd_L (rdC_of (hMt.nod _ _ hd) (by rfl)) ?_)
   rw[q1]
   have e0:(i:Int).toNat=i:=by omega
   refine ptr_i (if_i ⟨by omega,by show(i:Int)<(((M.ey (dir+1)).len:Nat):Int);omega⟩ (rd_G (by rw[e0];exact q4) ?_))
   (refine app_of rfl ?_;try dsimp only)
   refine al_i ?_;intro b35 τ1 g1 e1 n1
   refine st_i2 e1 sz_REntry (by rfl) (by rfl) ?_;intro τ2 p2
   have g2:Gr τ τ2:=g1.putF p2 n1
   have k35:τ2 b35=some (.cells ⟨[.string k,.int .i64 ((lk k nd.ents).getD 0 - 1)]⟩ 165 (0,0)):=p2.same
   clear p2 e1
   have hE2:EntNew σ τ2 acc l:=⟨hE.1.trans g2,hE.2.1.gr g2,hE.2.2⟩
   have hlb:l.base≠some ⟨b35,0,none⟩:=fun e=>hE.2.1.has e n1
   refine j_i (fun j => ∀ (l':Sl) (done':Bool) (acc':List (List Value)) (τ':H) v1 v2 v3 v4,EntNew σ τ' acc' l'->acc'.length<=2 * i+1->τ' b35=some (.cells ⟨[.string k,.int .i64 ((lk k nd.ents).getD 0 - 1)]⟩ 165 (0,0))->acc'++[.string k,.int .i64 ((lk k nd.ents).getD 0 - 1)]::entR name [.string name,.int .i64 ino] (fun k=>[Value.string k,.int .i64 ((lk k nd.ents).getD 0 - 1)]) done' (ks.drop (i+1))=T->j (some ⟨b,0,none⟩) dir name ino l' done' (i:Int) (some ⟨b35,0,none⟩) v1 v2 v3 v4 τ') ?_ ?_
   ·intro l' done' acc' τ' v1 v2 v3 v4 a1 a2 a3 a4
    refine ptr_i (rd_G (rdA_of' a3 (by rfl)) ?_)
    (refine app_of rfl ?_;try dsimp only)
    refine app_ent a1 (by omega) ?_
    intro l'' τ'' hE'' _
    rw[wrap_id (x:=(i:Int)+1) (by omega) (by omega)]
    rw[show(i:Int)+1=((i+1:Nat):Int)from by omega]
    refine ih (i+1) l'' done' _ τ'' (by omega) hE'' (by rw[List.length_append];simp;omega) ?_
    rw[List.append_assoc];exact a4
   intro j36 h36
   refine j_i (fun j => ∀v1 v2 v3 v4,j (some ⟨b,0,none⟩) dir name ino l done (i:Int) (some ⟨b35,0,none⟩) v1 v2 v3 v4 (!done&&ltB name k) τ2) ?_ ?_
   ·intro v1 v2 v3 v4
    cases ht:(!done&&ltB name k) with
    | false =>
     refine br_f rfl (h36 l done acc τ2 _ _ _ _ hE2 (by omega) k35 ?_)
     unfold entR at hacc
     rw[if_neg (by rw[ht];decide)]at hacc
     exact hacc
    | true =>
     refine br_t rfl (app_ent hE2 (by omega) ?_)
     intro l' τ' hE' hkeep
     refine h36 l' true _ τ' _ _ _ _ hE' (by rw[List.length_append];simp;omega) (hkeep _ _ k35 hlb) ?_
     unfold entR at hacc
     rw[if_pos ht]at hacc
     rw[List.append_assoc];exact hacc
   ·intro j55 h55
    cases done with
    | true=>exact br_f rfl (h55 _ _ _ _)
    | false =>
     refine br_t rfl (rd_S (rdC_of k35 (by rfl)) ?_)
     rw[strLt_eq]
     exact h55 _ _ _ _
 exact key ks.length 0 ⟨none,0,0⟩ false [] σ (by omega) ⟨Gr.refl _,RowsOwn.nil _ _ _,fun g h=>by cases h⟩ (by simp) (by simpa using hT)
end
section
variable {σ σ' : H} {b : Nat} {A : AT} {M : RfM} {N : Nat}
theorem und_RNodes:Tryz.prog.underlying 101=some (.slice 104):=by kernel_rfl
theorem sz_RNodes:sizeT Tryz.prog 101=some 1:=by kernel_rfl
theorem info_PRNode : ∃i z,Tryz.prog.info? 104=some i/\i.zero=some z/\i.size=1/\i.bytes=8/\z.cells.size=1:=by
 have h1:(Tryz.prog.info? 104).map (fun i=>(i.zero.map (fun z=>z.cells.size),i.size,i.bytes))=some (some 1,1,8):=by kernel_rfl
 cases hi:Tryz.prog.info? 104 with
 | none=>rw[hi]at h1;cases h1
 | some i =>
  rw[hi]at h1
  simp only[Option.map_some,Option.some.injEq,Prod.mk.injEq]at h1
  cases hz:i.zero with
  | none=>rw[hz]at h1;cases h1.1
  | some z =>
   rw[hz]at h1
   exact⟨i,z,rfl,hz,h1.2.1,h1.2.2,by simpa using h1.1⟩
def AT.plus (A:AT) (n:AN):AT:={ A with last:=A.last+1,nodes:=up (A.last+1) n A.nodes }
theorem plus_get (A:AT) (n:AN) (j:Int):(AT.plus A n).get j=if j=A.last+1 then some n else A.get j:=by
 unfold AT.plus AT.get;simp only[lk_up]
 by_cases h:j=A.last+1<;>simp[h]
def RfM.plus (M:RfM) (l:Int) (x':Sl) (c13:Nat):RfM:=⟨x',fun j=>if j=l then c13 else M.cb j,fun j=>if j=l then⟨none,0,0⟩else M.ey j,fun c=>if c=c13 then some (l,false)else if x'.base=some ⟨c,0,none⟩then some (0,true)else M.w c⟩
theorem RfIn.plus (h:RfIn σ b A M) (hI:Wk.Inv A) {n:AN} (hne:n.ents=[]) {c13:Nat} {x':Sl} {τ1 τ2:H} (hg:Gr σ σ') (hn13:σ c13=none) (h13:σ' c13=some (nodeO n ⟨none,0,0⟩))
 (hx:RowsOwn τ1 104 1 (ptrRow A M.cb++[[.pointer (some ⟨c13,0,none⟩)]]) x') (hcase:(∃g o,M.x.base=some ⟨g,0,none⟩/\x'.base=M.x.base/\Put σ' g o τ1)\/(∃g,x'.base=some ⟨g,0,none⟩/\σ' g=none/\Gr σ' τ1))
 (hp:Put τ1 b (.cells ⟨[.int .i64 A.qi,.int .i64 A.qb,.slice x'.base x'.len x'.cap]⟩ 103 (0,0)) τ2) :
 RfIn τ2 b (AT.plus A n) (M.plus (A.last+1) x' c13)/\(∀c o,σ c=some o->M.w c=none->τ2 c=some o/\(M.plus (A.last+1) x' c13).w c=none):=by
 have hlow : ∀i n,A.get i=some n->1<=i/\i<=A.last:=hI.low
 have hl0:=hI.last_pos
 have w13:M.w c13=none:=h.new hn13
 have hcb13:c13≠b:=fun e=>by rw[e,h.wb]at w13;cases w13
 -- the new row's block
 have hxw : ∀g,x'.base=some ⟨g,0,none⟩->M.w g=some (0,true)\/(σ' g=none/\M.w g=none):=by
  intro g hg2
  rcases hcase with⟨g',o,q1,q2,q3⟩ | ⟨g',q1,q2,q3⟩
  ·rw[q2]at hg2;exact .inl (h.wt g hg2)
  ·rw[q1]at hg2
   injection hg2 with hg2
   injection hg2 with hg2
   subst hg2
   exact .inr ⟨q2,h.new (none_of hg q2)⟩
 have hxb:x'.base≠some ⟨b,0,none⟩:=by
  intro e
  rcases hxw b e with e2 | ⟨_,e2⟩<;>rw[h.wb]at e2<;>cases e2
 have hx13:x'.base≠some ⟨c13,0,none⟩:=by
  intro e
  rcases hxw c13 e with e2 | ⟨e2,_⟩
  ·rw[w13]at e2;cases e2
  ·rw[h13]at e2;cases e2
 have keep : ∀c o,σ' c=some o->M.w c≠some (0,true)->c≠b->τ2 c=some o:=by
  intro c o hc hw hb
  refine hp.get hb ?_
  rcases hcase with⟨g',o',q1,q2,q3⟩ | ⟨g',q1,q2,q3⟩
  ·exact q3.get (fun e=>hw (by rw[e];exact h.wt g' q1)) hc
  ·exact q3.get hc
 have keepR : ∀i n,A.get i=some n->RowsOwn τ2 165 2 (eRow n.ents) (M.ey i):=by
  intro i m hm
  refine(h.ent i m hm).keep fun g o hg2 ho=>keep g o (hg.get ho) ?_ ?_
  ·rw[h.we i m g hm hg2]
   intro e;injection e with e;injection e with e _;have:=(hlow i m hm).1;omega
  ·intro e;have:=h.we i m g hm hg2;rw[e,h.wb]at this;injection this with this;injection this with _ this;cases this
 have hget : ∀j m,(AT.plus A n).get j=some m->(j=A.last+1/\m=n)\/(j≠A.last+1/\A.get j=some m):=by
  intro j m hm
  rw[plus_get]at hm
  by_cases e:j=A.last+1
  ·rw[if_pos e]at hm;exact .inl ⟨e,(Option.some.inj hm).symm⟩
  ·rw[if_neg e]at hm;exact .inr ⟨e,hm⟩
 have h13':τ2 c13=some (nodeO n ⟨none,0,0⟩):=keep c13 _ h13 (by rw[w13];simp) hcb13
 refine⟨⟨?_,?_,?_,?_,?_,?_,?_,?_,?_⟩,?_⟩
 ·exact hp.same
 ·have : ptrRow (AT.plus A n) (M.plus (A.last + 1) x' c13).cb = ptrRow A M.cb ++ [[.pointer (some ⟨c13, 0, none⟩)]] := by
   unfold ptrRow
   have e1:(AT.plus A n).last.toNat=A.last.toNat+1:=by show(A.last+1).toNat=_;omega
   rw[e1,List.range_succ,List.map_append]
   congr 1
   ·apply List.map_congr_left
    intro k hk
    have hk:k<A.last.toNat:=List.mem_range.1 hk
    rw[plus_get,if_neg (show ¬ ((k:Int)+1=A.last+1)by omega)]
    show [Value.pointer (if(A.get ((k:Int)+1)).isSome then some ⟨(if(k:Int)+1=A.last+1 then c13 else M.cb ((k:Int)+1)),0,none⟩else none)]=_
    rw[if_neg (show ¬ ((k:Int)+1=A.last+1)by omega)]
   ·have e2:((A.last.toNat:Nat):Int)+1=A.last+1:=by omega
    simp only[List.map_cons,List.map_nil,e2,plus_get,if_true]
    show [[Value.pointer (some ⟨(if A.last+1=A.last+1 then c13 else M.cb (A.last+1)),0,none⟩)]]=_
    rw[if_pos rfl]
  show RowsOwn τ2 104 1 (ptrRow (AT.plus A n) (M.plus (A.last+1) x' c13).cb) x'
  rw[this]
  exact hx.put hp hxb
 ·intro j m hm
  rcases hget j m hm with⟨e1,e2⟩ | ⟨e1,e2⟩
  ·subst e1;subst e2
   show τ2 (if A.last+1=A.last+1 then c13 else M.cb (A.last+1))=some (nodeO m (if A.last+1=A.last+1 then⟨none,0,0⟩else M.ey (A.last+1)))
   rw[if_pos rfl,if_pos rfl];exact h13'
  ·show τ2 (if j=A.last+1 then c13 else M.cb j)=some (nodeO m (if j=A.last+1 then⟨none,0,0⟩else M.ey j))
   rw[if_neg e1,if_neg e1]
   obtain⟨l1,_⟩:=h.low (fun i n hn=>(hlow i n hn).1) e2
   refine keep _ _ (hg.get (h.nod j m e2)) ?_ l1
   rw[h.wn j m e2]
   intro e;injection e with e;injection e with _ e;cases e
 ·intro j m hm
  rcases hget j m hm with⟨e1,e2⟩ | ⟨e1,e2⟩
  ·subst e1;subst e2
   show RowsOwn τ2 165 2 (eRow m.ents) (if A.last+1=A.last+1 then⟨none,0,0⟩else M.ey (A.last+1))
   rw[if_pos rfl,hne];exact RowsOwn.nil _ _ _
  ·show RowsOwn τ2 165 2 (eRow m.ents) (if j=A.last+1 then⟨none,0,0⟩else M.ey j)
   rw[if_neg e1];exact keepR j m e2
 ·show(if b=c13 then _ else if x'.base=some ⟨b,0,none⟩then _ else M.w b)=_
  rw[if_neg (Ne.symm hcb13),if_neg hxb];exact h.wb
 ·intro g hg2
  have hg2:x'.base=some ⟨g,0,none⟩:=hg2
  show(if g=c13 then _ else if x'.base=some ⟨g,0,none⟩then _ else M.w g)=_
  rw[if_neg (fun e=>hx13 (by rw[<-e];exact hg2)),if_pos hg2]
 ·intro j m hm
  rcases hget j m hm with⟨e1,e2⟩ | ⟨e1,e2⟩
  ·subst e1
   show(if(if A.last+1=A.last+1 then c13 else M.cb (A.last+1))=c13 then _ else _)=_
   rw[if_pos rfl,if_pos rfl]
  ·have hwj:=h.wn j m e2
   show(if(if j=A.last+1 then c13 else M.cb j)=c13 then _ else if x'.base=some ⟨(if j=A.last+1 then c13 else M.cb j),0,none⟩then _ else M.w (if j=A.last+1 then c13 else M.cb j))=_
   rw[if_neg e1,if_neg (fun e=>by rw[e,w13]at hwj;cases hwj),if_neg (fun e=>by
    rcases hxw _ e with e3 | ⟨_,e3⟩<;>rw[hwj]at e3
    ·injection e3 with e3;injection e3 with _ e3;cases e3
    ·cases e3)]
   exact hwj
 ·intro j m g hm hg2
  rcases hget j m hm with⟨e1,e2⟩ | ⟨e1,e2⟩
  ·subst e1
   have hg2:(if A.last+1=A.last+1 then(⟨none,0,0⟩:Sl)else M.ey (A.last+1)).base=some ⟨g,0,none⟩:=hg2
   rw[if_pos rfl]at hg2;cases hg2
  ·have hg2:(if j=A.last+1 then(⟨none,0,0⟩:Sl)else M.ey j).base=some ⟨g,0,none⟩:=hg2
   rw[if_neg e1]at hg2
   have hwj:=h.we j m g e2 hg2
   have hj1:=(hlow j m e2).1
   show(if g=c13 then _ else if x'.base=some ⟨g,0,none⟩then _ else M.w g)=_
   rw[if_neg (fun e=>by rw[e,w13]at hwj;cases hwj),if_neg (fun e=>by
    rcases hxw _ e with e3 | ⟨_,e3⟩<;>rw[hwj]at e3
    ·injection e3 with e3;injection e3 with e3 _;omega
    ·cases e3)]
   exact hwj
 ·intro c hc
  have hc:(if c=c13 then some (A.last+1,false)else if x'.base=some ⟨c,0,none⟩then some (0,true)else M.w c)≠none:=hc
  by_cases e1:c=c13
  ·rw[e1,h13'];simp
  by_cases e2:c=b
  ·rw[e2,hp.same];simp
  by_cases e3:x'.base=some ⟨c,0,none⟩
  ·exact(hx.put hp hxb).has e3
  ·rw[if_neg e1,if_neg e3]at hc
   have:=h.has c hc
   cases ho:σ c with
   | none=>exact absurd ho this
   | some o =>
    by_cases e4:M.w c=some (0,true)
    ·-- the old row: it stays,or it was the same block
     rcases hcase with⟨g',o',q1,q2,q3⟩ | ⟨g',q1,q2,q3⟩
     ·by_cases e5:c=g'
      ·exfalso;apply e3;rw[q2,q1,e5]
      ·rw[hp.get e2 (q3.get e5 (hg.get ho))];simp
     ·rw[hp.get e2 (q3.get (hg.get ho))];simp
    ·rw[keep c o (hg.get ho) e4 e2];simp
 ·intro c o hc hw
  refine⟨keep c o (hg.get hc) (by rw[hw];simp) (fun e=>by rw[e,h.wb]at hw;cases hw),?_⟩
  show(if c=c13 then some (A.last+1,false)else if x'.base=some ⟨c,0,none⟩then some (0,true)else M.w c)=none
  rw[if_neg (fun e=>by rw[e,hn13]at hc;cases hc),if_neg (fun e=>by
   rcases hxw _ e with e3 | ⟨e3,_⟩
   ·rw[hw]at e3;cases e3
   ·rw[hg.get hc]at e3;cases e3)]
  exact hw
end
section
variable {σ σ' : H} {b : Nat} {A : AT} {M : RfM} {N : Nat}
theorem s_rfMade (hI:Wk.Inv A) (hB:Bd N A) (hN:N<=100000000) (hM:RfIn σ b A M) {d:Int} {name data:ByteArray} {kind mode px:Int} (hdir:A.isDir (d+1)) (hnm:namedE name=0) (hlk:likeE kind mode data=0) (hf:A.find (d+1) name=none) {K:KH}
 (hK:∀σ' M',RfIn σ' b (A.makeR (d+1) name kind mode data).2.2 M'->(∀c o,σ c=some o->M.w c=none->σ' c=some o/\M'.w c=none)->K (.int .i64 (A.makeR (d+1) name kind mode data).2.1) σ') :
 callW Tryz.prog 92 [.pointer (some ⟨b,0,none⟩),.agg ⟨[.int .i64 d,.string name,.int .i64 px]⟩,.int .i64 kind,.int .i64 mode,.string data] K σ:=by
 have hmk:A.makeE (d+1) name kind mode data=A.roomE 1 (data.size:Int):=by
  unfold AT.makeE
  simp only[firstE,AT.dirE_of hdir,hnm,hlk,hf,Option.isSome_none,Bool.false_eq_true,if_false,if_true]
  by_cases h:A.roomE 1 (data.size:Int)=0
  ·rw[if_pos h,h]
  ·rw[if_neg h]
 refine c92 _ _ _ _ _ _ _ ?_
 unfold g92
 refine al_i ?_;intro b8 σ1 g1 e1 n1
 refine call_i (s_rfRoom hI hB (by omega) (hM.gr g1) 1 (data.size:Int) (app_B ?_))
 by_cases hr:A.roomE 1 (data.size:Int)=0
 case neg =>
  have h10:A.roomE 1 (data.size:Int)=10:=by
   unfold AT.roomE at hr ⊢
   split at hr
   ·exact absurd rfl hr
   ·rename_i h;rw[if_neg h]
  refine br_t (by simp[h10]) ?_
  have hmr:A.makeR (d+1) name kind mode data=(0,10,A):=by
   rw[makeR_n (by rw[hmk,h10];decide),hmk,h10]
  have:=hK σ1 M (by rw[hmr];exact hM.gr g1) (fun c o hc hw=>⟨g1.get hc,hw⟩)
  rw[hmr]at this
  exact this
 refine br_f (by simp[hr]) ?_
 have hmz:A.makeE (d+1) name kind mode data=0:=by rw[hmk,hr]
 have hlast:=hB.last
 have hl0:=hI.last_pos
 obtain⟨nd,hnd,hnd2⟩:=hdir
 have hM1:=hM.gr g1
 refine ptr_i (rd_L (rdC_of hM1.top (by rfl)) ?_)
 refine al_i ?_;intro b13 σ2 g2 e2 n2
 refine al_i ?_;intro b14 σ3 g3 e3 n3
 obtain⟨i,z,i1,i2,i3,i4,i5⟩:=info_PRNode
 have hM3:=hM1.gr (g2.trans g3)
 have hplen:(ptrRow A M.cb).length=A.last.toNat:=by simp[ptrRow]
 refine append_i und_RNodes i1 i2 i3 i4 i5 (by decide) hM3.tab e3 rfl (by intro u hu;simp at hu;subst hu;rfl) (by omega) (by decide) ?_
 intro x' τ1 hx hcase
 refine ptr_i ?_
 have htop1:τ1 b=some (.cells ⟨[.int .i64 A.qi,.int .i64 A.qb,.slice M.x.base M.x.len M.x.cap]⟩ 103 (0,0)):=by
  rcases hcase with⟨g,o,q1,q2,q3⟩ | ⟨g,q1,q2,q3⟩
  ·refine q3.get (fun e => ?_) hM3.top
   have:=hM3.wt g q1
   rw[<-e,hM3.wb]at this;injection this with this;injection this with _ this;cases this
  ·exact q3.get hM3.top
 refine st_i2 htop1 sz_RNodes (by rfl) (by rfl) ?_;intro τ2 p2
 have p2':Put τ1 b (.cells ⟨[.int .i64 A.qi,.int .i64 A.qb,.slice x'.base x'.len x'.cap]⟩ 103 (0,0)) τ2:=p2
 clear p2
 have hup:upR (⟨kind,mode,data,1,if kind=2 then 1 else 0,[]⟩:AN)=0:=by
  unfold upR
  by_cases h:kind=2
  ·rw[if_pos h];show(if kind=2 then(1:Int)else 0) - 1=0;rw[if_pos h];rfl
  ·rw[if_neg h]
 have h13:σ3 b13=some (nodeO ⟨kind,mode,data,1,if kind=2 then 1 else 0,[]⟩ ⟨none,0,0⟩):=by
  unfold nodeO
  rw[hup]
  exact g3.get e2
 obtain⟨hP,hPf⟩:=RfIn.plus (n:=⟨kind,mode,data,1,if kind=2 then 1 else 0,[]⟩) hM hI rfl ((g1.trans g2).trans g3) (none_of g1 n2) h13 hx hcase p2'
 -- the place is still there
 have k8:τ2 b8=some (.cells ⟨[.int .i64 d,.string name,.int .i64 px]⟩ 133 (0,0)):=by
  have h3:=(g2.trans g3).get e1
  have hb8:b8≠b:=by intro e;rw[e,hM.top]at n1;cases n1
  refine p2'.get hb8 ?_
  rcases hcase with⟨g,o,q1,q2,q3⟩ | ⟨g,q1,q2,q3⟩
  ·exact q3.get (fun e=>by rw[e]at n1;exact hM.tab.has q1 n1) h3
  ·exact q3.get h3
 refine rd_I (rdC_of k8 (by rfl)) (rd_S (rdC_of k8 (by rfl)) (ptr_i (rd_L (rdC_of p2'.same (by rfl)) ?_)))
 have hxl:x'.len=A.last.toNat+1:=by
  have:=hx.1
  rw[List.length_append,hplen]at this
  simpa using this
 have ew:IntKind.i64.wrap (((x'.len:Nat):Int) - 1)=A.last:=by
  rw[wrap_id (by omega) (by omega)];omega
 show callT _ _ [_,_,_,.int .i64 (IntKind.i64.wrap (((x'.len:Nat):Int) - 1))] _ _ _
 rw[ew]
 have hdl:=hI.low _ _ hnd
 have hd1:(AT.plus A ⟨kind,mode,data,1,if kind=2 then 1 else 0,[]⟩).get (d+1)=some nd:=by rw[plus_get,if_neg (by omega)];exact hnd
 have hd2:(AT.plus A ⟨kind,mode,data,1,if kind=2 then 1 else 0,[]⟩).get (A.last+1)=some ⟨kind,mode,data,1,if kind=2 then 1 else 0,[]⟩:=by rw[plus_get,if_pos rfl]
 have hL2 : ∀i n,(AT.plus A ⟨kind,mode,data,1,if kind=2 then 1 else 0,[]⟩).get i=some n->1<=i/\i<=(AT.plus A ⟨kind,mode,data,1,if kind=2 then 1 else 0,[]⟩).last:=by
  intro i n hn
  rw[plus_get]at hn
  show 1<=i/\i<=A.last+1
  by_cases e:i=A.last+1
  ·omega
  ·rw[if_neg e]at hn;have:=hI.low _ _ hn;omega
 have hfl:lk name nd.ents=none:=by unfold AT.find at hf;rw[hnd]at hf;exact hf
 refine call_i (s_rfEnter hP hL2 (by show A.last+1<=_;omega) hd1 hd2 (by omega) hfl (hI.enod _ _ hnd) (by have:=hB.ents _ _ hnd;omega) ?_)
 intro σ' M' hR hfr
 refine app_U ?_
 have hmr:A.makeR (d+1) name kind mode data=(wr (A.last+1),0,A.made (d+1) name kind mode data):=makeR_z hmz
 have hL62:A.last<4611686018427387904:=by omega
 have:=hK σ' M' (by
  rw[hmr]
  refine hR _ ?_ ?_ ?_ fun j => ?_
  ·show(A.made (d+1) name kind mode data).qi=A.qi;rw[made_eq hI hL62 hnd];rfl
  ·show(A.made (d+1) name kind mode data).qb=A.qb;rw[made_eq hI hL62 hnd];rfl
  ·show(A.made (d+1) name kind mode data).last=A.last+1;rw[made_eq hI hL62 hnd];rfl
  ·show(A.made (d+1) name kind mode data).get j=_
   rw[made_get hI hL62 hnd]
   by_cases e1:j=d+1
   ·rw[if_pos e1,if_neg (by omega),if_pos e1]
   ·rw[if_neg e1]
    by_cases e2:j=A.last+1
    ·rw[if_pos e2,if_pos e2]
     unfold newN
     by_cases h:kind=2
     ·rw[if_pos h];simp[h]
     ·rw[if_neg h]
      have:(kind==2)=false:=by simpa using h
      simp[this,h]
    ·rw[if_neg e2,if_neg e2,if_neg e1,plus_get,if_neg e2]) (fun c o hc hw=>by
  obtain⟨q1,q2⟩:=hPf c o hc hw
  exact hfr c o q1 q2)
 rw[hmr]at this
 exact this
theorem s_rfMkdir (hI:Wk.Inv A) (hB:Bd N A) (hN:N<=100000000) {D:Nat->Prop} (hA:RfAt σ b A D) (cwd path:ByteArray) {K:KH}
 (hK:∀σ' D',RfAt σ' b (A.mkdirF cwd path).2 D'->Sep σ D σ' D'->K (.int .i64 (A.mkdirF cwd path).1) σ') :
 callW Tryz.prog 37 [.pointer (some ⟨b,0,none⟩),.string cwd,.string path] K σ:=by
 obtain⟨M,hM,hD⟩:=hA
 refine c37 _ _ _ ?_
 unfold g37
 refine call_i (s_rfGo hI hB (by omega) hM cwd path false ?_)
 intro σ1 g1
 have hpl:=fun e=>locate_place hI cwd path false e
 have hmk:A.mkdirF cwd path=(let r:=A.locate cwd path false
  if r.1≠0 then(r.1,A)else if r.2.there=true then(6,A)else if(A.deep 13 r.2.dir).getD 0>=12 then(3,A)else let m:=A.makeR r.2.dir r.2.name 2 493 ⟨⟨[]⟩⟩;(m.2.1,m.2.2)):=by
  unfold AT.mkdirF AT.freshP
  simp only
  by_cases h:(A.locate cwd path false).1=0
  ·simp only[h,ne_eq,not_true_eq_false,if_false]
   cases h2:(A.locate cwd path false).2.there<;>simp
  ·simp[h]
 generalize A.locate cwd path false=r at hpl hmk ⊢
 obtain⟨e,p⟩:=r
 simp only at hmk
 have same : ∀ (τ:H) (x:Int),A.mkdirF cwd path=(x,A)->Gr σ τ->K (.int .i64 x) τ:=by
  intro τ x hx hg
  rw[hx]at hK
  exact hK τ D ⟨M,hM.gr hg,hD⟩ (Sep.gr hg)
 unfold plL
 by_cases he:e=0
 case neg =>
  rw[if_neg he]
  unfold plZ
  (refine app_of rfl ?_;try dsimp only)
  refine al_i ?_;intro b8 σ2 g2 e2 n2
  refine st_i2 e2 sz_RPlace (by rfl) (by rfl) ?_;intro σ3 p3
  refine br_t (by simpa using he) (same σ3 e (by rw[hmk,if_pos he]) (g1.trans (g2.putF p3 n2)))
 subst he
 rw[if_pos rfl]
 rw[if_neg (by decide)]at hmk
 unfold plV
 (refine app_of rfl ?_;try dsimp only)
 refine al_i ?_;intro b8 σ2 g2 e2 n2
 refine st_i2 e2 sz_RPlace (by rfl) (by rfl) ?_;intro σ3 p3
 have hg3:Gr σ σ3:=g1.trans (g2.putF p3 n2)
 have k8:σ3 b8=some (.cells ⟨[.int .i64 (p.dir - 1),.string p.name,.int .i64 (if p.there then p.ino - 1 else -1)]⟩ 133 (0,0)):=p3.same
 have hM3:=hM.gr hg3
 have hP:PlOk A p:=hpl rfl
 refine br_f rfl (rd_I (rdC_of k8 (by rfl)) ?_)
 cases ht:p.there with
 | true =>
  obtain⟨n,hn⟩:=PlOk.get hI hP ht
  have hlow:=(hI.low _ _ hn).1
  rw[if_pos ht]at hmk
  refine br_t (by simp;omega) (same σ3 6 hmk hg3)
 | false =>
  rw[if_neg (by rw[ht];decide)]at hmk
  have hdir:A.isDir p.dir:=hP.1
  obtain⟨x,x1,_,x3,x4⟩:=hI.deep13 hdir
  have hd11:p.dir - 1+1=p.dir:=by omega
  refine br_f rfl (rd_I (rdC_of k8 (by rfl)) (call_i (s_rfDeep hM3 hI (d:=p.dir - 1) (by rw[hd11];exact hdir) (by rw[hd11];exact x1) (app_I ?_))))
  rw[x1]at hmk
  simp only[Option.getD_some]at hmk
  by_cases hx:x>=12
  ·rw[if_pos hx]at hmk
   exact br_t (by simpa using hx) (same σ3 3 hmk hg3)
  ·rw[if_neg hx]at hmk
   refine br_f (by simpa using hx) (rd_G (rdA_of' k8 (by rfl)) ?_)
   (refine app_of rfl ?_;try dsimp only)
   obtain⟨nm,fd⟩:=hP.named (hP.notThere ht)
   rw[if_neg (by rw[ht];decide)]at fd
   refine call_i (s_rfMade hI hB hN hM3 (d:=p.dir - 1) (by rw[hd11];exact hdir) nm (by unfold likeE kindOkE;simp[lk,sEq_self]) (by rw[hd11];exact fd) ?_)
   intro σ' M' hR hfr
   rw[hd11]at hR ⊢
   rw[hmk]at hK
   refine app_I (hK σ' (fun c=>M'.w c≠none) ⟨M',hR,fun c=>Iff.rfl⟩ ?_)
   intro c o hc hn
   have hw:M.w c=none:=by
    cases h:M.w c with
    | none=>rfl
    | some r=>exact absurd ((hD c).2 (by rw[h];simp)) hn
   obtain⟨q1,q2⟩:=hfr c o (hg3.get hc) hw
   exact⟨q1,fun h=>h q2⟩
end
section
variable {σ σ' : H} {b : Nat} {A : AT} {M : RfM} {N : Nat}
theorem Sep.of_frame {D:Nat->Prop} {M M':RfM} (hD:∀c,D c↔M.w c≠none) (h:∀c o,σ c=some o->M.w c=none->σ' c=some o/\M'.w c=none):Sep σ D σ' (fun c=>M'.w c≠none):=by
 intro c o hc hn
 have hw:M.w c=none:=by
  cases h:M.w c with
  | none=>rfl
  | some r=>exact absurd ((hD c).2 (by rw[h];simp)) hn
 obtain⟨q1,q2⟩:=h c o hc hw
 exact⟨q1,fun h=>h q2⟩
theorem s_rfWrite (hI:Wk.Inv A) (hB:Bd N A) (hN:N<=100000000) {D:Nat->Prop} (hA:RfAt σ b A D) (cwd path data:ByteArray) (more:Bool) (hz:data.size<=1000000000000000) {K:KH}
 (hK:∀σ' D',RfAt σ' b (A.writeF cwd path data more).2 D'->Sep σ D σ' D'->K (.int .i64 (A.writeF cwd path data more).1) σ') :
 callW Tryz.prog 38 [.pointer (some ⟨b,0,none⟩),.string cwd,.string path,.string data,.bool more] K σ:=by
 obtain⟨M,hM,hD⟩:=hA
 refine c38 _ _ _ _ _ ?_
 unfold g38
 refine call_i (s_rfGo hI hB (by omega) hM cwd path true ?_)
 intro σ1 g1
 have hpl:=fun e=>locate_place hI cwd path true e
 have hnl:=fun e t=>locate_nolink hI cwd path e t
 have hmk:A.writeF cwd path data more=(let r:=A.locate cwd path true
  if r.1≠0 then(r.1,A)else if r.2.there=false then(let m:=A.makeR r.2.dir r.2.name 1 420 data;(m.2.1,m.2.2))else if A.kind r.2.ino=2 then(7,A)else A.writeR r.2.ino (if more then A.data r.2.ino++data else data)):=rfl
 generalize A.locate cwd path true=r at hpl hmk hnl ⊢
 obtain⟨e,p⟩:=r
 simp only at hmk
 have same : ∀ (τ:H) (x:Int),A.writeF cwd path data more=(x,A)->Gr σ τ->K (.int .i64 x) τ:=by
  intro τ x hx hg
  rw[hx]at hK
  exact hK τ D ⟨M,hM.gr hg,hD⟩ (Sep.gr hg)
 unfold plL
 by_cases he:e=0
 case neg =>
  rw[if_neg he]
  unfold plZ
  (refine app_of rfl ?_;try dsimp only)
  refine al_i ?_;intro b8 σ2 g2 e2 n2
  refine st_i2 e2 sz_RPlace (by rfl) (by rfl) ?_;intro σ3 p3
  refine br_t (by simpa using he) (same σ3 e (by rw[hmk,if_pos he]) (g1.trans (g2.putF p3 n2)))
 subst he
 rw[if_pos rfl]
 rw[if_neg (by decide)]at hmk
 unfold plV
 (refine app_of rfl ?_;try dsimp only)
 refine al_i ?_;intro b8 σ2 g2 e2 n2
 refine st_i2 e2 sz_RPlace (by rfl) (by rfl) ?_;intro σ3 p3
 have hg3:Gr σ σ3:=g1.trans (g2.putF p3 n2)
 have k8:σ3 b8=some (.cells ⟨[.int .i64 (p.dir - 1),.string p.name,.int .i64 (if p.there then p.ino - 1 else -1)]⟩ 133 (0,0)):=p3.same
 have hM3:=hM.gr hg3
 have hP:PlOk A p:=hpl rfl
 refine br_f rfl (rd_I (rdC_of k8 (by rfl)) ?_)
 cases ht:p.there with
 | false =>
  rw[if_pos ht]at hmk
  have hdir:A.isDir p.dir:=hP.1
  have hd11:p.dir - 1+1=p.dir:=by omega
  refine br_t rfl (rd_G (rdA_of' k8 (by rfl)) ?_)
  (refine app_of rfl ?_;try dsimp only)
  obtain⟨nm,fd⟩:=hP.named (hP.notThere ht)
  rw[if_neg (by rw[ht];decide)]at fd
  refine call_i (s_rfMade hI hB hN hM3 (d:=p.dir - 1) (by rw[hd11];exact hdir) nm (by unfold likeE kindOkE;simp[lk]) (by rw[hd11];exact fd) ?_)
  intro σ' M' hR hfr
  rw[hd11]at hR ⊢
  rw[hmk]at hK
  refine app_I (hK σ' (fun c=>M'.w c≠none) ⟨M',hR,fun c=>Iff.rfl⟩ (Sep.of_frame hD fun c o hc hw=>hfr c o (hg3.get hc) hw))
 | true =>
  obtain⟨n,hn⟩:=PlOk.get hI hP ht
  have hlow:=(hI.low _ _ hn).1
  have hkn:A.kind p.ino=n.kind:=by unfold AT.kind;rw[hn];rfl
  have hdat:A.data p.ino=n.data:=by unfold AT.data;rw[hn];rfl
  have hnl:=hnl rfl ht
  rw[if_neg (by rw[ht];decide),hkn,hdat]at hmk
  rw[hkn]at hnl
  rw[if_pos ht]at k8
  have h11:p.ino - 1+1=p.ino:=by omega
  obtain⟨gs,os,s1,s2,s3⟩:=hM3.slot hI (d:=p.ino - 1) (n:=n) (by rw[h11];exact hn)
  rw[h11]at s3
  rw[if_pos rfl]
  refine br_f (by simp only[decide_eq_false_iff_not];omega) (ptr_i (rd_L (rdC_of hM3.top (by rfl)) (rd_I (rdC_of k8 (by rfl)) ?_)))
  rw[s1]
  refine ptr_i (if_i s2 (rd_P s3 (ptr_i (rd_I (rdC_of (hM3.nod _ _ hn) (by rfl)) ?_))))
  by_cases hk2:n.kind=2
  ·rw[if_pos hk2]at hmk
   exact br_t (by simpa using hk2) (same σ3 7 hmk hg3)
  rw[if_neg hk2]at hmk
  have hk1:n.kind=1:=by
   rcases kind_cases (hI.like _ _ hn)with h | h | h
   ·exact h
   ·exact absurd h hk2
   ·exact absurd h hnl
  have hsz:=hI.size_le hn
  have hbq:=hI.bq
  refine br_f (by simpa using hk2) ?_
  refine j_i (fun j => ∀s:ByteArray,s=(if more then n.data++data else data)->j (some ⟨b,0,none⟩) s (some ⟨M.cb p.ino,0,none⟩) σ3) ?_ ?_
  case refine_2 =>
   intro j hj
   cases more with
   | true =>
    refine br_t rfl (ptr_i (rd_S (rdC_of (hM3.nod _ _ hn) (by rfl)) (if_i (by omega) (hj _ rfl))))
   | false=>exact br_f rfl (hj _ rfl)
  intro s hs
  rw[<-hs]at hmk
  have hss:s.size<=2000000000000000:=by
   rw[hs]
   cases more with
   | true=>rw[if_pos rfl,ByteArray.size_append];omega
   | false=>rw[if_neg (by decide)];omega
  refine ptr_i (rd_S (rdC_of (hM3.nod _ _ hn) (by rfl)) ?_)
  refine call_i (s_rfRoom hI hB (by omega) hM3 0 _ (app_B ?_))
  have hwe:A.writeE p.ino s=A.roomE 0 (IntKind.i64.wrap (((s.size:Nat):Int) - ((n.data.size:Nat):Int))):=by
   have hfe:A.fileE p.ino=0:=by unfold AT.fileE;rw[hn];simp[hk1]
   unfold AT.writeE
   rw[hn]
   simp only[firstE,hfe,if_true,Option.map_some,Option.getD_some]
   show(if A.roomE 0 (wr (((s.size:Nat):Int) - ((n.data.size:Nat):Int)))=0 then 0 else A.roomE 0 (wr (((s.size:Nat):Int) - ((n.data.size:Nat):Int))))=_
   by_cases h:A.roomE 0 (wr (((s.size:Nat):Int) - ((n.data.size:Nat):Int)))=0
   ·rw[if_pos h];exact h.symm
   ·rw[if_neg h];rfl
  by_cases hr:A.roomE 0 (IntKind.i64.wrap (((s.size:Nat):Int) - ((n.data.size:Nat):Int)))=0
  case neg =>
   have h10:A.roomE 0 (IntKind.i64.wrap (((s.size:Nat):Int) - ((n.data.size:Nat):Int)))=10:=by
    unfold AT.roomE at hr ⊢
    split at hr
    ·exact absurd rfl hr
    ·rename_i h;rw[if_neg h]
   refine br_t (by simp[h10]) (same σ3 10 ?_ hg3)
   rw[hmk];unfold AT.writeR
   rw[if_neg (by rw[hwe];exact hr),hwe,h10]
  ·refine br_f (by simp[hr]) (ptr_i ?_)
   refine st_i2 (hM3.nod _ _ hn) sz_string (by rfl) (by rfl) ?_;intro σ4 p4
   have p4':Put σ3 (M.cb p.ino) (nodeO { n with data:=s } (M.ey p.ino)) σ4:=p4
   have hlow2 : ∀i n,A.get i=some n->1<=i:=fun i n hn=>(hI.low i n hn).1
   have hM4:=hM3.setN hlow2 hn (n':={ n with data:=s }) (y':=M.ey p.ino) p4' (show RowsOwn σ3 165 2 (eRow n.ents) _ from hM3.ent _ _ hn) (fun g hg => .inr (hM3.we _ _ g hn hg))
   have hw0:A.writeF cwd path data more=(0,A.written p.ino s):=by
    rw[hmk];unfold AT.writeR;rw[if_pos (by rw[hwe];exact hr)]
   rw[hw0]at hK
   refine hK σ4 (fun c=>(M.setE p.ino (M.ey p.ino)).w c≠none) ⟨_,hM4.congr ?_ ?_ ?_ ?_,fun c=>Iff.rfl⟩ (Sep.of_frame hD fun c o hc hw => ?_)
   ·unfold AT.written;rw[hn]
   ·unfold AT.written;rw[hn]
   ·unfold AT.written;rw[hn]
   ·intro j;unfold AT.written;rw[hn];rfl
   ·have hcb:c≠M.cb p.ino:=fun e=>by rw[e,hM.wn _ _ hn]at hw;cases hw
    refine⟨p4'.get hcb (hg3.get hc),?_⟩
    show(if(M.ey p.ino).base=some ⟨c,0,none⟩then some (p.ino,true)else M.w c)=none
    rw[if_neg (fun e=>by rw[hM.we _ _ c hn e]at hw;cases hw)];exact hw
end
section
variable {σ σ' : H} {b : Nat} {A : AT} {M : RfM} {N : Nat}
theorem s_rfThere (hI:Wk.Inv A) (hB:Bd N A) (hN:N<=1000000000000) (hM:RfIn σ b A M) (cwd path:ByteArray) (fo:Bool) {K:KH}
 (hK:∀σ',Gr σ σ'->K (.tuple ⟨[.int .i64 (if(A.with_ cwd path fo).1=0 then(A.with_ cwd path fo).2.1 - 1 else 0),.int .i64 (A.with_ cwd path fo).1]⟩) σ') :
 callW Tryz.prog 96 [.pointer (some ⟨b,0,none⟩),.string cwd,.string path,.bool fo] K σ:=by
 refine c96 _ _ _ _ ?_
 unfold g96
 refine call_i (s_rfGo hI hB hN hM cwd path fo ?_)
 intro σ1 g1
 have hpl:=fun e=>locate_place hI cwd path fo e
 have hmk:A.with_ cwd path fo=(let r:=A.locate cwd path fo
  if r.1≠0 then(r.1,0,IN.z)else if r.2.there=false then(5,0,IN.z)else match A.get r.2.ino with
   | none=>(5,0,IN.z)
   | some n=>(0,r.2.ino,n.inode)):=rfl
 generalize A.locate cwd path fo=r at hpl hmk ⊢
 obtain⟨e,p⟩:=r
 simp only at hmk
 unfold plL
 by_cases he:e=0
 case neg =>
  rw[if_neg he]
  rw[if_pos he]at hmk
  unfold plZ
  (refine app_of rfl ?_;try dsimp only)
  refine al_i ?_;intro b8 σ2 g2 e2 n2
  refine st_i2 e2 sz_RPlace (by rfl) (by rfl) ?_;intro σ3 p3
  have hg3:Gr σ σ3:=g1.trans (g2.putF p3 n2)
  refine j_i (fun j=>j (some ⟨b8,0,none⟩) e false σ3) ?_ (fun j hj=>br_f (by simpa using he) hj)
  refine br_f rfl (ptr_i (rd_I (rdC_of p3.same (by rfl)) ?_))
  have:=hK σ3 hg3
  rw[hmk]at this
  simp only[he,if_false]at this
  exact this
 subst he
 rw[if_pos rfl]
 rw[if_neg (by decide)]at hmk
 unfold plV
 (refine app_of rfl ?_;try dsimp only)
 refine al_i ?_;intro b8 σ2 g2 e2 n2
 refine st_i2 e2 sz_RPlace (by rfl) (by rfl) ?_;intro σ3 p3
 have hg3:Gr σ σ3:=g1.trans (g2.putF p3 n2)
 have k8:σ3 b8=some (.cells ⟨[.int .i64 (p.dir - 1),.string p.name,.int .i64 (if p.there then p.ino - 1 else -1)]⟩ 133 (0,0)):=p3.same
 have hP:PlOk A p:=hpl rfl
 have:=hK σ3 hg3
 cases ht:p.there with
 | false =>
  rw[if_pos ht]at hmk
  rw[hmk]at this
  rw[if_neg (by rw[ht];decide)]at k8
  refine j_i (fun j=>j (some ⟨b8,0,none⟩) 0 true σ3) (br_t rfl this) ?_
  intro j hj
  refine br_t rfl (rd_I (rdC_of k8 (by rfl)) ?_)
  exact hj
 | true =>
  obtain⟨n,hn⟩:=PlOk.get hI hP ht
  have hlow:=(hI.low _ _ hn).1
  rw[if_neg (by rw[ht];decide),hn]at hmk
  rw[hmk]at this
  rw[if_pos ht]at k8
  refine j_i (fun j=>j (some ⟨b8,0,none⟩) 0 false σ3) ?_ (fun j hj=>br_t rfl (rd_I (rdC_of k8 (by rfl)) ?_))
  ·exact br_f rfl (ptr_i (rd_I (rdC_of k8 (by rfl)) this))
  ·have:decide (p.ino - 1<0)=false:=by simp only[decide_eq_false_iff_not];omega
   rw[this];exact hj
theorem s_rfChmod (hI:Wk.Inv A) (hB:Bd N A) (hN:N<=100000000) {D:Nat->Prop} (hA:RfAt σ b A D) (cwd path:ByteArray) (mode:Int) {K:KH}
 (hK:∀σ' D',RfAt σ' b (A.chmodF cwd path mode).2 D'->Sep σ D σ' D'->K (.int .i64 (A.chmodF cwd path mode).1) σ') :
 callW Tryz.prog 40 [.pointer (some ⟨b,0,none⟩),.string cwd,.string path,.int .i64 mode] K σ:=by
 obtain⟨M,hM,hD⟩:=hA
 refine c40 _ _ _ _ ?_
 unfold g40
 have same : ∀ (τ:H) (x:Int),A.chmodF cwd path mode=(x,A)->Gr σ τ->K (.int .i64 x) τ:=by
  intro τ x hx hg
  rw[hx]at hK
  exact hK τ D ⟨M,hM.gr hg,hD⟩ (Sep.gr hg)
 refine j_i (fun j=>j (some ⟨b,0,none⟩) cwd path mode (decide (mode<0\/mode>511)) σ) ?_ ?_
 case refine_2 =>
  intro j hj
  by_cases c1:mode<0
  ·refine br_t (by simpa using c1) ?_
   have:decide (mode<0\/mode>511)=true:=by simp[c1]
   rw[this]at hj;exact hj
  ·refine br_f (by simpa using c1) ?_
   have:decide (mode<0\/mode>511)=decide (mode>511):=by simp[c1]
   rw[this]at hj;exact hj
 by_cases hm:mode<0\/mode>511
 ·refine br_t (by simpa using hm) (same σ 2 (by unfold AT.chmodF;rw[if_pos hm]) (Gr.refl _))
 refine br_f (by simpa using hm) (call_i (s_rfThere hI hB (by omega) hM cwd path true ?_))
 intro σ1 g1
 have hmk:A.chmodF cwd path mode=(if(A.with_ cwd path true).1≠0 then((A.with_ cwd path true).1,A)else A.chmodR (A.with_ cwd path true).2.1 mode):=by
  unfold AT.chmodF;rw[if_neg hm]
 have hw:(A.with_ cwd path true).1=0 -> ∃n,A.get (A.with_ cwd path true).2.1=some n:=by
  unfold AT.with_
  simp only
  intro h
  split at h
  ·rename_i h2;exact absurd h h2
  ·rename_i h2
   rw[if_neg h2]
   split at h
   ·cases h
   ·rename_i h3
    rw[if_neg h3]
    cases hg:A.get (A.locate cwd path true).2.ino with
    | none=>rw[hg]at h;cases h
    | some n=>exact⟨n,hg⟩
 generalize A.with_ cwd path true=w at hmk hw ⊢
 obtain⟨e,ino,x⟩:=w
 simp only at hmk hw
 by_cases he:e=0
 case neg =>
  (refine app_of rfl ?_;try dsimp only)
  refine j_i (fun j=>j e σ1) ?_ (fun j hj=>br_f (by simpa using he) hj)
  exact same σ1 e (by rw[hmk,if_pos he]) g1
 subst he
 obtain⟨n,hn⟩:=hw rfl
 rw[if_neg (by decide)]at hmk
 rw[if_pos rfl]
 (refine app_of rfl ?_;try dsimp only)
 have hlow:=(hI.low _ _ hn).1
 have h11:ino - 1+1=ino:=by omega
 have hM1:=hM.gr g1
 have hc:A.chmodF cwd path mode=(0,A.chmoded ino mode):=by
  rw[hmk];unfold AT.chmodR AT.chmodE
  rw[if_pos (show 0<=mode/\mode<=511 by omega),hn];rfl
 refine j_i (fun j => ∀τ M',RfIn τ b (A.chmoded ino mode) M'->(∀c o,σ c=some o->M.w c=none->τ c=some o/\M'.w c=none)->j 0 τ) ?_ ?_
 ·intro τ M' h1 h2
  rw[hc]at hK
  exact hK τ (fun c=>M'.w c≠none) ⟨M',h1,fun c=>Iff.rfl⟩ (Sep.of_frame hD h2)
 intro j hj
 refine br_t rfl (rf_at hM1 hI (d:=ino - 1) (n:=n) (by rw[h11];exact hn) ?_)
 rw[h11]
 refine st_i2 (hM1.nod _ _ hn) sz_int (by rfl) (by rfl) ?_;intro σ4 p4
 have p4':Put σ1 (M.cb ino) (nodeO { n with mode:=mode } (M.ey ino)) σ4:=p4
 have hM4:=hM1.setN (fun i n hn=>(hI.low i n hn).1) hn (n':={ n with mode:=mode }) (y':=M.ey ino) p4' (show RowsOwn σ1 165 2 (eRow n.ents) _ from hM1.ent _ _ hn) (fun g hg => .inr (hM1.we _ _ g hn hg))
 have hch:A.chmoded ino mode=A.set ino { n with mode:=mode }:=by unfold AT.chmoded AT.mod;rw[hn]
 rw[hch]at hj
 refine hj σ4 _ hM4 fun c o hc hw => ?_
 have hcb:c≠M.cb ino:=fun e=>by rw[e,hM.wn _ _ hn]at hw;cases hw
 refine⟨p4'.get hcb (g1.get hc),?_⟩
 show(if(M.ey ino).base=some ⟨c,0,none⟩then some (ino,true)else M.w c)=none
 rw[if_neg (fun e=>by rw[hM.we _ _ c hn e]at hw;cases hw)];exact hw
theorem s_rfSymlink (hI:Wk.Inv A) (hB:Bd N A) (hN:N<=100000000) {D:Nat->Prop} (hA:RfAt σ b A D) (cwd target path:ByteArray) (hz:target.size<=1000000000000) {K:KH}
 (hK:∀σ' D',RfAt σ' b (A.symlinkF cwd target path).2 D'->Sep σ D σ' D'->K (.int .i64 (A.symlinkF cwd target path).1) σ') :
 callW Tryz.prog 41 [.pointer (some ⟨b,0,none⟩),.string cwd,.string target,.string path] K σ:=by
 obtain⟨M,hM,hD⟩:=hA
 refine c41 _ _ _ _ ?_
 unfold g41
 have same : ∀ (τ:H) (x:Int),A.symlinkF cwd target path=(x,A)->Gr σ τ->K (.int .i64 x) τ:=by
  intro τ x hx hg
  rw[hx]at hK
  exact hK τ D ⟨M,hM.gr hg,hD⟩ (Sep.gr hg)
 have hlen:target.data.toList.length=target.size:=(size_list target).symm
 refine loop_i ?_
 intro R hR
 have key : ∀ (c i:Nat),c+i=target.size->(0:UInt8)∉target.data.toList.take i->R (some ⟨b,0,none⟩) cwd target path (i:Int) σ:=by
  intro c
  induction c with
  | succ c ihc =>
   intro i hc hno
   refine hR _ _ _ _ _ _ ?_
   obtain⟨ch,hch⟩ : ∃ch,target.data.toList[i]? = some ch:=⟨_,List.getElem?_eq_getElem (by omega)⟩
   refine br_t (by simp only[decide_eq_true_eq];omega) (idx_l (c:=ch) (by omega) (by simpa using hch) ?_)
   by_cases hc0:ch=0
   ·subst hc0
    have hnul:hasNul target=true:=by
     unfold hasNul
     rw[List.any_eq_true]
     exact⟨0,List.mem_of_getElem? hch,by decide⟩
    refine br_t rfl (same σ 2 ?_ (Gr.refl _))
    unfold AT.symlinkF
    rw[if_pos (by unfold linkOk;rw[hnul];simp)]
   ·refine br_f ?_ ?_
    ·have : ¬ ((ch.toNat : Int) = 0) := by
      intro e;apply hc0
      have:ch.toNat=0:=by omega
      exact UInt8.toNat_inj.1 this
     simpa using this
    ·rw[wrap_id (x:=(i:Int)+1) (by omega) (by omega)]
     refine ihc (i+1) (by omega) ?_
     rw[List.take_add_one,hch]
     simp only[Option.toList_some,List.mem_append,List.mem_singleton,not_or]
     exact⟨hno,fun e=>hc0 e.symm⟩
  | zero =>
   intro i hc hno
   have hi:i=target.size:=by omega
   have hnul:hasNul target=false:=by
    rw[hi,<- hlen,List.take_length]at hno
    unfold hasNul
    rw[List.any_eq_false]
    intro x hx
    simp only[beq_iff_eq]
    rintro rfl;exact hno hx
   refine hR _ _ _ _ _ _ ?_
   refine br_f (by simp only[decide_eq_false_iff_not];omega) ?_
   have hlk:linkOk target = !(decide (target.size<1\/target.size>255)):=by
    unfold linkOk
    rw[hnul]
    cases h0:sEq target ⟨⟨[]⟩⟩ with
    | true =>
     have:target.size=0:=by rw[sEq_iff.1 h0];rfl
     simp[this]
    | false =>
     have:target.size≠0:=by
      intro e
      have:target=⟨⟨[]⟩⟩:=bytes_ext (List.length_eq_zero_iff.1 (by rw[hlen,e]))
      rw[this]at h0;exact absurd h0 (by decide)
     by_cases h2:target.size>255
     ·simp[h2]
     ·have h3:target.size<=255:=by omega
      have h4 : ¬ (target.size<1\/target.size>255):=by omega
      have e1:decide (target.size<=255)=true:=by simpa using h3
      have e2:decide (target.size<1\/target.size>255)=false:=by simp only[decide_eq_false_iff_not];exact h4
      rw[e1,e2];rfl
   refine j_i (fun j=>j (some ⟨b,0,none⟩) cwd target path (!linkOk target) σ) ?_ ?_
   case refine_2 =>
    intro j hj
    rw[hlk,Bool.not_not]at hj
    by_cases c1:target.size<1
    ·refine br_t (by simp only[decide_eq_true_eq];omega) ?_
     have:decide (target.size<1\/target.size>255)=true:=by simp[c1]
     rw[this]at hj;exact hj
    ·refine br_f (by simp only[decide_eq_false_iff_not];omega) ?_
     have:decide (target.size<1\/target.size>255)=decide ((((target.size:Nat):Int))>255):=by
      by_cases h2:target.size>255
      ·have:((target.size:Nat):Int)>255:=by omega
       simp[h2,this]
      ·have h3 : ¬ ((target.size:Nat):Int)>255:=by omega
       have h4 : ¬ (target.size<1\/target.size>255):=by omega
       simp only[h3,h4]
     rw[this]at hj;exact hj
   cases hl:linkOk target with
   | false=>exact br_t rfl (same σ 2 (by unfold AT.symlinkF;rw[if_pos hl]) (Gr.refl _))
   | true =>
    refine br_f rfl (call_i (s_rfGo hI hB (by omega) hM cwd path false ?_))
    intro σ1 g1
    have hpl:=fun e=>locate_place hI cwd path false e
    have hmk:A.symlinkF cwd target path=(let r:=A.locate cwd path false
     if r.1≠0 then(r.1,A)else if r.2.there=true then(6,A)else let m:=A.makeR r.2.dir r.2.name 3 511 target;(m.2.1,m.2.2)):=by
     unfold AT.symlinkF AT.freshP
     rw[if_neg (by rw[hl];decide)]
     simp only
     by_cases h:(A.locate cwd path false).1=0
     ·simp only[h,ne_eq,not_true_eq_false,if_false]
      cases h2:(A.locate cwd path false).2.there<;>simp
     ·simp[h]
    generalize A.locate cwd path false=r at hpl hmk ⊢
    obtain⟨e,p⟩:=r
    simp only at hmk
    unfold plL
    by_cases he:e=0
    case neg =>
     rw[if_neg he]
     unfold plZ
     (refine app_of rfl ?_;try dsimp only)
     refine al_i ?_;intro b8 σ2 g2 e2 n2
     refine st_i2 e2 sz_RPlace (by rfl) (by rfl) ?_;intro σ3 p3
     refine br_t (by simpa using he) (same σ3 e (by rw[hmk,if_pos he]) (g1.trans (g2.putF p3 n2)))
    subst he
    rw[if_pos rfl]
    rw[if_neg (by decide)]at hmk
    unfold plV
    (refine app_of rfl ?_;try dsimp only)
    refine al_i ?_;intro b8 σ2 g2 e2 n2
    refine st_i2 e2 sz_RPlace (by rfl) (by rfl) ?_;intro σ3 p3
    have hg3:Gr σ σ3:=g1.trans (g2.putF p3 n2)
    have k8:σ3 b8=some (.cells ⟨[.int .i64 (p.dir - 1),.string p.name,.int .i64 (if p.there then p.ino - 1 else -1)]⟩ 133 (0,0)):=p3.same
    have hM3:=hM.gr hg3
    have hP:PlOk A p:=hpl rfl
    refine br_f rfl (rd_I (rdC_of k8 (by rfl)) ?_)
    cases ht:p.there with
    | true =>
     obtain⟨n,hn⟩:=PlOk.get hI hP ht
     have hlow:=(hI.low _ _ hn).1
     rw[if_pos ht]at hmk
     exact br_t (by simp;omega) (same σ3 6 hmk hg3)
    | false =>
     rw[if_neg (by rw[ht];decide)]at hmk
     have hdir:A.isDir p.dir:=hP.1
     have hd11:p.dir - 1+1=p.dir:=by omega
     refine br_f rfl (rd_G (rdA_of' k8 (by rfl)) ?_)
     (refine app_of rfl ?_;try dsimp only)
     obtain⟨nm,fd⟩:=hP.named (hP.notThere ht)
     rw[if_neg (by rw[ht];decide)]at fd
     refine call_i (s_rfMade hI hB hN hM3 (d:=p.dir - 1) (by rw[hd11];exact hdir) nm (by unfold likeE kindOkE;simp[lk,hl]) (by rw[hd11];exact fd) ?_)
     intro σ' M' hR hfr
     rw[hd11]at hR ⊢
     rw[hmk]at hK
     exact app_I (hK σ' (fun c=>M'.w c≠none) ⟨M',hR,fun c=>Iff.rfl⟩ (Sep.of_frame hD fun c o hc hw=>hfr c o (hg3.get hc) hw))
 exact key target.size 0 (by omega) (by simp)
end
end Go.Proofs.YtbdlkofldmhoaaaGreatDoor

set_option maxRecDepth 100000
namespace Go.Wk
open Go Go.HL
def wCp:List ByteArray:=[⟨⟨[45,114]⟩⟩,⟨⟨[100]⟩⟩,⟨⟨[101]⟩⟩]
def wLs:List ByteArray:=[⟨⟨[101]⟩⟩]
def wRm:List ByteArray:=[⟨⟨[45,114]⟩⟩,⟨⟨[101]⟩⟩]
def wq0:AT:=bgT 30 100
def wq1:AT:=(callP wq0 ⟨⟨[99,112]⟩⟩ wCp).2
def wq2:AT:=(callP wq1 ⟨⟨[108,115]⟩⟩ wLs).2
def wq3:AT:=(callP wq2 ⟨⟨[114,109]⟩⟩ wRm).2
theorem wq_cp:(callP wq0 ⟨⟨[99,112]⟩⟩ wCp).1=⟨⟨[48]⟩⟩:=sEq_iff.1 (by decide +kernel)
theorem wq_ls:(callP wq1 ⟨⟨[108,115]⟩⟩ wLs).1=⟨⟨[48,102,10,115,10]⟩⟩:=sEq_iff.1 (by decide +kernel)
theorem wq_rm:(callP wq2 ⟨⟨[114,109]⟩⟩ wRm).1=⟨⟨[48]⟩⟩:=sEq_iff.1 (by decide +kernel)
theorem wq_st:(wq3.stat ⟨⟨[47]⟩⟩ ⟨⟨[101]⟩⟩ true).1=5:=by decide +kernel
end Go.Wk

set_option maxRecDepth 100000
namespace Go.Proofs.YtbdlkofldmhoaaaGreatDoor
open Go Go.HL Go.Wk
attribute [local irreducible] ptrW ifW brW andW rdT alW letJ stW muW biW vaW imW callT cvalT app callW invW callVW sizeT oW nilF oneK loopW rfW funW begW roundK exW idxW Gr Put
theorem grx_sub {ρ σ σ' τ':H} (h1:Gr τ' σ') (h3:∀b o,ρ b=none->σ b=some o->σ' b=some o) {θ:H} (hg:Gr θ σ) (hd:∀b,θ b≠none->ρ b=none):Gr θ σ':=gr_of fun b o hb=>h3 b o (hd b (by rw[hb];simp)) (hg.get hb)
def Two (A:AT) (bf br:Nat) (σ τ:H):Prop := ∃ρF ρR B D,FsAt ρF bf A B/\RfAt ρR br A D/\Gr ρF τ/\Gr ρR τ/\Gr σ τ/\(∀b,σ b≠none->ρF b=none)/\(∀b,σ b≠none->ρR b=none)/\(∀b,ρF b≠none->ρR b=none)
theorem nn_gr {σ τ:H} (h:Gr σ τ) {b:Nat} (hb:σ b≠none):τ b≠none:=by
 cases hs:σ b with
 | none=>exact absurd hs hb
 | some o=>rw[h.get hs];simp
section
variable {σ τ : H} {bf br : Nat} {A A' : AT}
theorem two_op {f g:FuncId} {as_ cs:List Value} {e:Int} (h:Two A bf br σ τ)
 (hf:∀ (K':KH) ρ B,FsAt ρ bf A B->(∀σ' B',FsAt σ' bf A' B'->K' (.int .i64 e) σ')->callW Tryz.prog f as_ K' ρ)
 (hg:∀ (K':KH) ρ D,RfAt ρ br A D->(∀σ' D',RfAt σ' br A' D'->K' (.int .i64 e) σ')->callW Tryz.prog g cs K' ρ)
 {G:H->Prop} (hG:∀τ',Two A' bf br σ τ'->G τ'):callT Tryz.prog f as_ (.one (.sc (.int .i64))) (fun(_:Int)=>callT Tryz.prog g cs (.one (.sc (.int .i64))) (fun(_:Int)=>G)) τ:=by
 obtain⟨ρF,ρR,B,D,hF,hR,gF,gR,gσ,dF,dR,dFR⟩:=h
 refine call_from gF (hf (fun v τ' => ∃B',v = .int .i64 e/\FsAt τ' bf A' B') ρF B hF fun σ' B' h1=>⟨B',rfl,h1⟩) ?_
 rintro v σ5 ρF5 ⟨B5,rfl,F5⟩ f1 f2 f3
 have gR5:Gr ρR σ5:=grx_sub f1 f2 gR (fun b hb=>by
  cases h:ρF b with
  | none=>rfl
  | some o=>exact absurd (dFR b (by rw[h];simp)) hb)
 have gσ5:Gr σ σ5:=grx_sub f1 f2 gσ dF
 have dF5 : ∀b,σ b≠none->ρF5 b=none:=fun b hb=>f3 b (nn_gr gσ hb) (dF b hb)
 have dFR5 : ∀b,ρF5 b≠none->ρR b=none:=fun b hb=>by
  cases h:ρR b with
  | none=>rfl
  | some o =>
   refine absurd (f3 b (by rw[gR.get h];simp) ?_) hb
   cases h2:ρF b with
   | none=>rfl
   | some o2=>have:=dFR b (by rw[h2];simp);rw[h]at this;cases this
 refine app_I (call_from gR5 (hg (fun v τ' => ∃B',v = .int .i64 e/\RfAt τ' br A' B') ρR D hR fun σ' B' h1=>⟨B',rfl,h1⟩) ?_)
 rintro v σ6 ρR6 ⟨D6,rfl,R6⟩ h1 h2 h3
 refine app_I (hG σ6 ⟨ρF5,ρR6,B5,D6,F5,R6,grx_sub h1 h2 f1 dFR5,h1,grx_sub h1 h2 gσ5 dR,dF5,?_,?_⟩)
 ·intro b hb
  exact h3 b (nn_gr gσ5 hb) (dR b hb)
 ·intro b hb
  exact h3 b (nn_gr f1 hb) (dFR5 b hb)
theorem two_mkdir {N:Nat} (h:Two A bf br σ τ) (hI:Inv A) (hB:Bd N A) (hN:N<=100000000) (cwd path:ByteArray) {G:H->Prop} (hG:∀τ',Two (A.mkdirF cwd path).2 bf br σ τ'->G τ') :
 callT Tryz.prog 9 [.pointer (some ⟨bf,0,none⟩),.string cwd,.string path] (.one (.sc (.int .i64))) (fun(_:Int)=>callT Tryz.prog 37 [.pointer (some ⟨br,0,none⟩),.string cwd,.string path] (.one (.sc (.int .i64))) (fun(_:Int)=>G)) τ :=
 two_op h (fun K' ρ B hF hk=>s_Mkdir hI hB (by omega) hF cwd path fun σ' B' h1 _=>hk σ' B' h1) (fun K' ρ D hR hk=>s_rfMkdir hI hB hN hR cwd path fun σ' B' h1 _=>hk σ' B' h1) hG
theorem two_write {N:Nat} (h:Two A bf br σ τ) (hI:Inv A) (hB:Bd N A) (hN:N<=100000000) (cwd path data:ByteArray) (more:Bool) (hd:data.size<=1000) {G:H->Prop} (hG:∀τ',Two (A.writeF cwd path data more).2 bf br σ τ'->G τ') :
 callT Tryz.prog 10 [.pointer (some ⟨bf,0,none⟩),.string cwd,.string path,.string data,.bool more] (.one (.sc (.int .i64))) (fun(_:Int)=>callT Tryz.prog 38 [.pointer (some ⟨br,0,none⟩),.string cwd,.string path,.string data,.bool more] (.one (.sc (.int .i64))) (fun(_:Int)=>G)) τ :=
 two_op h (fun K' ρ B hF hk=>s_Write hI hB (by omega) hF cwd path data more (by omega) fun σ' B' h1 _=>hk σ' B' h1) (fun K' ρ D hR hk=>s_rfWrite hI hB hN hR cwd path data more (by omega) fun σ' B' h1 _=>hk σ' B' h1) hG
theorem two_chmod {N:Nat} (h:Two A bf br σ τ) (hI:Inv A) (hB:Bd N A) (hN:N<=100000000) (cwd path:ByteArray) (mode:Int) {G:H->Prop} (hG:∀τ',Two (A.chmodF cwd path mode).2 bf br σ τ'->G τ') :
 callT Tryz.prog 39 [.pointer (some ⟨bf,0,none⟩),.string cwd,.string path,.int .i64 mode] (.one (.sc (.int .i64))) (fun(_:Int)=>callT Tryz.prog 40 [.pointer (some ⟨br,0,none⟩),.string cwd,.string path,.int .i64 mode] (.one (.sc (.int .i64))) (fun(_:Int)=>G)) τ :=
 two_op h (fun K' ρ B hF hk=>s_Chmod hF cwd path mode fun σ' B' h1 _=>hk σ' B' h1) (fun K' ρ D hR hk=>s_rfChmod hI hB hN hR cwd path mode fun σ' B' h1 _=>hk σ' B' h1) hG
theorem two_symlink {N:Nat} (h:Two A bf br σ τ) (hI:Inv A) (hB:Bd N A) (hN:N<=100000000) (cwd target path:ByteArray) (hd:target.size<=1000) {G:H->Prop} (hG:∀τ',Two (A.symlinkF cwd target path).2 bf br σ τ'->G τ') :
 callT Tryz.prog 11 [.pointer (some ⟨bf,0,none⟩),.string cwd,.string target,.string path] (.one (.sc (.int .i64))) (fun(_:Int)=>callT Tryz.prog 41 [.pointer (some ⟨br,0,none⟩),.string cwd,.string target,.string path] (.one (.sc (.int .i64))) (fun(_:Int)=>G)) τ :=
 two_op h (fun K' ρ B hF hk=>s_Symlink hI hB (by omega) hF cwd target path fun σ' B' h1 _=>hk σ' B' h1) (fun K' ρ D hR hk=>s_rfSymlink hI hB hN hR cwd target path (by omega) fun σ' B' h1 _=>hk σ' B' h1) hG
end
theorem bg_chain {qi qb:Int} (hq:newOk qi qb=true):Inv (bgT qi qb)/\Bd 8 (bgT qi qb):=by
 obtain⟨i0,d0⟩:=newT_ok hq
 have o1:=mkdirF_ok i0 d0 (by decide) ⟨⟨[47]⟩⟩ ⟨⟨[100]⟩⟩
 have o2:=mkdirF_ok o1.inv o1.bd (by decide) ⟨⟨[47]⟩⟩ ⟨⟨[100,47,115]⟩⟩
 have o3:=writeF_ok o2.inv o2.bd (by decide) ⟨⟨[47]⟩⟩ ⟨⟨[100,47,102]⟩⟩ ⟨⟨[104,105]⟩⟩ false (by decide)
 have o4:=writeF_ok o3.inv o3.bd (by decide) ⟨⟨[47]⟩⟩ ⟨⟨[100,47,115,47,103]⟩⟩ ⟨⟨[114,117,110]⟩⟩ false (by decide)
 have o5:=chmodF_ok o4.inv o4.bd ⟨⟨[47]⟩⟩ ⟨⟨[100,47,115,47,103]⟩⟩ 493
 have o6:=symlinkF_ok o5.inv o5.bd (by decide) ⟨⟨[47]⟩⟩ ⟨⟨[100]⟩⟩ ⟨⟨[108]⟩⟩
 have o7:=symlinkF_ok o6.inv o6.bd (by decide) ⟨⟨[47]⟩⟩ ⟨⟨[110,111,110,101]⟩⟩ ⟨⟨[109]⟩⟩
 exact⟨o7.inv,o7.bd.mono (by decide)⟩
section
variable {σ : H}
theorem s_begun19 {qi qb:Int} (hq:newOk qi qb=true) {K:KH} (hK:∀bf br σ' B',FsAt σ' bf (bgT qi qb) B'->Off σ σ' B'->K (.tuple ⟨[.pointer (some ⟨bf,0,none⟩),.pointer (some ⟨br,0,none⟩)]⟩) σ') :
 callW Tryz.prog 14 [.agg ⟨[.int .i64 qi,.int .i64 qb]⟩] K σ:=by
 refine c14 _ _ ?_
 unfold g14
 refine al_i ?_;intro b2 σ2 g2 k2 n1
 refine rd_G (rdA_of' k2 (by rfl)) ?_
 (refine app_of rfl ?_;try dsimp only)
 refine rd_G (rdA_of' k2 (by rfl)) ?_
 (refine app_of rfl ?_;try dsimp only)
 refine call_from (gr_empty σ2) (s_New qi qb (K:=fun v τ => ∃bf B,v = .pointer (some ⟨bf,0,none⟩)/\FsAt τ bf (newT qi qb) B) (fun h=>by rw[hq]at h;cases h) fun _ bf σ' B' h1 _ _=>⟨bf,B',rfl,h1⟩) ?_
 rintro v σ3 ρF ⟨bf,B,rfl,hF⟩ w1 w2 w3
 have g3:Gr σ2 σ3:=gr_of fun b o hb=>w2 b o rfl hb
 have dF : ∀b,σ2 b≠none->ρF b=none:=fun b hb=>w3 b hb rfl
 refine app_P (and_i (rdA_of' (g3.get k2) (by rfl)) ?_)
 refine call_from (gr_empty σ3) (s_rfNew qi qb (K:=fun v τ => ∃br D,v = .pointer (some ⟨br,0,none⟩)/\RfAt τ br (newT qi qb) D) (fun h=>by rw[hq]at h;cases h) fun _ bf σ' B' h1 _ _=>⟨bf,B',rfl,h1⟩) ?_
 rintro v σ4 ρR ⟨br,D,rfl,hR⟩ y1 y2 y3
 have g4:Gr σ3 σ4:=gr_of fun b o hb=>y2 b o rfl hb
 have dR : ∀b,σ3 b≠none->ρR b=none:=fun b hb=>y3 b hb rfl
 have T0:Two (newT qi qb) bf br σ σ4:=⟨ρF,ρR,B,D,hF,hR,w1.trans g4,y1,(g2.trans g3).trans g4,fun b hb=>dF b (nn_gr g2 hb),fun b hb=>dR b (nn_gr (g2.trans g3) hb),fun b hb=>dR b (nn_gr w1 hb)⟩
 refine app_P ?_
 obtain⟨i0,d0⟩:=newT_ok hq
 refine j_i (fun j=>j (some ⟨bf,0,none⟩) (some ⟨br,0,none⟩) false σ4) ?_ (fun j hj=>br_f rfl hj)
 refine br_f rfl ?_
 have o1:=mkdirF_ok i0 d0 (by decide) ⟨⟨[47]⟩⟩ ⟨⟨[100]⟩⟩
 have o2:=mkdirF_ok o1.inv o1.bd (by decide) ⟨⟨[47]⟩⟩ ⟨⟨[100,47,115]⟩⟩
 have o3:=writeF_ok o2.inv o2.bd (by decide) ⟨⟨[47]⟩⟩ ⟨⟨[100,47,102]⟩⟩ ⟨⟨[104,105]⟩⟩ false (by decide)
 have o4:=writeF_ok o3.inv o3.bd (by decide) ⟨⟨[47]⟩⟩ ⟨⟨[100,47,115,47,103]⟩⟩ ⟨⟨[114,117,110]⟩⟩ false (by decide)
 have o5:=chmodF_ok o4.inv o4.bd ⟨⟨[47]⟩⟩ ⟨⟨[100,47,115,47,103]⟩⟩ 493
 have o6:=symlinkF_ok o5.inv o5.bd (by decide) ⟨⟨[47]⟩⟩ ⟨⟨[100]⟩⟩ ⟨⟨[108]⟩⟩
 refine two_mkdir T0 i0 d0 (by decide) _ _ ?_
 intro τ1 T1
 refine two_mkdir T1 o1.inv o1.bd (by decide) _ _ ?_
 intro τ2 T2
 refine two_write T2 o2.inv o2.bd (by decide) _ _ _ _ (by decide) ?_
 intro τ3 T3
 refine two_write T3 o3.inv o3.bd (by decide) _ _ _ _ (by decide) ?_
 intro τ4 T4
 refine two_chmod T4 o4.inv o4.bd (by decide) _ _ _ ?_
 intro τ5 T5
 refine two_symlink T5 o5.inv o5.bd (by decide) _ _ _ (by decide) ?_
 intro τ6 T6
 refine two_symlink T6 o6.inv o6.bd (by decide) _ _ _ (by decide) ?_
 intro τ7 T7
 obtain⟨ρF,ρR,B,D,hF,hR,gF,gR,gσ,dF,dR,dFR⟩:=T7
 exact hK bf br τ7 B (hF.gr gF) ⟨gσ,fun b o hb=>hF.fresh (dF b (by rw[hb];simp))⟩
theorem strF1 {σ:H} {b:Nat} {s:ByteArray} {ty:TypeId} {fz:Nat×Nat} (h:σ b=some (.cells ⟨[.string s]⟩ ty fz)):RowsAt σ 1 (strRows [s]) ⟨some ⟨b,0,none⟩,1,1⟩ :=
 ⟨rfl,.inr ⟨b,0,_,_,_,rfl,h,fun i p hi=>by
  match i,hi with
  | 0,hi=>cases hi;exact⟨rfl,rfl⟩
  | n+1,hi=>simp[strRows]at hi⟩⟩
theorem strF2 {σ:H} {b:Nat} {s t:ByteArray} {ty:TypeId} {fz:Nat×Nat} (h:σ b=some (.cells ⟨[.string s,.string t]⟩ ty fz)):RowsAt σ 1 (strRows [s,t]) ⟨some ⟨b,0,none⟩,2,2⟩ :=
 ⟨rfl,.inr ⟨b,0,_,_,_,rfl,h,fun i p hi=>by
  match i,hi with
  | 0,hi=>cases hi;exact⟨rfl,rfl⟩
  | 1,hi=>cases hi;exact⟨rfl,rfl⟩
  | n+2,hi=>simp[strRows]at hi⟩⟩
theorem strF3 {σ:H} {b:Nat} {s t u:ByteArray} {ty:TypeId} {fz:Nat×Nat} (h:σ b=some (.cells ⟨[.string s,.string t,.string u]⟩ ty fz)):RowsAt σ 1 (strRows [s,t,u]) ⟨some ⟨b,0,none⟩,3,3⟩ :=
 ⟨rfl,.inr ⟨b,0,_,_,_,rfl,h,fun i p hi=>by
  match i,hi with
  | 0,hi=>cases hi;exact⟨rfl,rfl⟩
  | 1,hi=>cases hi;exact⟨rfl,rfl⟩
  | 2,hi=>cases hi;exact⟨rfl,rfl⟩
  | n+3,hi=>simp[strRows]at hi⟩⟩
theorem s_works19 {K:KH} (hK:K (.bool true) σ):callW Tryz.prog 13 [] K σ:=by
 refine pure_i _ hK (c13 ?_)
 clear hK
 unfold g13
 refine call_i (s_begun19 (qi:=30) (qb:=100) (by decide) ?_)
 intro bf br σ1 B1 F1 O1
 obtain⟨i0,d0⟩:=bg_chain (qi:=30) (qb:=100) (by decide)
 have p0:Pot 8 wq0:=Pot.of i0 d0
 replace F1:FsAt σ1 bf wq0 B1:=F1
 (refine app_of rfl ?_;try dsimp only)
 refine j_i (fun j => ∀σ' B',FsAt σ' bf wq3 B'->Gr σ σ'->j (some ⟨bf,0,none⟩) false σ') ?_ ?_
 ·intro σ2 B2 F2 g2
  refine br_f rfl (call_i (s_Stat F2 _ _ _ ?_))
  unfold inV
  (refine app_of rfl ?_;try dsimp only)
  refine al_i ?_;intro b3 σ3 g3 e3 n3
  refine st_i2 e3 sz_InoF (by rfl) (by rfl) ?_;intro σ4 p4
  have g4:Gr σ2 σ4:=g3.putF p4 n3
  refine call_i (s_fiNone (F2.gr g4) _ _ _ (x:=⟨none,0,0⟩) (by decide +kernel) ?_)
  unfold dnF
  (refine app_of rfl ?_;try dsimp only)
  refine al_i ?_;intro b5 σ5 g5 e5 n5
  refine st_i2 e5 sz_DoneF (by rfl) (by rfl) ?_;intro σ6 p6
  have g6:Gr σ4 σ6:=g5.putF p6 n5
  rw[wq_st]
  exact br_t rfl ⟨rfl,(g2.trans g4).trans g6⟩
 ·intro j hj
  refine br_f rfl ?_
  refine al_i ?_;intro b17 σ2 g2 e2 n2
  have A2:ArgOk (σ.put b17 (.cells ⟨[.string ⟨⟨[45,114]⟩⟩,.string ⟨⟨[100]⟩⟩,.string ⟨⟨[101]⟩⟩]⟩ 9 (0,0))) wCp ⟨some ⟨b17,0,none⟩,3,3⟩:=⟨strF3 (H.put_same _ _ _),Nat.le_refl _,by decide,by decide⟩
  refine call_i (c_cp (A:=wq0) (F1.gr g2) ((O1.gr g2).add e2 (F1.fresh n2)) A2 p0 (by decide) (by rw[show cpN=⟨⟨[99,112]⟩⟩from rfl,wq_cp];decide) ?_)
  rw[show callP wq0 cpN wCp=callP wq0 ⟨⟨[99,112]⟩⟩ wCp from rfl,wq_cp]
  intro σ3 B3 F3 s3 p3
  replace F3:FsAt σ3 bf wq1 B3:=F3
  replace p3:Pot 8 wq1:=p3
  have O3:=(O1.gr g2).sep s3
  refine app_S (br_f (by rw[strEq_iff.2 rfl];rfl) ?_)
  refine al_i ?_;intro b19 σ4 g4 e4 n4
  have A4:ArgOk (σ.put b19 (.cells ⟨[.string ⟨⟨[101]⟩⟩]⟩ 9 (0,0))) wLs ⟨some ⟨b19,0,none⟩,1,1⟩:=⟨strF1 (H.put_same _ _ _),Nat.le_refl _,by decide,by decide⟩
  refine call_i (c_ls (A:=wq1) (F3.gr g4) ((O3.gr g4).add e4 (F3.fresh n4)) A4 ⟨p3.inv,p3.bd'⟩ (by decide) (by rw[show lsN=⟨⟨[108,115]⟩⟩from rfl,wq_ls];decide) ?_)
  rw[show callP wq1 lsN wLs=callP wq1 ⟨⟨[108,115]⟩⟩ wLs from rfl,wq_ls]
  intro σ5 B5 F5 s5 q5
  have q5:wq2=wq1:=q5
  replace F5:FsAt σ5 bf wq2 B5:=F5
  have O5:=(O3.gr g4).sep s5
  refine app_S (br_f (by rw[strEq_iff.2 rfl];rfl) ?_)
  refine al_i ?_;intro b21 σ6 g6 e6 n6
  have A6:ArgOk (σ.put b21 (.cells ⟨[.string ⟨⟨[45,114]⟩⟩,.string ⟨⟨[101]⟩⟩]⟩ 9 (0,0))) wRm ⟨some ⟨b21,0,none⟩,2,2⟩:=⟨strF2 (H.put_same _ _ _),Nat.le_refl _,by decide,by decide⟩
  refine call_i (c_rm (A:=wq2) (N:=8+1048576) (F5.gr g6) ((O5.gr g6).add e6 (F5.fresh n6)) A6 (by rw[q5];exact⟨p3.inv,p3.bd'⟩) (by decide) (by rw[show rmT=⟨⟨[114,109]⟩⟩from rfl,wq_rm];decide) ?_)
  rw[show callP wq2 rmT wRm=callP wq2 ⟨⟨[114,109]⟩⟩ wRm from rfl,wq_rm]
  intro σ7 B7 F7 s7 _
  have O7:=(O5.gr g6).sep s7
  refine app_S ?_
  rw[show strEq (⟨⟨[48]⟩⟩:ByteArray) ⟨⟨[48]⟩⟩=true from strEq_iff.2 rfl]
  exact hj σ7 B7 F7 O7.1
end
end Go.Proofs.YtbdlkofldmhoaaaGreatDoor

set_option maxRecDepth 100000
namespace Go.Wk
open Go Go.HL
end Go.Wk
namespace Go.Wk
open Go Go.HL
end Go.Wk

set_option maxRecDepth 100000
namespace Go.Proofs.YtbdlkofldmhoaaaGreatDoor
open Go Go.HL Go.Wk
attribute [local irreducible] ptrW ifW brW andW rdT alW letJ stW muW biW vaW imW callT cvalT app callW invW callVW sizeT oW nilF oneK loopW rfW funW begW roundK exW idxW Gr Put
theorem strSame (a:ByteArray):(!strEq a a)=false:=by rw[strEq_iff.2 rfl];rfl
end Go.Proofs.YtbdlkofldmhoaaaGreatDoor

set_option maxRecDepth 100000
namespace Go.Wk
open Go Go.HL
def playP:List (ByteArray×ByteArray×List ByteArray)->AT->Bool
 | [],_=>true
 | r::l,A=>let x:=callP A r.2.1 r.2.2;sEq x.1 r.1&&playP l x.2
def kq0:AT:=newT 40 60
def kq1:AT:=(kq0.mkdirF ⟨⟨[47]⟩⟩ ⟨⟨[100]⟩⟩).2
def kq2:AT:=(kq1.writeF ⟨⟨[47]⟩⟩ ⟨⟨[100,47,102]⟩⟩ ⟨⟨[104,105]⟩⟩ false).2
def kq3:AT:=(kq2.symlinkF ⟨⟨[47]⟩⟩ ⟨⟨[100]⟩⟩ ⟨⟨[108]⟩⟩).2
def knownFi:List (ByteArray×ByteArray×List ByteArray):=[
 (⟨⟨[48]⟩⟩,⟨⟨[109,107,100,105,114]⟩⟩,[⟨⟨[45,112]⟩⟩,⟨⟨[97,47,98,47,99]⟩⟩]),
 (⟨⟨[49,109,107,100,105,114,58,32,97,58,32,54,10]⟩⟩,⟨⟨[109,107,100,105,114]⟩⟩,[⟨⟨[97]⟩⟩]),
 (⟨⟨[48]⟩⟩,⟨⟨[99,112]⟩⟩,[⟨⟨[45,114]⟩⟩,⟨⟨[100]⟩⟩,⟨⟨[101]⟩⟩]),
 (⟨⟨[48,102,10]⟩⟩,⟨⟨[108,115]⟩⟩,[⟨⟨[101]⟩⟩]),
 (⟨⟨[49,99,112,58,32,100,58,32,55,10]⟩⟩,⟨⟨[99,112]⟩⟩,[⟨⟨[100]⟩⟩,⟨⟨[120]⟩⟩]),
 (⟨⟨[48]⟩⟩,⟨⟨[99,112]⟩⟩,[⟨⟨[100,47,102]⟩⟩,⟨⟨[103]⟩⟩]),
 (⟨⟨[48,97,10,100,10,101,10,103,10,108,10]⟩⟩,⟨⟨[108,115]⟩⟩,[⟨⟨[45,97]⟩⟩]),
 (⟨⟨[48]⟩⟩,⟨⟨[109,118]⟩⟩,[⟨⟨[103]⟩⟩,⟨⟨[100]⟩⟩]),
 (⟨⟨[48,102,10,103,10]⟩⟩,⟨⟨[108,115]⟩⟩,[⟨⟨[100]⟩⟩]),
 (⟨⟨[48,102,10,103,10]⟩⟩,⟨⟨[108,115]⟩⟩,[⟨⟨[45,49]⟩⟩,⟨⟨[108]⟩⟩]),
 (⟨⟨[50,99,104,109,111,100,58,32,117,115,97,103,101,10]⟩⟩,⟨⟨[99,104,109,111,100]⟩⟩,[⟨⟨[56]⟩⟩,⟨⟨[100]⟩⟩]),
 (⟨⟨[49,108,110,58,32,100,47,102,58,32,54,10]⟩⟩,⟨⟨[108,110]⟩⟩,[⟨⟨[45,115]⟩⟩,⟨⟨[120]⟩⟩,⟨⟨[100,47,102]⟩⟩]),
 (⟨⟨[48]⟩⟩,⟨⟨[108,110]⟩⟩,[⟨⟨[45,115,102]⟩⟩,⟨⟨[120]⟩⟩,⟨⟨[100,47,102]⟩⟩]),
 (⟨⟨[49,114,109,58,32,110,111,110,101,58,32,53,10]⟩⟩,⟨⟨[114,109]⟩⟩,[⟨⟨[110,111,110,101]⟩⟩]),
 (⟨⟨[48]⟩⟩,⟨⟨[114,109]⟩⟩,[⟨⟨[45,102]⟩⟩,⟨⟨[110,111,110,101]⟩⟩]),
 (⟨⟨[48]⟩⟩,⟨⟨[114,109]⟩⟩,[⟨⟨[45,102]⟩⟩]),
 (⟨⟨[50,114,109,58,32,117,115,97,103,101,10]⟩⟩,⟨⟨[114,109]⟩⟩,[]),
 (⟨⟨[49,114,109,58,32,100,58,32,55,10]⟩⟩,⟨⟨[114,109]⟩⟩,[⟨⟨[100]⟩⟩]),
 (⟨⟨[49,114,109,100,105,114,58,32,100,58,32,50,48,10]⟩⟩,⟨⟨[114,109,100,105,114]⟩⟩,[⟨⟨[100]⟩⟩]),
 (⟨⟨[49,114,109,100,105,114,58,32,108,58,32,56,10]⟩⟩,⟨⟨[114,109,100,105,114]⟩⟩,[⟨⟨[108]⟩⟩]),
 (⟨⟨[49,99,112,58,32,100,58,32,50,10]⟩⟩,⟨⟨[99,112]⟩⟩,[⟨⟨[45,114]⟩⟩,⟨⟨[100]⟩⟩,⟨⟨[100,47,110,101,119]⟩⟩]),
 (⟨⟨[49,99,112,58,32,100,58,32,50,10]⟩⟩,⟨⟨[99,112]⟩⟩,[⟨⟨[45,114]⟩⟩,⟨⟨[100]⟩⟩,⟨⟨[108]⟩⟩]),
 (⟨⟨[49,99,112,58,32,101,58,32,54,10]⟩⟩,⟨⟨[99,112]⟩⟩,[⟨⟨[45,114]⟩⟩,⟨⟨[101]⟩⟩,⟨⟨[100,47,103]⟩⟩]),
 (⟨⟨[48]⟩⟩,⟨⟨[116,111,117,99,104]⟩⟩,[⟨⟨[116]⟩⟩,⟨⟨[100,47,103]⟩⟩]),
 (⟨⟨[48]⟩⟩,⟨⟨[99,104,109,111,100]⟩⟩,[⟨⟨[43,120]⟩⟩,⟨⟨[116]⟩⟩]),
 (⟨⟨[48]⟩⟩,⟨⟨[99,104,109,111,100]⟩⟩,[⟨⟨[45,120]⟩⟩,⟨⟨[116]⟩⟩]),
 (⟨⟨[48]⟩⟩,⟨⟨[99,104,109,111,100]⟩⟩,[⟨⟨[55,53,53]⟩⟩,⟨⟨[116]⟩⟩,⟨⟨[100]⟩⟩]),
 (⟨⟨[49,99,104,109,111,100,58,32,110,111,58,32,53,10]⟩⟩,⟨⟨[99,104,109,111,100]⟩⟩,[⟨⟨[54,52,52]⟩⟩,⟨⟨[110,111]⟩⟩]),
 (⟨⟨[50,109,107,100,105,114,58,32,117,115,97,103,101,10]⟩⟩,⟨⟨[109,107,100,105,114]⟩⟩,[]),
 (⟨⟨[50,109,107,100,105,114,58,32,117,115,97,103,101,10]⟩⟩,⟨⟨[109,107,100,105,114]⟩⟩,[⟨⟨[45,120]⟩⟩,⟨⟨[121]⟩⟩]),
 (⟨⟨[48]⟩⟩,⟨⟨[109,107,100,105,114]⟩⟩,[⟨⟨[45,45]⟩⟩,⟨⟨[45,120]⟩⟩]),
 (⟨⟨[48]⟩⟩,⟨⟨[108,115]⟩⟩,[⟨⟨[45,45]⟩⟩,⟨⟨[45,120]⟩⟩]),
 (⟨⟨[49,108,115,58,32,110,111,58,32,53,10]⟩⟩,⟨⟨[108,115]⟩⟩,[⟨⟨[110,111]⟩⟩]),
 (⟨⟨[49,116,10,100,58,10,102,10,103,10,108,115,58,32,110,111,58,32,53,10]⟩⟩,⟨⟨[108,115]⟩⟩,[⟨⟨[100]⟩⟩,⟨⟨[116]⟩⟩,⟨⟨[110,111]⟩⟩]),
 (⟨⟨[48]⟩⟩,⟨⟨[108,110]⟩⟩,[⟨⟨[100,47,103]⟩⟩,⟨⟨[104]⟩⟩]),
 (⟨⟨[49,108,110,58,32,100,50,58,32,55,10]⟩⟩,⟨⟨[108,110]⟩⟩,[⟨⟨[100]⟩⟩,⟨⟨[100,50]⟩⟩]),
 (⟨⟨[50,108,110,58,32,117,115,97,103,101,10]⟩⟩,⟨⟨[108,110]⟩⟩,[⟨⟨[97]⟩⟩,⟨⟨[98]⟩⟩,⟨⟨[99]⟩⟩]),
 (⟨⟨[49,109,118,58,32,116,58,32,56,10]⟩⟩,⟨⟨[109,118]⟩⟩,[⟨⟨[100]⟩⟩,⟨⟨[104]⟩⟩,⟨⟨[116]⟩⟩]),
 (⟨⟨[49,109,118,58,32,110,111,58,32,53,10]⟩⟩,⟨⟨[109,118]⟩⟩,[⟨⟨[110,111]⟩⟩,⟨⟨[116]⟩⟩]),
 (⟨⟨[48]⟩⟩,⟨⟨[109,118]⟩⟩,[⟨⟨[116]⟩⟩,⟨⟨[104]⟩⟩,⟨⟨[100]⟩⟩]),
 (⟨⟨[48,102,10,103,10,104,10,116,10]⟩⟩,⟨⟨[108,115]⟩⟩,[⟨⟨[100]⟩⟩]),
 (⟨⟨[110,111,110,101]⟩⟩,⟨⟨[99,97,116]⟩⟩,[])]
theorem knownFi_ok:playP knownFi kq3=true:=by decide +kernel
def kz0:AT:=newT 3 4
def kz1:AT:=(kz0.writeF ⟨⟨[47]⟩⟩ ⟨⟨[97]⟩⟩ ⟨⟨[97,98,99]⟩⟩ false).2
def smallFi:List (ByteArray×ByteArray×List ByteArray):=[
 (⟨⟨[51,99,112,58,32,97,58,32,49,48,10]⟩⟩,⟨⟨[99,112]⟩⟩,[⟨⟨[97]⟩⟩,⟨⟨[98]⟩⟩]),
 (⟨⟨[51,109,107,100,105,114,58,32,121,58,32,49,48,10]⟩⟩,⟨⟨[109,107,100,105,114]⟩⟩,[⟨⟨[120]⟩⟩,⟨⟨[121]⟩⟩,⟨⟨[122]⟩⟩]),
 (⟨⟨[48,97,10,120,10]⟩⟩,⟨⟨[108,115]⟩⟩,[])]
theorem smallFi_ok:playP smallFi kz1=true:=by decide +kernel
end Go.Wk

set_option maxRecDepth 100000
namespace Go.Wk
open Go Go.HL
theorem play_cons {r:ByteArray×ByteArray×List ByteArray} {l:List (ByteArray×ByteArray×List ByteArray)} {A:AT} (h:playP (r::l) A=true):(callP A r.2.1 r.2.2).1=r.1/\playP l (callP A r.2.1 r.2.2).2=true:=by
 have h:(sEq (callP A r.2.1 r.2.2).1 r.1&&playP l (callP A r.2.1 r.2.2).2)=true:=h
 rw[Bool.and_eq_true,sEq_iff]at h
 exact h
def okRow (r:ByteArray×ByteArray×List ByteArray):Bool:=Nat.ble r.1.size 1000&&(Nat.ble r.2.2.length 100&&(r.2.2.all (fun a=>Nat.ble 1 a.size&&Nat.ble a.size 1000)&&(!sEq r.2.1 ⟨⟨[99,104,109,111,100]⟩⟩ || !r.2.2.isEmpty)))
theorem knownFi_rows:knownFi.all okRow=true:=by decide +kernel
theorem smallFi_rows:smallFi.all okRow=true:=by decide +kernel
structure OkRow (r:ByteArray×ByteArray×List ByteArray):Prop where
 want:r.1.size<=1000
 len:r.2.2.length<=1000
 sz : ∀a∈r.2.2,a.size<=1000
 ne : ∀a∈r.2.2,a≠⟨⟨[]⟩⟩
 chm:r.2.1=⟨⟨[99,104,109,111,100]⟩⟩->r.2.2≠[]
theorem okRow_of {r:ByteArray×ByteArray×List ByteArray} (h:okRow r=true):OkRow r:=by
 unfold okRow at h
 simp only[Bool.and_eq_true,Nat.ble_eq,List.all_eq_true,Bool.or_eq_true,Bool.not_eq_true']at h
 obtain⟨h1,h2,h3,h4⟩:=h
 refine⟨h1,by omega,fun a ha=>(h3 a ha).2,fun a ha e => ?_,fun hn he => ?_⟩
 ·have:=(h3 a ha).1
  rw[e]at this
  exact absurd this (by decide)
 ·rcases h4 with h4 | h4
  ·rw[sEq_iff.2 hn]at h4;cases h4
  ·rw[he]at h4;cases h4
theorem kq1_z:(kq0.mkdirF ⟨⟨[47]⟩⟩ ⟨⟨[100]⟩⟩).1=0:=by decide +kernel
theorem kq2_z:(kq1.writeF ⟨⟨[47]⟩⟩ ⟨⟨[100,47,102]⟩⟩ ⟨⟨[104,105]⟩⟩ false).1=0:=by decide +kernel
theorem kq3_z:(kq2.symlinkF ⟨⟨[47]⟩⟩ ⟨⟨[100]⟩⟩ ⟨⟨[108]⟩⟩).1=0:=by decide +kernel
theorem kz1_z:(kz0.writeF ⟨⟨[47]⟩⟩ ⟨⟨[97]⟩⟩ ⟨⟨[97,98,99]⟩⟩ false).1=0:=by decide +kernel
def rowF (r:ByteArray×ByteArray×List ByteArray):List ByteArray:=r.1::r.2.1::r.2.2
theorem call_none {A:AT} {nm:ByteArray} {args:List ByteArray} (ht:toolsL.any (fun t=>sEq nm t)=false):callP A nm args=(⟨⟨[110,111,110,101]⟩⟩,A):=by
 unfold callP AT.filesP
 rw[if_neg (by rw[ht];simp)]
end Go.Wk

