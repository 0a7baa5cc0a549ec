/- A part of a proof. -/
import Derived.Test.YtgfiobhpipollaaGreatDoorObc
import Derived.Lib.Bytealg
import Derived.Shelf.Strings.SlTrimAscii
import Derived.Shelf.LaysM
import Derived.Ground.NamesProg
import Derived.Test.YtgfiobhpipollaaGreatDoorProg
set_option maxRecDepth 100000
namespace Go.Proofs.YtgfiobhpipollaaGreatDoor
open Go Go.HL Go.Wk
attribute [local irreducible] j0 w6 l8 A2 l4 A9 w9 U3 V0 R1 M7 V2 C1 y6 app A4 C9 u7 sizeT oW H8 F2 l9 U5 H2 G1 y9 V1 B2 Gr L6
theorem aO3:I3 Tryz.prog 55=true:=by kernel_rfl
theorem bi8:I3 Tryz.prog 24=true:=by kernel_rfl
theorem bi9:I3 Tryz.prog 25=true:=by kernel_rfl
theorem bj0:I3 Tryz.prog 26=true:=by kernel_rfl
theorem br0:I3 Tryz.prog 27=true:=by kernel_rfl
theorem ba6:I3 Tryz.prog 28=true:=by kernel_rfl
theorem br1:I3 Tryz.prog 29=true:=by kernel_rfl
theorem bU0:sizeT Tryz.prog 57=some 6:=by kernel_rfl
theorem dg9 (l:List UInt8):(⟨⟨l⟩⟩:ByteArray).size=l.length:=rfl
def bx8 (S:H9) (has:B4->ByteArray->Bool):Prop := ∀p∈S.paths,∀r∈p.refs,∀ (σ:H) (y:Sl) (b:Nat) (K:KH),O1 σ (T9 p.nar.data.toList).1.kids y->σ b=some (.cells ⟨[.string ⟨⟨(I9 r.data.toList).1⟩⟩]⟩ 9 (0,0)) ->
 (∀ (z:Sl) σ',Gr σ σ'->decide (z.len=0) = !has p r->K (.slice z.base z.len z.cap) σ')->a8 57 [.agg ⟨O2 (T9 p.nar.data.toList).1 y⟩,.slice (some ⟨b,0,none⟩) 1 1] K σ
def bx9 (S:H9) (own:B4->List UInt8):Prop := ∀p∈S.paths,∀ (σ:H) (y:Sl) (K:KH),w7 σ 1 (n9 p.refs) y->K (.string ⟨⟨own p⟩⟩) σ->a8 59 [.agg ⟨U4 p y⟩] K σ
section
variable {σ : H} {K : KH} {S : H9} {x1 x2 : Sl} {m : Nat}
theorem bj1 {has:B4->ByteArray->Bool} (hh:bx8 S has) (h:as7 σ S x1 x2 m) (hz:Sm S) (hK:K (.bool (S.scanned has)) σ):a8 28 [lkV x1 x2 m] K σ:=by
 refine B7 _ hK (c28 _ _ _ ?_)
 clear hK
 unfold g28
 refine x0 ?_;intro b4 σ1 g1 e1 n1
 refine A3 (l7 e1) ?_
 (refine k0 rfl ?_;try dsimp only)
 refine i7 (aB0 (f:=fun p => !(p.refs.any fun r => !has p r)) (h.gr g1) hz ?_ (fun g σ hg=>by unfold F2;exact hg) rfl (y7 ⟨rfl,g1⟩))
 intro p hp y' σ' K' hg' hy' hK'
 obtain⟨z1,z2,z3,z4,z5⟩:=hz.pa p hp
 have hp':=hh p hp
 unfold u7
 simp only[aR6]
 refine B7 _ hK' (c54 _ _ _ _ ?_)
 unfold g54
 refine x0 ?_;intro b σ3 g3 e3 n3
 refine y8 (f0 e3) ?_
 have hsz:p.nar.data.toList.length=p.nar.size:=dl _
 have hn:p.nar=⟨⟨p.nar.data.toList⟩⟩:=(K0 _).symm
 rw[hn]
 refine i7 (ba0 p.nar.data.toList (by omega) ?_)
 intro y4 σ4 g4 s4
 refine k0 rfl ?_
 dsimp only
 refine x0 ?_;intro b13 σ5 g5 e5 n5
 refine w4 e5 I2 ?_
 intro σ6 p6
 have g46:Gr σ4 σ6:=g5.putF p6 n5
 have g36:Gr σ3 σ6:=g4.trans g46
 have gg:Gr σ' σ6:=g3.trans g36
 have c6:σ6 b13=some (.cells ⟨O2 (T9 p.nar.data.toList).1 y4⟩ 75 (0,0)):=p6.same
 refine A7 (f0 (g36.get e3)) (i7 (as6 (f:=fun r => !has p r) (hy'.gr gg) ?_ (by omega) (y7 ⟨rfl,gg⟩)))
 intro r hr σ7 K7 g7 hK7
 unfold u7
 simp only[aO3]
 refine B7 _ hK7 (c55 _ _ ?_)
 unfold g55
 have hrs:r.data.toList.length=r.size:=dl _
 have hre:r=⟨⟨r.data.toList⟩⟩:=(K0 _).symm
 have hrz:=z5 r hr
 rw[hre]
 refine i7 (av3 r.data.toList (by omega) (k0 rfl ?_))
 dsimp only
 refine i6 (A3 (l7 (g7.get c6)) ?_)
 unfold O2
 (refine k0 rfl ?_;try dsimp only)
 refine x0 ?_;intro b8 σ8 g8 e8 n8
 refine i7 (hp' r hr σ8 y4 b8 _ (s4.gr ((g46.trans g7).trans g8)) e8 fun z σ9 g9 hz9 => ?_)
 refine Q7 ?_
 have e:((((z.len:Nat):Int))==0) = !has p r:=by rw[<-hz9,J5,beq_iff_eq,decide_eq_true_iff];omega
 rw[e,<- hre]
 exact⟨rfl,g8.trans g9⟩
theorem aV7 (a c:List UInt8) (ha:a.length<=1000000) (hc:c.length<=1000000) (hK:K (.tuple ⟨[.string ⟨⟨(U9 a c).1⟩⟩,.int .i64 (U9 a c).2]⟩) σ):a8 42 [.string ⟨⟨a⟩⟩,.string ⟨⟨c⟩⟩] K σ:=by
 refine B7 _ hK (c42 _ _ ?_)
 clear hK
 unfold g42 U9
 refine i7 (am0 _ (B6 ?_))
 show l8 (L3 c != 0) _ _ _
 refine G8 (fun h1 => ?_) (fun h1 => ?_)
 ·rw[d9 h1];exact⟨rfl,Gr.refl _⟩
 rw[c0 (by simp[h1])]
 refine i7 (ba0 a ha ?_)
 intro y σ1 g1 s1
 refine k0 rfl ?_
 dsimp only
 refine x0 ?_;intro b10 σ2 g2 e2 n2
 refine w4 e2 I2 ?_
 intro σ3 p3
 have g3:Gr σ σ3:=g1.trans (g2.putF p3 n2)
 refine G8 (fun h2 => ?_) (fun h2 => ?_)
 ·rw[d9 h2];exact⟨rfl,g3⟩
 rw[c0 (by simp[h2])]
 have hpa:=ab5 a
 have hpc:=ab5 c
 refine i7 (ah1 [97,100,100,58] a (by decide) (by omega) (I1 ?_))
 refine i7 (ah1 _ c (by simp only[s8,y5,H3];omega) (by omega) (I1 ?_))
 refine i7 (bi0 _ (by rw[dg9];simp only[s8,y5,H3];omega) (I1 ?_))
 refine i7 (aN6 _ c (by have:=au5 (([97,100,100,58]++X0 a)++X0 c);exact F5 this (by decide)) (by omega) ?_)
 refine k0 rfl ?_
 exact⟨rfl,g3⟩
theorem by0 (p:B4) (hd:p.drv=⟨⟨[]⟩⟩) (z1:p.path.size<=1000000) (z2:p.nar.size<=1000000) {y:Sl} (hK:K (.string ⟨⟨aw0 p⟩⟩) σ):a8 59 [.agg ⟨U4 p y⟩] K σ:=by
 refine B7 _ hK (c59 _ _ _ _ ?_)
 clear hK
 unfold g59
 refine x0 ?_;intro b5 σ1 g1 e1 n1
 refine y8 (f0 e1) ?_
 rw[hd]
 refine l3 (P8.2 rfl) (y8 (f0 e1) ?_)
 have h1:p.path.data.toList.length=p.path.size:=dl _
 have h2:p.nar.data.toList.length=p.nar.size:=dl _
 have e3:p.path=⟨⟨p.path.data.toList⟩⟩:=(K0 _).symm
 have e4:p.nar=⟨⟨p.nar.data.toList⟩⟩:=(K0 _).symm
 rw[e3]
 refine i7 (av3 p.path.data.toList (by omega) (k0 rfl ?_))
 dsimp only
 refine y8 (f0 e1) ?_
 rw[e4]
 refine i7 (aV7 p.nar.data.toList (I9 p.path.data.toList).2.1 (by omega) ?_ (k0 rfl ?_))
 ·unfold I9;split
  ·simp;omega
  ·simp
 exact⟨rfl,g1⟩
theorem bG5 {own:B4->List UInt8} (ho:bx9 S own) (h:as7 σ S x1 x2 m) (hz:Sm S) (hK:K (.bool (S.named own)) σ):a8 29 [lkV x1 x2 m] K σ:=by
 refine B7 _ hK (c29 _ _ _ ?_)
 clear hK
 unfold g29
 refine x0 ?_;intro b4 σ1 g1 e1 n1
 refine A3 (l7 e1) ?_
 (refine k0 rfl ?_;try dsimp only)
 refine i7 (aB0 (f:=aQ8 own) (h.gr g1) hz ?_ (fun g σ hg=>by unfold F2;exact hg) rfl (y7 ⟨rfl,g1⟩))
 intro p hp y' σ' K' hg' hy' hK'
 unfold u7
 simp only[bi7]
 refine B7 _ hK' (c58 _ _ _ _ ?_)
 unfold g58 aQ8
 refine x0 ?_;intro b σ3 g3 e3 n3
 refine A3 (l7 e3) ?_
 (refine k0 rfl ?_;try dsimp only)
 refine i7 (ho p hp σ3 y' _ (hy'.gr g3) (I1 ?_))
 rw[K1]
 have hbe:(!(own p==[]))=(own p != []):=rfl
 rw[hbe]
 refine G8 (fun hb => ?_) (fun hb => ?_)
 ·rw[d9 hb]
  refine y8 (f0 e3) ?_
  have e3:p.path=⟨⟨p.path.data.toList⟩⟩:=(K0 _).symm
  rw[e3,K1]
  exact⟨rfl,g3⟩
 ·rw[c0 (by rw[hb];simp)];exact⟨rfl,g3⟩
theorem ah2 {has:B4->ByteArray->Bool} {own:B4->List UInt8} (hh:bx8 S has) (ho:bx9 S own) (h1:am2 σ S.paths x1) (h2:w7 σ 1 (n9 S.roots) x2) (hz:Sm S) (hK:K (.int .i64 (S.sound has own)) σ) :
 a8 9 [.agg ⟨[.slice x1.base x1.len x1.cap,.slice x2.base x2.len x2.cap]⟩] K σ:=by
 obtain⟨v,hv⟩ : ∃v,S.sound has own=v:=⟨_,rfl⟩
 rw[hv]at hK
 refine B7 _ hK (c9 _ _ ?_)
 clear hK
 unfold g9
 unfold H9.sound at hv
 refine x0 ?_;intro b3 σ1 g1 e1 n1
 refine A3 (l7 e1) ?_
 (refine k0 rfl ?_;try dsimp only)
 refine i7 (aO2 (h1.gr g1) (h2.gr g1) hz ?_)
 intro m σ2 g2 hl
 unfold lkV
 (refine k0 rfl ?_;try dsimp only)
 refine x0 ?_;intro b9 σ3 g3 e3 n3
 refine w4 e3 av5 ?_
 intro σ4 p4
 have G4:Gr σ2 σ4:=g3.putF p4 n3
 have c4:=p4.same
 iterate 6 (refine A3 (l7 c4) ?_;(refine k0 rfl ?_;try dsimp only))
 refine x0 ?_;intro b28 σ5 g5 e5 n5
 refine w4 e5 bU0 ?_
 intro σ6 p6
 refine A3 (l7 p6.same) ?_
 (refine k0 rfl ?_;try dsimp only)
 have G6:Gr σ σ6:=((g1.trans g2).trans G4).trans (g5.putF p6 n5)
 have hL:as7 σ6 S x1 x2 m:=(hl.gr G4).gr (g5.putF p6 n5)
 refine u5 ?_
 intro R hR
 refine hR _ _ _ _ _ _ _ _ (l3 rfl (ag2 (by rfl) (O6 bi8 (bq7 hL hz (y7 ?_)))))
 refine G8 (fun hb=>⟨by rw[<-hv,d9 hb];rfl,G6⟩) (fun hb => ?_)
 rw[c0 (by rw[hb];simp)]at hv;clear hb
 refine hR _ _ _ _ _ _ _ _ (l3 rfl (ag2 (by rfl) (O6 bi9 (bq8 hL hz (y7 ?_)))))
 refine G8 (fun hb=>⟨by rw[<-hv,d9 hb];rfl,G6⟩) (fun hb => ?_)
 rw[c0 (by rw[hb];simp)]at hv;clear hb
 refine hR _ _ _ _ _ _ _ _ (l3 rfl (ag2 (by rfl) (O6 bj0 (bq9 hL hz (y7 ?_)))))
 refine G8 (fun hb=>⟨by rw[<-hv,d9 hb];rfl,G6⟩) (fun hb => ?_)
 rw[c0 (by rw[hb];simp)]at hv;clear hb
 refine hR _ _ _ _ _ _ _ _ (l3 rfl (ag2 (by rfl) (O6 br0 (bG4 hL hz (y7 ?_)))))
 refine G8 (fun hb=>⟨by rw[<-hv,d9 hb];rfl,G6⟩) (fun hb => ?_)
 rw[c0 (by rw[hb];simp)]at hv;clear hb
 refine hR _ _ _ _ _ _ _ _ (l3 rfl (ag2 (by rfl) (O6 ba6 (bj1 hh hL hz (y7 ?_)))))
 refine G8 (fun hb=>⟨by rw[<-hv,d9 hb];rfl,G6⟩) (fun hb => ?_)
 rw[c0 (by rw[hb];simp)]at hv;clear hb
 refine hR _ _ _ _ _ _ _ _ (l3 rfl (ag2 (by rfl) (O6 br1 (bG5 ho hL hz (y7 ?_)))))
 refine G8 (fun hb=>⟨by rw[<-hv,d9 hb];rfl,G6⟩) (fun hb => ?_)
 rw[c0 (by rw[hb];simp)]at hv;clear hb
 exact hR _ _ _ _ _ _ _ _ (k9 rfl ⟨by rw[<-hv],G6⟩)
end
end Go.Proofs.YtgfiobhpipollaaGreatDoor

set_option maxRecDepth 100000
namespace Go.Proofs.YtgfiobhpipollaaGreatDoor
open Go Go.HL Go.Wk
theorem cv7:I3 Tryz.prog 263=false:=by kernel_rfl
theorem cv8 : (Tryz.prog.funcs[263]?).map (fun fn => ((fn.name == "runtime.NumGoroutine"), fn.body.isNone)) = some (false, true) := by kernel_rfl
theorem cv9:(Tryz.prog.funcs[263]?).bind (fun fn=>Extern.find fn)=some Extern.BytealgCount.count:=by kernel_rfl
theorem cw0:(Tryz.prog.funcs[263]?).map (fun fn=>(Extern.findNext fn).isNone)=some true:=by kernel_rfl
theorem dh0 (s:ByteArray) (c:UInt8) {F:Int->H->Prop} {σ:H} (hF:F ((s.data.toList.count c:Nat):Int) σ):y6 Tryz.prog (.func (.func 263) ⟨[]⟩ ⟨[]⟩) [.string s,.int .u8 (c.toNat:Int)] kI F σ :=
 bR9 cv7 cv8 cv9 cw0 fun w hw=>by
  refine⟨_,w,σ,Lib.run_countString s _ w,I0.refl hw,B6 ?_⟩
  have:((c.toNat:Int)).toNat.toUInt8=c:=by simp
  rw[this]
  exact hF
attribute [local irreducible] j0 w6 l8 A2 l4 A9 w9 U3 V0 R1 M7 V2 C1 y6 app A4 C9 u7 sizeT oW H8 F2 l9 U5 H2 G1 y9 V1 B2 Gr L6
theorem bU1 (s:ByteArray) (c:UInt8) {σ:H} {K:KH} (hK:K (.int .i64 ((s.data.toList.count c:Nat):Int)) σ):a8 226 [.string s,.string ⟨⟨[c]⟩⟩] K σ:=by
 refine dB4 _ _ ?_
 unfold cX3
 refine k9 rfl (l3 rfl (M3 (c:=c) (by decide) rfl ?_))
 exact dh0 s c hK
end Go.Proofs.YtgfiobhpipollaaGreatDoor

set_option maxRecDepth 100000
namespace Go.Proofs.YtgfiobhpipollaaGreatDoor
open Go Go.HL Go.Wk
attribute [local irreducible] j0 w6 l8 A2 l4 A9 w9 U3 V0 R1 M7 V2 C1 y6 app A4 C9 u7 sizeT oW H8 F2 l9 U5 H2 G1 y9 V1 B2 Gr L6
theorem am3 (c:UInt8) (s:ByteArray):(J3 c s).length=s.data.toList.count c+1:=by
 unfold J3
 rw[Y4]
 induction s.data.toList with
 | nil=>rfl
 | cons x r ih =>
  rw[List.count_cons]
  unfold O7
  cases hx:x==c with
  | true=>simp[ih]
  | false =>
   cases h:O7 c r with
   | nil=>exact u9 h (aC7 r)
   | cons a b=>rw[h]at ih;simpa using ih
theorem by1:sizeT Tryz.prog 9=some 1:=by kernel_rfl
theorem bU2:Tryz.prog.underlying 23=some (.slice 9):=by kernel_rfl
theorem cg8 : ∃i,Tryz.prog.info? 9=some i/\i.zero=some (.string ⟨⟨[]⟩⟩)/\i.size=1/\i.bytes<=100:=by
 cases h:Tryz.prog.info? 9 with
 | none=>exact u9 (D9 Option.isSome h) (by rw[show(Tryz.prog.info? 9).isSome=true from by kernel_rfl];decide)
 | some i =>
  have h1:(Tryz.prog.info? 9).map (fun i=>(i.size,Nat.ble i.bytes 100))=some (1,true):=by kernel_rfl
  have h2:(Tryz.prog.info? 9).bind (fun i=>i.zero)=some (.string ⟨⟨[]⟩⟩):=by kernel_rfl
  rw[h]at h1 h2
  simp only[Option.map_some,Option.some.injEq,Prod.mk.injEq]at h1
  exact⟨i,rfl,h2,h1.1,Nat.le_of_ble_eq_true h1.2⟩
def as8 (l:List ByteArray):List Value:=l.map .string
theorem bj2 (l:List ByteArray) (s:ByteArray) (m:Nat):(as8 l++List.replicate (m+1) (Value.string ⟨⟨[]⟩⟩)).take l.length++[Value.string s]++(as8 l++List.replicate (m+1) (Value.string ⟨⟨[]⟩⟩)).drop (l.length+1)=as8 (l++[s])++List.replicate m (Value.string ⟨⟨[]⟩⟩):=by
 have h:(as8 l).length=l.length:=by simp[as8]
 rw[ay5,ay6,h,ak3,H7 (by omega),M8 (by omega)]
 simp[as8,List.replicate_succ]
theorem aV8 (l:List ByteArray):(n9 l).flatten=as8 l:=by
 unfold n9 as8
 induction l with
 | nil=>rfl
 | cons a r ih=>simp only[H5,List.flatten_cons,ih];rfl
section
variable {σ : H} {K : KH}
theorem bU3 (s:ByteArray) (c:UInt8) (hs:s.size<=1000000000) (hK:∀y σ',E7 σ σ' 9 1 (n9 (J3 c s)) y->K (.slice y.base y.len y.cap) σ'):a8 138 [.string s,.string ⟨⟨[c]⟩⟩] K σ:=by
 refine dv5 _ _ ?_
 unfold cK1
 refine i7 (dz0 _ _ _ _ ?_)
 unfold cR7
 refine k9 rfl (k9 (by rw[Bool.eq_false_iff];intro e;have:=P8.1 e;cases this) ?_)
 have hpl:=am3 c s
 have hls:s.data.toList.length=s.size:=rfl
 have hcl:s.data.toList.count c<=s.data.toList.length:=List.count_le_length
 obtain⟨i,hi,hz,hsz,hby⟩:=cg8
 refine S9 (fun j=>j s ⟨⟨[c]⟩⟩ 0 (((J3 c s).length:Nat):Int) σ) ?_ ?_
 rotate_left
 ·intro j hj
  refine l3 rfl (i7 (bU1 s c (B6 ?_)))
  rw[n0 (by omega) (by omega),show((s.data.toList.count c:Nat):Int)+1=(((J3 c s).length:Nat):Int)from by omega]
  exact hj
 rw[n0 (x:=(s.size:Int)+1) (by omega) (by omega)]
 generalize hN:(J3 c s).length=N at *
 have hmin:(if((s.size:Nat):Int)+1<(N:Int)then((s.size:Nat):Int)+1 else(N:Int))=(N:Int):=by split<;>omega
 rw[hmin,n0 (x:=(N:Int) - 1) (by omega) (by omega)]
 refine cp5 (n:=N) bU2 hi hz hsz hby rfl rfl (by omega) ?_
 intro b σ1 g1 n1 e1
 refine S9 (fun j => ∀ (done:List ByteArray) (t:ByteArray) (m:Nat) (τ:H),J3 c s=done++[t]->Gr σ τ->τ b=some (.cells ⟨as8 done++List.replicate (m+1) (.string ⟨⟨[]⟩⟩)⟩ 9 (0,0))->done.length+(m+1)=N->j t ⟨some ⟨b,0,none⟩,N,N⟩ ((done.length:Nat):Int) τ) ?_ ?_
 ·intro done t m τ hp hg hb hl
  refine i6 (l5 ⟨by omega,by show _<((N:Nat):Int);omega⟩ (ar1 hb by1 (by rw[B0];simp[as8,L5,Value.cells]) (by intro x hx;simp[L5,Value.cells]at hx;subst hx;rfl) (.inl (A6 _)) ?_))
  intro τ1 p1
  rw[n0 (x:=((done.length:Nat):Int)+1) (by omega) (by omega)]
  refine l5 ⟨B3 (by omega) (by show _<=((N:Nat):Int);omega),H1⟩ ?_
  have e0:0+(((done.length:Nat):Int)).toNat * 1=done.length:=by omega
  have e1:L5 (Value.string t).cells=[.string t]:=rfl
  rw[e0,e1]at p1
  have hm:m=0:=by
   have:=D9 List.length hp
   rw[hN,s8,aa5]at this;omega
  subst hm
  have hcells:=bj2 done t 0
  simp only[aa5]at p1
  rw[hcells]at p1
  have s1:F8 (some ⟨b,0,none⟩) 0 N 1=some ⟨b,0,none⟩:=by
   unfold F8
   split
   ·rfl
   ·rw[Option.map_some,W0]
  refine Q7 ?_
  show K (.slice (F8 (some ⟨b,0,none⟩) 0 N 1) _ _) τ1
  rw[s1]
  refine hK ⟨some ⟨b,0,none⟩,_,_⟩ τ1 ⟨hg.putF p1 n1,⟨?_,?_,.inr ⟨b,_,rfl,p1.same,?_,?_,?_⟩⟩,fun g hx=>by cases hx;exact n1⟩
  ·rw[J7,hN];show(((done.length:Nat):Int)+1).toNat - 0=N;omega
  ·intro r hr;obtain⟨u,_,rfl⟩:=O5.1 hr;rfl
  ·show(as8 (done++[t])++List.replicate 0 _).length=(N - 0) * 1;simp[as8];omega
  ·show(((done.length:Nat):Int)+1).toNat - 0<=N - 0;omega
  ·rw[aV8,hp]
   show(as8 (done++[t])++List.replicate 0 _).take (((((done.length:Nat):Int)+1).toNat - 0) * 1)=_
   rw[List.replicate_zero,J1,H7 (by simp[as8])]
 intro j12 hj
 refine u5 ?_
 intro R hR
 have key : ∀ (m:Nat) (done:List ByteArray) (t:ByteArray) (τ:H),t.size<=s.size->J3 c s=done++J3 c t->(J3 c t).length=m+1->Gr σ τ->τ b=some (.cells ⟨as8 done++List.replicate (m+1) (.string ⟨⟨[]⟩⟩)⟩ 9 (0,0)) ->
  R t ⟨⟨[c]⟩⟩ 0 ((N:Int) - 1) ⟨some ⟨b,0,none⟩,N,N⟩ ((done.length:Nat):Int) τ:=by
  intro m
  induction m with
  | zero =>
   intro done t τ ht hp hm hg hb
   have hdl:done.length+1=N:=by rw[<-hN,hp,s8,hm]
   have hone:J3 c t=[t]:=by
    rcases Int.lt_or_le (firstIdx t c) 0 with h | h
    ·exact az6 h
    ·obtain⟨_,h2⟩:=ao5 h
     rw[h2,y5,am3]at hm;omega
   rw[hone]at hp
   refine hR _ _ _ _ _ _ _ (k9 (J6 (by omega)) (hj done t 0 τ hp hg hb (by omega)))
  | succ m ih =>
   intro done t τ ht hp hm hg hb
   have hdl:done.length+(m+2)=N:=by rw[<-hN,hp,s8,hm]
   have hf:0<=firstIdx t c:=by
    rcases Int.lt_or_le (firstIdx t c) 0 with h | h
    ·rw[az6 h]at hm;simp at hm
    ·exact h
   obtain⟨h1,h2⟩:=ao5 hf
   refine hR _ _ _ _ _ _ _ (l3 (C8 (by omega)) (i7 (bQ3 t c (B6 ?_))))
   refine k9 (J6 (by omega)) ?_
   rw[n0 (x:=firstIdx t c+0) (by omega) (by omega),Int.add_zero]
   refine l5 ⟨B3 hf (by omega),H1⟩ ?_
   refine i6 (l5 ⟨by omega,by show _<((N:Nat):Int);omega⟩ (ar1 hb by1 (by rw[B0];simp[as8,L5,Value.cells]) (by intro x hx;simp[L5,Value.cells]at hx;subst hx;rfl) (.inl (A6 _)) ?_))
   intro τ1 p1
   have hw:((⟨⟨[c]⟩⟩:ByteArray).size:Int)=1:=rfl
   rw[hw,n0 (x:=firstIdx t c+1) (by omega) (by omega),n0 (x:=((done.length:Nat):Int)+1) (by omega) (by omega)]
   refine l5 ⟨H1,B3 (by omega) (by omega)⟩ ?_
   have e0:0+(((done.length:Nat):Int)).toNat * 1=done.length:=by omega
   have e1:L5 (Value.string (t.extract 0 (firstIdx t c).toNat)).cells=[.string (t.extract 0 (firstIdx t c).toNat)]:=rfl
   rw[e0,e1]at p1
   simp only[aa5]at p1
   rw[bj2]at p1
   have e2:(firstIdx t c+1).toNat=(firstIdx t c).toNat+1:=by omega
   rw[e2,show((done.length:Nat):Int)+1=(((done++[t.extract 0 (firstIdx t c).toNat]).length:Nat):Int)from by simp]
   refine ih _ _ τ1 ?_ ?_ ?_ (hg.putF p1 n1) p1.same
   ·rw[ByteArray.size_extract];omega
   ·rw[hp,h2];simp
   ·rw[h2,y5]at hm;omega
 have hl0:(J3 c s).length=(N - 1)+1:=by omega
 refine key (N - 1) [] s σ1 (A6 _) rfl hl0 g1 ?_
 rw[e1,show N - 1+1=N by omega];rfl
def aV9 (c:UInt8) (s:ByteArray):ByteArray×ByteArray×Bool:=if 0<=firstIdx s c then(s.extract 0 (firstIdx s c).toNat,s.extract ((firstIdx s c).toNat+1) s.size,true)else(s,⟨⟨[]⟩⟩,false)
theorem cw1 (s:ByteArray) (c:UInt8) (hs:s.size<=1000000000) (hK:K (.tuple ⟨[.string (aV9 c s).1,.string (aV9 c s).2.1,.bool (aV9 c s).2.2]⟩) σ):a8 137 [.string s,.string ⟨⟨[c]⟩⟩] K σ:=by
 refine dv4 _ _ ?_
 unfold cJ9
 refine i7 (dy9 _ _ ?_)
 unfold cR5
 refine i7 (cX1 _ _ ?_)
 refine aH0 s c (B6 ?_)
 unfold aV9 at hK
 refine G8 (fun h => ?_) (fun h => ?_)
 ·have h:=E6 h
  rw[d9 h]at hK
  obtain⟨h1,h2⟩:=ao5 h
  have hw:((⟨⟨[c]⟩⟩:ByteArray).size:Int)=1:=rfl
  rw[hw,n0 (x:=firstIdx s c+1) (by omega) (by omega)]
  refine l5 ⟨B3 h (by omega),H1⟩ (l5 ⟨H1,B3 (by omega) (by omega)⟩ ?_)
  rw[show(firstIdx s c+1).toNat=(firstIdx s c).toNat+1 from by omega]
  exact k0 rfl hK
 ·have h:=J0 h
  rw[c0 h]at hK
  exact k0 rfl hK
end
attribute [local irreducible] ao7 af5 ac5 ar9
def aB1 (e n:Int):Value := .iface 161 (.agg ⟨[.int .i64 e,.int .i64 n]⟩)
theorem cg9 (x y:Operand) (e n:Int) (w:World):(do eqGuard .neq 20 x y (aB1 e n) .nilIface;binOp .neq 20 (aB1 e n) .nilIface:Sem Value).run Tryz.prog w = .ok (.bool true) w:=by kernel_rfl
theorem bU4 (x:Nat) (w:World):(do eqGuard .neq 20 (.tmp x) (.const .nilIface) .nilIface .nilIface;binOp .neq 20 .nilIface .nilIface:Sem Value).run Tryz.prog w = .ok (.bool false) w:=by kernel_rfl
theorem cw2 (e n:Int) (w:World):(Instr.typeAssert (aB1 e n) 20 161 true).run Tryz.prog w = .ok (.tuple ⟨[.agg ⟨[.int .i64 e,.int .i64 n]⟩,.bool true]⟩) w:=by kernel_rfl
theorem cw3:sizeT Tryz.prog 161=some 2:=by kernel_rfl
theorem ap5:sizeT Tryz.prog 113=some 4:=by kernel_rfl
theorem bU5:sizeT Tryz.prog 115=some 1:=by kernel_rfl
def ch0 (b:Nat):Value := .iface 163 (.pointer (some ⟨b,0,none⟩))
theorem ch1 (x:Nat) (b:Nat) (w:World):(do eqGuard .neq 115 (.tmp x) (.const .nilIface) (ch0 b) .nilIface;binOp .neq 115 (ch0 b) .nilIface:Sem Value).run Tryz.prog w = .ok (.bool true) w:=by kernel_rfl
theorem bU6 (x:Nat) (w:World):(do eqGuard .neq 115 (.tmp x) (.const .nilIface) .nilIface .nilIface;binOp .neq 115 .nilIface .nilIface:Sem Value).run Tryz.prog w = .ok (.bool false) w:=by kernel_rfl
def drC (n:ByteArray) (x y:Sl) (s:ByteArray):List Value:=[.string n,.slice x.base x.len x.cap,.slice y.base y.len y.cap,.string s]
section
variable {σ : H} {b2 b3 : Nat}
theorem bj3 {K:Md->H->Prop} (hK:K .ret σ):P9 132 [.pointer (some ⟨b2,0,none⟩),.pointer (some ⟨b3,0,none⟩)] .ret K σ:=by
 refine df8 _ _ _ ?_
 unfold cg4
 refine as2 (v := .bool false) (fun w=>bU4 _ w) (y7 (k9 rfl hK))
theorem aH2 {K:Md->H->Prop} {l:List Value} {v:Value} {e n:Int} (h2:σ b2=some (.cells ⟨l⟩ 113 (0,0))) (hl:l.length=4) (h3:σ b3=some (.cells ⟨[v]⟩ 115 (0,0))) (hne:b3≠b2)
 (hK:∀bf σ',σ' b2=some (.cells ⟨drC ⟨⟨[]⟩⟩ slN slN ⟨⟨[]⟩⟩⟩ 113 (0,0))->σ' b3=some (.cells ⟨[ch0 bf]⟩ 115 (0,0))->(∀c o,c≠b2->c≠b3->σ c=some o->σ' c=some o)->K .ret σ') :
 P9 132 [.pointer (some ⟨b2,0,none⟩),.pointer (some ⟨b3,0,none⟩)] (.pan (aB1 e n)) K σ:=by
 refine df8 _ _ _ ?_
 unfold cg4
 refine as2 (v := .bool true) (fun w=>cg9 _ _ _ _ w) (y7 (l3 rfl ?_))
 refine as2 (fun w=>cw2 _ _ w) (k0 rfl ?_)
 dsimp only
 refine x0 ?_;intro b5 σ1 g1 e1 m1
 refine w4 e1 cw3 ?_
 intro σ2 p2
 have g2:Gr σ σ2:=g1.putF p2 m1
 obtain⟨v1,v2,v3,v4,rfl⟩ : ∃v1 v2 v3 v4,l=[v1,v2,v3,v4]:=by
  match l,hl with
  | [v1,v2,v3,v4],_=>exact⟨v1,v2,v3,v4,rfl⟩
 refine k9 rfl (w4 (g2.get h2) ap5 ?_)
 intro σ3 p3
 refine w4 (p3.get hne (g2.get h3)) bU5 ?_
 intro σ4 p4
 exact hK b5 σ4 (p4.get hne.symm p3.same) p4.same fun c o c1 c2 ho=>p4.get c2 (p3.get c1 (g2.get ho))
end
theorem aB2:Tryz.prog.underlying 167=some (.map 9 88):=by kernel_rfl
def aE5 (b:Nat) (f:FuncId):Value := .func (.func f) ⟨[.pointer (some ⟨b,0,none⟩)]⟩ ⟨[]⟩
end Go.Proofs.YtgfiobhpipollaaGreatDoor

set_option maxRecDepth 100000
namespace Go.Proofs.YtgfiobhpipollaaGreatDoor
open Go Go.HL Go.Wk
theorem aO4 (a b:UInt8):((((a.toNat:Nat):Int):Int)==((b.toNat:Nat):Int))=(a==b):=by
 by_cases h:a=b
 ·subst h;simp
 ·have h1:(a==b)=false:=by simpa using h
  have h2 : ¬ (((a.toNat:Nat):Int)=((b.toNat:Nat):Int)):=by
   intro e;apply h
   exact UInt8.toNat_inj.1 (by omega)
  rw[h1];simpa using h2
theorem ch2 (c:UInt8):(((c.toNat:Int):Int) != 47) = !(c==47):=by
 by_cases h:c=47
 ·subst h;rfl
 ·have : ¬ ((c.toNat : Int) = 47) := by
   intro e;apply h
   have:c.toNat=47:=by omega
   exact UInt8.toNat_inj.1 this
  have h1:(((c.toNat:Int):Int) != 47)=true:=by simpa using this
  have h2:(c==47)=false:=by simpa using h
  rw[h1,h2];rfl
end Go.Proofs.YtgfiobhpipollaaGreatDoor

set_option maxRecDepth 100000
namespace Go.Proofs.YtgfiobhpipollaaGreatDoor
open Go Go.HL Go.Wk
attribute [local irreducible] j0 w6 l8 A2 l4 A9 w9 U3 V0 R1 M7 V2 C1 y6 app A4 C9 u7 sizeT oW H8 F2 l9 U5 H2 G1 y9 V1 B2 Gr L6
theorem bG6:I3 Tryz.prog 222=true:=by kernel_rfl
theorem bG7:I3 Tryz.prog 264=true:=by kernel_rfl
theorem bG8:I3 Tryz.prog 229=true:=by kernel_rfl
theorem bG9:I3 Tryz.prog 230=true:=by kernel_rfl
theorem bH0:I3 Tryz.prog 231=true:=by kernel_rfl
theorem br2:I3 Tryz.prog 232=true:=by kernel_rfl
theorem bH1:I3 Tryz.prog 233=true:=by kernel_rfl
theorem bH2:I3 Tryz.prog 234=true:=by kernel_rfl
theorem br3:I3 Tryz.prog 236=true:=by kernel_rfl
theorem bH3:I3 Tryz.prog 237=true:=by kernel_rfl
def T0 (l:List (ByteArray×ByteArray)):List (List Value):=l.map fun v=>[.string v.1,.string v.2]
theorem R0 (l:List (ByteArray×ByteArray)):(T0 l).length=l.length:=by simp[T0]
theorem as9 {σ:H} {l:List (ByteArray×ByteArray)} {x:Sl} (h:w7 σ 2 (T0 l) x) {i:Nat} {v:ByteArray×ByteArray} (hi:l[i]? = some v) : ∃g o,x.base=some ⟨g,o,none⟩/\i<x.len/\rdA 2 g (o+i * 2) σ=some (.agg ⟨[.string v.1,.string v.2]⟩)/\s5 g (o+i * 2) σ=some (.string v.1):=by
 obtain⟨g,o,h1,h2,h3⟩:=h.rdA (i:=i) (r:=[.string v.1,.string v.2]) (by unfold T0;rw[O4,hi];rfl) (by decide)
 refine⟨g,o,h1,?_,h2,by simpa using h3 0 _ rfl⟩
 have hl:x.len=l.length:=by rw[h.1,R0]
 rw[hl]
 rcases F6 i l.length with h | h
 ·exact h
 ·rw[L4 h]at hi;cases hi
def aI0 (σ:H) (d:DvP) (x y:Sl):Prop:=w7 σ 1 (n9 d.inputs) x/\w7 σ 2 (T0 d.env) y
theorem aI0.gr {σ σ':H} {d:DvP} {x y:Sl} (h:aI0 σ d x y) (hg:Gr σ σ'):aI0 σ' d x y:=⟨h.1.gr hg,h.2.gr hg⟩
structure aR7 (d:DvP):Prop where
 name:d.name.size<=1000000
 nin:d.inputs.length<=1000000
 inp : ∀s∈d.inputs,s.size<=1000000
 nen:d.env.length<=1000000
 env : ∀v∈d.env,v.1.size<=1000000/\v.2.size<=1000000
section
variable {σ : H} {K : KH}
theorem bU7 (c:UInt8) (hK:K (.bool (af9 c)) σ):a8 222 [.int .u8 ((c.toNat:Nat):Int)] K σ:=by
 refine dB3 _ ?_
 unfold cW9
 have d0:(((c.toNat:Nat):Int)==95)=(c==95):=aO4 c 95
 have d1:decide (((c.toNat:Nat):Int)>=97)=decide (97<=c.toNat):=by rw[E1];omega
 have d2:decide (((c.toNat:Nat):Int)<=122)=decide (c.toNat<=122):=by rw[E1];omega
 have d3:decide (((c.toNat:Nat):Int)>=65)=decide (65<=c.toNat):=by rw[E1];omega
 have d4:decide (((c.toNat:Nat):Int)<=90)=decide (c.toNat<=90):=by rw[E1];omega
 rw[d0,d1,d2,d3,d4]
 unfold af9 at hK
 generalize (c==95)=a0 at *
 generalize decide (97<=c.toNat)=a1 at *
 generalize decide (c.toNat<=122)=a2 at *
 generalize decide (65<=c.toNat)=a3 at *
 generalize decide (c.toNat<=90)=a4 at *
 cases a0<;>cases a1<;>cases a2<;>cases a3<;>(repeat (first | exact hK | refine l3 rfl ?_ | refine k9 rfl ?_))
theorem by2 (l:List UInt8) (hl:l.length<=1000000000) (hK:K (.bool (X8 l)) σ):a8 185 [.string ⟨⟨l⟩⟩] K σ:=by
 refine dy8 _ ?_
 unfold cR3
 have hsz : ∀l:List UInt8,(⟨⟨l⟩⟩:ByteArray).size=l.length:=fun _=>rfl
 refine u5 ?_
 intro R hR
 have key : ∀ (q:List UInt8) (i:Nat),l.drop i=q->(X8 l=(((if i=0 then(match q with | []=>true | c::r=>af9 c&&aj5 r)else aj5 q))&&(!l.isEmpty&&(decide (l.length<=56)&&(!(l==[111,117,116]) && !(l==[110,97,109,101]))))))->R ⟨⟨l⟩⟩ (.func (.func 222) ⟨[]⟩ ⟨[]⟩) ((l.length:Nat):Int) ((i:Nat):Int) σ:=by
  intro q
  induction q with
  | nil =>
   intro i hd he
   have h5:l.length<=i:=by simpa using hd
   have he:X8 l=(!l.isEmpty&&(decide (l.length<=56)&&(!(l==[111,117,116]) && !(l==[110,97,109,101])))):=by rw[he];split<;>rfl
   refine hR _ _ _ _ _ (k9 (J6 (by omega)) ?_)
   rw[he]at hK
   rw[K1,K1,K1,hsz]
   have e0:(l==[])=l.isEmpty:=by cases l<;>rfl
   have e1:decide (((l.length:Nat):Int)<=56)=decide (l.length<=56):=by rw[E1];omega
   rw[e0,e1]
   generalize l.isEmpty=a0 at *
   generalize decide (l.length<=56)=a1 at *
   generalize (l==[111,117,116])=a2 at *
   cases a0<;>cases a1<;>cases a2<;>(repeat (first | exact hK | refine l3 rfl ?_ | refine k9 rfl ?_))
  | cons x q ih =>
   intro i hd he
   obtain⟨t1,t2,t3⟩:=C5 hd
   refine hR _ _ _ _ _ (l3 (C8 (by omega)) ?_)
   have hx : ∀ (g:UInt8->H->Prop),g x σ->B2 ⟨⟨l⟩⟩ ((i:Nat):Int) g σ:=fun g hg=>M3 (c:=x) (by omega) t1 hg
   have hstep:X8 l=((af9 x||(decide (i≠0)&&as4 x))&&(aj5 q&&(!l.isEmpty&&(decide (l.length<=56)&&(!(l==[111,117,116]) && !(l==[110,97,109,101])))))):=by
    rw[he]
    by_cases h0:i=0
    ·rw[d9 h0,J4 (p:=i≠0) (by simpa using h0)];simp[Bool.and_assoc]
    ·rw[c0 h0,F1 (p:=i≠0) h0];simp[aj5,Bool.and_assoc]
   refine S9 (fun j=>j ⟨⟨l⟩⟩ (.func (.func 222) ⟨[]⟩ ⟨[]⟩) ((l.length:Nat):Int) ((i:Nat):Int) (!(af9 x||(decide (i≠0)&&as4 x))) σ) ?_ ?_
   ·refine G8 (fun h => ?_) (fun h => ?_)
    ·have h:(af9 x||(decide (i≠0)&&as4 x))=false:=by rwa [Bool.not_eq_true']at h
     rw[hstep,h,H4]at hK;exact hK
    ·have h:(af9 x||(decide (i≠0)&&as4 x))=true:=by rwa [Bool.not_eq_false']at h
     rw[C7 (i:=i)]
     refine ih (i+1) t3 ?_
     rw[hstep,h,c0 (by omega),C4]
   ·intro j hj
    refine hx _ ?_
    refine O6 bG6 (bU7 x (y7 ?_))
    cases hL:af9 x with
    | true =>
     rw[hL]at hj
     exact k9 rfl hj
    | false =>
     rw[hL]at hj
     refine l3 rfl ?_
     by_cases h0:i=0
     ·rw[J4 (p:=i≠0) (by simpa using h0)]at hj
      exact l3 (by rw[h0];rfl) hj
     ·rw[F1 (p:=i≠0) h0]at hj
      refine k9 (by simp only[M9,ne_eq];omega) (hx _ ?_)
      unfold as4 at hj
      by_cases h48:48<=x.toNat
      ·rw[F1 h48]at hj
       refine k9 (J6 (by omega)) (hx _ ?_)
       have:(!(false||(true&&(true&&decide (x.toNat<=57)))))=decide (((x.toNat:Nat):Int)>57):=by
        by_cases h:x.toNat<=57
        ·rw[F1 h,J4 (by omega)];rfl
        ·rw[J4 h,F1 (by omega)];rfl
       rw[this]at hj;exact hj
      ·rw[J4 h48]at hj
       exact l3 (C8 (by omega)) hj
 refine key l 0 rfl ?_
 rw[d9 rfl];rfl
theorem aO5 (s:ByteArray) (hs:s.size<=1000000) (hK:K (.bool (C6 s)) σ):a8 183 [.string s] K σ:=by
 have:s.data.toList.length=s.size:=dl s
 have e:s=⟨⟨s.data.toList⟩⟩:=(K0 s).symm
 rw[e]
 refine dy6 _ ?_
 unfold cQ9
 refine i7 (av3 s.data.toList (by omega) (k0 rfl ?_))
 exact hK
theorem aO6 {l:List ByteArray} {x:Sl} (hx:w7 σ 1 (n9 l) x) (hn:l.length<=1000000000) (hK:K (.bool (E5 l)) σ):a8 184 [.slice x.base x.len x.cap] K σ:=by
 refine dy7 _ ?_
 unfold cR1
 have hl:=ac4 hx
 refine u5 ?_
 intro R hR
 have key : ∀ (r:List ByteArray) (i:Nat) (a:ByteArray),l.drop i=a::r->E5 l=E5 (a::r)->R x ((i:Int)+1) σ:=by
  intro r
  induction r with
  | nil =>
   intro i a hd he
   obtain⟨h1,h2,h3⟩:=C5 hd
   have h4:l.length<=i+1:=by simpa using h3
   refine hR _ _ _ (k9 (by rw[hl];exact J6) ?_)
   have:E5 l=true:=by rw[he];rfl
   rw[this]at hK;exact hK
  | cons b r ih =>
   intro i a hd he
   obtain⟨h1,h2,h3⟩:=C5 hd
   obtain⟨h4,h5,h6⟩:=C5 h3
   obtain⟨g,o,q1,q2,q3⟩:=U7 hx h1
   obtain⟨g',o',p1,p2,p3⟩:=U7 hx h4
   rw[q1]at p1;injection p1 with p1;injection p1 with ea eb;subst ea;subst eb
   refine hR _ _ _ (l3 (by rw[hl];exact C8) ?_)
   rw[q1,n0 (x:=(i:Int)+1 - 1) (by omega) (by omega),show(i:Int)+1 - 1=(i:Int)by omega]
   refine i6 (l5 (L1 x.len) (y8 q3 ?_))
   refine i6 (l5 (L1 x.len) (y8 (by rw[show((i:Int)+1).toNat=i+1 by omega];exact p3) ?_))
   cases hb:E4 a b with
   | false =>
    have:E5 l=false:=by rw[he];simp[E5,hb]
    rw[this]at hK
    exact l3 rfl hK
   | true =>
    refine k9 rfl ?_
    rw[n0 (by omega) (by omega)]
    have:=ih (i+1) b h3 (by rw[he];simp[E5,hb])
    rw[show((i+1:Nat):Int)+1=(i:Int)+1+1 by omega]at this
    exact this
 cases hd:l with
 | nil =>
  refine hR _ _ _ (k9 (by rw[hl,hd];rfl) ?_)
  rw[hd]at hK;exact hK
 | cons a r=>exact key r 0 a (by rw[hd];rfl) (by rw[hd])
theorem bU8 {l:List (ByteArray×ByteArray)} {x:Sl} {v:Value} {f:ByteArray×ByteArray->Bool} (hx:w7 σ 2 (T0 l) x) (hv:∀u∈l,∀ (K:KH),K (.bool (f u)) σ->u7 Tryz.prog v [.agg ⟨[.string u.1,.string u.2]⟩] K σ) (hn:l.length<=1000000000) (hK:K (.bool (l.any f)) σ):a8 235 [.slice x.base x.len x.cap,v] K σ:=by
 refine dC3 _ _ ?_
 unfold cZ1
 refine i7 (dD8 _ _ ?_)
 unfold dc3
 have hl:x.len=l.length:=by rw[hx.1,R0]
 refine u5 ?_
 intro R hR
 have key : ∀ (r:List (ByteArray×ByteArray)) (i:Nat),l.drop i=r->l.any f=r.any f->R x v ((x.len:Nat):Int) (i:Int) σ:=by
  intro r
  induction r with
  | nil =>
   intro i hd he
   have h4:l.length<=i:=by simpa using hd
   refine hR _ _ _ _ _ (k9 (by rw[hl];exact J6) (B6 ?_))
   rw[he]at hK;exact hK
  | cons a r ih =>
   intro i hd he
   obtain⟨h1,h2,h3⟩:=C5 hd
   obtain⟨g,o,q1,q2,q3,_⟩:=as9 hx h1
   refine hR _ _ _ _ _ (l3 (by rw[hl];exact C8) ?_)
   rw[q1]
   refine i6 (l5 (L1 x.len) (A3 q3 ?_))
   (refine k0 rfl ?_;try dsimp only)
   refine ag3 (hv a (F7 h1) _ (y7 ?_))
   cases hb:f a with
   | true =>
    refine l3 rfl (B6 ?_)
    have:l.any f=decide ((i:Int)>=0):=by rw[he];simp[hb]
    rw[this]at hK;exact hK
   | false =>
    refine k9 rfl ?_
    rw[C7 (i:=i)]
    exact ih (i+1) h3 (by rw[he];simp[hb])
 exact key l 0 rfl rfl
theorem ch3 {l:List Value} {x:Sl} {f:Value->Bool} (hx:w7 σ 1 (l.map fun v=>[v]) x) (hv:∀v∈l,∀ (K:KH),K (.bool (f v)) σ->u7 Tryz.prog v [] K σ) (hn:l.length<=1000000000) (hK:K (.bool (l.all f)) σ):a8 228 [.slice x.base x.len x.cap] K σ:=by
 refine dB6 _ ?_
 unfold cX7
 refine i7 (cU9 _ _ ?_)
 unfold cs5
 refine i7 (db1 _ _ ?_)
 unfold cs7
 have hl:x.len=l.length:=by rw[hx.1];simp
 refine u5 ?_
 intro R hR
 have key : ∀ (r:List Value) (i:Nat),l.drop i=r->l.all f=r.all f->R x (.func (.func 264) ⟨[]⟩ ⟨[]⟩) ((x.len:Nat):Int) (i:Int) σ:=by
  intro r
  induction r with
  | nil =>
   intro i hd he
   have h4:l.length<=i:=by simpa using hd
   refine hR _ _ _ _ _ (k9 (by rw[hl];exact J6) (B6 (y7 ?_)))
   rw[he]at hK;exact hK
  | cons a r ih =>
   intro i hd he
   obtain⟨h1,h2,h3⟩:=C5 hd
   obtain⟨g,o,q1,q2,q3⟩:=hx.rdA (i:=i) (r:=[a]) (by rw[O4,h1];rfl) (by decide)
   have q4:=q3 0 a rfl
   rw[Nat.add_zero]at q4
   refine hR _ _ _ _ _ (l3 (by rw[hl];exact C8) ?_)
   rw[q1]
   refine i6 (l5 (L1 x.len) (ag2 q4 ?_))
   refine O6 bG7 (dD7 _ ?_)
   unfold dc1
   refine ag3 (hv a (F7 h1) _ (y7 (y7 ?_)))
   cases hb:f a with
   | false =>
    refine l3 rfl (B6 (y7 ?_))
    have:l.all f = !(decide ((i:Int)>=0)):=by rw[he];simp[hb]
    rw[this]at hK;exact hK
   | true =>
    refine k9 rfl ?_
    rw[C7 (i:=i)]
    exact ih (i+1) h3 (by rw[he];simp[hb])
 exact key l 0 rfl rfl
end
end Go.Proofs.YtgfiobhpipollaaGreatDoor

set_option maxRecDepth 100000
namespace Go.Proofs.YtgfiobhpipollaaGreatDoor
open Go Go.HL Go.Wk
def ac3 (sep:List UInt8):List (List UInt8)->List UInt8
 | []=>[]
 | [a]=>a
 | a::b::r=>a++sep++ac3 sep (b::r)
theorem aO7 (sep:List UInt8) (a:List UInt8) (l:List (List UInt8)):ac3 sep (a::l)=a++l.flatMap fun x=>sep++x:=by
 induction l generalizing a with
 | nil=>simp[ac3]
 | cons b r ih=>rw[ac3,ih b,aa4];simp
def ad3 (l:List ByteArray):Nat:=(l.map ByteArray.size).sum
theorem aW0 (a:ByteArray) (l:List ByteArray):ad3 (a::l)=a.size+ad3 l:=by simp[ad3]
theorem aB3 (a b:List ByteArray):ad3 (a++b)=ad3 a+ad3 b:=by simp[ad3]
theorem aE6 (l:List ByteArray) (i:Nat):ad3 (l.take i)<=ad3 l:=by
 have:ad3 l=ad3 (l.take i)+ad3 (l.drop i):=by rw[<-aB3,List.take_append_drop]
 omega
theorem ba7 (sep:List UInt8) (hs:sep.length<=1) (l:List ByteArray):(l.flatMap fun x=>sep++x.data.toList).length<=l.length+ad3 l:=by
 induction l with
 | nil=>exact A6 _
 | cons a r ih=>rw[aa4,s8,s8,aW0,y5,<- I5];omega
attribute [local irreducible] j0 w6 l8 A2 l4 A9 w9 U3 V0 R1 M7 V2 C1 y6 app A4 C9 u7 sizeT oW H8 F2 l9 U5 H2 G1 y9 V1 B2 Gr L6
section
variable {σ : H}
theorem cw4 {l:List ByteArray} {x:Sl} (hx:w7 σ 1 (n9 l) x) (hcap:x.len<=x.cap) (sep:ByteArray) (hsep:sep.size<=1) (hl:l.length<=1000000000) (hz:ad3 l<=1000000000) {K:KH} (hK:∀σ',Gr σ σ'->K (.string ⟨⟨ac3 sep.data.toList (l.map fun s=>s.data.toList)⟩⟩) σ') :
 a8 192 [.slice x.base x.len x.cap,.string sep] K σ:=by
 refine dz4 _ _ ?_
 unfold cS5
 have hxl:x.len=l.length:=by rw[hx.1];simp[n9]
 match l,hx,hl,hz,hK,hxl with
 | [],hx,hl,hz,hK,hxl =>
  exact l3 (by rw[hxl];rfl) (hK σ (Gr.refl _))
 | [a],hx,hl,hz,hK,hxl =>
  refine k9 (by rw[hxl];rfl) (l3 (by rw[hxl];rfl) ?_)
  obtain⟨g,o,a1,a2,a3⟩:=U7 hx (i:=0) (s:=a) rfl
  rw[a1]
  refine i6 (l5 (L1 x.len) (y8 a3 ?_))
  exact hK σ (Gr.refl _)
 | a::b::r,hx,hl,hz,hK,hxl =>
  have hne : ¬ (((x.len:Nat):Int)=0):=by simp only[hxl,y5];omega
  have hne1 : ¬ (((x.len:Nat):Int)=1):=by simp only[hxl,y5];omega
  refine k9 (by simpa using hne) (k9 (by simpa using hne1) ?_)
  generalize hL:b::r=rest at hx hl hz hK hxl
  have hrl:1<=rest.length:=by rw[<-hL];simp
  simp only[y5]at hl hxl
  obtain⟨q,hq,hqs⟩ : ∃q:Nat,q<=rest.length/\q=sep.size * rest.length:=⟨_,by rcases(by omega:sep.size=0\/sep.size=1)with e | e<;>rw[e]<;>omega,rfl⟩
  refine S9 (fun j=>j x sep (q:Int) σ) ?_ ?_
  ·refine u5 ?_
   intro R hR
   have key : ∀ (c i:Nat),c+i=rest.length+1->R x sep ((q+ad3 ((a::rest).take i):Nat):Int) x ((x.len:Nat):Int) (i:Int) σ:=by
    intro c
    induction c with
    | zero =>
     intro i hc
     refine hR _ _ _ _ _ _ _ ?_
     refine k9 (J6 (by omega)) ?_
     have hst:=aE6 (a::rest) i
     refine x0 ?_;intro b20 σ1 g1 e1 n1
     refine i7 (bS3 e1 (by omega) ?_)
     intro σ2 D2 hB2 S2
     refine k0 rfl ?_
     have k2:Gr σ σ2:=P0 fun c o hc=>(S2 c o (g1.get hc) (fun e=>by rw[e,n1]at hc;cases hc)).1
     have d2 : ∀c,D2 c->σ c=none:=fun c hd=>by
      cases hc:σ c with
      | none=>rfl
      | some o=>exact u9 hd (S2 c o (g1.get hc) (fun e=>by rw[e,n1]at hc;cases hc)).2
     obtain⟨g,o,a1,a2,a3⟩:=U7 (hx.gr k2) (i:=0) (s:=a) rfl
     rw[a1]
     refine i6 (l5 (L1 x.len) (y8 a3 ?_))
     rw[aW0]at hz
     refine i7 (aJ2 hB2 a (by simp;omega) ?_)
     intro σ3 D3 hB3 S3
     refine k0 rfl ?_
     have k3:Gr σ σ3:=P0 fun c o hc=>(S3 c o (k2.get hc) (fun hd=>by rw[d2 c hd]at hc;cases hc)).1
     have d3 : ∀c,D3 c->σ c=none:=fun c hd=>by
      cases hc:σ c with
      | none=>rfl
      | some o=>exact u9 hd (S3 c o (k2.get hc) (fun hd=>by rw[d2 c hd]at hc;cases hc)).2
     refine l5 ⟨H1,B3 (by omega) (by show(1:Int)<=((x.len:Nat):Int);omega)⟩ ?_
     have hsub:w7 σ 1 (n9 rest) ⟨F8 x.base ((1:Int).toNat) x.cap 1,x.len - ((1:Int).toNat),x.cap - ((1:Int).toNat)⟩:=by
      have:=hx.sub hcap (k:=1) (e:=(n9 (a::rest)).length) (by simp[n9]) (A6 _) (x.cap - 1)
      rw[V7]at this
      have e:x.len - 1=(n9 (a::rest)).length - 1:=by simp[n9];omega
      show w7 σ 1 _ ⟨F8 x.base 1 x.cap 1,x.len - 1,x.cap - 1⟩
      rw[e];exact this
     rw[<-a1]
     generalize hy:(⟨F8 x.base ((1:Int).toNat) x.cap 1,x.len - ((1:Int).toNat),x.cap - ((1:Int).toNat)⟩:Sl)=y at hsub ⊢
     have hyl:y.len=rest.length:=by rw[hsub.1];simp[n9]
     have hyn:((x.len - ((1:Int).toNat):Nat):Int)=((rest.length:Nat):Int):=by show((x.len - 1:Nat):Int)=_;omega
     rw[hyn]
     refine u5 ?_
     intro R2 hR2
     have key2 : ∀ (c i:Nat) (τ:H) (D:Nat->Prop),c+i=rest.length->Z2 τ b20 (a.data.toList++(rest.take i).flatMap fun s=>sep.data.toList++s.data.toList) D->Gr σ τ->(∀c,D c->σ c=none)->R2 sep (some ⟨b20,0,none⟩) y ((rest.length:Nat):Int) (i:Int) τ:=by
      have hsl:sep.data.toList.length<=1:=by rw[<-I5];exact hsep
      have hal:a.data.toList.length=a.size:=(I5 a).symm
      intro c
      induction c with
      | zero =>
       intro i τ D hc hB hg hD
       refine hR2 _ _ _ _ _ _ ?_
       refine k9 (J6 (by omega)) ?_
       rw[H7 (by omega)]at hB
       have hfl:=ba7 sep.data.toList hsl rest
       refine i7 (aJ3 hB (by rw[s8,hal];omega) ?_)
       intro σ' hkeep
       refine I1 ?_
       have:=hK σ' (P0 fun c o hc=>hkeep c o (hg.get hc) (fun hd=>by rw[hD c hd]at hc;cases hc))
       rw[H5,aO7,List.flatMap_map]at this
       exact this
      | succ c ih =>
       intro i τ D hc hB hg hD
       obtain⟨s,hs⟩ : ∃s,rest[i]? = some s:=⟨_,B9 (by omega)⟩
       obtain⟨g,o,z1,z2,z3⟩:=U7 (hsub.gr hg) hs
       refine hR2 _ _ _ _ _ _ ?_
       refine l3 (C8 (by omega)) ?_
       rw[z1]
       have hfl:=ba7 sep.data.toList hsl (rest.take i)
       have hst2:=aE6 rest (i+1)
       have htk:rest.take (i+1)=rest.take i++[s]:=by rw[Q3,hs];rfl
       rw[htk,aB3]at hst2
       have hs1:ad3 [s]=s.size:=by simp[ad3]
       have hti:(rest.take i).length<=rest.length:=by rw[F0];omega
       refine i6 (l5 (L1 y.len) (y8 z3 ?_))
       refine i7 (aJ2 hB sep (by rw[s8,hal];omega) ?_)
       intro τ2 D2 hB2 T2
       refine k0 rfl ?_
       refine i7 (aJ2 hB2 s (by rw[s8,s8,hal];omega) ?_)
       intro τ3 D3 hB3 T3
       refine k0 rfl ?_
       rw[C7 (i:=i)]
       have h2 : ∀c o,σ c=some o->τ2 c=some o /\ ¬D2 c:=fun c o hc=>T2 c o (hg.get hc) (fun hd=>by rw[hD c hd]at hc;cases hc)
       have h3 : ∀c o,σ c=some o->τ3 c=some o /\ ¬D3 c:=fun c o hc=>T3 c o (h2 c o hc).1 (h2 c o hc).2
       refine ih (i+1) τ3 D3 (by omega) ?_ (P0 fun c o hc=>(h3 c o hc).1) (fun c hd => ?_)
       ·rw[htk,aa3]
        simp only[aa4,List.flatMap_nil,J1]
        rw[<-E0,<- E0]
        exact hB3
       ·cases hc:σ c with
        | none=>rfl
        | some o=>exact u9 hd (h3 c o hc).2
     exact key2 rest.length 0 σ3 D3 (by omega) (by simpa using hB3) k3 d3
    | succ c ih =>
     intro i hc
     obtain⟨s,hs⟩ : ∃s,(a::rest)[i]? = some s:=⟨_,B9 (by simp only[y5];omega)⟩
     obtain⟨g,o,z1,z2,z3⟩:=U7 hx hs
     have hst:=aE6 (a::rest) (i+1)
     have htk:(a::rest).take (i+1)=(a::rest).take i++[s]:=by rw[Q3,hs];rfl
     have hs1:ad3 [s]=s.size:=by simp[ad3]
     rw[htk,aB3,hs1]at hst
     refine hR _ _ _ _ _ _ _ ?_
     refine l3 (C8 (by omega)) ?_
     rw[z1]
     refine i6 (l5 (L1 x.len) (y8 z3 ?_))
     refine k9 (by
      simp only[C2]
      rw[n0 (by omega) (by omega)];omega) ?_
     rw[C7 (i:=i)]
     rw[n0 (x:=((q+ad3 ((a::rest).take i):Nat):Int)+((s.size:Nat):Int)) (by omega) (by omega)]
     have:=ih (i+1) (by omega)
     rw[htk,aB3,hs1]at this
     have e:((q+ad3 ((a::rest).take i):Nat):Int)+((s.size:Nat):Int)=((q+(ad3 ((a::rest).take i)+s.size):Nat):Int):=by omega
     rw[e];exact this
   have:=key (rest.length+1) 0 (by omega)
   simpa[ad3]using this
  ·intro j hj
   rcases(by omega:sep.size=0\/sep.size=1)with e | hsep
   ·rw[e,Nat.zero_mul]at hqs
    subst hqs
    refine k9 (by rw[e];rfl) hj
   rw[hsep,Nat.one_mul]at hqs
   rw[hqs]at hj
   refine l3 (by rw[hsep];rfl) ?_
   have e1:IntKind.i64.wrap (((x.len:Nat):Int) - 1)=((rest.length:Nat):Int):=by rw[n0 (by omega) (by omega)];omega
   rw[e1,hsep]
   refine l5 (by omega) (k9 ?_ ?_)
   ·simp only[C2]
    have h1:(2:Int)<=(9223372036854775807:Int).tdiv ((rest.length:Nat):Int):=by
     rw[Int.tdiv_eq_ediv_of_nonneg (by omega)]
     exact Int.le_ediv_of_mul_le (by omega) (by omega)
    have h2:(9223372036854775807:Int).tdiv ((rest.length:Nat):Int)<=9223372036854775807:=by
     rw[Int.tdiv_eq_ediv_of_nonneg (by omega)]
     exact Int.ediv_le_self _ (by omega)
    rw[n0 (by omega) (by omega)]
    omega
   ·have e2 : IntKind.i64.wrap (0 + IntKind.i64.wrap (((1 : Nat) : Int) * ((rest.length : Nat) : Int))) = ((rest.length : Nat) : Int) := by
     rw[n0 (x:=((1:Nat):Int) * _) (by omega) (by omega),n0 (by omega) (by omega)];omega
    rw[e2];exact hj
end
end Go.Proofs.YtgfiobhpipollaaGreatDoor

set_option maxRecDepth 100000
namespace Go.Proofs.YtgfiobhpipollaaGreatDoor
open Go Go.HL Go.Wk
attribute [local irreducible] j0 w6 l8 A2 l4 A9 w9 U3 V0 R1 M7 V2 C1 y6 app A4 C9 u7 sizeT oW H8 F2 l9 U5 H2 G1 y9 V1 B2 Gr L6
theorem br4:sizeT Tryz.prog 206=some 2:=by kernel_rfl
theorem aO8:sizeT Tryz.prog 23=some 1:=by kernel_rfl
theorem aE7:I3 Tryz.prog 190=true:=by kernel_rfl
theorem Y8:ElT Tryz.prog 23 9 1:=ax7 (by kernel_rfl) (by decide) (by kernel_rfl)
section
variable {σ : H} {K : KH}
theorem ch4 {d:DvP} {x y:Sl} (hd:aI0 σ d x y) (hz:aR7 d) (hK:K (.bool d.may) σ):a8 189 [.agg ⟨drC d.name x y d.script⟩] K σ:=by
 refine B7 _ hK (dz1 _ _ _ _ ?_)
 clear hK
 unfold cR9
 refine x0 ?_;intro b5 σ1 g1 e1 n1
 refine x0 ?_;intro b6 σ2 g2 e2 n2
 have c5:σ2 b5=some (.cells ⟨drC d.name x y d.script⟩ 113 (0,0)):=g2.get e1
 have n56:b5≠b6:=o0 e1 n2
 have n6:σ b6=none:=C3 g1 n2
 refine A7 (f0 c5) ?_
 have hd2:=(hd.gr g1).gr g2
 have hyl:y.len=d.env.length:=by rw[hd.2.1,R0]
 have hnen:=hz.nen
 have hnin:=hz.nin
 refine u5 ?_
 intro R hR
 have key : ∀ (r:List (ByteArray×ByteArray)) (i:Nat) (acc:List ByteArray) (z:Sl) (τ:H),d.env.drop i=r->acc=(d.env.take i).map (·.1)->τ b5=some (.cells ⟨drC d.name x y d.script⟩ 113 (0,0))->τ b6=some (.cells ⟨[.slice z.base z.len z.cap]⟩ 23 (0,0))->E7 σ1 τ 9 1 (n9 acc) z->z.base≠some ⟨b6,0,none⟩->R (some ⟨b5,0,none⟩) (some ⟨b6,0,none⟩) y ((y.len:Nat):Int) (i:Int) τ:=by
  intro r
  induction r with
  | nil =>
   intro i acc z τ hdr hacc h5 h6 hown hfr
   have hg:Gr σ τ:=g1.trans hown.1
   have h4:d.env.length<=i:=by simpa using hdr
   rw[H7 h4]at hacc
   refine hR _ _ _ _ _ _ (k9 (by rw[hyl];exact J6) ?_)
   refine x0 ?_;intro b25 τ1 g25 e25 n25
   have hdτ:aI0 τ1 d x y:=(hd.gr hg).gr g25
   have k5:=g25.get h5
   have k6:=g25.get h6
   have hrow:w7 τ1 1 ([Value.func (.func 229) ⟨[]⟩ ⟨[.pointer (some ⟨b5,0,none⟩)]⟩,.func (.func 230) ⟨[]⟩ ⟨[.pointer (some ⟨b5,0,none⟩)]⟩,.func (.func 231) ⟨[]⟩ ⟨[.pointer (some ⟨b5,0,none⟩)]⟩,.func (.func 233) ⟨[]⟩ ⟨[.pointer (some ⟨b5,0,none⟩),.pointer (some ⟨b6,0,none⟩)]⟩,.func (.func 234) ⟨[]⟩ ⟨[.pointer (some ⟨b5,0,none⟩)]⟩,.func (.func 237) ⟨[]⟩ ⟨[.pointer (some ⟨b5,0,none⟩)]⟩].map fun v=>[v]) ⟨some ⟨b25,0,none⟩,6,6⟩:=by
    refine⟨rfl,.inr ⟨b25,0,_,_,_,rfl,e25,fun i p hi => ?_⟩⟩
    match i,hi with
    | 0,hi=>cases hi;exact⟨rfl,rfl⟩
    | 1,hi=>cases hi;exact⟨rfl,rfl⟩
    | 2,hi=>cases hi;exact⟨rfl,rfl⟩
    | 3,hi=>cases hi;exact⟨rfl,rfl⟩
    | 4,hi=>cases hi;exact⟨rfl,rfl⟩
    | 5,hi=>cases hi;exact⟨rfl,rfl⟩
    | i+6,hi=>simp at hi
   have zr:w7 τ1 1 (n9 acc) z:=(hown.gr g25).at
   have hal:acc.length<=1000000000:=by rw[hacc,Y4];omega
   refine i7 (ch3 (f:=fun v=>match v with
    | .func (.func f) _ _=>if f=229 then L3 d.name.data.toList==0 else if f=230 then decide (d.inputs.length<=8)&&decide (d.env.length<=16)else if f=231 then !(d.inputs.any fun p => !C6 p)else if f=233 then E5 d.inputs&&E5 (d.env.map (·.1))else if f=234 then !(d.env.any fun v => !X8 v.1.data.toList||decide (200<v.2.size))else decide (d.script.size<=4000)
    | _=>false) hrow ?_ (by show 6<=_;decide) (y7 ?_))
   ·intro v hv K' hK'
    simp only[A5,List.mem_nil_iff,or_false]at hv
    unfold u7
    rcases hv with rfl | rfl | rfl | rfl | rfl | rfl
    ·simp only[bG8]
     refine dB7 _ ?_
     unfold cX9
     refine i6 (y8 (f0 k5) ?_)
     exact i7 (am0 d.name (B6 hK'))
    ·simp only[bG9]
     refine dB8 _ ?_
     unfold cY1
     refine i6 (A7 (f0 k5) ?_)
     have hxl:x.len=d.inputs.length:=ac4 hd.1
     have e1:decide (((x.len:Nat):Int)<=8)=decide (d.inputs.length<=8):=by rw[hxl,E1];omega
     have e2:decide (((y.len:Nat):Int)<=16)=decide (d.env.length<=16):=by rw[hyl,E1];omega
     have hK':K' (.bool (decide (d.inputs.length<=8)&&decide (d.env.length<=16))) τ1:=hK'
     show l8 (decide (((x.len:Nat):Int)<=8)) _ _ _
     rw[e1]
     cases hb:decide (d.inputs.length<=8) with
     | false=>rw[hb]at hK';exact k9 rfl hK'
     | true =>
      rw[hb]at hK'
      refine l3 rfl (i6 (A7 (f0 k5) ?_))
      show K' (.bool (decide (((y.len:Nat):Int)<=16))) τ1
      rw[e2];exact hK'
    ·simp only[bH0]
     refine dB9 _ ?_
     unfold cY3
     refine i6 (A7 (f0 k5) ?_)
     refine i7 (as6 (f:=fun p => !C6 p) hdτ.1 ?_ (by omega) (y7 hK'))
     intro s hs τ2 K2 _ hK2
     unfold u7
     simp only[br2]
     refine dC0 _ ?_
     unfold cY5
     exact i7 (aO5 s (hz.inp s hs) (y7 hK2))
    ·simp only[bH1]
     refine dC1 _ _ ?_
     unfold cY7
     refine i6 (A7 (f0 k5) ?_)
     have hK':K' (.bool (E5 d.inputs&&E5 (d.env.map (·.1)))) τ1:=hK'
     refine i7 (aO6 hdτ.1 (by omega) (y7 ?_))
     cases hb:E5 d.inputs with
     | false=>rw[hb]at hK';exact k9 rfl hK'
     | true =>
      rw[hb]at hK'
      refine l3 rfl (i6 (A7 (f0 k6) ?_))
      refine i7 (aO6 zr hal (y7 ?_))
      rw[hacc];exact hK'
    ·simp only[bH2]
     refine dC2 _ ?_
     unfold cY9
     refine i6 (A7 (f0 k5) ?_)
     refine i7 (bU8 (f:=fun v => !X8 v.1.data.toList||decide (200<v.2.size)) hdτ.2 ?_ (by omega) (y7 hK'))
     intro u hu K2 hK2
     unfold u7
     simp only[br3]
     refine B7 _ hK2 (dC4 _ _ ?_)
     unfold cZ3
     refine x0 ?_;intro b3 τ3 g3 e3 n3
     refine y8 (f0 e3) ?_
     obtain⟨z1,z2⟩:=hz.env u hu
     have hl1:u.1.data.toList.length=u.1.size:=dl _
     have e1:u.1=⟨⟨u.1.data.toList⟩⟩:=(K0 _).symm
     rw[e1]
     refine i7 (by2 u.1.data.toList (by omega) (y7 ?_))
     rw[<-e1]
     cases hb:X8 u.1.data.toList with
     | false=>exact l3 rfl ⟨rfl,g3⟩
     | true =>
      refine k9 rfl (y8 (f0 e3) ⟨?_,g3⟩)
      congr 1
      show decide (((u.2.size:Nat):Int)>200)=(false||decide (200<u.2.size))
      rw[Q1,E1];omega
    ·simp only[bH3]
     refine dC5 _ ?_
     unfold cZ5
     refine i6 (y8 (f0 k5) ?_)
     have e1:decide (((d.script.size:Nat):Int)<=4000)=decide (d.script.size<=4000):=by rw[E1];omega
     rw[e1];exact hK'
   ·refine⟨?_,hg.trans g25⟩
    unfold DvP.may
    show Value.bool ((L3 d.name.data.toList==0)&&((decide (d.inputs.length<=8)&&decide (d.env.length<=16))&&((!(d.inputs.any fun p => !C6 p))&&((E5 d.inputs&&E5 (d.env.map (·.1)))&&((!(d.env.any fun v => !X8 v.1.data.toList||decide (200<v.2.size)))&&(decide (d.script.size<=4000)&&true))))))=_
    congr 1
    cases (L3 d.name.data.toList==0)<;>cases decide (d.inputs.length<=8)<;>cases decide (d.env.length<=16)<;>cases (d.inputs.any fun p => !C6 p)<;>cases E5 d.inputs<;>cases E5 (d.env.map (·.1))<;>simp
  | cons v r ih =>
   intro i acc z τ hdr hacc h5 h6 hown hfr
   have hg:Gr σ τ:=g1.trans hown.1
   obtain⟨t1,t2,t3⟩:=C5 hdr
   obtain⟨g,o,q1,q2,q3,q4⟩:=as9 (hd.2.gr hg) t1
   refine hR _ _ _ _ _ _ (l3 (by rw[hyl];exact C8) ?_)
   rw[q1]
   refine i6 (l5 (L1 y.len) (A3 q3 ?_))
   (refine k0 rfl ?_;try dsimp only)
   refine x0 ?_;intro b18 τ1 g18 e18 n18
   refine w4 e18 br4 ?_
   intro τ2 p2
   have g2':Gr τ τ2:=g18.putF p2 n18
   have v18:τ2 b18=some (.cells ⟨[.string v.1,.string v.2]⟩ 206 (0,0)):=p2.same
   refine i6 (A7 (f0 (g2'.get h6)) (y8 (f0 v18) ?_))
   refine(hown.gr g2').app1 Y8 (r:=[.string v.1]) rfl rfl (by rw[J7,hacc,Y4,F0];omega) ?_
   intro z' τ3 r3 k1 k2
   refine w4 (k1 b6 _ (g2'.get h6) hfr) aO8 ?_
   intro τ4 p4
   have f6:z'.base≠some ⟨b6,0,none⟩:=by
    intro h
    rcases k2 b6 h with h | h
    ·exact hfr h
    ·rw[g2'.get h6]at h;cases h
   have z5:z.base≠some ⟨b5,0,none⟩:=fun h=>by
    have:=hown.2.2 b5 h
    rw[e1]at this;cases this
   rw[C7 (i:=i)]
   refine ih (i+1) (acc++[v.1]) z' τ4 t3 ?_ (p4.get n56 (k1 b5 _ (g2'.get h5) z5)) p4.same ?_ f6
   ·rw[hacc,Q3,t1,List.map_append];rfl
   ·have:n9 (acc++[v.1])=n9 acc++[[Value.string v.1]]:=by simp[n9]
    rw[this]
    exact r3.putF p4 n2 f6
 exact key d.env 0 [] ⟨none,0,0⟩ σ2 rfl rfl c5 e2 (E7.nil' g2 _ _) (fun h=>by cases h)
end
theorem cw5 : ∀n:Nat,n<256->Int.fdiv ((n:Nat):Int) (2 ^ min (Int.toNat 4) (IntKind.bits .u8))=((n / 16:Nat):Int):=by decide +kernel
theorem cw6 : ∀n:Nat,n<256->A0 .and .u8 ((n:Nat):Int) 15=((n % 16:Nat):Int):=by decide +kernel
theorem br5 {n:Nat} (h:n<16):aq4[n]? = some (aq4.getD n 0):=by
 have hl:n<aq4.length:=h
 rw[L0,B9 hl];rfl
theorem aB4 (l:List UInt8):(l.flatMap aR0).length=2 * l.length:=by
 induction l with
 | nil=>rfl
 | cons c r ih=>rw[aa4,s8,ih,y5];show 2+_=_;omega
theorem at0 (l:List UInt8):(aw1 l).length<=2 * l.length+1:=by
 unfold aw1
 split
 ·show 1<=_;omega
 ·rw[aB4];omega
theorem aO9 {α:Type} : ∀ {l:List α} {i:Nat} {c:α},l[i]? = some c->(l.drop i).take 1=[c]
 | [],_,_,h=>by simp at h
 | a::l,0,_,h=>by cases h;rfl
 | _::l,i+1,_,h=>aO9 (l:=l) h
theorem bj4 {σ:H} {b:Nat} (l:List ByteArray) {ty:TypeId} {fz:Nat×Nat} (h:σ b=some (.cells ⟨l.map Value.string⟩ ty fz)):w7 σ 1 (n9 l) ⟨some ⟨b,0,none⟩,l.length,l.length⟩:=by
 refine⟨by rw[J7],.inr ⟨b,0,_,_,_,rfl,h,fun i r hr => ?_⟩⟩
 unfold n9 at hr
 rw[O4]at hr
 cases hi:l[i]? with
 | none=>rw[hi]at hr;cases hr
 | some s =>
  rw[hi]at hr;cases hr
  refine⟨rfl,?_⟩
  have:(l.map Value.string)[i]? = some (.string s):=by rw[O4,hi];rfl
  rw[H6,P4]
  rw[aO9 this]
section
variable {σ : H} {K : KH}
theorem ch5 (l:List UInt8) (hs:l.length<=1000000) (hK:K (.string ⟨⟨aw1 l⟩⟩) σ):a8 193 [.string ⟨⟨l⟩⟩] K σ:=by
 refine B7 _ hK (dz5 _ ?_)
 clear hK
 unfold cS7
 rw[K1]
 by_cases h0:l=[]
 ·subst h0
  exact l3 rfl ⟨rfl,Gr.refl _⟩
 ·refine k9 (by simpa using h0) ?_
  have hP:aw1 l=l.flatMap aR0:=by
   unfold aw1
   rw[c0 (by cases l with | nil=>exact u9 rfl h0 | cons _ _=>simp)]
  rw[hP]
  refine x0 ?_;intro b2 σ1 g1 e1 n1
  refine u5 ?_
  intro R hR
  have key : ∀ (r:List UInt8) (i:Nat) (acc:List UInt8) (D:Nat->Prop) (τ:H),l.drop i=r->acc=(l.take i).flatMap aR0->Z2 τ b2 acc D->(∀c o,σ c=some o->τ c=some o /\ ¬D c)->R ⟨⟨l⟩⟩ (some ⟨b2,0,none⟩) ((l.length:Nat):Int) (i:Int) τ:=by
   intro r
   induction r with
   | nil =>
    intro i acc D τ hd he hb hk
    have hge:l.length<=i:=by simpa using hd
    rw[H7 hge]at he
    refine hR _ _ _ _ _ (k9 (J6 (by omega)) ?_)
    refine i7 (aJ3 hb (by rw[he,aB4];omega) ?_)
    intro σ' hk'
    exact I1 ⟨by rw[he],P0 fun c o hc=>hk' c o (hk c o hc).1 (hk c o hc).2⟩
   | cons c r ih =>
    intro i acc D τ hd he hb hk
    obtain⟨t1,t2,t3⟩:=C5 hd
    have hal:acc.length<=2 * l.length:=by rw[he,aB4,F0];omega
    have hc:c.toNat<256:=c.toNat_lt
    refine hR _ _ _ _ _ (l3 (C8 (by omega)) ?_)
    refine M3 (c:=c) (by omega) t1 (l5 (by decide) ?_)
    rw[cw5 _ hc]
    refine M3 (c:=aq4.getD (c.toNat / 16) 0) (by omega) (by rw[B0];exact br5 (by omega)) ?_
    refine i7 (aZ6 hb _ (by omega) ?_)
    intro τ2 D2 hB2 S2
    refine ar0 ?_
    refine M3 (c:=c) (by omega) t1 ?_
    rw[cw6 _ hc]
    refine M3 (c:=aq4.getD (c.toNat % 16) 0) (by omega) (by rw[B0];exact br5 (by omega)) ?_
    refine i7 (aZ6 hB2 _ (by simp;omega) ?_)
    intro τ3 D3 hB3 S3
    refine ar0 ?_
    rw[C7 (i:=i)]
    refine ih (i+1) _ D3 τ3 t3 ?_ hB3 fun c o ho => ?_
    ·rw[Q3,t1,aa3,<- he,E0];rfl
    ·obtain⟨k1,k2⟩:=hk c o ho
     obtain⟨k3,k4⟩:=S2 c o k1 k2
     exact S3 c o k3 k4
  exact key l 0 [] _ σ1 rfl rfl (Z2.new e1) (fun c o hc=>⟨g1.get hc,fun e=>by rw[e,n1]at hc;cases hc⟩)
theorem aB5 {b:Nat} {acc:List UInt8} {D:Nat->Prop} {l:List ByteArray} {x:Sl} (hx:w7 σ 1 (n9 l) x) (hcap:x.len<=x.cap) (hl:l.length<=10) (hz:ad3 l<=10000000) (hb:Z2 σ b acc D) (ha:acc.length<=1000000000)
 (hK:∀σ' D',Z2 σ' b (acc++(ac3 [32] (l.map fun s=>s.data.toList)++[10])) D'->Sep σ D σ' D'->K (.tuple ⟨[]⟩) σ'):a8 190 [.slice x.base x.len x.cap,.pointer (some ⟨b,0,none⟩)] K σ:=by
 refine dz2 _ _ ?_
 unfold cS1
 refine i7 (cw4 hx hcap ⟨⟨[32]⟩⟩ (by decide) (by omega) (by omega) ?_)
 intro σ1 g1
 refine I1 ?_
 have hjl:(ac3 [32] (l.map fun s=>s.data.toList)).length<=10000010:=by
  have h1:=ba7 [32] (by decide) l
  cases l with
  | nil=>simp[ac3]
  | cons a r =>
   rw[H5,aO7]
   rw[aa4,s8,s8]at h1
   rw[s8,List.flatMap_map]
   have:(([32]:List UInt8)).length=1:=rfl
   omega
 refine l5 (by show(ac3 [32] (l.map fun s=>s.data.toList)).length+1<=_;omega) ?_
 refine i7 (aJ2 (hb.gr g1) _ (by show acc.length+((⟨⟨ac3 [32] (l.map fun s=>s.data.toList)⟩⟩:ByteArray)++⟨⟨[10]⟩⟩).size<=_;rw[V8];show acc.length+((ac3 [32] (l.map fun s=>s.data.toList)).length+1)<=_;omega) ?_)
 intro σ2 D2 hB2 S2
 refine k0 rfl (hK σ2 D2 ?_ (Sep.of_gr g1 S2))
 rw[O0]at hB2
 exact hB2
theorem ch6 {α:Type} (f:α->List UInt8) (B:Nat) : ∀l:List α,(∀a∈l,(f a).length<=B)->(l.flatMap f).length<=l.length * B:=by
 intro l
 induction l with
 | nil=>intro _;simp
 | cons a r ih =>
  intro h
  have h1:=h a (E2 ..)
  have h2:=ih fun x hx=>h x (E3 _ hx)
  rw[aa4,s8,y5,E8]
  omega
theorem am4 {α:Type} (f:α->List UInt8) (B n:Nat) (l:List α) (i:Nat) (h:∀a∈l,(f a).length<=B) (hn:l.length<=n):((l.take i).flatMap f).length<=n * B :=
 F5 (ch6 f B _ fun a ha=>h a (List.mem_of_mem_take ha)) (Nat.mul_le_mul_right _ (by rw[F0];omega))
def inL (p:ByteArray):List UInt8:=[105,110,32]++p.data.toList++[10]
def aq5 (v:ByteArray×ByteArray):List UInt8:=[101,110,118,32]++v.1.data.toList++[32]++aw1 v.2.data.toList++[10]
theorem DvP.text_eq (d:DvP):d.text=[100,114,118,32]++d.name.data.toList++[10]++d.inputs.flatMap inL++d.env.flatMap aq5++[114,117,110,10]++d.script.data.toList:=rfl
theorem aB6 {d:DvP} (hz:aR7 d) (h1:d.inputs.length<=8) (h2:d.env.length<=16) (h3:d.script.size<=4000):d.text.length<=70000000:=by
 have a1:=am4 inL 1000004 8 d.inputs d.inputs.length (fun a ha=>by have:=hz.inp a ha;show([105,110,32]++a.data.toList++[10]).length<=_;rw[s8,s8,<- I5];show 3+_+1<=_;omega) h1
 have a2:=am4 aq5 3000007 16 d.env d.env.length (fun v hv=>by
  obtain⟨p1,p2⟩:=hz.env v hv
  have:=at0 v.2.data.toList
  rw[<-I5]at this
  unfold aq5
  simp only[s8,<- I5,y5,H3];omega) h2
 rw[V7]at a1 a2
 have a3:=hz.name
 rw[DvP.text_eq]
 simp only[s8,<- I5,y5,H3]
 omega
theorem bH4 {d:DvP} {x y:Sl} (hd:aI0 σ d x y) (hz:aR7 d) (hK:K (.tuple ⟨[.string ⟨⟨if d.may then d.text else []⟩⟩,.int .i64 (if d.may then 0 else 2)]⟩) σ):a8 140 [.agg ⟨drC d.name x y d.script⟩] K σ:=by
 refine B7 _ hK (dv6 _ _ _ _ ?_)
 clear hK
 unfold cK3
 refine x0 ?_;intro b5 σ1 g1 e1 n1
 refine A3 (l7 e1) (k0 rfl ?_)
 dsimp only
 refine i7 (ch4 (hd.gr g1) hz (y7 ?_))
 cases hm:d.may with
 | false=>exact l3 rfl ⟨rfl,g1⟩
 | true =>
  refine k9 rfl ?_
  have hq:d.inputs.length<=8/\d.env.length<=16/\d.script.size<=4000:=by
   unfold DvP.may at hm
   simp only[A8,z8]at hm
   exact⟨hm.2.1.1,hm.2.1.2,hm.2.2.2.2.2⟩
  obtain⟨q1,q2,q3⟩:=hq
  have hT:=aB6 hz q1 q2 q3
  refine x0 ?_;intro b11 σ2 g2 e2 n2
  have c5:=g2.get e1
  refine y8 (f0 c5) ?_
  refine x0 ?_;intro b13 σ3 g3 e3 n3
  have kB:Z2 σ3 b11 [] (fun c=>c=b11):=Z2.new (g3.get e2)
  have hzn:=hz.name
  refine i7 (aB5 (bj4 [ac8,d.name] e3) (A6 _) (by show 2<=10;decide) (by unfold ad3;simp only[H5,List.map_nil,List.sum_cons,List.sum_nil];have:ac8.size=3:=rfl;omega) kB (by simp) ?_)
  intro σ4 D4 hB4 S4
  refine O9 ?_
  have kp4 : ∀c o,σ1 c=some o->σ4 c=some o /\ ¬D4 c:=fun c o hc=>S4 c o (g3.get (g2.get hc)) (fun e=>by rw[e,n2]at hc;cases hc)
  refine A7 (f0 (kp4 _ _ e1).1 (by rfl)) ?_
  have e4:([]:List UInt8)++(ac3 [32] ([ac8,d.name].map fun s=>s.data.toList)++[10])=[100,114,118,32]++d.name.data.toList++[10]:=by simp[ac3,ac8]
  rw[e4]at hB4
  have hxl:x.len=d.inputs.length:=ac4 hd.1
  have hyl:y.len=d.env.length:=by rw[hd.2.1,R0]
  refine u5 ?_
  intro R hR
  have key : ∀ (r:List ByteArray) (i:Nat) (D:Nat->Prop) (τ:H),d.inputs.drop i=r->Z2 τ b11 ([100,114,118,32]++d.name.data.toList++[10]++(d.inputs.take i).flatMap inL) D->(∀c o,σ1 c=some o->τ c=some o /\ ¬D c)->R (some ⟨b5,0,none⟩) (some ⟨b11,0,none⟩) (.func (.func 190) ⟨[]⟩ ⟨[.pointer (some ⟨b11,0,none⟩)]⟩) x ((x.len:Nat):Int) (i:Int) τ:=by
   intro r
   induction r with
   | cons p r ih =>
    intro i D τ hdr hb hk
    obtain⟨t1,t2,t3⟩:=C5 hdr
    have hτ:Gr σ τ:=P0 fun c o hc=>(hk c o (g1.get hc)).1
    obtain⟨g,o,a1,a2,a3⟩:=U7 (hd.1.gr hτ) t1
    refine hR _ _ _ _ _ _ _ (l3 (C8 (by omega)) ?_)
    rw[a1]
    refine i6 (l5 (L1 x.len) (y8 a3 ?_))
    refine x0 ?_;intro b25 τ1 g25 e25 n25
    have hp:=hz.inp p (F7 t1)
    have hal:((d.inputs.take i).flatMap inL).length<=8 * 1000004:=am4 inL 1000004 8 d.inputs i (fun a ha=>by have:=hz.inp a ha;show([105,110,32]++a.data.toList++[10]).length<=_;rw[s8,s8,<- I5];show 3+_+1<=_;omega) q1
    refine O6 aE7 ((aB5 (bj4 [inB,p] e25) (A6 _) (by show 2<=10;decide) (by unfold ad3;simp only[H5,List.map_nil,List.sum_cons,List.sum_nil];have:inB.size=2:=rfl;omega) (hb.gr g25) (by simp only[s8,<- I5,y5,H3];omega) ?_))
    intro τ2 D2 hB2 S2
    refine O9 ?_
    rw[C7 (i:=i)]
    refine ih (i+1) D2 τ2 t3 ?_ fun c o hc=>S2 c o (g25.get (hk c o hc).1) (hk c o hc).2
    have:([100,114,118,32]++d.name.data.toList++[10]++(d.inputs.take i).flatMap inL)++(ac3 [32] ([inB,p].map fun s=>s.data.toList)++[10])=[100,114,118,32]++d.name.data.toList++[10]++(d.inputs.take (i+1)).flatMap inL:=by
     rw[Q3,t1,aa3]
     simp[ac3,inB,inL]
    rw[<-this];exact hB2
   | nil =>
    intro i D τ hdr hb hk
    have hge:d.inputs.length<=i:=by simpa using hdr
    rw[H7 hge]at hb
    refine hR _ _ _ _ _ _ _ (k9 (J6 (by omega)) ?_)
    refine i6 (A7 (f0 (hk _ _ e1).1 (by rfl)) ?_)
    refine u5 ?_
    intro R2 hR2
    have key2 : ∀ (r:List (ByteArray×ByteArray)) (i:Nat) (D:Nat->Prop) (τ:H),d.env.drop i=r->Z2 τ b11 ([100,114,118,32]++d.name.data.toList++[10]++d.inputs.flatMap inL++(d.env.take i).flatMap aq5) D->(∀c o,σ1 c=some o->τ c=some o /\ ¬D c)->R2 (some ⟨b5,0,none⟩) (some ⟨b11,0,none⟩) (.func (.func 190) ⟨[]⟩ ⟨[.pointer (some ⟨b11,0,none⟩)]⟩) y ((y.len:Nat):Int) (i:Int) τ:=by
     have hil:(d.inputs.flatMap inL).length<=70000000:=by
      have:=hT;rw[DvP.text_eq]at this;simp only[s8]at this;omega
     intro r
     induction r with
     | cons v r ih =>
      intro i D τ hdr hb hk
      obtain⟨t1,t2,t3⟩:=C5 hdr
      have hτ:Gr σ τ:=P0 fun c o hc=>(hk c o (g1.get hc)).1
      obtain⟨g,o,a1,a2,a3,a4⟩:=as9 (hd.2.gr hτ) t1
      refine hR2 _ _ _ _ _ _ _ (l3 (C8 (by omega)) ?_)
      rw[a1]
      refine i6 (l5 (L1 y.len) (A3 a3 (k0 rfl ?_)))
      dsimp only
      refine x0 ?_;intro b40 τ1 g40 e40 n40
      refine w4 e40 br4 ?_
      intro τ2 p2
      have g2':Gr τ τ2:=g40.putF p2 n40
      have v40:τ2 b40=some (.cells ⟨[.string v.1,.string v.2]⟩ 206 (0,0)):=p2.same
      refine y8 (f0 v40) (y8 (f0 v40) ?_)
      obtain⟨z1,z2⟩:=hz.env v (F7 t1)
      have hl2:v.2.data.toList.length=v.2.size:=dl _
      have hE:v.2=⟨⟨v.2.data.toList⟩⟩:=(K0 _).symm
      rw[hE]
      refine i7 (ch5 v.2.data.toList (by omega) (I1 (F9 (f0 v40) ?_)))
      refine x0 ?_;intro b44 τ3 g44 e44 n44
      have hhl:=at0 v.2.data.toList
      have hal:((d.env.take i).flatMap aq5).length<=16 * 3000007:=am4 aq5 3000007 16 d.env i (fun v hv=>by
       obtain⟨p1,p2⟩:=hz.env v hv
       have:=at0 v.2.data.toList
       rw[<-I5]at this
       unfold aq5
       simp only[s8,<- I5,y5,H3];omega) q2
      refine O6 aE7 ((aB5 (bj4 [af6,v.1,⟨⟨aw1 v.2.data.toList⟩⟩] e44) (A6 _) (by show 3<=10;decide) (by unfold ad3;simp only[H5,List.map_nil,List.sum_cons,List.sum_nil];have h1:af6.size=3:=rfl;have h2:(⟨⟨aw1 v.2.data.toList⟩⟩:ByteArray).size=(aw1 v.2.data.toList).length:=rfl;omega) ((hb.gr g2').gr g44) (by simp only[s8,<- I5,y5,H3];omega) ?_))
      intro τ4 D4 hB4 S4
      refine O9 ?_
      rw[C7 (i:=i)]
      refine ih (i+1) D4 τ4 t3 ?_ fun c o hc=>S4 c o (g44.get (g2'.get (hk c o hc).1)) (hk c o hc).2
      have:([100,114,118,32]++d.name.data.toList++[10]++d.inputs.flatMap inL++(d.env.take i).flatMap aq5)++(ac3 [32] ([af6,v.1,⟨⟨aw1 v.2.data.toList⟩⟩].map fun s=>s.data.toList)++[10])=[100,114,118,32]++d.name.data.toList++[10]++d.inputs.flatMap inL++(d.env.take (i+1)).flatMap aq5:=by
       rw[Q3,t1,aa3]
       simp[ac3,af6,aq5]
      rw[<-this];exact hB4
     | nil =>
      intro i D τ hdr hb hk
      have hge:d.env.length<=i:=by simpa using hdr
      rw[H7 hge]at hb
      refine hR2 _ _ _ _ _ _ _ (k9 (J6 (by omega)) ?_)
      refine x0 ?_;intro b45 τ1 g45 e45 n45
      have hTl:=hT
      rw[DvP.text_eq]at hTl
      simp only[s8]at hTl
      refine O6 aE7 ((aB5 (bj4 [aj6] e45) (A6 _) (by show 1<=10;decide) (by decide) (hb.gr g45) (by simp only[s8];omega) ?_))
      intro τ2 D2 hB2 S2
      refine O9 ?_
      have k2 : ∀c o,σ1 c=some o->τ2 c=some o /\ ¬D2 c:=fun c o hc=>S2 c o (g45.get (hk c o hc).1) (hk c o hc).2
      refine i6 (y8 (f0 (k2 _ _ e1).1 (by rfl)) ?_)
      have e5:([100,114,118,32]++d.name.data.toList++[10]++d.inputs.flatMap inL++d.env.flatMap aq5)++(ac3 [32] ([aj6].map fun s=>s.data.toList)++[10])=[100,114,118,32]++d.name.data.toList++[10]++d.inputs.flatMap inL++d.env.flatMap aq5++[114,117,110,10]:=by simp[ac3,aj6]
      rw[e5]at hB2
      refine i7 (aJ3 hB2 (by simp only[s8];simp only[s8,y5,H3]at hTl ⊢;omega) ?_)
      intro τ3 k3
      have k3' : ∀c o,σ1 c=some o->τ3 c=some o:=fun c o hc=>k3 c o (k2 c o hc).1 (k2 c o hc).2
      refine I1 (F9 (f0 (k3' _ _ e1)) (l5 ?_ ⟨?_,P0 fun c o hc=>k3' c o (g1.get hc)⟩))
      ·show([100,114,118,32]++d.name.data.toList++[10]++d.inputs.flatMap inL++d.env.flatMap aq5++[114,117,110,10]:List UInt8).length+d.script.size<=_
       simp only[s8];simp only[s8,y5,H3]at hTl ⊢;omega
      ·rw[d9 rfl,d9 rfl,DvP.text_eq]
       congr 3
    exact key2 d.env 0 D τ rfl (by simpa using hb) hk
  exact key d.inputs 0 D4 σ4 rfl (by simpa using hB4) kp4
theorem bU9 {d:DvP} {x y:Sl} (hd:aI0 σ d x y) (hz:aR7 d) (hK:K (.tuple ⟨[.string ⟨⟨d.path.1⟩⟩,.int .i64 d.path.2]⟩) σ):a8 89 [.agg ⟨drC d.name x y d.script⟩] K σ:=by
 refine B7 _ hK (c89 _ _ _ _ ?_)
 clear hK
 unfold g89
 refine x0 ?_;intro b5 σ1 g1 e1 n1
 refine A3 (l7 e1) (k0 rfl ?_)
 dsimp only
 refine i7 (bH4 (hd.gr g1) hz (k0 rfl ?_))
 unfold DvP.path
 cases hm:d.may with
 | false=>exact l3 rfl ⟨rfl,g1⟩
 | true =>
  simp only[if_true]
  have hq:d.inputs.length<=8/\d.env.length<=16/\d.script.size<=4000:=by
   unfold DvP.may at hm
   simp only[A8,z8]at hm
   exact⟨hm.2.1.1,hm.2.1.2,hm.2.2.2.2.2⟩
  obtain⟨q1,q2,q3⟩:=hq
  have hT:=aB6 hz q1 q2 q3
  have hzn:=hz.name
  refine k9 rfl (l5 (by show 4+d.text.length<=_;omega) ?_)
  refine y8 (f0 e1) ?_
  have eC:(⟨⟨[100,114,118,58]⟩⟩:ByteArray)++⟨⟨d.text⟩⟩=⟨⟨[100,114,118,58]++d.text⟩⟩:=O3 (by rw[O0])
  rw[eC]
  refine i7 (bi0 ⟨⟨[100,114,118,58]++d.text⟩⟩ (by show([100,114,118,58]++d.text).length<=_;rw[s8];show 4+_<=_;omega) (I1 (F9 (f0 e1) ?_)))
  have hE:d.name=⟨⟨d.name.data.toList⟩⟩:=(K0 _).symm
  have hnl:d.name.data.toList.length=d.name.size:=dl _
  rw[hE]
  show C1 _ _ [.string ⟨⟨ar8 ([100,114,118,58]++d.text)⟩⟩,_] _ _ _
  refine i7 (aN6 (ar8 ([100,114,118,58]++d.text)) d.name.data.toList (by exact F5 (au5 _) (by decide)) (by omega) (k0 rfl ⟨?_,g1⟩))
  rfl
end
end Go.Proofs.YtgfiobhpipollaaGreatDoor

namespace Go.Proofs
open Go.Shelf
def Tryz.lays160_ren:Go.Shelf.Ren:=⟨fun | 160=>223 | 232=>252 | 231=>251 | 227=>253 | 234=>255 | 233=>254 | 236=>257 | 235=>256 | 228=>272 | 271=>274 | 151=>273 | 197=>262 | 120=>279 | 152=>270 | 260=>276 | 137=>116 | 119=>278 | 224=>259 | 225=>258 | 217=>176 | 266=>213 | n=>n,fun | 9=>9 | 4=>4 | 3=>3 | 5=>5 | 117=>252 | 116=>251 | 0=>0 | 124=>255 | 21=>21 | 105=>258 | 46=>133 | 119=>268 | 139=>271 | 138=>270 | n=>n,fun | 3=>1 | 4=>2 | n=>n⟩
theorem Tryz.lays160:Go.Proofs.Lays.n160 Tryz.prog Tryz.lays160_ren:={
 mixed:=by kernel_rfl
 f119:=Tryz.func278.trans (congrArg some (by kernel_rfl))
 f120:=Tryz.func279.trans (congrArg some (by kernel_rfl))
 f137:=Tryz.func116.trans (congrArg some (by kernel_rfl))
 f151:=Tryz.func273.trans (congrArg some (by kernel_rfl))
 f152:=Tryz.func270.trans (congrArg some (by kernel_rfl))
 f160:=Tryz.func223.trans (congrArg some (by kernel_rfl))
 f197:=Tryz.func262.trans (congrArg some (by kernel_rfl))
 f217:=Tryz.func176.trans (congrArg some (by kernel_rfl))
 f224:=Tryz.func259.trans (congrArg some (by kernel_rfl))
 f225:=Tryz.func258.trans (congrArg some (by kernel_rfl))
 f227:=Tryz.func253.trans (congrArg some (by kernel_rfl))
 f228:=Tryz.func272.trans (congrArg some (by kernel_rfl))
 f231:=Tryz.func251.trans (congrArg some (by kernel_rfl))
 f232:=Tryz.func252.trans (congrArg some (by kernel_rfl))
 f233:=Tryz.func254.trans (congrArg some (by kernel_rfl))
 f234:=Tryz.func255.trans (congrArg some (by kernel_rfl))
 f235:=Tryz.func256.trans (congrArg some (by kernel_rfl))
 f236:=Tryz.func257.trans (congrArg some (by kernel_rfl))
 f260:=Tryz.func276.trans (congrArg some (by kernel_rfl))
 f266:=Tryz.func213.trans (congrArg some (by kernel_rfl))
 f271:=Tryz.func274.trans (congrArg some (by kernel_rfl))
 t0:=Tryz.underlying0
 a0:=Tryz.isAgg0
 z0:=Tryz.sizeOf0
 v0:=Tryz.zeroValue0
 t3:=Tryz.underlying3
 a3:=Tryz.isAgg3
 z3:=Tryz.sizeOf3
 v3:=Tryz.zeroValue3
 t4:=Tryz.underlying4
 a4:=Tryz.isAgg4
 z4:=Tryz.sizeOf4
 v4:=Tryz.zeroValue4
 t5:=Tryz.underlying5
 a5:=Tryz.isAgg5
 z5:=Tryz.sizeOf5
 v5:=Tryz.zeroValue5
 t9:=Tryz.underlying9
 a9:=Tryz.isAgg9
 z9:=Tryz.sizeOf9
 v9:=Tryz.zeroValue9
 t21:=Tryz.underlying21
 a21:=Tryz.isAgg21
 z21:=Tryz.sizeOf21
 v21:=Tryz.zeroValue21
 t46:=Tryz.underlying133
 a46:=Tryz.isAgg133
 z46:=Tryz.sizeOf133
 v46:=Tryz.zeroValue133
 t105:=Tryz.underlying258
 a105:=Tryz.isAgg258
 z105:=Tryz.sizeOf258
 v105:=Tryz.zeroValue258
 t116:=Tryz.underlying251
 a116:=Tryz.isAgg251
 z116:=Tryz.sizeOf251
 t117:=Tryz.underlying252
 a117:=Tryz.isAgg252
 z117:=Tryz.sizeOf252
 v117:=Tryz.zeroValue252
 t119:=Tryz.underlying268
 a119:=Tryz.isAgg268
 z119:=Tryz.sizeOf268
 t124:=Tryz.underlying255
 a124:=Tryz.isAgg255
 z124:=Tryz.sizeOf255
 v124:=Tryz.zeroValue255
 t138:=Tryz.underlying270
 a138:=Tryz.isAgg270
 z138:=Tryz.sizeOf270
 v138:=Tryz.zeroValue270
 t139:=Tryz.underlying271
 a139:=Tryz.isAgg271
 z139:=Tryz.sizeOf271
 v139:=Tryz.zeroValue271
 g3:=by kernel_rfl
 g4:=by kernel_rfl }
end Go.Proofs

set_option maxRecDepth 100000
namespace Go.Proofs.YtgfiobhpipollaaGreatDoor
open Go Go.HL Go.Wk
theorem br6 (l cs:List UInt8) (hl:l.length<=1000000000) (hc:cs.length<=100) (ha:∀c∈cs,c.toNat<128) {σ:H} {K:KH} (hK:K (.string ⟨⟨Lib.trimS l cs⟩⟩) σ):a8 223 [.string ⟨⟨l⟩⟩,.string ⟨⟨cs⟩⟩] K σ:=by
 intro w hw
 refine callsIn_wide.2 ((Any.strings_Trim_laid Tryz.lays160 (by kernel_rfl) ⟨⟨l⟩⟩ ⟨⟨cs⟩⟩ w (by rw[bsz];omega) (by rw[bsz];omega) (ascii_of_all (Q2.2 fun c h=>by simpa using ha c h))).mono ?_)
 rintro en w' ⟨rfl,hb⟩
 exact⟨_,rfl,σ,aU5 hw hb,hK⟩
attribute [local irreducible] j0 w6 l8 A2 l4 A9 w9 U3 V0 R1 M7 V2 C1 y6 app A4 C9 u7 sizeT oW H8 F2 l9 U5 H2 G1 y9 V1 B2 Gr L6
theorem bH5 (l cs:List UInt8):(Lib.trimS l cs).isEmpty=l.all fun c=>cs.contains c:=by
 show(List.dropWhile (fun c=>cs.contains c) (List.dropWhile (fun c=>cs.contains c) l.reverse).reverse).isEmpty=_
 exact cb2 l _
attribute [local irreducible] ao7 af5 ac5 ar9
theorem bV0 : ∀n:Nat,n<256->aq4.contains (UInt8.ofNat n)=(ac7 (UInt8.ofNat n)).isSome:=by decide +kernel
theorem ch7 : ∀n:Nat,n<256->(ac7 (UInt8.ofNat n)).isSome=true->firstIdx ⟨⟨aq4⟩⟩ (UInt8.ofNat n)=((dvP (UInt8.ofNat n):Nat):Int)/\dvP (UInt8.ofNat n)<16:=by decide +kernel
theorem ch8 (c:UInt8):aq4.contains c=(ac7 c).isSome:=by
 have:=bV0 c.toNat c.toNat_lt
 rwa [UInt8.ofNat_toNat]at this
theorem by3 (c:UInt8) (h:(ac7 c).isSome=true):firstIdx ⟨⟨aq4⟩⟩ c=((dvP c:Nat):Int)/\dvP c<16:=by
 have:=ch7 c.toNat c.toNat_lt
 rw[UInt8.ofNat_toNat]at this
 exact this h
theorem cw7 : ∀a:Nat,a<16 -> ∀b:Nat,b<16->IntKind.u8.wrap (A0 .or .i64 (IntKind.i64.wrap (((a:Nat):Int) * 2 ^ min (Int.toNat 4) (IntKind.bits .i64))) ((b:Nat):Int))=(((UInt8.ofNat (16 * a+b)).toNat:Nat):Int):=by decide +kernel
theorem bV1 (c:UInt8):(((c.toNat:Nat):Int).toNat.toUInt8)=c:=by rw[B0];exact UInt8.ofNat_toNat
theorem av6:Tryz.prog.underlying 36=some (.slice 5):=by kernel_rfl
theorem ba8:Tryz.prog.underlying 5=some (.int .u8):=by kernel_rfl
theorem aP0:Tryz.prog.underlying 9=some .string:=by kernel_rfl
theorem cw8:sizeT Tryz.prog 5=some 1:=by kernel_rfl
theorem cw9 : ∃i,Tryz.prog.info? 5=some i/\i.zero=some (.int .u8 0)/\i.size=1/\i.bytes<=100:=by
 cases h:Tryz.prog.info? 5 with
 | none=>exact u9 (D9 Option.isSome h) (by rw[show(Tryz.prog.info? 5).isSome=true from by kernel_rfl];decide)
 | some i =>
  have h1:(Tryz.prog.info? 5).map (fun i=>(i.size,Nat.ble i.bytes 100))=some (1,true):=by kernel_rfl
  have h2:(Tryz.prog.info? 5).bind (fun i=>i.zero)=some (.int .u8 0):=by kernel_rfl
  rw[h]at h1 h2
  simp only[Option.map_some,Option.some.injEq,Prod.mk.injEq]at h1
  exact⟨i,rfl,h2,h1.1,Nat.le_of_ble_eq_true h1.2⟩
def ba9 (l:List UInt8):List Value:=l.map fun c => .int .u8 ((c.toNat:Nat):Int)
theorem bV2 (l:List UInt8) (s:UInt8) (m:Nat):(ba9 l++List.replicate (m+1) (Value.int .u8 0)).take l.length++[Value.int .u8 ((s.toNat:Nat):Int)]++(ba9 l++List.replicate (m+1) (Value.int .u8 0)).drop (l.length+1)=ba9 (l++[s])++List.replicate m (Value.int .u8 0):=by
 have h:(ba9 l).length=l.length:=by simp[ba9]
 rw[ay5,ay6,h,ak3,H7 (by omega),M8 (by omega)]
 simp[ba9,List.replicate_succ]
section
variable {σ : H}
theorem bV3 {l:List ByteArray} {x:Sl} (hx:w7 σ 1 (n9 l) x) (hl:l.length<=1000000) (s:ByteArray) {K:KH} (hK:K (.bool (l.any fun a=>s==a)) σ):a8 221 [.slice x.base x.len x.cap,.string s] K σ:=by
 refine dB2 _ _ ?_
 unfold cW7
 refine i7 (dD5 _ _ ?_)
 unfold db7
 have hxl:=ac4 hx
 refine u5 ?_
 intro R hR
 have key : ∀ (r:List ByteArray) (i:Nat),l.drop i=r->(l.any fun a=>s==a)=(r.any fun a=>s==a)->R x s ((x.len:Nat):Int) (i:Int) σ:=by
  intro r
  induction r with
  | nil =>
   intro i hd he
   have:l.length<=i:=by simpa using hd
   refine hR _ _ _ _ _ (k9 (J6 (by omega)) (B6 ?_))
   rw[he]at hK;exact hK
  | cons a r ih =>
   intro i hd he
   obtain⟨t1,t2,t3⟩:=C5 hd
   obtain⟨g,o,a1,a2,a3⟩:=U7 hx t1
   refine hR _ _ _ _ _ (l3 (C8 (by omega)) ?_)
   rw[a1]
   refine i6 (l5 (L1 x.len) (y8 a3 ?_))
   try rw[<-a1]
   rw[Z6]
   rw[List.any_cons]at he
   cases hs:s==a with
   | true =>
    refine l3 rfl (B6 ?_)
    rw[hs,Bool.true_or]at he
    rw[he]at hK
    rw[F1 (show((i:Nat):Int)>=0 by omega)]
    exact hK
   | false =>
    rw[hs,Q1]at he
    refine k9 rfl ?_
    rw[C7 (i:=i)]
    exact ih (i+1) t3 he
 exact key l 0 rfl rfl
theorem V6 {b:Nat} {n:Int} (h4:s5 b 4 σ=some (.int .i64 n)) (is:Bool) (e:Int) {F:H->Prop} {X:Value->H->Prop} (hK:is=true->F σ) (hX:is=false->X (aB1 e n) σ):D6 139 [.pointer (some ⟨b,0,none⟩),.bool is,.int .i64 e] kU F X σ:=by
 refine au3 (dH3 _ _ _ ?_)
 unfold cv3
 cases is with
 | false=>exact l3 rfl (i6 (E9 h4 (hX rfl)))
 | true=>exact k9 rfl (O9 (hK rfl))
theorem av7 {b:Nat} {n:Int} {la:ByteArray} (h4:s5 b 4 σ=some (.int .i64 n)) (h5:s5 b 5 σ=some (.string la)) {l:List ByteArray} {x w:Sl} (hx:w7 σ 1 (n9 l) x) (hl:l.length<=1000000) (k:Int) {F:H->Prop} {X:Value->H->Prop}
 (hK:(l.any fun a=>la==a)=true->((w.len:Nat):Int)=k->F σ) (hX:∀e,¬ ((l.any fun a=>la==a)=true/\((w.len:Nat):Int)=k)->X (aB1 e n) σ) :
 D6 182 [.pointer (some ⟨b,0,none⟩),.slice w.base w.len w.cap,.int .i64 k,.slice x.base x.len x.cap] kU F X σ:=by
 refine au3 (dH5 _ _ _ _ ?_)
 unfold cv4
 refine i6 (y8 h5 (i7 (bV3 hx hl la (y7 ?_))))
 cases hb:l.any fun a=>la==a with
 | false =>
  refine k9 rfl (V6 h4 _ _ (fun h=>by cases h) fun _=>hX _ ?_)
  rw[hb];exact fun h=>by cases h.1
 | true =>
  refine l3 rfl (V6 h4 _ _ (fun h=>O9 (hK hb (by simpa using h))) fun h=>hX _ ?_)
  exact fun h'=>by rw[h'.2]at h;simp at h
theorem bH6 {b:Nat} {n:Int} (h4:s5 b 4 σ=some (.int .i64 n)) (l:List UInt8) (hl:l.length<=1000000) {K X:Value->H->Prop}
 (hK:∀v σ',X4 l=some v->Gr σ σ'->K (.string ⟨⟨v⟩⟩) σ') (hX:X4 l=none -> ∀e,X (aB1 e n) σ):M4 186 [.pointer (some ⟨b,0,none⟩),.string ⟨⟨l⟩⟩] K X σ:=by
 refine dH7 _ _ ?_
 unfold cv5
 rw[aU1]at hK hX
 rw[K1,K1]
 by_cases h0:l=[45]
 ·rw[d9 h0]at hK
  exact l3 (by simpa using h0) (hK [] σ rfl (Gr.refl _))
 ·rw[c0 h0]at hK hX
  refine k9 (by simpa using h0) ?_
  refine S9 (fun j=>l≠[]->l.length % 2=0->ad1 l=true->j ⟨⟨l⟩⟩ σ) ?_ ?_
  ·intro h1 h2 h3
   rw[d9 ⟨h1,h2,h3⟩]at hK
   refine l5 (by decide) ?_
   have hsz:(⟨⟨l⟩⟩:ByteArray).size=l.length:=rfl
   rw[hsz]
   have ht:IntKind.i64.wrap (Int.tdiv ((l.length:Nat):Int) 2)=((l.length / 2:Nat):Int):=by
    rw[Int.tdiv_eq_ediv_of_nonneg (by omega),n0 (by omega) (by omega)];omega
   rw[ht]
   obtain⟨i,hi,hz,hs,hby⟩:=cw9
   refine cp5 (n:=l.length / 2) av6 hi hz hs hby rfl rfl (by omega) ?_
   intro g σ1 g1 n1 e1
   generalize hN:l.length / 2=N at *
   refine u5 ?_
   intro R hR
   have key : ∀ (m i:Nat) (r done:List UInt8) (τ:H),r.length=2 * m->l.drop (2 * i)=r->i+m=N->done.length=i->ad1 r=true->unh l=done++unh r->Gr σ τ->τ g=some (.cells ⟨ba9 done++List.replicate m (.int .u8 0)⟩ 5 (0,0))->R ⟨⟨l⟩⟩ ⟨some ⟨g,0,none⟩,N,N⟩ ((N:Nat):Int) (i:Int) τ:=by
    intro m
    induction m with
    | zero =>
     intro i r done τ hr hd him hdl hh hu hg hb
     refine hR _ _ _ _ _ (k9 (J6 (by omega)) ?_)
     have hr0:r=[]:=Y3 (by omega)
     subst hr0
     refine aj3 av6 ba8 aP0 (l:=done) (x:=⟨some ⟨g,0,none⟩,N,N⟩) ⟨by rw[D7];show N=_;omega,.inr ⟨g,0,_,_,_,rfl,hb,fun i p hp => ?_⟩⟩ ?_
     ·unfold B1 at hp
      rw[O4]at hp
      cases hi:done[i]? with
      | none=>rw[hi]at hp;cases hp
      | some c =>
       rw[hi]at hp;cases hp
       refine⟨rfl,?_⟩
       rw[List.replicate_zero,J1,H6,P4]
       exact aO9 (by unfold ba9;rw[O4,hi];rfl)
     ·refine hK done τ ?_ hg
      rw[hu];simp[unh]
    | succ m ih =>
     intro i r done τ hr hd him hdl hh hu hg hb
     match r,hr with
     | a::c::r',hr =>
      obtain⟨t1,t2,t3⟩:=C5 hd
      obtain⟨u1,u2,u3⟩:=C5 t3
      have hh':(ac7 a).isSome=true/\(ac7 c).isSome=true/\ad1 r'=true:=by
       have:ad1 (a::c::r')=((ac7 a).isSome&&((ac7 c).isSome&&ad1 r')):=rfl
       rw[this]at hh;simpa using hh
      obtain⟨y1,y2,y3⟩:=hh'
      obtain⟨p1,p2⟩:=by3 a y1
      obtain⟨q1,q2⟩:=by3 c y2
      have w1:IntKind.i64.wrap (2 * (i:Int))=((2 * i:Nat):Int):=by rw[n0 (by omega) (by omega)];omega
      have w2:IntKind.i64.wrap (((2 * i:Nat):Int)+1)=((2 * i+1:Nat):Int):=by rw[n0 (by omega) (by omega)];omega
      refine hR _ _ _ _ _ (l3 (C8 (by omega)) ?_)
      rw[w1,w2]
      refine M3 (c:=a) (by omega) t1 (i7 (aa1 _ _ (B6 ?_)))
      rw[bV1]
      show w6 _ _ _
      rw[show(⟨⟨[48,49,50,51,52,53,54,55,56,57,97,98,99,100,101,102]⟩⟩:ByteArray)=⟨⟨aq4⟩⟩from rfl,p1]
      refine l5 (by decide) (M3 (c:=c) (by omega) u1 (i7 (aa1 _ _ (B6 ?_))))
      rw[bV1,q1,cw7 _ p2 _ q2]
      refine i6 (l5 ⟨by omega,by show _<((N:Nat):Int);omega⟩ (ar1 hb cw8 (by rw[B0];simp[ba9,L5,Value.cells];omega) (by intro x hx;simp[L5,Value.cells]at hx;subst hx;rfl) (.inl (A6 _)) ?_))
      intro τ1 z1
      have e0:0+((i:Nat):Int).toNat * 1=done.length:=by omega
      have e2:L5 (Value.int .u8 (((UInt8.ofNat (16 * dvP a+dvP c)).toNat:Nat):Int)).cells=[.int .u8 (((UInt8.ofNat (16 * dvP a+dvP c)).toNat:Nat):Int)]:=rfl
      rw[e0,e2]at z1
      simp only[aa5]at z1
      rw[bV2]at z1
      rw[C7 (i:=i)]
      refine ih (i+1) r' (done++[UInt8.ofNat (16 * dvP a+dvP c)]) τ1 (by simp only[y5]at hr;omega) (by rw[<-u3];congr 1) (by omega) (by simp;omega) y3 ?_ (hg.putF z1 n1) z1.same
      rw[hu,unh];simp
     | [_],hr=>simp at hr;omega
     | [],hr=>simp at hr
   refine key N 0 l [] σ1 (by omega) rfl (by omega) rfl h3 rfl g1 ?_
   rw[e1];rfl
  ·intro j hj
   by_cases h1:l=[]
   ·refine k9 (by simp[h1]) (V6 h4 _ _ (fun h=>by cases h) fun _=>hX ?_ _)
    rw[c0 fun h=>h.1 h1]
   ·refine l3 (by simpa using h1) (l5 (by decide) ?_)
    have hsz:(⟨⟨l⟩⟩:ByteArray).size=l.length:=rfl
    rw[hsz]
    have ht:Int.tmod ((l.length:Nat):Int) 2=((l.length % 2:Nat):Int):=by rw[Int.tmod_eq_emod_of_nonneg (by omega)];omega
    rw[ht]
    by_cases h2:l.length % 2=0
    ·refine l3 (by rw[h2];rfl) (i7 (br6 l aq4 (by omega) (by decide) (by decide) (I1 ?_)))
     have h3:B8 ⟨⟨Lib.trimS l aq4⟩⟩ ⟨⟨[]⟩⟩=ad1 l:=by
      rw[bB6,bH5]
      unfold ad1
      congr 1;funext c;exact ch8 c
     rw[h3]
     refine V6 h4 _ _ (fun h=>hj h1 h2 h) fun h=>hX ?_ _
     rw[c0];rw[h];exact fun h=>by cases h.2.2
    ·refine k9 (by simp only[M9,ne_eq];omega) (V6 h4 _ _ (fun h=>by cases h) fun _=>hX ?_ _)
     rw[c0 fun h=>h2 h.2.1]
end
end Go.Proofs.YtgfiobhpipollaaGreatDoor

set_option maxRecDepth 100000
namespace Go.Proofs.YtgfiobhpipollaaGreatDoor
open Go Go.HL Go.Wk
attribute [local irreducible] j0 w6 l8 A2 l4 A9 w9 U3 V0 R1 M7 V2 C1 y6 app A4 C9 u7 sizeT oW H8 F2 l9 U5 H2 G1 y9 V1 B2 Gr L6
attribute [local irreducible] ao7 af5 ac5 ar9
theorem by4:ElT Tryz.prog 111 206 2:=ax7 (by kernel_rfl) (by decide) (by kernel_rfl)
theorem by5:sizeT Tryz.prog 111=some 1:=by kernel_rfl
theorem av8:sizeT Tryz.prog 9=some 1:=by kernel_rfl
def rdV (d:DvP) (x y:Sl) (n:Int) (la:ByteArray):List Value:=[.string d.name,.slice x.base x.len x.cap,.slice y.base y.len y.cap,.string d.script,.int .i64 n,.string la]
structure RdK (σ0 τ:H) (b m:Nat) (d:DvP) (la:ByteArray) (n:Int) (x y:Sl):Prop where
 cell:τ b=some (.cells ⟨rdV d x y n la⟩ 166 (0,0))
 hx:E7 σ0 τ 9 1 (n9 d.inputs) x
 hy:E7 σ0 τ 206 2 (T0 d.env) y
 xy : ∀g,x.base=some ⟨g,0,none⟩->y.base≠some ⟨g,0,none⟩
 nx:x.base≠some ⟨b,0,none⟩
 ny:y.base≠some ⟨b,0,none⟩
 mx:x.base≠some ⟨m,0,none⟩
 my:y.base≠some ⟨m,0,none⟩
 hb:σ0 b=none
 hm:τ m≠none
 bm:b≠m
section
variable {σ0 σ : H} {b m : Nat} {d : DvP} {la : ByteArray} {n : Int} {x y wx : Sl} {w : List ByteArray} {K X : Value -> H -> Prop} {c : Nat}
theorem RdK.gr {σ':H} (h:RdK σ0 σ b m d la n x y) (hg:Gr σ σ'):RdK σ0 σ' b m d la n x y :=
 ⟨hg.get h.cell,h.hx.gr hg,h.hy.gr hg,h.xy,h.nx,h.ny,h.mx,h.my,h.hb,fun e=>h.hm (C3 hg e),h.bm⟩
def Kpt (b:Nat) (x y:Sl) (σ σ':H):Prop := ∀c o,σ c=some o->c≠b->x.base≠some ⟨c,0,none⟩->y.base≠some ⟨c,0,none⟩->σ' c=some o
def aB7 (σ:H) (b:Nat) (x y:Sl) (w:List ByteArray) (wx:Sl):Prop:=D8 σ 9 1 (n9 w) wx/\(∀g,wx.base=some ⟨g,0,none⟩->g≠b/\x.base≠some ⟨g,0,none⟩/\y.base≠some ⟨g,0,none⟩)/\w.length<=1000000 /\ ∀s∈w,s.size<=1000000
theorem aB7.gr {σ':H} (h:aB7 σ b x y w wx) (hg:Gr σ σ'):aB7 σ' b x y w wx:=⟨h.1.gr hg,h.2⟩
theorem aB7.rows (h:aB7 σ b x y w wx):w7 σ 1 (n9 w) wx:=h.1.rows
theorem aB7.len (h:aB7 σ b x y w wx):wx.len=w.length:=ac4 h.rows
theorem aB7.rd (h:aB7 σ b x y w wx) {i:Nat} {s:ByteArray} (hi:w[i]? = some s) : ∃g o,wx.base=some ⟨g,o,none⟩/\s5 g (o+i * 1) σ=some (.string s):=by
 obtain⟨g,o,h1,_,h3⟩:=U7 h.rows hi
 exact⟨g,o,h1,h3⟩
theorem aj1 (c:Nat) (hc:c<=3):([⟨⟨[]⟩⟩]:List ByteArray).any (fun a=>ag0 c==a)=decide (c=0)/\([ac8,inB]:List ByteArray).any (fun a=>ag0 c==a)=decide (c=1\/c=2)/\([ac8,inB,af6]:List ByteArray).any (fun a=>ag0 c==a)=decide (c=1\/c=2\/c=3):=by
 match c,hc with
 | 0,_=>decide
 | 1,_=>decide
 | 2,_=>decide
 | 3,_=>decide
theorem bj5 {w:List ByteArray} {k:Nat} (h:w.length=k) {i:Nat} (hi:i<k):w[i]? = some (w.getD i ⟨⟨[]⟩⟩):=by
 rw[L0,B9 (by omega)];rfl
theorem ch9 (h:RdK σ0 σ b m d (ag0 c) n x y) (hc:c<=3) (hw:aB7 σ b x y w wx) (h0:w.getD 0 ⟨⟨[]⟩⟩=ac8)
 (hX:Q8 c d w=none -> ∀e σ',Gr σ0 σ'->X (aB1 e n) σ')
 (hK:∀d' c',Q8 c d w=some (d',c') -> ∀σ' x' y',RdK σ0 σ' b m d' (ag0 c) n x' y'->Kpt b x y σ σ'->K (.tuple ⟨[]⟩) σ') :
 M4 133 [.pointer (some ⟨b,0,none⟩),.slice wx.base wx.len wx.cap] K X σ:=by
 refine dG5 _ _ ?_
 unfold cu9
 unfold Q8 at hX hK
 simp only[h0,if_true]at hX hK
 refine x0 ?_;intro b3 σ1 g1 e1 n1
 have h1:=h.gr g1
 have w1:=hw.gr g1
 refine av7 (l:=[⟨⟨[]⟩⟩]) (x:=⟨some ⟨b3,0,none⟩,1,1⟩) (f0 h1.cell) (f0 h1.cell) (bj4 _ e1) (by decide) 2 (fun hl hk => ?_) (fun e hn => ?_)
 ·rw[(aj1 c hc).1]at hl
  have hl:=E6 hl
  have hwl:w.length=2:=by have:=w1.len;omega
  obtain⟨g,o,a1,a2⟩:=w1.rd (bj5 hwl (i:=1) (by omega))
  rw[a1]
  refine i6 (l5 ⟨by omega,by show(1:Int)<((wx.len:Nat):Int);omega⟩ (y8 a2 (i7 (am0 _ (B6 ?_)))))
  refine V6 (f0 h1.cell) _ _ (fun hm => ?_) (fun hm => ?_)
  ·have hnm:L3 (w.getD 1 ⟨⟨[]⟩⟩).data.toList=0:=by simpa using hm
   rw[d9 ⟨hl,hwl,hnm⟩]at hK
   refine i6 (l5 ⟨by omega,by show(1:Int)<((wx.len:Nat):Int);omega⟩ (y8 a2 (i6 ?_)))
   refine w4 h1.cell av8 ?_
   intro σ2 p2
   refine hK _ _ rfl σ2 x y ⟨p2.same,h1.hx.putF p2 h1.hb h1.nx,h1.hy.putF p2 h1.hb h1.ny,h.xy,h.nx,h.ny,h.mx,h.my,h.hb,?_,h.bm⟩ fun c o hc hn _ _=>p2.get hn (g1.get hc)
   have:=h1.hm
   cases hmm:σ1 m with
   | none=>exact u9 hmm this
   | some o=>rw[p2.get h.bm.symm hmm];exact fun e=>by cases e
  ·refine hX ?_ _ σ1 h1.hx.1
   rw[c0]
   intro hh
   rw[hh.2.2]at hm;cases hm
 ·refine hX ?_ e σ1 h1.hx.1
  rw[c0]
  intro hh
  refine hn ⟨?_,?_⟩
  ·rw[(aj1 c hc).1];exact F1 hh.1
  ·have:=w1.len;omega
theorem cx0 (h:RdK σ0 σ b m d (ag0 c) n x y) (hJ:DvJ d) (hc:c<=3) (hw:aB7 σ b x y w wx) (h0:w.getD 0 ⟨⟨[]⟩⟩=inB)
 (hX:Q8 c d w=none -> ∀e σ',Gr σ0 σ'->X (aB1 e n) σ')
 (hK:∀d' c',Q8 c d w=some (d',c') -> ∀σ' x' y',RdK σ0 σ' b m d' (ag0 c) n x' y'->Kpt b x y σ σ'->K (.tuple ⟨[]⟩) σ') :
 M4 134 [.pointer (some ⟨b,0,none⟩),.slice wx.base wx.len wx.cap] K X σ:=by
 refine dG7 _ _ ?_
 unfold cv0
 unfold Q8 at hX hK
 rw[h0]at hX hK
 rw[c0 (show ¬ (inB=ac8)by decide),d9 rfl]at hX hK
 refine x0 ?_;intro b3 σ1 g1 e1 n1
 have h1:=h.gr g1
 have w1:=hw.gr g1
 refine av7 (l:=[ac8,inB]) (x:=⟨some ⟨b3,0,none⟩,2,2⟩) (f0 h1.cell) (f0 h1.cell) (bj4 _ e1) (by decide) 2 (fun hl hk => ?_) (fun e hn => ?_)
 ·rw[(aj1 c hc).2.1]at hl
  have hl:=E6 hl
  have hwl:w.length=2:=by have:=w1.len;omega
  have hg1:=bj5 hwl (i:=1) (by omega)
  generalize hs:w.getD 1 ⟨⟨[]⟩⟩=s at *
  obtain⟨g,o,a1,a2⟩:=w1.rd hg1
  have hsz:s.size<=1000000:=hw.2.2.2 s (F7 hg1)
  refine i6 (A7 (f0 h1.cell) ?_)
  rw[a1]
  refine i6 (l5 ⟨by omega,by show(1:Int)<((wx.len:Nat):Int);omega⟩ (y8 a2 ?_))
  refine h1.hx.app1 Y8 (r:=[.string s]) rfl rfl (by rw[J7];have:=hJ.nin;omega) ?_
  intro x' σ2 r2 k1 k2
  have er:n9 d.inputs++[[Value.string s]]=n9 (d.inputs++[s]):=by simp[n9]
  rw[er]at r2
  have cell2:=k1 b _ h1.cell h.nx
  have hy2:E7 σ0 σ2 206 2 (T0 d.env) y:=⟨r2.1,h1.hy.2.1.keep fun g o hg ho=>k1 g o ho (fun e=>h.xy g e hg),h1.hy.2.2⟩
  have w2:w7 σ2 1 (n9 w) wx:=(w1.1.keep fun g o hg ho=>k1 g o ho (hw.2.1 g hg).2.1).rows
  obtain⟨g',o',b1,_,b2⟩:=U7 w2 hg1
  rw[a1]at b1;cases b1
  refine S9 (fun j=>C6 s=true->T5 d.inputs s=true->j (some ⟨b,0,none⟩) x' σ2) ?_ ?_
  ·intro hp hla
   have hxl:x'.len=d.inputs.length+1:=by have:=ac4 r2.at;simpa using this
   have e8:decide (((x'.len:Nat):Int)<=8)=decide (d.inputs.length<8):=by rw[hxl,E1];omega
   rw[e8]
   refine V6 (f0 cell2) _ _ (fun hm => ?_) (fun hm => ?_)
   ·have hm:=E6 hm
    rw[d9 ⟨hl,hwl,hp,hla,hm⟩]at hK
    refine i6 (w4 cell2 aO8 ?_)
    intro σ3 p3
    have nx':x'.base≠some ⟨b,0,none⟩:=fun e=>(k2 b e).elim h.nx fun e2=>by rw[h1.cell]at e2;cases e2
    refine hK _ _ rfl σ3 x' y ⟨p3.same,r2.putF p3 h.hb nx',hy2.putF p3 h.hb h.ny,fun g hg hy => ?_,nx',h.ny,fun e => ?_,h.my,h.hb,?_,h.bm⟩ fun c o hc hn hx _=>p3.get hn (k1 c o (g1.get hc) hx)
    ·rcases k2 g hg with hh | hh
     ·exact h.xy g hh hy
     ·exact h1.hy.2.1.has hy hh
    ·rcases k2 m e with hh | hh
     ·exact h.mx hh
     ·exact h1.hm hh
    ·cases hmm:σ1 m with
     | none=>exact u9 hmm h1.hm
     | some o=>rw[p3.get h.bm.symm (k1 m o hmm h.mx)];exact fun e=>by cases e
   ·refine hX ?_ _ σ2 r2.1
    rw[c0]
    intro hh
    rw[F1 hh.2.2.2.2]at hm;cases hm
  ·intro j hj
   refine i6 (l5 ⟨by omega,by show(1:Int)<((wx.len:Nat):Int);omega⟩ (y8 b2 (i7 (aO5 s hsz (y7 ?_)))))
   cases hp:C6 s with
   | false =>
    refine k9 rfl (V6 (f0 cell2) _ _ (fun h=>by cases h) fun _=>hX ?_ _ σ2 r2.1)
    rw[c0];intro hh;rw[hh.2.2.1]at hp;cases hp
   | true =>
    refine l3 rfl (i7 (aO6 r2.at (by simp;have:=hJ.nin;omega) (y7 ?_)))
    rw[as5,hJ.rise,C4]
    refine V6 (f0 cell2) _ _ (fun hh=>hj hp hh) fun hh=>hX ?_ _ σ2 r2.1
    rw[c0];intro h2;rw[h2.2.2.2.1]at hh;cases hh
 ·refine hX ?_ e σ1 h1.hx.1
  rw[c0]
  intro hh
  refine hn ⟨?_,?_⟩
  ·rw[(aj1 c hc).2.1];exact F1 hh.1
  ·have:=w1.len;omega
theorem ci0 (h:RdK σ0 σ b m d (ag0 c) n x y) (hc:c<=3) (hw:aB7 σ b x y w wx) (h0:w.getD 0 ⟨⟨[]⟩⟩=aj6)
 (hX:Q8 c d w=none -> ∀e σ',Gr σ0 σ'->X (aB1 e n) σ')
 (hK:∀d' c',Q8 c d w=some (d',c') -> ∀σ' x' y',RdK σ0 σ' b m d' (ag0 c) n x' y'->Kpt b x y σ σ'->K (.tuple ⟨[]⟩) σ') :
 M4 136 [.pointer (some ⟨b,0,none⟩),.slice wx.base wx.len wx.cap] K X σ:=by
 refine dH1 _ _ ?_
 unfold cv2
 unfold Q8 at hX hK
 rw[h0]at hX hK
 rw[c0 (show ¬ (aj6=ac8)by decide),c0 (show ¬ (aj6=inB)by decide),c0 (show ¬ (aj6=af6)by decide),d9 rfl]at hX hK
 refine x0 ?_;intro b3 σ1 g1 e1 n1
 have h1:=h.gr g1
 have w1:=hw.gr g1
 refine av7 (l:=[ac8,inB,af6]) (x:=⟨some ⟨b3,0,none⟩,3,3⟩) (f0 h1.cell) (f0 h1.cell) (bj4 _ e1) (by decide) 1 (fun hl hk => ?_) (fun e hn => ?_)
 ·rw[(aj1 c hc).2.2]at hl
  have hl:=E6 hl
  have hwl:w.length=1:=by have:=w1.len;omega
  rw[d9 ⟨hl,hwl⟩]at hK
  exact hK _ _ rfl σ1 x y h1 fun c o hc _ _ _=>g1.get hc
 ·refine hX ?_ e σ1 h1.hx.1
  rw[c0]
  intro hh
  refine hn ⟨?_,?_⟩
  ·rw[(aj1 c hc).2.2];exact F1 hh.1
  ·have:=w1.len;omega
end
theorem bV4:I3 Tryz.prog 133=true:=by kernel_rfl
theorem ci1:I3 Tryz.prog 134=true:=by kernel_rfl
theorem bV5:I3 Tryz.prog 135=true:=by kernel_rfl
theorem bV6:I3 Tryz.prog 136=true:=by kernel_rfl
theorem aB8:sizeT Tryz.prog 3=some 1:=by kernel_rfl
section
variable {σ0 σ : H} {b m : Nat} {d : DvP} {la : ByteArray} {n : Int} {x y wx : Sl} {w : List ByteArray} {K X : Value -> H -> Prop} {c : Nat}
theorem ci2 (h:RdK σ0 σ b m d (ag0 c) n x y) (hJ:DvJ d) (hc:c<=3) (hw:aB7 σ b x y w wx) (h0:w.getD 0 ⟨⟨[]⟩⟩=af6)
 (hX:Q8 c d w=none -> ∀e σ',Gr σ0 σ'->X (aB1 e n) σ')
 (hK:∀d' c',Q8 c d w=some (d',c') -> ∀σ' x' y',RdK σ0 σ' b m d' (ag0 c) n x' y'->Kpt b x y σ σ'->K (.tuple ⟨[]⟩) σ') :
 M4 135 [.pointer (some ⟨b,0,none⟩),.slice wx.base wx.len wx.cap] K X σ:=by
 refine dG9 _ _ ?_
 unfold cv1
 unfold Q8 at hX hK
 rw[h0]at hX hK
 rw[c0 (show ¬ (af6=ac8)by decide),c0 (show ¬ (af6=inB)by decide),d9 rfl]at hX hK
 refine x0 ?_;intro b3 σ1 g1 e1 n1
 have h1:=h.gr g1
 have w1:=hw.gr g1
 refine av7 (l:=[ac8,inB,af6]) (x:=⟨some ⟨b3,0,none⟩,3,3⟩) (f0 h1.cell) (f0 h1.cell) (bj4 _ e1) (by decide) 3 (fun hl hk => ?_) (fun e hn => ?_)
 ·rw[(aj1 c hc).2.2]at hl
  have hl:=E6 hl
  have hwl:w.length=3:=by have:=w1.len;omega
  have hg1:=bj5 hwl (i:=1) (by omega)
  have hg2:=bj5 hwl (i:=2) (by omega)
  generalize hs:w.getD 1 ⟨⟨[]⟩⟩=s at *
  generalize ht:w.getD 2 ⟨⟨[]⟩⟩=t at *
  have hsz:s.size<=1000000:=hw.2.2.2 s (F7 hg1)
  have htz:t.size<=1000000:=hw.2.2.2 t (F7 hg2)
  have hyl:y.len=d.env.length:=by rw[h1.hy.len,R0]
  have hen:=hJ.nen
  refine i6 (A7 (f0 h1.cell) ?_)
  obtain⟨g,o,a1,a2⟩:=w1.rd hg1
  obtain⟨g',o',a1',a3⟩:=w1.rd hg2
  rw[a1]at a1';cases a1'
  rw[a1]
  refine S9 (fun j=>X8 s.data.toList=true->T5 (d.env.map (·.1)) s=true->j (some ⟨b,0,none⟩) wx ((y.len:Nat):Int) σ1) ?_ ?_
  ·intro hp hla
   rw[a1]
   refine i6 (l5 ⟨by omega,by show(1:Int)<((wx.len:Nat):Int);omega⟩ (y8 a2 (i6 (l5 ⟨by omega,by show(2:Int)<((wx.len:Nat):Int);omega⟩ (y8 a3 ?_)))))
   have hE:t=⟨⟨t.data.toList⟩⟩:=(K0 _).symm
   have htl:t.data.toList.length=t.size:=dl _
   rw[hE]
   refine au3 (bH6 (f0 h1.cell) t.data.toList (by omega) (fun v σ2 hv g2 => ?_) (fun hv e => ?_))
   ·have h2:=h1.gr g2
    have a2':s5 g (o+1 * 1) σ2=some (.string s):=by
     obtain⟨g',o',q1,q2⟩:=(w1.gr g2).rd hg1
     rw[a1]at q1;cases q1;exact q2
    refine I1 (F9 a2' ?_)
    refine x0 ?_;intro b18 σ3 g3 e3 n3
    refine w4 e3 br4 ?_
    intro σ4 p4
    have g4:Gr σ2 σ4:=g3.putF p4 n3
    have h4:=h2.gr g4
    have v18:σ4 b18=some (.cells ⟨[.string s,.string ⟨⟨v⟩⟩]⟩ 206 (0,0)):=p4.same
    have hvl:=bo4 hv
    rw[hv]at hX hK
    have e20:decide ((((⟨⟨v⟩⟩:ByteArray).size:Nat):Int)<=200)=decide (v.length<=200):=by rw[E1];show((v.length:Nat):Int)<=200↔_;omega
    refine y8 (f0 v18) ?_
    rw[e20]
    refine V6 (f0 h4.cell) _ _ (fun hm => ?_) (fun hm => ?_)
    ·have hm:=E6 hm
     have e16:decide (((y.len:Nat):Int)<16)=decide (d.env.length<16):=by rw[hyl,E1];omega
     rw[e16]
     refine V6 (f0 h4.cell) _ _ (fun hm2 => ?_) (fun hm2 => ?_)
     ·have hm2:=E6 hm2
      rw[d9 ⟨hl,hwl,hp,hla,hm2⟩]at hK
      simp only[d9 hm]at hK
      refine i6 (A7 (f0 h4.cell) (A3 (l7 v18) (k0 rfl ?_)))
      try dsimp only
      refine h4.hy.app1 by4 (r:=[.string s,.string ⟨⟨v⟩⟩]) rfl rfl (by rw[R0];omega) ?_
      intro y' σ5 r5 k1 k2
      have er:T0 d.env++[[Value.string s,.string ⟨⟨v⟩⟩]]=T0 (d.env++[(s,⟨⟨v⟩⟩)]):=by simp[T0]
      rw[er]at r5
      have cell5:=k1 b _ h4.cell h.ny
      have hx5:E7 σ0 σ5 9 1 (n9 d.inputs) x:=⟨r5.1,h4.hx.2.1.keep fun g o hg ho=>k1 g o ho (fun e=>h.xy g hg e),h4.hx.2.2⟩
      have ny':y'.base≠some ⟨b,0,none⟩:=fun e=>(k2 b e).elim h.ny fun e2=>by rw[h4.cell]at e2;cases e2
      refine i6 (w4 cell5 by5 ?_)
      intro σ6 p6
      refine hK _ _ rfl σ6 x y' ⟨p6.same,hx5.putF p6 h.hb h.nx,r5.putF p6 h.hb ny',fun g hg hy => ?_,h.nx,ny',h.mx,fun e => ?_,h.hb,?_,h.bm⟩ fun c o hc hn _ hy=>p6.get hn (k1 c o (g4.get (g2.get (g1.get hc))) hy)
      ·rcases k2 g hy with hh | hh
       ·exact h.xy g hg hh
       ·exact h4.hx.2.1.has hg hh
      ·rcases k2 m e with hh | hh
       ·exact h.my hh
       ·exact h4.hm hh
      ·cases hmm:σ4 m with
       | none=>exact u9 hmm h4.hm
       | some o=>rw[p6.get h.bm.symm (k1 m o hmm h.my)];exact fun e=>by cases e
     ·refine hX ?_ _ σ4 h4.hx.1
      rw[c0]
      intro hh
      rw[F1 hh.2.2.2.2]at hm2;cases hm2
    ·refine hX ?_ _ σ4 h4.hx.1
     split
     ·exact c0 fun hh=>by rw[F1 hh]at hm;cases hm
     ·rfl
   ·refine hX ?_ e σ1 h1.hx.1
    rw[hv]
    split<;>rfl
  ·intro j hj
   refine i6 (l5 ⟨by omega,by show(1:Int)<((wx.len:Nat):Int);omega⟩ (y8 a2 ?_))
   have hE:s=⟨⟨s.data.toList⟩⟩:=(K0 _).symm
   have hsl:s.data.toList.length=s.size:=dl _
   have hcall : ∀ {F:Bool->H->Prop},F (X8 s.data.toList) σ1->d8 185 [.string s] kB F σ1:=by
    intro F hF
    have:=i7 (t:=kB) (F:=F) (by2 (σ:=σ1) s.data.toList (by omega) (y7 hF))
    rw[<-hE]at this
    exact this
   refine hcall ?_
   cases hp:X8 s.data.toList with
   | false =>
    refine k9 rfl (V6 (f0 h1.cell) _ _ (fun h=>by cases h) fun _=>hX ?_ _ σ1 h1.hx.1)
    rw[c0];intro hh;rw[hh.2.2.1]at hp;cases hp
   | true =>
    refine l3 rfl ?_
    by_cases he:d.env=[]
    ·have hla:T5 (d.env.map (·.1)) s=true:=by rw[he];rfl
     rw[hyl,he]
     rw[hyl,he]at hj
     rw[he]at hla
     refine l3 rfl (V6 (f0 h1.cell) _ _ (fun _=>hj hp hla) fun h=>by cases h)
    ·have hpos:0<d.env.length:=List.length_pos_iff.2 he
     obtain⟨v,hv⟩ : ∃v,d.env[d.env.length - 1]? = some v:=⟨_,B9 (by omega)⟩
     obtain⟨g',o',q1,q2,q3,q4⟩:=as9 h1.hy.at hv
     have hwr:IntKind.i64.wrap (((y.len:Nat):Int) - 1)=((d.env.length - 1:Nat):Int):=by rw[n0 (by omega) (by omega)];omega
     have hla:T5 (d.env.map (·.1)) s=E4 v.1 s:=by
      unfold T5
      rw[List.getLast?_eq_getElem?,O4,Y4,hv];rfl
     refine k9 (by rw[hyl];simp only[M9,ne_eq];omega) (i6 (A7 (f0 h1.cell) ?_))
     rw[hwr,q1]
     refine i6 (l5 (L1 y.len) (y8 q4 ?_))
     refine i6 (l5 ⟨by omega,by show(1:Int)<((wx.len:Nat):Int);omega⟩ (y8 a2 ?_))
     refine V6 (f0 h1.cell) _ _ (fun hh=>hj hp (by rw[hla];exact hh)) fun hh=>hX ?_ _ σ1 h1.hx.1
     rw[c0];intro h2;rw[hla]at h2;rw[h2.2.2.2.1]at hh;cases hh
 ·refine hX ?_ e σ1 h1.hx.1
  rw[c0]
  intro hh
  refine hn ⟨?_,?_⟩
  ·rw[(aj1 c hc).2.2];exact F1 hh.1
  ·have:=w1.len;omega
end
theorem cx1 (c:UInt8) (l:List UInt8):aV9 c ⟨⟨l⟩⟩=(⟨⟨(ac9 c l).1⟩⟩,⟨⟨(ac9 c l).2.getD []⟩⟩,(ac9 c l).2.isSome):=by
 unfold aV9
 rcases ab3 ⟨⟨l⟩⟩ c with⟨h1,h2⟩ | ⟨i,h1,h2,h3,h4⟩
 ·rw[c0 (by omega),aD4 c l h2];rfl
 ·have h2:i<l.length:=h2
  have h3:c∉l.take i:=h3
  have h4:l=l.take i++c::l.drop (i+1):=h4
  rw[d9 (by omega),h1]
  have hc:ac9 c l=(l.take i,some (l.drop (i+1))):=by
   rw[h4,aD5 c _ _ h3,<- h4]
  rw[hc,bex,bex]
  have hsz:(⟨⟨l⟩⟩:ByteArray).size=l.length:=rfl
  rw[hsz,B0,ad8,V7];rfl
theorem bj6 {c:UInt8} {l:List UInt8} (h:l.length<=900000):(J3 c ⟨⟨l⟩⟩).length<=1000000 /\ ∀s∈J3 c ⟨⟨l⟩⟩,s.size<=1000000:=by
 refine⟨?_,fun s hs => ?_⟩
 ·rw[am3]
  have:l.count c<=l.length:=List.count_le_length
  show l.count c+1<=_;omega
 ·obtain⟨p,hp,rfl⟩:=O5.1 hs
  have h2:=aU2 c l p hp
  show p.length<=_;omega
def aP1 (b:Nat):List (ByteArray×Value):=up aj6 (aE5 b 136) (up af6 (aE5 b 135) (up inB (aE5 b 134) (up ac8 (aE5 b 133) [])))
theorem dh1 (b:Nat) (s:ByteArray):lk s (aP1 b)=if s=ac8 then some (aE5 b 133)else if s=inB then some (aE5 b 134)else if s=af6 then some (aE5 b 135)else if s=aj6 then some (aE5 b 136)else none:=by
 unfold aP1
 have n1 : ¬ (ac8=inB):=by decide
 have n2 : ¬ (ac8=af6):=by decide
 have n3 : ¬ (ac8=aj6):=by decide
 have n4 : ¬ (inB=af6):=by decide
 have n5 : ¬ (inB=aj6):=by decide
 have n6 : ¬ (af6=aj6):=by decide
 rw[aL2,aL2,aL2,aL2]
 by_cases h1:s=ac8
 ·subst h1;simp[n1,n2,n3]
 ·by_cases h2:s=inB
  ·subst h2;simp[h1,n4,n5]
  ·by_cases h3:s=af6
   ·subst h3;simp[h1,h2,n6]
   ·by_cases h4:s=aj6
    ·subst h4;simp[h1,h2,h3]
    ·simp[h1,h2,h3,h4];rfl
theorem ci3 {σ σ':H} {b m:Nat} {x y:Sl} {l:List (Value×Value)} (h:I6 σ m l) (hk:Kpt b x y σ σ') (h1:m≠b) (h2:x.base≠some ⟨m,0,none⟩) (h3:y.base≠some ⟨m,0,none⟩):I6 σ' m l:=by
 obtain⟨es,c,q1,q2⟩:=h;exact⟨es,c,hk m _ q1 h1 h2 h3,q2⟩
theorem bV7 {d:DvP} (h:DvJ d) (l:List UInt8):aR7 { d with script:=⟨⟨l⟩⟩ }:=⟨h.name,by show d.inputs.length<=_;have:=h.nin;omega,h.inp,by show d.env.length<=_;have:=h.nen;omega,h.env⟩
theorem bH7 {σ:H} {K:KH} (s:List UInt8) (hs:s.length<=900000)
 (hS:∀d x y σ',ad0 s=some d->Gr σ σ'->aI0 σ' d x y->aR7 d->K (.tuple ⟨[.agg ⟨drC d.name x y d.script⟩,.nilIface]⟩) σ')
 (hF:ad0 s=none -> ∀b σ',Gr σ σ'->K (.tuple ⟨[.agg ⟨drC ⟨⟨[]⟩⟩ slN slN ⟨⟨[]⟩⟩⟩,ch0 b]⟩) σ'):a8 88 [.string ⟨⟨s⟩⟩] K σ:=by
 refine ac5.ret (X:=fun _ _=>False) (c88 _ ?_)
 unfold g88
 refine x0 ?_;intro b2 σ1 g1 e1 m1
 refine x0 ?_;intro b3 σ2 g2 e2 m2
 refine x0 ?_;intro b4 σ3 g3 e3 m3
 refine x0 ?_;intro b5 σ4 g4 e4 m4
 have m0:I6 σ4 b5 (M6 kkS (fun v:Value=>v) []):=I6.new e4
 refine az4 (kk:=kkS) (f:=fun v:Value=>v) aB2 af0 m0 ⟨⟨[100,114,118]⟩⟩ (aE5 b4 133) ?_
 intro o5 σ5 p5 m5
 refine az4 (kk:=kkS) (f:=fun v:Value=>v) aB2 af0 m5 ⟨⟨[105,110]⟩⟩ (aE5 b4 134) ?_
 intro o6 σ6 p6 m6
 refine az4 (kk:=kkS) (f:=fun v:Value=>v) aB2 af0 m6 ⟨⟨[101,110,118]⟩⟩ (aE5 b4 135) ?_
 intro o7 σ7 p7 m7
 refine az4 (kk:=kkS) (f:=fun v:Value=>v) aB2 af0 m7 ⟨⟨[114,117,110]⟩⟩ (aE5 b4 136) ?_
 intro o8 σ8 p8 m8
 have m8:I6 σ8 b5 (M6 kkS (fun v:Value=>v) (aP1 b4)):=m8
 have k48 : ∀c o,c≠b5->σ4 c=some o->σ8 c=some o:=fun c o hc ho=>p8.get hc (p7.get hc (p6.get hc (p5.get hc ho)))
 have n45:b4≠b5:=o0 e3 m4
 have n3:b3≠b5:=o0 (g3.get e2) m4
 have n2:b2≠b5:=o0 (g3.get (g2.get e1)) m4
 have n32:b3≠b2:=(o0 e1 m2).symm
 have n42:b4≠b2:=(o0 (g2.get e1) m3).symm
 have n43:b4≠b3:=(o0 e2 m3).symm
 have d4:=k48 _ _ n45 (g4.get e3)
 have G28:Gr σ2 σ8:=P0 fun c o ho=>k48 c o (fun e=>by subst e;rw[C3 g3 m4]at ho;cases ho) (g4.get (g3.get ho))
 have G2:Gr σ σ2:=g1.trans g2
 have q2:=g2.get e1
 have q3:=e2
 have hm5:σ8 b5≠none:=by have:=m8.isSome;cases h:σ8 b5 with | none=>rw[h]at this;cases this | some o=>exact fun e=>by cases e
 refine u5 ?_
 intro R hR
 have key : ∀ (f c:Nat) (d:DvP) (n:Int) (x y:Sl) (r:List UInt8) (τ:H),RdK σ2 τ b4 b5 d (ag0 c) n x y->I6 τ b5 (M6 kkS (fun v:Value=>v) (aP1 b4))->DvJ d->c<=4->r.length<=900000->(c=4\/r.length<f)->ad0 s=aD6 f c d r->R ⟨⟨r⟩⟩ (some ⟨b2,0,none⟩) (some ⟨b3,0,none⟩) (some ⟨b4,0,none⟩) (some b5) τ:=by
  intro f
  have fin : ∀ (d:DvP) (n:Int) (x y:Sl) (r:List UInt8) (τ:H),RdK σ2 τ b4 b5 d (ag0 4) n x y->DvJ d->r.length<=900000->ad0 s=(if r.length<=4000 then some { d with script:=⟨⟨r⟩⟩ }else none)->R ⟨⟨r⟩⟩ (some ⟨b2,0,none⟩) (some ⟨b3,0,none⟩) (some ⟨b4,0,none⟩) (some b5) τ:=by
   intro d n x y r τ hk hJ hr hp
   refine hR _ _ _ _ _ _ (i6 (y8 (f0 hk.cell) (k9 (by decide +kernel) ?_)))
   have e4:decide ((((⟨⟨r⟩⟩:ByteArray).size:Nat):Int)<=4000)=decide (r.length<=4000):=by rw[E1];show((r.length:Nat):Int)<=4000↔_;omega
   rw[e4]
   refine V6 (f0 hk.cell) _ _ (fun hm => ?_) (fun hm => ?_)
   ·rw[d9 (E6 hm)]at hp
    refine i6 (w4 hk.cell av8 ?_)
    intro τ1 p1
    have hx1:=hk.hx.putF p1 m3 hk.nx
    have hy1:=hk.hy.putF p1 m3 hk.ny
    refine i6 (A3 (l7 p1.same) (k0 rfl ?_))
    try dsimp only
    have c2:τ1 b2=_:=hx1.1.get q2
    have c3:τ1 b3=_:=hx1.1.get q3
    refine w4 c2 ap5 ?_
    intro τ2 p2
    refine w4 (p2.get n32 c3) bU5 ?_
    intro τ3 p3
    refine bj3 ?_
    show j0 _ _ _
    have c2':=p3.get n32.symm p2.same
    refine i6 (A3 (l7 c2') (k0 rfl ?_))
    try dsimp only
    refine i6 (ag2 (f0 p3.same) ?_)
    have kp : ∀c o,c≠b2->c≠b3->τ1 c=some o->τ3 c=some o:=fun c o k2 k3 ho=>p3.get k3 (p2.get k2 ho)
    have bx : ∀ {e:TypeId} {k:Nat} {rows:List (List Value)} {z:Sl},E7 σ2 τ1 e k rows z->w7 τ3 k rows z:=fun h=>(h.2.1.keep fun g o hg ho=>kp g o (fun e=>by have:=h.2.2 g hg;rw[e,q2]at this;cases this) (fun e=>by have:=h.2.2 g hg;rw[e,q3]at this;cases this) ho).rows
    have hfn:=hS _ x y τ3 hp (P0 fun c o ho=>kp c o (fun e=>by rw[e,m1]at ho;cases ho) (fun e=>by rw[e,C3 g1 m2]at ho;cases ho) (hx1.1.get (G2.get ho))) ⟨bx hx1,bx hy1⟩ (bV7 hJ r)
    exact hfn
   ·rw[c0 (J0 hm)]at hp
    show ar9 _ _ _ _ _ _
    refine aH2 (hk.hx.1.get q2) rfl (hk.hx.1.get q3) n32 fun bf τ2 z2 z3 zk => ?_
    show j0 _ _ _
    refine i6 (A3 (l7 z2) ?_)
    unfold drC
    (refine k0 rfl ?_;try dsimp only)
    refine i6 (ag2 (f0 z3) ?_)
    refine hF hp bf τ2 (P0 fun c o ho=>zk c o (fun e=>by subst e;rw[m1]at ho;cases ho) (fun e=>by subst e;rw[C3 g1 m2]at ho;cases ho) (hk.hx.1.get (G2.get ho)))
  induction f with
  | zero =>
   intro c d n x y r τ hk hm hJ hc hr hf hp
   have hc4:c=4:=by omega
   subst hc4
   exact fin d n x y r τ hk hJ hr hp
  | succ f ih =>
   intro c d n x y r τ hk hm hJ hc hr hf hp
   by_cases hc4:c=4
   ·subst hc4
    exact fin d n x y r τ hk hJ hr hp
   ·have hc3:c<=3:=by omega
    rw[aD6,c0 hc4,aG8]at hp
    have hnr:(!B8 (ag0 c) ⟨⟨[114,117,110]⟩⟩)=true:=by
     match c,hc3 with
     | 0,_=>decide +kernel
     | 1,_=>decide +kernel
     | 2,_=>decide +kernel
     | 3,_=>decide +kernel
    refine hR _ _ _ _ _ _ (i6 (y8 (f0 hk.cell) (l3 hnr ?_)))
    refine i7 (cw1 ⟨⟨r⟩⟩ 10 (by show r.length<=_;omega) ?_)
    rw[cx1]
    refine k0 rfl ?_
    dsimp only
    obtain⟨cl1,cl2⟩:=bf7 10 r
    obtain⟨pz1,pz2⟩:=bj6 (c:=32) (l:=(ac9 10 r).1) (by omega)
    refine i7 (bU3 ⟨⟨(ac9 10 r).1⟩⟩ 32 (by show(ac9 10 r).1.length<=_;omega) fun wx τ1 hn=>Q7 ?_)
    have hpl:0<(J3 32 ⟨⟨(ac9 10 r).1⟩⟩).length:=by rw[am3];omega
    generalize J3 32 ⟨⟨(ac9 10 r).1⟩⟩=w at *
    have hk1:=hk.gr hn.1
    have hm1:=hm.gr hn.1
    have hw:aB7 τ1 b4 x y w wx:=by
     refine⟨hn.2.1,fun g hg => ?_,pz1,pz2⟩
     have hf:=hn.2.2 g hg
     exact⟨(fun e=>by rw[e,hk.cell]at hf;cases hf),(fun e=>hk.hx.2.1.has e hf),(fun e=>hk.hy.2.1.has e hf)⟩
    have hg0:w[0]? = some (w.getD 0 ⟨⟨[]⟩⟩):=by rw[L0,B9 hpl];rfl
    obtain⟨g,o,a1,a2⟩:=hw.rd hg0
    have hwl:=hw.len
    rw[a1]
    refine i6 (l5 ⟨Int.le_refl _,by show(0:Int)<((wx.len:Nat):Int);omega⟩ (y8 a2 ?_))
    rw[<-a1]
    refine A3 (ao0 (kk:=kkS) (f:=fun v:Value=>v) hm1 (.nilFunc) true (w.getD 0 ⟨⟨[]⟩⟩)) ?_
    have bad : ∀ {e:Int} {τ':H},Gr σ2 τ'->ad0 s=none->P9 132 [.pointer (some ⟨b2,0,none⟩),.pointer (some ⟨b3,0,none⟩)] (.pan (aB1 e n)) (mdK (j0 (some ⟨b2,0,none⟩) (fun(b24 o25:Nat) =>
     l4 (rdA 4 b24 o25) (.one (.agg [.str,.slc,.slc,.str])) (fun(r26:ByteArray) (r27:Sl) (r28:Sl) (r29:ByteArray) =>
     j0 (some ⟨b3,0,none⟩) (fun(b30 o31:Nat) =>
     l4 (s5 b30 o31) kR (fun(r32:Value) =>
     K (.tuple ⟨[.agg ⟨[.string r26,.slice r27.base r27.len r27.cap,.slice r28.base r28.len r28.cap,.string r29]⟩,r32]⟩)))))) (fun _ _=>False)) τ':=by
     intro e τ' hg hpn
     refine aH2 (hg.get q2) rfl (hg.get q3) n32 fun bf τ2 z2 z3 zk => ?_
     show j0 _ _ _
     refine i6 (A3 (l7 z2) ?_)
     unfold drC
     (refine k0 rfl ?_;try dsimp only)
     refine i6 (ag2 (f0 z3) ?_)
     exact hF hpn bf τ2 (P0 fun c o ho=>zk c o (fun e=>by subst e;rw[m1]at ho;cases ho) (fun e=>by subst e;rw[C3 g1 m2]at ho;cases ho) (hg.get (G2.get ho)))
    have hbX:Q8 c d w=none -> ∀ (e:Int) (τ':H),Gr σ2 τ'->P9 132 [.pointer (some ⟨b2,0,none⟩),.pointer (some ⟨b3,0,none⟩)] (.pan (aB1 e n)) (mdK (j0 (some ⟨b2,0,none⟩) (fun(b24 o25:Nat) =>
     l4 (rdA 4 b24 o25) (.one (.agg [.str,.slc,.slc,.str])) (fun(r26:ByteArray) (r27:Sl) (r28:Sl) (r29:ByteArray) =>
     j0 (some ⟨b3,0,none⟩) (fun(b30 o31:Nat) =>
     l4 (s5 b30 o31) kR (fun(r32:Value) =>
     K (.tuple ⟨[.agg ⟨[.string r26,.slice r27.base r27.len r27.cap,.slice r28.base r28.len r28.cap,.string r29]⟩,r32]⟩)))))) (fun _ _=>False)) τ':=fun hl e τ' hg=>bad hg (by rw[hp,hl])
    have meth:(lk (w.getD 0 ⟨⟨[]⟩⟩) (aP1 b4)=none/\Q8 c d w=none) \/ ∃g,lk (w.getD 0 ⟨⟨[]⟩⟩) (aP1 b4)=some (aE5 b4 g)/\aG2 g ap3=true/\I3 Tryz.prog g=true /\ ∀ (K' X':Value->H->Prop),(Q8 c d w=none -> ∀e σ',Gr σ2 σ'->X' (aB1 e n) σ') ->
     (∀d' c',Q8 c d w=some (d',c') -> ∀σ' x' y',RdK σ2 σ' b4 b5 d' (ag0 c) n x' y'->Kpt b4 x y τ1 σ'->K' (.tuple ⟨[]⟩) σ')->M4 g [.pointer (some ⟨b4,0,none⟩),.slice wx.base wx.len wx.cap] K' X' τ1:=by
     rw[dh1]
     by_cases h1:w.getD 0 ⟨⟨[]⟩⟩=ac8
     ·exact .inr ⟨_,by rw[d9 h1],by decide,bV4,fun K' X' hX' hK'=>ch9 hk1 hc3 hw h1 hX' hK'⟩
     ·by_cases h2:w.getD 0 ⟨⟨[]⟩⟩=inB
      ·exact .inr ⟨_,by rw[c0 h1,d9 h2],by decide,ci1,fun K' X' hX' hK'=>cx0 hk1 hJ hc3 hw h2 hX' hK'⟩
      ·by_cases h3:w.getD 0 ⟨⟨[]⟩⟩=af6
       ·exact .inr ⟨_,by rw[c0 h1,c0 h2,d9 h3],by decide,bV5,fun K' X' hX' hK'=>ci2 hk1 hJ hc3 hw h3 hX' hK'⟩
       ·by_cases h4:w.getD 0 ⟨⟨[]⟩⟩=aj6
        ·exact .inr ⟨_,by rw[c0 h1,c0 h2,c0 h3,d9 h4],by decide,bV6,fun K' X' hX' hK'=>ci0 hk1 hc3 hw h4 hX' hK'⟩
        ·exact .inl ⟨by rw[c0 h1,c0 h2,c0 h3,c0 h4],aM5 h1 h2 h3 h4⟩
    rcases meth with⟨hl,hn0⟩ | ⟨g,hl,hpn,hgo,hcall⟩
    ·rw[hl]
     refine k0 rfl ?_
     dsimp only
     exact V6 (f0 hk1.cell) _ _ (fun h=>by cases h) fun _=>hbX hn0 _ _ hk1.hx.1
    ·rw[hl]
     refine k0 rfl ?_
     dsimp only
     refine V6 (f0 hk1.cell) _ _ (fun _ => ?_) fun h=>by cases h
     refine au4 hpn hgo (hcall _ _ (fun hl e σ' hg=>hbX hl e σ' hg) fun d' c' hl τ2 x' y' hk2 hkp=>O9 ?_)
     obtain⟨ok1,ok2,ok3⟩:=bf6 hl pz2 hJ
     rw[hl]at hp
     cases hq:(ac9 10 r).2 with
     | none =>
      rw[hq]at hp
      exact V6 (f0 hk2.cell) _ _ (fun h=>by cases h) fun _=>bad hk2.hx.1 hp
     | some r' =>
      rw[hq]at hp
      have hr':=cl2 r' hq
      refine V6 (f0 hk2.cell) _ _ (fun _ => ?_) fun h=>by cases h
      obtain⟨g',o',b1,_,b2⟩:=U7 (hw.1.keep fun g o hg ho=>hkp g o ho (hw.2.1 g hg).1 (hw.2.1 g hg).2.1 (hw.2.1 g hg).2.2).rows hg0
      rw[b1]
      refine i6 (l5 ⟨Int.le_refl _,by show(0:Int)<((wx.len:Nat):Int);omega⟩ (y8 b2 ?_))
      refine i6 (w4 hk2.cell av8 ?_)
      intro τ3 p3
      refine i6 (E9 (f0 p3.same) (i6 (w4 p3.same aB8 ?_)))
      intro τ4 p4
      have mk:I6 τ4 b5 (M6 kkS (fun v:Value=>v) (aP1 b4)):=((ci3 hm1 hkp n45.symm hk.mx hk.my).put p3 n45.symm).put p4 n45.symm
      refine ih c' d' (IntKind.i64.wrap (n+1)) x' y' r' τ4 ⟨?_,(hk2.hx.putF p3 m3 hk2.nx).putF p4 m3 hk2.nx,(hk2.hy.putF p3 m3 hk2.ny).putF p4 m3 hk2.ny,hk2.xy,hk2.nx,hk2.ny,hk2.mx,hk2.my,m3,?_,n45⟩ mk ok3 ok2 (by omega) (by omega) hp
      ·rw[ok1];exact p4.same
      ·have:=mk.isSome
       intro e;rw[e]at this;cases this
 exact key (s.length+1) 0 DvP.z 0 ⟨none,0,0⟩ ⟨none,0,0⟩ s σ8 ⟨d4,E7.nil' G28 _ _,E7.nil' G28 _ _,(fun g h=>by cases h),(fun h=>by cases h),(fun h=>by cases h),(fun h=>by cases h),(fun h=>by cases h),m3,hm5,n45⟩ m8 DvJ.z (by decide) hs (.inr (Nat.lt_succ_self _)) rfl
theorem bV8 (p:B4) (z0:p.path.size<=1000000) (z1:p.nar.size<=1000000) (z2:p.drv.size<=900000) {y:Sl} {σ:H} {K:KH} (hK:K (.string ⟨⟨ax9 p⟩⟩) σ):a8 59 [.agg ⟨U4 p y⟩] K σ:=by
 by_cases hd:p.drv=⟨⟨[]⟩⟩
 ·refine by0 p hd z0 z1 ?_
  have:ax9 p=aw0 p:=by unfold ax9;rw[hd];rfl
  rw[this]at hK;exact hK
 ·have hE:p.drv=⟨⟨p.drv.data.toList⟩⟩:=(K0 _).symm
  have hl:p.drv.data.toList.length=p.drv.size:=dl _
  have hne : ¬p.drv.data.toList=[]:=fun e=>hd (by rw[hE,e])
  unfold ax9 at hK
  rw[c0 hne]at hK
  refine B7 _ hK (c59 _ _ _ _ ?_)
  clear hK
  unfold g59
  refine x0 ?_;intro b5 σ1 g1 e1 n1
  refine y8 (f0 e1) (k9 ?_ (y8 (f0 e1) ?_))
  ·rw[Bool.eq_false_iff];intro e;exact hd (P8.1 e)
  rw[hE]
  refine i7 (bH7 p.drv.data.toList (by omega) (fun d x' y' σ2 hp g2 hd2 hz => ?_) (fun hp b σ2 g2 => ?_))
  ·rw[hp]
   unfold drC
   refine k0 rfl ?_
   try dsimp only
   refine x0 ?_;intro b20 σ3 g3 e3 n3
   refine w4 e3 ap5 ?_
   intro σ4 p4
   have g4:Gr σ2 σ4:=g3.putF p4 n3
   refine as2 (v := .bool false) (fun w=>bU6 _ w) (y7 (k9 rfl ?_))
   have c20:σ4 b20=some (.cells ⟨drC d.name x' y' d.script⟩ 113 (0,0)):=p4.same
   refine A3 (l7 c20) (k0 rfl ?_)
   try dsimp only
   refine i7 (bU9 (hd2.gr g4) hz (k0 rfl ?_))
   exact⟨rfl,(g1.trans g2).trans g4⟩
  ·rw[hp]
   unfold drC
   refine k0 rfl ?_
   try dsimp only
   refine x0 ?_;intro b20 σ3 g3 e3 n3
   refine w4 e3 ap5 ?_
   intro σ4 p4
   refine as2 (v := .bool true) (fun w=>ch1 _ _ w) (y7 (l3 rfl ?_))
   exact⟨rfl,(g1.trans g2).trans (g3.putF p4 n3)⟩
theorem ci4 {S:H9} (hz:Sm S) (h:∀p∈S.paths,p.drv.size<=900000):bx9 S ax9:=by
 intro p hp σ y K _ hK
 obtain⟨z1,z2,_⟩:=hz.pa p hp
 exact bV8 p z1 z2 (h p hp) hK
theorem bb0 {σ:H} {b:Nat} {m:Nat} {t:TypeId} {fz:Nat×Nat} (h:σ b=some (.cells ⟨[.int .u8 ((m:Nat):Int)]⟩ t fz)) (hm:m<256):w7 σ 1 (B1 [UInt8.ofNat m]) ⟨some ⟨b,0,none⟩,1,1⟩:=by
 refine ax1 (o:=0) (l:=[UInt8.ofNat m]) (m:=1) h ?_
 have:(UInt8.ofNat m).toNat=m:=by rw[UInt8.toNat_ofNat'];exact Nat.mod_eq_of_lt hm
 simp[u8V,this]
theorem at3 (l:List UInt8) (n:Nat) (hn:n<18446744073709551616) (hl:l.length<=1000000000) {σ:H} {K:KH} (hK:K (.string ⟨⟨l++S5 n⟩⟩) σ):a8 147 [.string ⟨⟨l⟩⟩,.int .u64 ((n:Nat):Int)] K σ:=by
 refine B7 _ hK (dw3 _ _ ?_)
 clear hK
 unfold cL7
 have hsz : ∀l:List UInt8,(⟨⟨l⟩⟩:ByteArray).size=l.length:=fun _=>rfl
 have tm : ∀m:Nat,Int.tmod ((m:Nat):Int) 128=((m % 128:Nat):Int):=fun _=>rfl
 have td : ∀m:Nat,Int.tdiv ((m:Nat):Int) 128=((m / 128:Nat):Int):=fun _=>rfl
 refine l5 (by decide) ?_
 rw[tm,td,aT7 (by omega) (by omega),af3 (by omega) (by omega)]
 refine x0 ?_;intro b3 σ1 g1 e1 n1
 refine aj3 O8 ad5 ac1 (bb0 e1 (by omega)) ?_
 refine l5 (by decide) ?_
 refine u5 ?_
 intro R hR
 have key : ∀ (f m:Nat) (acc:List UInt8) (τ:H),f<=9->m<128 ^ f->acc.length+f<=10->ai2 f m acc=S5 n->Gr σ τ->R ⟨⟨l⟩⟩ ((m:Nat):Int) ⟨⟨acc⟩⟩ τ:=by
  intro f
  have z : ∀ (f:Nat) (acc:List UInt8) (τ:H),acc.length<=10->ai2 f 0 acc=S5 n->Gr σ τ->R ⟨⟨l⟩⟩ (((0:Nat):Nat):Int) ⟨⟨acc⟩⟩ τ:=by
   intro f acc τ ha hd hg
   have:ai2 f 0 acc=acc:=by cases f<;>simp[ai2]
   rw[this]at hd
   refine hR _ _ _ _ (k9 (by decide) (l5 ?_ ⟨?_,hg⟩))
   ·rw[hsz,hsz];omega
   ·rw[hd,ax0]
  induction f with
  | zero =>
   intro m acc τ hf hm ha hd hg
   have:m=0:=by simpa using hm
   subst this
   exact z 0 acc τ (by omega) hd hg
  | succ f ih =>
   intro m acc τ hf hm ha hd hg
   by_cases h0:m=0
   ·subst h0;exact z _ acc τ (by omega) hd hg
   ·have h128:(128:Nat) ^ (f+1)<=128 ^ 9:=Nat.pow_le_pow_right (by decide) hf
    have hmb:m<18446744073709551616:=Nat.lt_of_lt_of_le hm (F5 h128 (by decide))
    refine hR _ _ _ _ (l3 (by simp only[gt_iff_lt,z8];omega) (l5 (by decide) ?_))
    rw[tm,td,aT7 (x:=((m % 128:Nat):Int)) (by omega) (by omega),aT7 (by omega) (by omega),af3 (by omega) (by omega),show((m % 128:Nat):Int)+128=((m % 128+128:Nat):Int)from by omega]
    refine x0 ?_;intro b9 τ1 g2 e2 n2
    refine aj3 O8 ad5 ac1 (bb0 e2 (by omega)) ?_
    refine l5 (by rw[hsz,hsz];show 1+acc.length<=_;omega) (l5 (by decide) ?_)
    rw[ax0]
    unfold ai2 at hd
    rw[c0 h0]at hd
    exact ih (m / 128) _ τ1 (by omega) (by rw[Nat.pow_succ]at hm;exact Nat.div_lt_of_lt_mul (by omega)) (by show(acc.length+1)+f<=10;omega) hd (hg.trans g2)
 refine key 9 (n / 128) [UInt8.ofNat (n % 128)] σ1 (by decide) (Nat.div_lt_of_lt_mul (Nat.lt_of_lt_of_le hn (by decide))) (by show 1+9<=10;decide) rfl g1
theorem am5 (l t:List UInt8) (hl:l.length<=1000000000) (ht:t.length<=1000000000) {σ:H} {K:KH} (hK:K (.string ⟨⟨l++X0 t⟩⟩) σ):a8 95 [.string ⟨⟨l⟩⟩,.string ⟨⟨t⟩⟩] K σ:=by
 refine c95 _ _ ?_
 unfold g95
 have e:IntKind.u64.wrap ((((⟨⟨t⟩⟩:ByteArray).size:Nat):Int))=((t.length:Nat):Int):=by
  show IntKind.u64.wrap ((t.length:Nat):Int)=_
  exact af3 (by omega) (by omega)
 rw[e]
 refine i7 (at3 l t.length (by omega) hl (I1 (l5 ?_ ?_)))
 ·show(l++S5 t.length).length+t.length<=_
  have:=U8 t.length
  rw[s8];omega
 ·rw[ax0,E0];exact hK
def ak0 (σ:H) (b:Nat) (r:I7):Prop:=σ b=some (.cells ⟨[.string ⟨⟨r.left⟩⟩,.bool r.lost]⟩ 121 (0,0))
def Btn (b:Nat) (σ σ':H):Prop := ∀c o,c≠b->σ c=some o->σ' c=some o
theorem Btn.refl (b:Nat) (σ:H):Btn b σ σ:=fun _ _ _ h=>h
theorem Btn.trans {b:Nat} {σ τ υ:H} (h:Btn b σ τ) (h2:Btn b τ υ):Btn b σ υ:=fun c o hc ho=>h2 c o hc (h c o hc ho)
theorem Btn.gr {b:Nat} {σ τ υ:H} (h:Btn b σ τ) (h2:Gr τ υ):Btn b σ υ:=fun c o hc ho=>h2.get (h c o hc ho)
theorem Btn.of {b:Nat} {σ τ:H} (h:Gr σ τ):Btn b σ τ:=fun c o _ ho=>h.get ho
theorem Btn.put {b:Nat} {o:Obj} {σ τ υ:H} (h:Btn b σ τ) (p:L6 τ b o υ):Btn b σ υ:=fun c o' hc ho=>p.get hc (h c o' hc ho)
theorem Btn.putF {b c:Nat} {o:Obj} {σ τ υ:H} (h:Btn b σ τ) (p:L6 τ c o υ) (hc:σ c=none):Btn b σ υ:=fun x o' hx ho=>p.get (fun e=>by subst e;rw[hc]at ho;cases ho) (h x o' hx ho)
theorem Btn.none {b c:Nat} {σ τ:H} (h:Btn b σ τ) (hb:τ b ≠ .none) (hc:τ c = .none):σ c = .none:=by
 cases ho:σ c with
 | none=>rfl
 | some o =>
  by_cases e:c=b
  ·subst e;exact u9 hc hb
  ·rw[h c o e ho]at hc;cases hc
section
variable {σ : H} {b : Nat} {r : I7} {K : KH}
theorem dh2:sizeT Tryz.prog 4=some 1:=by kernel_rfl
theorem br7:sizeT Tryz.prog 9=some 1:=by kernel_rfl
theorem aP2 (h:ak0 σ b r) (hK:∀σ',ak0 σ' b ⟨[],true⟩->Btn b σ σ'->K (.tuple ⟨[]⟩) σ'):a8 142 [.pointer (some ⟨b,0,none⟩)] K σ:=by
 refine dv8 _ ?_
 unfold cK7
 refine i6 (w4 h br7 ?_)
 intro σ1 p1
 refine i6 (w4 p1.same dh2 ?_)
 intro σ2 p2
 exact hK σ2 p2.same (((Btn.refl b σ).put p1).put p2)
theorem by7 {l:List UInt8} {k:Nat} : ∀ {i:Nat} {c:UInt8},l[i]? = some c->(i<J9 l->128<=c.toNat)/\(i=J9 l->c.toNat<128):=by
 induction l with
 | nil=>intro i c h;simp at h
 | cons x t ih =>
  intro i c h
  by_cases hx:128<=x.toNat
  ·have e:J9 (x::t)=J9 t+1:=by unfold J9;rw[List.takeWhile_cons_of_pos (by simpa using hx)];rfl
   cases i with
   | zero=>simp at h;subst h;exact⟨fun _=>hx,fun h=>by omega⟩
   | succ i =>
    obtain⟨a1,a2⟩:=ih (i:=i) (c:=c) (by simpa using h)
    exact⟨fun h=>a1 (by omega),fun h=>a2 (by omega)⟩
  ·have e:J9 (x::t)=0:=by unfold J9;rw[List.takeWhile_cons_of_neg (by simpa using hx)];rfl
   refine⟨fun h=>by omega,fun hi => ?_⟩
   rw[hi,e]at h;simp at h;subst h;omega
theorem ci5 (l:List UInt8):J9 l<=l.length:=by unfold J9;exact(List.takeWhile_sublist _).length_le
theorem aJ5 (h:ak0 σ b r) (hl:r.left.length<=1000000000) (hK:∀σ',ak0 σ' b r.num.2->Btn b σ σ'->K (.int .u64 r.num.1) σ'):a8 141 [.pointer (some ⟨b,0,none⟩)] K σ:=by
 rw[<-bv9]at hK
 refine dv7 _ ?_
 unfold cK5
 have hsz : ∀l:List UInt8,(⟨⟨l⟩⟩:ByteArray).size=l.length:=fun _=>rfl
 have hkl:=ci5 r.left
 unfold I7.rnum at hK
 refine u5 ?_
 intro R hR
 have key : ∀d i:Nat,i+d=J9 r.left->R (some ⟨b,0,none⟩) ((i:Nat):Int) σ:=by
  intro d
  induction d with
  | zero =>
   intro i hi
   have hi:i=J9 r.left:=by omega
   subst hi
   refine hR _ _ _ (S9 (fun j=>j (some ⟨b,0,none⟩) ((J9 r.left:Nat):Int) false σ) ?_ ?_)
   ·refine k9 rfl ?_
    refine S9 (fun j=>j (some ⟨b,0,none⟩) ((J9 r.left:Nat):Int) (decide (r.left.length<=J9 r.left\/9<J9 r.left)) σ) ?_ ?_
    ·refine G8 (fun hb => ?_) (fun hb => ?_)
     ·rw[d9 (E6 hb)]at hK
      exact i7 (aP2 h fun σ' h1 h2=>O9 (hK σ' h1 h2))
     ·have hb:=J0 hb
      rw[c0 hb]at hK
      have hlt:J9 r.left<r.left.length:=by omega
      refine u5 ?_
      intro R2 hR2
      have key2 : ∀d i:Nat,i+d=J9 r.left+1->R2 (some ⟨b,0,none⟩) ((J9 r.left:Nat):Int) (ak9 (r.left.take i)) ((i:Nat):Int) σ:=by
       intro d
       induction d with
       | zero =>
        intro i hi
        have hi:i=J9 r.left+1:=by omega
        subst hi
        refine hR2 _ _ _ _ _ (k9 (J6 (by omega)) ?_)
        refine i6 (y8 (f0 h) ?_)
        obtain⟨q1,q2⟩:=ae4 (r.left.take (J9 r.left+1))
        have e1:ak9 (r.left.take (J9 r.left+1))=(((ak9 (r.left.take (J9 r.left+1))).toNat:Nat):Int):=by omega
        rw[e1]
        refine i7 (at3 [] _ (by omega) (by decide) (I1 ?_))
        refine F9 (f0 h) ?_
        rw[n0 (x:=((J9 r.left:Nat):Int)+1) (by omega) (by omega)]
        refine l5 ⟨B3 (by omega) (by rw[hsz];omega),H1⟩ ?_
        have e2:(((J9 r.left:Nat):Int)+1).toNat=J9 r.left+1:=by omega
        have e3:(⟨⟨r.left⟩⟩:ByteArray).extract 0 (J9 r.left+1)=⟨⟨r.left.take (J9 r.left+1)⟩⟩:=by
         apply O3
         rw[I8];simp
        have e4:(⟨⟨r.left⟩⟩:ByteArray).extract (J9 r.left+1) (⟨⟨r.left⟩⟩:ByteArray).size=⟨⟨r.left.drop (J9 r.left+1)⟩⟩:=by
         apply O3
         rw[I8,hsz]
         show(r.left.take r.left.length).drop _=_
         rw[V7]
        rw[e2,e3,T8,K1,<- e1]
        refine G8 (fun hb => ?_) (fun hb => ?_)
        ·have hb : ¬S5 (ak9 (r.left.take (J9 r.left+1))).toNat=r.left.take (J9 r.left+1):=by simpa using hb
         rw[c0 hb]at hK
         exact i7 (aP2 h fun σ' h1 h2=>O9 (hK σ' h1 h2))
        ·have hb:S5 (ak9 (r.left.take (J9 r.left+1))).toNat=r.left.take (J9 r.left+1):=by simpa using hb
         rw[d9 hb]at hK
         refine i6 (y8 (f0 h) ?_)
         refine l5 ⟨H1,B3 (by omega) (by rw[hsz];omega)⟩ ?_
         rw[e4]
         refine i6 (w4 h br7 ?_)
         intro σ1 p1
         exact hK σ1 p1.same ((Btn.refl b σ).put p1)
       | succ d ih =>
        intro i hi
        have hil:i<r.left.length:=by omega
        refine hR2 _ _ _ _ _ (l3 (C8 (by omega)) ?_)
        refine i6 (y8 (f0 h) ?_)
        refine M3 (c:=r.left[i]) (by omega) (by rw[B0];exact B9 hil) ?_
        refine l5 (by decide) ?_
        rw[C7 (i:=i)]
        have e:ak9 (r.left.take (i+1))=IntKind.u64.wrap ((IntKind.u64.wrap (128 * ak9 (r.left.take i)))+(IntKind.u64.wrap (Int.tmod ((r.left[i].toNat:Nat):Int) 128))):=by
         rw[List.take_succ_eq_append_getElem hil]
         unfold ak9
         rw[List.foldl_append,Q0,List.foldl_nil]
         unfold aG1
         rw[Int.mul_comm]
        rw[<-e]
        exact ih (i+1) (by omega)
      exact key2 (J9 r.left+1) 0 (by omega)
    ·intro j hj
     refine i6 (y8 (f0 h) ?_)
     refine G8 (fun hb => ?_) (fun hb => ?_)
     ·have hb:=E6 hb
      rw[hsz]at hb
      rw[F1 (show r.left.length<=J9 r.left\/9<J9 r.left from .inl (by omega))]at hj
      exact hj
     ·have hb:=J0 hb
      rw[hsz]at hb
      have:(decide (((J9 r.left:Nat):Int)>9))=decide (r.left.length<=J9 r.left\/9<J9 r.left):=by
       rw[E1];omega
      rw[this];exact hj
   ·intro j hj
    refine i6 (y8 (f0 h) ?_)
    refine G8 (fun hb => ?_) (fun _=>hj)
    have hb:=E6 hb
    rw[hsz]at hb
    have hil:J9 r.left<r.left.length:=by omega
    refine i6 (y8 (f0 h) ?_)
    refine M3 (c:=r.left[J9 r.left]) (by omega) (by rw[B0];exact B9 hil) ?_
    have h2:=(by7 (k:=0) (B9 hil)).2 rfl
    have e:decide ((((r.left[J9 r.left]).toNat:Nat):Int)>=128)=false:=by exact J6
    rw[e]
    exact hj
  | succ d ih =>
   intro i hi
   have hil:i<r.left.length:=by omega
   have h2:=(by7 (k:=0) (B9 hil)).1 (by omega)
   refine hR _ _ _ (S9 (fun j=>j (some ⟨b,0,none⟩) ((i:Nat):Int) true σ) ?_ ?_)
   ·refine l3 rfl ?_
    rw[C7 (i:=i)]
    exact ih (i+1) (by omega)
   ·intro j hj
    refine i6 (y8 (f0 h) ?_)
    refine l3 (by rw[hsz];exact C8) ?_
    refine i6 (y8 (f0 h) ?_)
    refine M3 (c:=r.left[i]) (by omega) (by rw[B0];exact B9 hil) ?_
    have e:decide ((((r.left[i]).toNat:Nat):Int)>=128)=true:=by exact C8
    rw[e]
    exact hj
 exact key (J9 r.left) 0 (by omega)
theorem aB9 (h:ak0 σ b r) (hl:r.left.length<=1000000000) (hK:∀σ',ak0 σ' b r.text.2->Btn b σ σ'->K (.string ⟨⟨r.text.1⟩⟩) σ'):a8 90 [.pointer (some ⟨b,0,none⟩)] K σ:=by
 rw[<-bg3]at hK
 refine c90 _ ?_
 unfold g90
 have hsz : ∀l:List UInt8,(⟨⟨l⟩⟩:ByteArray).size=l.length:=fun _=>rfl
 have hle:=B5 r
 have hn0:0<=r.num.1:=(ae4 _).1
 unfold I7.rtext at hK
 refine i7 (aJ5 h hl fun σ1 h1 k1 => ?_)
 show app (.one (.sc (.int .u64))) _ (.int .u64 r.num.1) σ1
 refine k0 rfl ?_
 try dsimp only
 refine i6 (y8 (f0 h1) ?_)
 rw[hsz,af3 (by omega) (by omega)]
 refine G8 (fun hb => ?_) (fun hb => ?_)
 ·rw[d9 (E6 hb)]at hK
  exact i7 (aP2 h1 fun σ2 h2 k2=>O9 (hK σ2 h2 (k1.trans k2)))
 ·have hb:=J0 hb
  rw[c0 hb]at hK
  refine i6 (y8 (f0 h1) ?_)
  refine l5 ⟨B3 hn0 (by rw[hsz];omega),H1⟩ ?_
  refine i6 (y8 (f0 h1) ?_)
  refine l5 ⟨H1,B3 hn0 (by rw[hsz];omega)⟩ ?_
  have e3:(⟨⟨r.num.2.left⟩⟩:ByteArray).extract 0 r.num.1.toNat=⟨⟨r.num.2.left.take r.num.1.toNat⟩⟩:=by
   apply O3
   rw[I8];simp
  have e4:(⟨⟨r.num.2.left⟩⟩:ByteArray).extract r.num.1.toNat (⟨⟨r.num.2.left⟩⟩:ByteArray).size=⟨⟨r.num.2.left.drop r.num.1.toNat⟩⟩:=by
   apply O3
   rw[I8,hsz]
   show(r.num.2.left.take r.num.2.left.length).drop _=_
   rw[V7]
  rw[e3,e4]
  refine i6 (w4 h1 br7 ?_)
  intro σ2 p2
  exact hK σ2 p2.same (k1.put p2)
theorem bb1 (h:ak0 σ b r) (hK:K (.bool (!r.lost)) σ):a8 143 [.pointer (some ⟨b,0,none⟩)] K σ:=by
 refine dv9 _ ?_
 unfold cK9
 exact i6 (aX9 (f0 h) hK)
theorem ci6 (h:ak0 σ b r) (hK:K (.bool (!r.lost&&r.left.isEmpty)) σ):a8 92 [.pointer (some ⟨b,0,none⟩)] K σ:=by
 refine c92 _ ?_
 unfold g92
 refine i6 (aX9 (f0 h) ?_)
 refine G8 (fun hb => ?_) (fun hb => ?_)
 ·rw[hb,C4]at hK
  refine i6 (y8 (f0 h) ?_)
  have e:B8 ⟨⟨r.left⟩⟩ ⟨⟨[]⟩⟩=r.left.isEmpty:=by rw[K1];cases r.left<;>rfl
  rw[e];exact hK
 ·rw[hb,H4]at hK;exact hK
end
section
variable {σ : H} {K : KH}
theorem aP3 (c:UInt8) (l:List UInt8) (hl:l.length<=1000000000) (hK:K (.bool (l.contains c)) σ):a8 148 [.int .u8 ((c.toNat:Nat):Int),.string ⟨⟨l⟩⟩] K σ:=by
 refine dw4 _ _ ?_
 unfold cL9
 have hsz : ∀l:List UInt8,(⟨⟨l⟩⟩:ByteArray).size=l.length:=fun _=>rfl
 refine u5 ?_
 intro R hR
 have key : ∀ (q:List UInt8) (i:Nat),l.drop i=q->(l.contains c=q.contains c)->R ((c.toNat:Nat):Int) ⟨⟨l⟩⟩ ((i:Nat):Int) σ:=by
  intro q
  induction q with
  | nil =>
   intro i hd he
   have h5:l.length<=i:=by simpa using hd
   refine hR _ _ _ _ (k9 (by rw[hsz];exact J6) ?_)
   rw[he]at hK;exact hK
  | cons x q ih =>
   intro i hd he
   obtain⟨t1,t2,t3⟩:=C5 hd
   refine hR _ _ _ _ (l3 (by rw[hsz];exact C8) (M3 (c:=x) (by omega) t1 ?_))
   refine G8 (fun hb => ?_) (fun hb => ?_)
   ·have:x.toNat=c.toNat:=by have:=eq_of_beq hb;omega
    have:x=c:=UInt8.toNat_inj.1 this
    subst this
    rw[he,show(x::q).contains x=true from by simp]at hK
    exact hK
   ·have hne:x≠c:=fun e=>by subst e;simp at hb
    rw[C7 (i:=i)]
    refine ih (i+1) t3 ?_
    rw[he,List.contains_cons]
    have:(c==x)=false:=by simpa using fun e=>hne e.symm
    rw[this,Q1]
 exact key l 0 rfl rfl
theorem br8 (l:List UInt8) (hl:l.length<=1000000000) (hK:K (.bool (C0 l)) σ):a8 96 [.string ⟨⟨l⟩⟩] K σ:=by
 refine c96 _ ?_
 unfold g96
 have hsz : ∀l:List UInt8,(⟨⟨l⟩⟩:ByteArray).size=l.length:=fun _=>rfl
 unfold C0 at hK
 refine u5 ?_
 intro R hR
 have key : ∀ (q:List UInt8) (i:Nat),l.drop i=q->(l.all L2.contains=q.all L2.contains)->R ⟨⟨l⟩⟩ ((i:Nat):Int) σ:=by
  intro q
  induction q with
  | nil =>
   intro i hd he
   have h5:l.length<=i:=by simpa using hd
   refine hR _ _ _ (k9 (by rw[hsz];exact J6) ?_)
   rw[he]at hK
   rw[hsz]
   have:(((l.length:Nat):Int)==32)=(l.length==32):=by rw[J5,beq_iff_eq,beq_iff_eq];omega
   rw[this]
   simpa using hK
  | cons x q ih =>
   intro i hd he
   obtain⟨t1,t2,t3⟩:=C5 hd
   refine hR _ _ _ (l3 (by rw[hsz];exact C8) (M3 (c:=x) (by omega) t1 ?_))
   refine i7 (cM1 (I1 (i7 (aP3 x L2 (by decide) (y7 ?_)))))
   refine G8 (fun hb => ?_) (fun hb => ?_)
   ·have hb:L2.contains x=false:=by simpa using hb
    rw[he,List.all_cons,hb,H4,H4]at hK
    exact hK
   ·have hb:L2.contains x=true:=by simpa using hb
    rw[C7 (i:=i)]
    exact ih (i+1) t3 (by rw[he,List.all_cons,hb,C4])
 exact key l 0 rfl rfl
theorem ci7 (c:UInt8):X3 c=(if decide (97<=c.toNat)&&decide (c.toNat<=122)then true else if decide (65<=c.toNat)&&decide (c.toNat<=90)then true else if decide (48<=c.toNat)&&decide (c.toNat<=57)then true else [43,45,46,95].contains c):=by
 unfold X3
 cases decide (97<=c.toNat)&&decide (c.toNat<=122)<;>cases decide (65<=c.toNat)&&decide (c.toNat<=90)<;>cases decide (48<=c.toNat)&&decide (c.toNat<=57)<;>rfl
theorem am6 (l:List UInt8) (hl:l.length<=1000000000) (hK:K (.int .i64 (L3 l)) σ):a8 97 [.string ⟨⟨l⟩⟩] K σ:=by
 refine c97 _ ?_
 unfold g97
 have hsz : ∀l:List UInt8,(⟨⟨l⟩⟩:ByteArray).size=l.length:=fun _=>rfl
 unfold L3 at hK
 refine G8 (fun hb => ?_) (fun hb => ?_)
 ·have hb:=E6 hb
  rw[hsz]at hb
  rw[d9 (show l.length>20 by omega)]at hK;exact hK
 have hb:=J0 hb
 rw[hsz]at hb
 rw[c0 (show ¬l.length>20 by omega)]at hK
 refine u5 ?_
 intro R hR
 have key : ∀ (q:List UInt8) (i:Nat),l.drop i=q->(l.all X3=q.all X3)->R ⟨⟨l⟩⟩ ((i:Nat):Int) σ:=by
  intro q
  induction q with
  | nil =>
   intro i hd he
   have h5:l.length<=i:=by simpa using hd
   refine hR _ _ _ (k9 (by rw[hsz];exact J6) ?_)
   rw[he]at hK
   refine S9 (fun j=>j (l.isEmpty||l.head? == some 46) σ) ?_ ?_
   ·refine G8 (fun h => ?_) (fun h => ?_)
    ·rw[c0]at hK
     ·exact hK
     ·cases l with
      | nil=>simp
      | cons a b=>simpa using h
    ·rw[d9]at hK
     ·exact hK
     ·cases l with
      | nil=>simp at h
      | cons a b=>simpa using h
   ·intro j hj
    rw[show B8 ⟨⟨l⟩⟩ ⟨⟨[]⟩⟩=l.isEmpty from by rw[K1];cases l<;>rfl]
    cases l with
    | nil=>exact l3 rfl hj
    | cons a b =>
     refine k9 rfl (M3 (c:=a) (by decide) rfl ?_)
     have:(((a.toNat:Nat):Int)==46)=((a::b).isEmpty||(a::b).head? == some 46):=by
      rw[J5]
      simp only[List.isEmpty_cons,List.head?_cons,Q1,beq_iff_eq,Option.some.injEq]
      constructor
      ·intro h;exact UInt8.toNat_inj.1 (by show a.toNat=46;omega)
      ·intro h;subst h;rfl
     rw[this];exact hj
  | cons x q ih =>
   intro i hd he
   obtain⟨t1,t2,t3⟩:=C5 hd
   refine hR _ _ _ (l3 (by rw[hsz];exact C8) (M3 (c:=x) (by omega) t1 ?_))
   refine S9 (fun j=>j ⟨⟨l⟩⟩ ((i:Nat):Int) (!X3 x) σ) ?_ ?_
   ·refine G8 (fun h => ?_) (fun h => ?_)
    ·have h:X3 x=false:=by simpa using h
     rw[he,List.all_cons,h,H4,H4,c0 (by simp)]at hK
     exact hK
    ·have h:X3 x=true:=by simpa using h
     rw[C7 (i:=i)]
     exact ih (i+1) t3 (by rw[he,List.all_cons,h,C4])
   ·intro j hj
    have last:X3 x=[43,45,46,95].contains x->d8 148 [.int .u8 ((x.toNat:Nat):Int),.string ⟨⟨[43,45,46,95]⟩⟩] kB (fun b=>j ⟨⟨l⟩⟩ ((i:Nat):Int) (!b)) σ:=fun h =>
     i7 (aP3 x [43,45,46,95] (by decide) (y7 (by rw[<-h];exact hj)))
    have good:X3 x=true->j ⟨⟨l⟩⟩ ((i:Nat):Int) false σ:=fun h=>by rw[h]at hj;exact hj
    have ho:=ci7 x
    have d1:decide (((x.toNat:Nat):Int)>=97)=decide (97<=x.toNat):=by rw[E1];omega
    have d2:decide (((x.toNat:Nat):Int)<=122)=decide (x.toNat<=122):=by rw[E1];omega
    have d3:decide (((x.toNat:Nat):Int)>=65)=decide (65<=x.toNat):=by rw[E1];omega
    have d4:decide (((x.toNat:Nat):Int)<=90)=decide (x.toNat<=90):=by rw[E1];omega
    have d5:decide (((x.toNat:Nat):Int)>=48)=decide (48<=x.toNat):=by rw[E1];omega
    have d6:decide (((x.toNat:Nat):Int)<=57)=decide (x.toNat<=57):=by rw[E1];omega
    rw[d1,d2,d3,d4,d5,d6]
    generalize decide (97<=x.toNat)=a1 at *
    generalize decide (x.toNat<=122)=a2 at *
    generalize decide (65<=x.toNat)=a3 at *
    generalize decide (x.toNat<=90)=a4 at *
    generalize decide (48<=x.toNat)=a5 at *
    generalize decide (x.toNat<=57)=a6 at *
    cases a1<;>cases a2<;>cases a3<;>cases a4<;>cases a5<;>cases a6<;>simp only[Bool.and_true,Bool.and_false,C4,H4,if_true,if_false,F4]at ho <;>
     (repeat (first | exact good ho | exact last ho | refine l3 rfl ?_ | refine k9 rfl ?_))
 exact key l 0 rfl rfl
theorem bj7 (h n:List UInt8) (hh:h.length<=1000000000) (hn:n.length<=1000000000) (hK:K (.tuple ⟨[.string ⟨⟨(ak7 h n).1⟩⟩,.int .i64 (ak7 h n).2]⟩) σ):a8 151 [.string ⟨⟨h⟩⟩,.string ⟨⟨n⟩⟩] K σ:=by
 refine dw7 _ _ ?_
 unfold cM5
 unfold ak7 at hK
 have hsz : ∀l:List UInt8,(⟨⟨l⟩⟩:ByteArray).size=l.length:=fun _=>rfl
 refine i7 (br8 h hh (y7 (G8 (fun hb => ?_) (fun hb => ?_))))
 ·rw[c0 (by simpa using hb)]at hK;exact hK
 ·rw[d9 (by simpa using hb)]at hK
  refine i7 (am6 n hn (B6 (G8 (fun h2 => ?_) (fun h2 => ?_))))
  ·rw[c0 (by simpa using h2)]at hK;exact hK
  ·rw[d9 (by simpa using h2)]at hK
   refine l5 (by rw[hsz];show h.length+1<=_;omega) ?_
   rw[ax0]
   refine l5 (by rw[hsz,hsz,s8];show h.length+1+_<=_;omega) ?_
   rw[ax0,E0]
   exact hK
theorem av9 (p:List UInt8) (hp:p.length<=1000000000) (hK:K (.tuple ⟨[.string ⟨⟨(I9 p).1⟩⟩,.string ⟨⟨(I9 p).2.1⟩⟩,.int .i64 (I9 p).2.2]⟩) σ):a8 63 [.string ⟨⟨p⟩⟩] K σ:=by
 refine c63 _ ?_
 unfold g63
 have hsz : ∀l:List UInt8,(⟨⟨l⟩⟩:ByteArray).size=l.length:=fun _=>rfl
 have e3:(⟨⟨p⟩⟩:ByteArray).extract 0 ((32:Int).toNat)=⟨⟨p.take 32⟩⟩:=by
  apply O3
  rw[I8];rfl
 have e4:(⟨⟨p⟩⟩:ByteArray).extract ((33:Int).toNat) (⟨⟨p⟩⟩:ByteArray).size=⟨⟨p.drop 33⟩⟩:=by
  apply O3
  rw[I8,hsz]
  show(p.take p.length).drop _=_
  rw[V7];rfl
 have hc:(I9 p)=if(p.length<34 \/ ¬ (p.getD 32 0==45&&C0 (p.take 32)&&L3 (p.drop 33)==0)=true)then([],[],4)else(p.take 32,p.drop 33,0):=by
  have key:(decide (p.length>32)&&p.getD 32 0==45&&C0 (p.take 32)&&L3 (p.drop 33)==0)=true ↔ ¬ (p.length<34 \/ ¬ (p.getD 32 0==45&&C0 (p.take 32)&&L3 (p.drop 33)==0)=true):=by
   rw[not_or,Decidable.not_not]
   constructor
   ·intro h
    simp only[A8]at h ⊢
    obtain⟨⟨⟨h1,h2⟩,h3⟩,h4⟩:=h
    refine⟨fun hl => ?_,⟨⟨h2,h3⟩,h4⟩⟩
    have:p.drop 33=[]:=M8 (by omega)
    rw[this]at h4
    exact u9 h4 (by decide)
   ·rintro ⟨h1,h2⟩
    simp only[A8]at h2 ⊢
    exact⟨⟨⟨F1 (by omega),h2.1.1⟩,h2.1.2⟩,h2.2⟩
  unfold I9
  by_cases hA:(p.length<34 \/ ¬ (p.getD 32 0==45&&C0 (p.take 32)&&L3 (p.drop 33)==0)=true)
  ·rw[d9 hA,c0 fun h=>key.1 h hA]
  ·rw[c0 hA,d9 (key.2 hA)]
 refine S9 (fun j=>j ⟨⟨p⟩⟩ (decide (p.length<34 \/ ¬ (p.getD 32 0==45&&C0 (p.take 32)&&L3 (p.drop 33)==0)=true)) σ) ?_ ?_
 ·refine G8 (fun h => ?_) (fun h => ?_)
  ·rw[d9 (E6 h)]at hc
   rw[hc]at hK;exact hK
  ·have h:=J0 h
   rw[c0 h]at hc
   rw[hc]at hK
   refine l5 ⟨B3 (by omega) (by rw[hsz];omega),H1⟩ (l5 ⟨H1,B3 (by omega) (by rw[hsz];omega)⟩ ?_)
   rw[e3,e4];exact hK
 ·intro j hj
  by_cases h2:p.length<34
  ·rw[F1 (.inl h2)]at hj
   exact l3 (by rw[hsz];exact C8) hj
  ·refine k9 (by rw[hsz];exact J6) ?_
   refine l5 ⟨B3 (by omega) (by rw[hsz];omega),H1⟩ ?_
   rw[e3]
   have h32:p[32]? = some (p.getD 32 0):=by
    rw[L0,B9 (by omega)];rfl
   refine i7 (br8 _ (by rw[F0];omega) (y7 (G8 (fun hb => ?_) (fun hb => ?_))))
   ·have hb:C0 (p.take 32)=false:=by simpa using hb
    rw[F1 (.inr (by rw[hb];simp))]at hj
    exact hj
   ·have hb:C0 (p.take 32)=true:=by simpa using hb
    refine M3 (c:=p.getD 32 0) (by decide) (by exact h32) ?_
    have e5:((((p.getD 32 0).toNat:Nat):Int) != 45) = !(p.getD 32 0==45):=by
     rw[bne,Bool.not_eq_eq_eq_not,S6,J5,beq_iff_eq,beq_iff_eq]
     constructor
     ·intro h;exact UInt8.toNat_inj.1 (by show(p.getD 32 0).toNat=45;omega)
     ·intro h;rw[h];rfl
    rw[e5]
    refine G8 (fun hc => ?_) (fun hc => ?_)
    ·have hc:(p.getD 32 0==45)=false:=by simpa using hc
     rw[F1 (.inr (by rw[hc];simp))]at hj
     exact hj
    ·have hc:(p.getD 32 0==45)=true:=by simpa using hc
     refine l5 ⟨H1,B3 (by omega) (by rw[hsz];omega)⟩ ?_
     rw[e4]
     refine i7 (am6 _ (by rw[M1];omega) (B6 ?_))
     have:(L3 (p.drop 33) != 0)=decide (p.length<34 \/ ¬ (p.getD 32 0==45&&C0 (p.take 32)&&L3 (p.drop 33)==0)=true):=by
      rw[hb,hc,J5]
      simp only[C4,z8,bne_iff_ne,beq_iff_eq]
      constructor
      ·intro h;exact .inr h
      ·rintro (h | h)
       ·exact u9 h h2
       ·exact h
     rw[this];exact hj
end
section
variable {σ : H} {K : KH}
theorem aJ6 (x y:Int) (hK:K (.tuple ⟨[.int .u64 (al5 x y),.int .u64 (aq1 x y)]⟩) σ):a8 268 [.int .u64 x,.int .u64 y] K σ:=by
 refine dE1 _ _ ?_
 unfold dc9
 exact l5 (by decide) (l5 (by decide) (l5 (by decide) (l5 (by decide) (l5 (by decide) (l5 (by decide) (l5 (by decide) hK))))))
theorem bH8 (x p:Int) (hK:K (.bool (aU3 x p)) σ):a8 267 [.int .u64 x,.int .u64 p] K σ:=by
 refine dE0 _ _ ?_
 unfold dc7
 refine i7 (aJ6 _ _ (aa9 ?_))
 refine i7 (aJ6 _ _ (aa9 ?_))
 refine i7 (aJ6 _ _ (aa9 ?_))
 unfold aU3 aT5 at hK
 dsimp only at hK
 refine S9 (fun j => ∀c:Int,c=(if decide (IntKind.u64.wrap (al5 (aq1 x x) x+aq1 (al5 x x) x)<al5 (aq1 x x) x)then 1 else 0)->j p (aq1 (aq1 x x) x) (al5 (al5 x x) x) (IntKind.u64.wrap (al5 (aq1 x x) x+aq1 (al5 x x) x)) c σ) ?_ ?_
 ·intro c hc
  rw[<-hc]at hK
  refine G8 (fun h => ?_) (fun h=>l5 (by decide) (G8 (fun h' => ?_) (fun h'=>G8 (fun h'' => ?_) (fun h'' => ?_))))
  ·rw[d9 h]at hK;exact hK
  ·rw[c0 (by rw[h];simp),d9 h']at hK;exact hK
  ·rw[c0 (by rw[h];simp),c0 (by rw[h'];simp),d9 h'']at hK;exact hK
  ·rw[c0 (by rw[h];simp),c0 (by rw[h'];simp),c0 (by rw[h''];simp)]at hK;exact hK
 ·intro j hj
  refine G8 (fun h=>hj 1 ?_) (fun h=>hj 0 ?_)
  ·rw[d9 h]
  ·rw[c0 (by rw[h];simp)]
theorem bV9 (p r:Int) (h:af8 aU3 p 50 0 68719476736=some r) (hK:K (.int .u32 r) σ):a8 240 [.int .u64 p] K σ:=by
 refine dC8 _ ?_
 unfold da1
 refine u5 ?_
 intro R hR
 have key : ∀ (n:Nat) (low high:Int),af8 aU3 p n low high=some r->R p low high σ:=by
  intro n
  induction n with
  | zero=>intro low high h;cases h
  | succ n ih =>
   intro low high h
   refine hR _ _ _ _ ?_
   unfold af8 at h
   refine G8 (fun hb => ?_) (fun hb => ?_)
   ·rw[d9 hb]at h
    refine l5 (by decide) (i7 (bH8 _ _ (y7 ?_)))
    refine G8 (fun ha => ?_) (fun ha => ?_)
    ·rw[d9 (by unfold ai8;exact ha)]at h
     exact ih _ _ h
    ·rw[c0 (by unfold ai8;rw[ha];simp)]at h
     exact ih _ _ h
   ·rw[c0 (by rw[hb];simp)]at h
    cases h;exact hK
 exact key 50 _ _ h
theorem br9 (p r:Int) (h:af8 au7 p 50 0 68719476736=some r) (hK:K (.int .u32 r) σ):a8 241 [.int .u64 p] K σ:=by
 refine dC9 _ ?_
 unfold da3
 refine u5 ?_
 intro R hR
 have key : ∀ (n:Nat) (low high:Int),af8 au7 p n low high=some r->R p low high σ:=by
  intro n
  induction n with
  | zero=>intro low high h;cases h
  | succ n ih =>
   intro low high h
   refine hR _ _ _ _ ?_
   unfold af8 at h
   refine G8 (fun hb => ?_) (fun hb => ?_)
   ·rw[d9 hb]at h
    refine l5 (by decide) (i7 (aJ6 _ _ (aa9 ?_)))
    refine S9 (fun j=>j p low high (ai8 low high) (au7 (ai8 low high) p) σ) ?_ ?_
    ·refine G8 (fun ha => ?_) (fun ha => ?_)
     ·rw[d9 ha]at h
      exact ih _ _ h
     ·rw[c0 (by rw[ha];simp)]at h
      exact ih _ _ h
    ·intro j hj
     unfold au7 at hj
     refine G8 (fun h1 => ?_) (fun h1=>G8 (fun h2 => ?_) (fun h2 => ?_))
     ·rw[d9 (by unfold ai8;exact h1)]at hj;exact hj
     ·rw[c0 (by unfold ai8;rw[h1];simp),d9 (by unfold ai8;exact h2)]at hj;exact hj
     ·rw[c0 (by unfold ai8;rw[h1];simp),c0 (by unfold ai8;rw[h2];simp)]at hj;exact hj
   ·rw[c0 (by rw[hb];simp)]at h
    cases h;exact hK
 exact key 50 _ _ h
theorem ay1 (x n:Int) (h0:0<=n) (h1:n<=32) (hK:K (.int .u32 (W1 x n)) σ):a8 269 [.int .u32 x,.int .i64 n] K σ:=by
 refine dE2 _ _ ?_
 unfold dd1
 refine l5 h0 (l5 ?_ hK)
 rw[n0 (x:=32 - n) (by omega) (by omega)];omega
theorem bs0 {pl:List Int} (hp:X7 400 2 []=some pl) (hK:∀y σ',E7 σ σ' 138 1 (ai0 pl) y->K (.slice y.base y.len y.cap) σ'):a8 239 [.int .i64 64] K σ:=by
 refine dC7 _ ?_
 unfold cZ9
 refine u5 ?_
 intro R hR
 have key1 : ∀ (n:Nat) (x:Int) (l:List Int) (pr:Sl) (τ:H),X7 n x l=some pl->E7 σ τ 138 1 (ai0 l) pr->R 64 pr x τ:=by
  intro n
  induction n with
  | zero=>intro x l pr τ h;cases h
  | succ n ih =>
   intro x l pr τ h hn
   have hlen:pr.len=l.length:=by rw[hn.len];simp[ai0]
   refine hR _ _ _ _ ?_
   unfold X7 at h
   by_cases hlt:(l.length:Int)<64
   ·rw[d9 (by simpa using hlt)]at h
    refine l3 (by rw[hlen];simpa using hlt) ?_
    refine S9 (fun j => ∀ (pr':Sl) (l':List Int) (τ':H),E7 σ τ' 138 1 (ai0 l') pr'->X7 n (IntKind.u64.wrap (x+1)) l'=some pl->j 64 pr' x τ') ?_ ?_
    ·intro pr' l' τ' h1 h2
     exact ih _ _ _ _ h2 h1
    intro j hj
    refine u5 ?_
    intro R2 hR2
    -- once it is told apart,it stays so
    have off : ∀ (d i:Nat),i+d=l.length->X7 n (IntKind.u64.wrap (x+1)) l=some pl->R2 64 pr x false (i:Int) τ:=by
     intro d
     induction d with
     | zero =>
      intro i hi h2
      refine hR2 _ _ _ _ _ _ (k9 (by rw[hlen];exact J6) (k9 rfl ?_))
      exact hj _ l _ hn h2
     | succ d ihd =>
      intro i hi h2
      refine hR2 _ _ _ _ _ _ (l3 (by rw[hlen];exact C8) ?_)
      refine S9 (fun j=>j 64 pr x false (i:Int) τ) ?_ ?_
      ·have:=ihd (i+1) (by omega) h2
       rw[n0 (x:=(i:Int)+1) (by omega) (by omega)]
       exact this
      ·intro j2 hj2
       exact k9 rfl hj2
    have key2 : ∀ (r:List Int) (i:Nat),l.drop i=r->isP x l=isP x r->R2 64 pr x true (i:Int) τ:=by
     intro r
     induction r with
     | nil =>
      intro i hd he
      have hge:l.length<=i:=by simpa using hd
      refine hR2 _ _ _ _ _ _ (k9 (by rw[hlen];exact J6) (l3 rfl ?_))
      rw[he]at h
      refine E7.app1 bR5 hn rfl rfl (by simp[ai0];omega) ?_
      intro y' τ' h1 _ _
      refine hj _ (l++[x]) _ ?_ h
      have:ai0 (l++[x])=ai0 l++[[.int .u64 x]]:=by simp[ai0]
      rw[this];exact h1
     | cons p r ihr =>
      intro i hd he
      obtain⟨hx,hlt2,hd'⟩:=ag6 hd
      obtain⟨g,o,q1,q2,q3⟩:=aE1 hn.at hx
      refine hR2 _ _ _ _ _ _ (l3 (by rw[hlen];exact C8) ?_)
      have he':=he
      simp only[isP]at he'
      by_cases hp0:p≠0
      ·rw[d9 hp0]at he'
       refine S9 (fun j=>j 64 pr x ((Int.tmod x p) != 0) (i:Int) τ) ?_ ?_
       ·rw[C7 (i:=i)]
        cases hm:(Int.tmod x p==0) with
        | true =>
         have e:(Int.tmod x p != 0)=false:=by rw[bne,hm];rfl
         rw[e]
         rw[d9 hm]at he'
         rw[he']at h
         exact off (l.length - (i+1)) (i+1) (by omega) h
        | false =>
         have e:(Int.tmod x p != 0)=true:=by rw[bne,hm];rfl
         rw[e]
         rw[c0 (by rw[hm];simp)]at he'
         exact ihr (i+1) hd' he'
       ·intro j2 hj2
        refine l3 rfl ?_
        rw[q1]
        refine i6 (l5 ⟨by omega,by omega⟩ (E9 (by simpa using q3) ?_))
        exact l5 hp0 hj2
      ·rw[c0 hp0]at he'
       rw[he']at h;cases h
    exact key2 l 0 rfl rfl
   ·rw[c0 (by simpa using hlt)]at h
    cases h
    exact k9 (by rw[hlen];simpa using hlt) (hK pr τ hn)
 exact key1 400 2 [] ⟨none,0,0⟩ σ hp (E7.nil _ _ _)
theorem W8.add_at (h v:W8) : ∀ {k:Nat},k<8->(h.add v).ints.take k++[IntKind.u32.wrap (h.ints.getD k 0+v.ints.getD k 0)]=(h.add v).ints.take (k+1)
 | 0,_=>rfl
 | 1,_=>rfl
 | 2,_=>rfl
 | 3,_=>rfl
 | 4,_=>rfl
 | 5,_=>rfl
 | 6,_=>rfl
 | 7,_=>rfl
theorem W8.at_ (v:W8) : ∀ {k:Nat},k<8->v.cells[k]? = some (.int .u32 (v.ints.getD k 0))
 | 0,_=>rfl
 | 1,_=>rfl
 | 2,_=>rfl
 | 3,_=>rfl
 | 4,_=>rfl
 | 5,_=>rfl
 | 6,_=>rfl
 | 7,_=>rfl
theorem aC0:sizeT Tryz.prog 193=some 8:=by kernel_rfl
theorem bH9 (h:W8) (l:List UInt8) {kl:List Int} (hl:l.length=64) (hkl:kl.length=64) (hK:K (.agg ⟨(ar7 kl h l).cells⟩) σ):a8 243 [.agg ⟨h.cells⟩,.string ⟨⟨l⟩⟩,.agg ⟨J2 kl⟩] K σ:=by
 refine B7 _ hK (dD1 _ _ _ _ _ _ _ _ _ _ ?_)
 clear hK
 unfold da7
 refine x0 ?_;intro b11 σ1 g1 e1 n1
 refine x0 ?_;intro bk σ2 g2 e2 n2
 refine x0 ?_;intro b12 σ3 g3 e3 n3
 refine x0 ?_;intro b13 σ4 g4 e4 n4
 have d1:σ4 b11=some (.cells ⟨h.cells⟩ 193 (0,0)):=g4.get (g3.get (g2.get e1))
 have d2:σ4 bk=some (.cells ⟨J2 kl⟩ 195 (0,0)):=g4.get (g3.get e2)
 have d3:σ4 b12=some (.cells ⟨J2 (List.replicate 8 0)⟩ 193 (0,0)):=g4.get e3
 have d4:σ4 b13=some (.cells ⟨J2 (List.replicate 64 0)⟩ 195 (0,0)):=e4
 have x12:b11≠bk:=o0 e1 n2
 have x13:b11≠b12:=o0 (g2.get e1) n3
 have x14:b11≠b13:=o0 (g3.get (g2.get e1)) n4
 have x23:bk≠b12:=o0 e2 n3
 have x24:bk≠b13:=o0 (g3.get e2) n4
 have x34:b12≠b13:=o0 e3 n4
 have gA:Gr σ σ4:=((g1.trans g2).trans g3).trans g4
 have f1:σ b11=none:=n1
 have f2:σ bk=none:=C3 g1 n2
 have f3:σ b12=none:=C3 (g1.trans g2) n3
 have f4:σ b13=none:=C3 ((g1.trans g2).trans g3) n4
 clear e1 e2 e3 e4 n1 n2 n3 n4 g1 g2 g3 g4
 generalize hW:aG0 l 64 []=W
 have hWl:W.length=64:=by rw[<-hW,aV3];rfl
 have hsz:(⟨⟨l⟩⟩:ByteArray).size=64:=hl
 refine u5 ?_
 intro R hR
 have key1 : ∀ (n i:Nat) (w:List Int) (θ:H),i+n=64->w.length=i->aG0 l n w=W->θ b13=some (.cells ⟨J2 (w++List.replicate n 0)⟩ 195 (0,0))->(∀c o,c≠b13->σ4 c=some o->θ c=some o) ->
  R ⟨⟨l⟩⟩ (some ⟨b11,0,none⟩) (some ⟨bk,0,none⟩) (some ⟨b12,0,none⟩) (some ⟨b13,0,none⟩) (i:Int) θ:=by
  intro n
  induction n with
  | zero =>
   intro i w θ hin hwl hg hb hkeep
   refine hR _ _ _ _ _ _ _ ?_
   refine k9 (J6 (by omega)) ?_
   have hwW:w=W:=hg
   subst hwW
   rw[List.replicate_zero]at hb
   have t1:=hkeep _ _ x14 d1
   refine i6 (A3 (l7 t1) ?_)
   unfold W8.cells
   (refine k0 rfl ?_;try dsimp only)
   refine x0 ?_;intro b78 θ1 g78 e78 n78
   refine w4 e78 aC0 ?_
   intro θ2 p2
   have ne4:b13≠b78:=o0 hb n78
   have ne5:b11≠b78:=o0 t1 n78
   have t2:=hkeep _ _ x34 d3
   have ne6:b12≠b78:=o0 t2 n78
   have t3:=hkeep _ _ x24 d2
   have ne7:bk≠b78:=o0 t3 n78
   have v1:=p2.get ne4 (g78.get hb)
   have v2:=p2.get ne5 (g78.get t1)
   have v3:=p2.get ne6 (g78.get t2)
   have v4:=p2.get ne7 (g78.get t3)
   have v5:θ2 b78=some (.cells ⟨h.cells⟩ 193 (0,0)):=p2.same
   have f78:σ b78=none:=by
    cases ho:σ b78 with
    | none=>rfl
    | some o =>
     have:=hkeep b78 o ne4.symm (gA.get ho)
     rw[n78]at this;cases this
   have keepA : ∀c o,σ c=some o->θ2 c=some o:=by
    intro c o hc
    have w1:c≠b13:=fun e=>by rw[e,f4]at hc;cases hc
    have w2:c≠b78:=fun e=>by rw[e,f78]at hc;cases hc
    exact p2.get w2 (g78.get (hkeep c _ w1 (gA.get hc)))
   clear p2 e78
   refine u5 ?_
   intro R2 hR2
   have key2 : ∀ (n i:Nat) (v:W8) (θ':H),i+n=64->D0 (kl.drop i) (w.drop i) v=D0 kl w h->θ' b78=some (.cells ⟨v.cells⟩ 193 (0,0))->(∀c o,c≠b78->θ2 c=some o->θ' c=some o) ->
    R2 (some ⟨b11,0,none⟩) (some ⟨bk,0,none⟩) (some ⟨b12,0,none⟩) (some ⟨b13,0,none⟩) (some ⟨b78,0,none⟩) (i:Int) θ':=by
    intro n
    induction n with
    | zero =>
     intro i v θ' hin hro hv0 hkp
     refine hR2 _ _ _ _ _ _ _ ?_
     refine k9 (J6 (by omega)) ?_
     have hvf:v=D0 kl w h:=by
      rw[<-hro,M8 (by omega)];rfl
     subst hvf
     have hb0:=hkp _ _ ne5 v2
     have hz0:=hkp _ _ ne6 v3
     have kp0 : ∀c o,σ c=some o->θ' c=some o:=fun c o hc=>hkp c o (fun e=>by rw[e,f78]at hc;cases hc) (keepA c o hc)
     refine u5 ?_
     intro R3 hR3
     generalize hvv:D0 kl w h=v at *
     have step : ∀ (k:Nat) (a z:List Int) (y:Int) (η:H),h.ints=a++y::z->a.length=k->η b11=some (.cells ⟨J2 (((h.add v).ints.take k)++y::z)⟩ 193 (0,0))->η b78=some (.cells ⟨v.cells⟩ 193 (0,0))->η b12=some (.cells ⟨J2 (List.replicate 8 0)⟩ 193 (0,0))->(∀c o,σ c=some o->η c=some o)->k<8 ->
      (∀η',η' b11=some (.cells ⟨J2 (((h.add v).ints.take (k+1))++z)⟩ 193 (0,0))->η' b78=some (.cells ⟨v.cells⟩ 193 (0,0))->η' b12=some (.cells ⟨J2 (List.replicate 8 0)⟩ 193 (0,0))->(∀c o,σ c=some o->η' c=some o)->R3 (some ⟨b11,0,none⟩) (some ⟨b12,0,none⟩) (some ⟨b78,0,none⟩) ((k+1:Nat):Int) η')->R3 (some ⟨b11,0,none⟩) (some ⟨b12,0,none⟩) (some ⟨b78,0,none⟩) ((k:Nat):Int) η:=by
      intro k a z y η hi hak hb hv hz hk hk8 hnext
      have hl8:((h.add v).ints.take k).length=k:=by rw[F0];show min k 8=k;omega
      refine hR3 _ _ _ _ _ (l3 (C8 (by omega)) ?_)
      have r1:s5 b11 (0+((k:Nat):Int).toNat * 1) η=some (.int .u32 y):=by
       refine f0 hb ?_
       rw[B0,H6,P4]
       unfold J2
       rw[O4,ay7 (by omega),hl8,ak3];rfl
      have r2:s5 b78 (0+((k:Nat):Int).toNat * 1) η=some (.int .u32 (v.ints.getD k 0)):=by
       refine f0 hv ?_
       rw[B0,H6,P4]
       exact W8.at_ v hk8
      refine i6 (l5 ⟨by omega,by omega⟩ (E9 r1 ?_))
      refine i6 (l5 ⟨by omega,by omega⟩ (E9 r2 ?_))
      refine i6 (l5 ⟨by omega,by omega⟩ ?_)
      have ho:0+((k:Nat):Int).toNat * 1=((h.add v).ints.take k).length:=by rw[hl8];omega
      rw[ho]
      refine ar1 hb Z1 (by rw[U0];show _+1<=_;simp) (ap2 _) (.inl (A6 _)) ?_
      intro η' p
      rw[ap1]at p
      have hy:h.ints.getD k 0=y:=by rw[hi,L0,ay7 (by omega),hak,ak3];rfl
      rw[<-hy,W8.add_at h v hk8]at p
      rw[n0 (x:=((k:Nat):Int)+1) (by omega) (by omega),show((k:Nat):Int)+1=((k+1:Nat):Int)from by omega]
      exact hnext η' p.same (p.get ne5.symm hv) (p.get x13.symm hz) fun c o hc=>p.get (fun e=>by rw[e,f1]at hc;cases hc) (hk c o hc)
     refine step 0 [] _ _ θ' rfl rfl hb0 hv0 hz0 kp0 (by decide) fun η1 a1 a2 a3 a4 => ?_
     refine step 1 [h.a] _ _ η1 rfl rfl a1 a2 a3 a4 (by decide) fun η2 a1 a2 a3 a4 => ?_
     refine step 2 [h.a,h.b] _ _ η2 rfl rfl a1 a2 a3 a4 (by decide) fun η3 a1 a2 a3 a4 => ?_
     refine step 3 [h.a,h.b,h.c] _ _ η3 rfl rfl a1 a2 a3 a4 (by decide) fun η4 a1 a2 a3 a4 => ?_
     refine step 4 [h.a,h.b,h.c,h.d] _ _ η4 rfl rfl a1 a2 a3 a4 (by decide) fun η5 a1 a2 a3 a4 => ?_
     refine step 5 [h.a,h.b,h.c,h.d,h.e] _ _ η5 rfl rfl a1 a2 a3 a4 (by decide) fun η6 a1 a2 a3 a4 => ?_
     refine step 6 [h.a,h.b,h.c,h.d,h.e,h.f] _ _ η6 rfl rfl a1 a2 a3 a4 (by decide) fun η7 a1 a2 a3 a4 => ?_
     refine step 7 [h.a,h.b,h.c,h.d,h.e,h.f,h.g] _ _ η7 rfl rfl a1 a2 a3 a4 (by decide) fun η8 a1 a2 a3 a4 => ?_
     refine hR3 _ _ _ _ _ (k9 (by decide) ?_)
     have a1:η8 b11=some (.cells ⟨(h.add v).cells⟩ 193 (0,0)):=a1
     refine i6 (A3 (l7 a1) ?_)
     unfold W8.cells
     (refine k0 rfl ?_;try dsimp only)
     refine w4 a3 aC0 ?_
     intro η9 p9
     refine i6 (A3 (l7 p9.same) ?_)
     (refine k0 rfl ?_;try dsimp only)
     refine⟨?_,P0 fun c o hc=>p9.get (fun e=>by rw[e,f3]at hc;cases hc) (a4 c o hc)⟩
     unfold ar7
     rw[hW,hvv]
    | succ n ih2 =>
     intro i v θ' hin hro hv hkp
     refine hR2 _ _ _ _ _ _ _ ?_
     refine l3 (C8 (by omega)) ?_
     have hkk:=hkp _ _ ne7 v4
     have hww:=hkp _ _ ne4 v1
     have kq:s5 bk (0+((i:Nat):Int).toNat * 1) θ'=some (.int .u32 (kl.getD i 0)):=by
      have:=bF2 (w:=kl) (z:=[]) (k:=i) (by rw[J1];exact hkk) (by omega)
      simpa using this
     have wq:s5 b13 (0+((i:Nat):Int).toNat * 1) θ'=some (.int .u32 (w.getD i 0)):=by
      have:=bF2 (k:=i) hww (by omega)
      simpa using this
     iterate 5 refine i6 (l5 (by decide) (E9 (f0 hv) ?_))
     refine i6 (l5 ⟨by omega,by omega⟩ (E9 kq ?_))
     refine i6 (l5 ⟨by omega,by omega⟩ (E9 wq ?_))
     iterate 3 refine i7 (ay1 _ _ (by decide) (by decide) (B6 (F9 wq (F9 kq (F9 (f0 hv) (F9 (f0 hv) (F9 (f0 hv) ?_)))))))
     iterate 4 refine i6 (l5 (by decide) (E9 (f0 hv) ?_))
     iterate 3 refine i7 (ay1 _ _ (by decide) (by decide) (B6 (F9 (f0 hv) (F9 (f0 hv) (F9 (f0 hv) (F9 (f0 hv) ?_))))))
     iterate 7 refine i6 (l5 (by decide) (E9 (f0 hv) ?_))
     refine w4 hv aC0 ?_
     intro ρ3 pr3
     have hv3:ρ3 b78=some (.cells ⟨(aL5 (kl.getD i 0) (w.getD i 0) v).cells⟩ 193 (0,0)):=by
      rw[show aL5 (kl.getD i 0) (w.getD i 0) v=_ from rfl]
      unfold aL5 bn5 bM0
      rw[cc7,cc8]
      exact pr3.same
     rw[n0 (x:=(i:Int)+1) (by omega) (by omega)]
     refine ih2 (i+1) _ ρ3 (by omega) ?_ hv3 fun c o hc ho=>pr3.get hc (hkp c o hc ho)
     rw[<-hro]
     have d1:kl.drop i=kl.getD i 0::kl.drop (i+1):=by
      rw[ad7 (by omega:i<kl.length),L0,B9 (by omega)];rfl
     have d2:w.drop i=w.getD i 0::w.drop (i+1):=by
      rw[ad7 (by omega:i<w.length),L0,B9 (by omega)];rfl
     rw[d1,d2];rfl
   exact key2 64 0 h θ2 rfl rfl v5 fun _ _ _ h=>h
  | succ n ih =>
   intro i w θ hin hwl hg hb hkeep
   refine hR _ _ _ _ _ _ _ ?_
   refine l3 (C8 (by omega)) ?_
   refine S9 (fun j => ∀ (θ':H),θ' b13=some (.cells ⟨J2 ((w++[ar6 l w])++List.replicate n 0)⟩ 195 (0,0))->(∀c o,c≠b13->σ4 c=some o->θ' c=some o) ->
    j ⟨⟨l⟩⟩ (some ⟨b11,0,none⟩) (some ⟨bk,0,none⟩) (some ⟨b12,0,none⟩) (some ⟨b13,0,none⟩) (i:Int) θ') ?_ ?_
   ·intro θ' h1 h2
    have:=ih (i+1) (w++[ar6 l w]) θ' (by omega) (by simp[hwl]) hg h1 h2
    show R _ _ _ _ _ _ _
    rw[n0 (x:=(i:Int)+1) (by omega) (by omega)]
    exact this
   intro j hj
   have hb':θ b13=some (.cells ⟨J2 (w++0::List.replicate n 0)⟩ 195 (0,0)):=by rw[List.replicate_succ]at hb;exact hb
   have store : ∀ (v:Int),v=ar6 l w ->
    t8 188 (.pointer (some ⟨b13,0+((i:Nat):Int).toNat * 1,none⟩)) (.int .u32 v) (j ⟨⟨l⟩⟩ (some ⟨b11,0,none⟩) (some ⟨bk,0,none⟩) (some ⟨b12,0,none⟩) (some ⟨b13,0,none⟩) (i:Int)) θ:=by
    intro v hv
    have hoff:0+((i:Nat):Int).toNat * 1=w.length:=by rw[hwl];simp
    rw[hoff]
    refine ar1 hb' Z1 (by rw[U0];show w.length+1<=_;simp) (ap2 v) (.inl (A6 _)) ?_
    intro θ1 p1
    rw[ap1,hv]at p1
    exact hj θ1 p1.same fun c o hc ho=>p1.get hc (hkeep c o hc ho)
   by_cases h16:i<16
   ·refine l3 (C8 (by omega)) ?_
    have w0:IntKind.i64.wrap (4 * (i:Int))=((4 * i:Nat):Int):=by rw[n0 (by omega) (by omega)];omega
    have w1:IntKind.i64.wrap (((4 * i:Nat):Int)+1)=((4 * i+1:Nat):Int):=by rw[n0 (by omega) (by omega)];omega
    have w2:IntKind.i64.wrap (((4 * i:Nat):Int)+2)=((4 * i+2:Nat):Int):=by rw[n0 (by omega) (by omega)];omega
    have w3:IntKind.i64.wrap (((4 * i:Nat):Int)+3)=((4 * i+3:Nat):Int):=by rw[n0 (by omega) (by omega)];omega
    rw[w0,w1,w2,w3]
    have at_ : ∀k:Nat,k<64->(⟨⟨l⟩⟩:ByteArray).data.toList[((k:Nat):Int).toNat]? = some (l.getD k 0):=by
     intro k hk
     rw[B0,L0]
     show l[k]? = _
     rw[B9 (by omega)];rfl
    refine M3 (by omega) (at_ (4 * i) (by omega)) (l5 (by decide) ?_)
    refine M3 (by omega) (at_ (4 * i+1) (by omega)) (l5 (by decide) ?_)
    refine M3 (by omega) (at_ (4 * i+2) (by omega)) (l5 (by decide) ?_)
    refine M3 (by omega) (at_ (4 * i+3) (by omega)) ?_
    refine i6 (l5 ⟨by omega,by omega⟩ ?_)
    refine store _ ?_
    unfold ar6;rw[d9 (by omega),hwl];rfl
   ·refine k9 (J6 (by omega)) ?_
    have t16:=w64 i 16 (by omega) (by omega)
    have t15:=w64 i 15 (by omega) (by omega)
    have t7:=w64 i 7 (by omega) (by omega)
    have t2:=w64 i 2 (by omega) (by omega)
    simp only[Int.cast_ofNat_Int]at t16 t15 t7 t2
    rw[t16,t15,t7,t2]
    have rw_at : ∀d:Nat,0<d->d<=i->s5 b13 (0+((i - d:Nat):Int).toNat * 1) θ=some (.int .u32 (w.getD (w.length - d) 0)):=by
     intro d h0 hd
     have:=bF2 (k:=i - d) hb' (by omega)
     rw[B0,hwl];exact this
    refine i6 (l5 ⟨by omega,by omega⟩ (E9 (rw_at 15 (by decide) (by omega)) ?_))
    refine i6 (l5 ⟨by omega,by omega⟩ (E9 (rw_at 2 (by decide) (by omega)) ?_))
    refine i6 (l5 ⟨by omega,by omega⟩ (E9 (rw_at 16 (by decide) (by omega)) (l5 (by decide) ?_)))
    refine i6 (l5 ⟨by omega,by omega⟩ (E9 (rw_at 7 (by decide) (by omega)) ?_))
    iterate 4 refine i7 (ay1 _ _ (by decide) (by decide) (B6 (F9 (rw_at 7 (by decide) (by omega)) (F9 (rw_at 16 (by decide) (by omega)) ?_))))
    refine l5 (by decide) (i6 (l5 ⟨by omega,by omega⟩ ?_))
    refine store _ ?_
    unfold ar6 bL9
    rw[c0 (by omega)]
    dsimp only
    rw[cc6,bN9]
 exact key1 64 0 [] σ4 rfl rfl hW d4 fun _ _ _ h=>h
end
section
variable {σ : H} {K : KH}
theorem bs1 (l:List UInt8) (hl:l.length<=100000000) (hK:K (.string ⟨⟨aj4 l⟩⟩) σ):a8 242 [.string ⟨⟨l⟩⟩] K σ:=by
 refine B7 _ hK (dD0 _ ?_)
 clear hK
 unfold da5
 have hsz : ∀l:List UInt8,(⟨⟨l⟩⟩:ByteArray).size=l.length:=fun _=>rfl
 have aN4 : ∀n:Nat,Int.tmod ((n:Nat):Int) 64=((n % 64:Nat):Int):=fun _=>rfl
 refine l5 (by rw[hsz];show l.length+1<=_;omega) ?_
 rw[ax0]
 generalize hN:IntKind.u64.wrap ((IntKind.u64.wrap ((((⟨⟨l⟩⟩:ByteArray).size:Nat):Int))) * 8)=N
 refine u5 ?_
 intro R hR
 have key1 : ∀ (n k:Nat),k+n=(119 - l.length % 64) % 64->R ⟨⟨l++128::List.replicate k 0⟩⟩ N σ:=by
  intro n
  induction n with
  | zero =>
   intro k hk
   have hlen:(l++128::List.replicate k (0:UInt8)).length=l.length+1+k:=by simp;omega
   refine hR _ _ _ (l5 (by decide) (k9 (by rw[hsz,aN4,hlen];simp only[bne_eq_false_iff_eq];omega) ?_))
   refine u5 ?_
   intro R2 hR2
   have key2 : ∀ (m i:Nat) (τ:H),i+m=8->Gr σ τ->R2 ⟨⟨l++128::List.replicate k 0++(List.range i).map (aq3 l.length)⟩⟩ N (7 - (i:Int)) τ:=by
    intro m
    induction m with
    | zero =>
     intro i τ hi hg
     have hi8:i=8:=by omega
     subst hi8
     refine hR2 _ _ _ _ (k9 (by decide) ⟨?_,hg⟩)
     have hpad:l++128::List.replicate k 0++(List.range 8).map (aq3 l.length)=aj4 l:=by
      unfold aj4
      rw[<-hk,Nat.add_zero]
      simp[List.range,List.range.loop]
     rw[hpad]
    | succ m ih =>
     intro i τ hi hg
     refine hR2 _ _ _ _ (l3 (by simp only[ge_iff_le,z8];omega) ?_)
     have w8:IntKind.i64.wrap (8 * (7 - (i:Int)))=8 * (7 - (i:Int)):=n0 (by omega) (by omega)
     refine l5 (by rw[w8];omega) ?_
     have hd:IntKind.u8.wrap (Int.fdiv N (2 ^ min (Int.toNat (IntKind.i64.wrap (8 * (7 - (i:Int))))) (IntKind.bits .u64)))=(((aq3 l.length i).toNat:Nat):Int):=by
      rw[bR6]
      unfold cb1
      rw[<-hN,hsz,n0 (x:=7 - (i:Int)) (by omega) (by omega)]
     rw[hd]
     refine x0 ?_;intro b9 τ1 g1 e1 n1
     have hrow:=bb0 e1 (aq3 l.length i).toNat_lt
     rw[UInt8.ofNat_toNat]at hrow
     refine aj3 O8 ad5 ac1 hrow ?_
     refine l5 (by rw[hsz,hsz];simp only[s8,y5,bc0,Y4,List.length_range,H3];omega) ?_
     rw[ax0,n0 (x:=7 - (i:Int) - 1) (by omega) (by omega),show 7 - (i:Int) - 1=7 - ((i+1:Nat):Int)from by omega]
     have:=ih (i+1) τ1 (by omega) (hg.trans g1)
     rw[List.range_succ,List.map_append,<- E0]at this
     exact this
   have:=key2 8 0 σ rfl (Gr.refl _)
   rw[List.range_zero,List.map_nil,J1]at this
   exact this
  | succ n ih =>
   intro k hk
   have hlen:(l++128::List.replicate k (0:UInt8)).length=l.length+1+k:=by simp;omega
   refine hR _ _ _ (l5 (by decide) (l3 (by rw[hsz,aN4,hlen];simp only[bne_iff_ne,ne_eq];omega) ?_))
   refine l5 (by rw[hsz,hlen];show _+1<=_;omega) ?_
   rw[ax0]
   have:=ih (k+1) (by omega)
   rw[List.replicate_succ',<- P5,<- E0]at this
   exact this
 exact key1 _ 0 (by rw[H6])
theorem ci8 (l:List UInt8) (hl:l.length<=100000000) (hK:K (.string ⟨⟨W9 l⟩⟩) σ):a8 196 [.string ⟨⟨l⟩⟩] K σ:=by
 refine B7 _ hK (dz7 _ ?_)
 clear hK
 unfold cT3
 refine i7 (bs0 be5 fun pr σ1 hn1=>Q7 ?_)
 refine x0 ?_;intro b3 σ2 g2 e2 n2
 refine x0 ?_;intro b4 σ3 g3 e3 n3
 have x34:b3≠b4:=o0 e2 n3
 have d3:σ3 b3=some (.cells ⟨J2 (List.replicate 8 0)⟩ 193 (0,0)):=g3.get e2
 have d4:σ3 b4=some (.cells ⟨J2 (List.replicate 64 0)⟩ 195 (0,0)):=e3
 have hp3:w7 σ3 1 (ai0 ap7) pr:=(hn1.at.gr g2).gr g3
 have f3:σ b3=none:=C3 hn1.1 n2
 have f4:σ b4=none:=C3 (hn1.1.trans g2) n3
 have gA:Gr σ σ3:=(hn1.1.trans g2).trans g3
 have hpb : ∀g o,pr.base=some ⟨g,o,none⟩->g≠b3/\g≠b4:=by
  intro g o hb
  obtain⟨_,_,⟨q1,_⟩ | ⟨g',cur,q1,q2,_⟩⟩:=hn1.2.1
  ·rw[q1]at hb;cases hb
  ·rw[q1]at hb;injection hb with hb;injection hb with h1;subst h1
   exact⟨o0 q2 n2,o0 (g2.get q2) n3⟩
 clear e2 e3 n2 n3
 have hsz : ∀l:List UInt8,(⟨⟨l⟩⟩:ByteArray).size=l.length:=fun _=>rfl
 refine u5 ?_
 intro R hR
 have key1 : ∀ (n i:Nat) (θ:H),i+n=64->θ b3=some (.cells ⟨J2 (ae3.ints.take i++List.replicate (8 - i) 0)⟩ 193 (0,0))->θ b4=some (.cells ⟨J2 (Z7.take i++List.replicate n 0)⟩ 195 (0,0))->(∀c o,c≠b3->c≠b4->σ3 c=some o->θ c=some o) ->
  R ⟨⟨l⟩⟩ pr (some ⟨b3,0,none⟩) (some ⟨b4,0,none⟩) (i:Int) θ:=by
  intro n
  induction n with
  | zero =>
   intro i θ hi h3 h4 hk
   have hi:i=64:=by omega
   subst hi
   refine hR _ _ _ _ _ _ (k9 (by decide) ?_)
   have h3:θ b3=some (.cells ⟨ae3.cells⟩ 193 (0,0)):=h3
   have e4:Z7.take 64++List.replicate 0 0=Z7:=by rw[H7 (by rw[ag9];exact A6 _)];simp
   rw[e4]at h4
   have kpA : ∀c o,σ c=some o->θ c=some o:=fun c o hc=>hk c o (fun e=>by rw[e,f3]at hc;cases hc) (fun e=>by rw[e,f4]at hc;cases hc) (gA.get hc)
   refine i7 (bs1 l hl (I1 ?_))
   have hpl:=bx5 l
   have hpl2:(aj4 l).length<=200000000:=by unfold aj4;simp;omega
   have hsum:bM1 (ai9 Z7 ((aj4 l).length / 64) ae3 (aj4 l))=W9 l:=rfl
   generalize aj4 l=P at *
   refine u5 ?_
   intro R2 hR2
   have key2 : ∀ (q i:Nat) (W:W8) (η:H),64 * i+64 * q=P.length->ai9 Z7 q W (P.drop (64 * i))=ai9 Z7 (P.length / 64) ae3 P->η b3=some (.cells ⟨W.cells⟩ 193 (0,0))->η b4=some (.cells ⟨J2 Z7⟩ 195 (0,0))->(∀c o,σ c=some o->η c=some o) ->
    R2 (some ⟨b3,0,none⟩) (some ⟨b4,0,none⟩) ⟨⟨P⟩⟩ ((64 * i:Nat):Int) η:=by
    intro q
    induction q with
    | zero =>
     intro i W η hi hW h3 h4 hk
     refine hR2 _ _ _ _ _ (k9 (by rw[hsz];exact J6) ?_)
     have hWe:W=ai9 Z7 (P.length / 64) ae3 P:=hW
     obtain⟨inf,i1,i2,i3,i4⟩:=aJ1
     refine cq8 (m:=0) (n:=32) O8 i1 i2 i3 (by rw[i4];decide) rfl (by decide) (by decide) ?_
     intro b56 η1 g56 n56 e56
     refine u5 ?_
     intro R3 hR3
     have key3 : ∀ (n i:Nat) (out:Sl) (θ:H),i+n=8->E7 η θ 5 1 (u8R ((W.ints.take i).flatMap ae2)) out->R3 (some ⟨b3,0,none⟩) out (i:Int) θ:=by
      intro n
      induction n with
      | zero =>
       intro i out θ hi hn
       have hi8:i=8:=by omega
       subst hi8
       refine hR3 _ _ _ _ (k9 (by decide) ?_)
       have e1:W.ints.take 8=W.ints:=rfl
       rw[e1,bx4]at hn
       refine aj3 O8 ad5 ac1 hn.at ?_
       refine⟨?_,P0 fun c o hc=>hn.1.get (hk c o hc)⟩
       rw[<-hsum,<- hWe]
      | succ n ih =>
       intro i out θ hi hn
       have h3':=hn.1.get h3
       have r3:s5 b3 (0+((i:Nat):Int).toNat * 1) θ=some (.int .u32 (W.ints.getD i 0)):=by
        refine f0 h3' ?_
        rw[B0,H6,P4]
        exact W8.at_ W (by omega)
       refine hR3 _ _ _ _ (l3 (C8 (by omega)) ?_)
       iterate 3 refine i6 (l5 ⟨by omega,by omega⟩ (E9 r3 (l5 (by decide) ?_)))
       refine i6 (l5 ⟨by omega,by omega⟩ (E9 r3 ?_))
       refine x0 ?_;intro b37 θ1 g37 e37 n37
       have hbox:w7 θ1 1 (u8R (ae2 (W.ints.getD i 0))) ⟨some ⟨b37,0,none⟩,4,4⟩:=by
        refine⟨rfl,.inr ⟨b37,0,_,_,_,rfl,e37,fun k r hr => ?_⟩⟩
        match k,hr with
        | 0,hr=>cases hr;exact⟨rfl,rfl⟩
        | 1,hr=>cases hr;exact⟨rfl,rfl⟩
        | 2,hr=>cases hr;exact⟨rfl,rfl⟩
        | 3,hr=>cases hr;exact⟨rfl,rfl⟩
        | k+4,hr=>simp[u8R,ae2]at hr
       have hone : ∀r∈u8R (ae2 (W.ints.getD i 0)),∀u∈r,u.oneCell'=true:=by
        intro r hr u hu
        simp only[u8R,O5]at hr
        obtain⟨q,_,rfl⟩:=hr
        simp at hu;subst hu;rfl
       have hlen:(u8R ((W.ints.take i).flatMap ae2)).length<=1000:=by
        have : ∀l:List Int,(l.flatMap ae2).length=4 * l.length:=by
         intro l
         induction l with
         | nil=>rfl
         | cons x r ih=>rw[aa4,s8,ih];simp[ae2];omega
        simp only[u8R,Y4]
        rw[this,F0];omega
       refine E7.apps aN3 (hn.gr g37) hbox hone (by have:(u8R (ae2 (W.ints.getD i 0))).length=4:=rfl;omega) ?_
       intro y' θ2 h2 _ _
       rw[n0 (x:=(i:Int)+1) (by omega) (by omega)]
       refine ih (i+1) y' θ2 (by omega) ?_
       have e2:u8R ((W.ints.take (i+1)).flatMap ae2)=u8R ((W.ints.take i).flatMap ae2)++u8R (ae2 (W.ints.getD i 0)):=by
        have hil:i<W.ints.length:=by show i<8;omega
        rw[List.take_succ_eq_append_getElem hil,aa3]
        unfold u8R
        rw[List.map_append]
        congr 1
        rw[L0,B9 hil]
        simp
       rw[e2];exact h2
     refine key3 8 0 ⟨some ⟨b56,0,none⟩,0,32⟩ η1 rfl ⟨g56,⟨rfl,fun r hr=>(by cases hr),.inr ⟨b56,_,rfl,e56,by simp,Nat.zero_le _,rfl⟩⟩,fun g hg=>by cases hg;exact n56⟩
    | succ q ih =>
     intro i W η hi hW h3 h4 hk
     refine hR2 _ _ _ _ _ (l3 (by rw[hsz];exact C8) ?_)
     refine i6 (A3 (l7 h3) ?_)
     unfold W8.cells
     (refine k0 rfl ?_;try dsimp only)
     rw[n0 (x:=((64 * i:Nat):Int)+64) (by omega) (by omega)]
     refine l5 ⟨B3 (by omega) (by rw[hsz];omega),B3 (by omega) (by omega)⟩ ?_
     have r4:rdA 64 b4 0 η=some (.agg ⟨J2 Z7⟩):=aJ0 h4 (by rw[U0,ag9])
     refine i6 (ag2 r4 ?_)
     have e5:(⟨⟨P⟩⟩:ByteArray).extract ((64 * i:Nat):Int).toNat (((64 * i:Nat):Int)+64).toNat=⟨⟨(P.drop (64 * i)).take 64⟩⟩:=by
      apply O3
      rw[I8,B0,show(((64 * i:Nat):Int)+64).toNat=64 * i+64 from by omega]
      show(P.take (64 * i+64)).drop (64 * i)=(P.drop (64 * i)).take 64
      rw[List.drop_take,Nat.add_sub_cancel_left]
     rw[e5]
     refine i7 (bH9 W _ (by rw[F0,M1];omega) ag9 ?_)
     unfold W8.cells
     (refine k0 rfl ?_;try dsimp only)
     refine w4 h3 aC0 ?_
     intro η1 p1
     rw[show((64 * i:Nat):Int)+64=((64 * (i+1):Nat):Int)from by omega]
     refine ih (i+1) (ar7 Z7 W ((P.drop (64 * i)).take 64)) η1 (by omega) ?_ p1.same (p1.get x34.symm h4) fun c o hc=>p1.get (fun e=>by rw[e,f3]at hc;cases hc) (hk c o hc)
     rw[<-hW,show 64 * (i+1)=64 * i+64 from by omega,<- List.drop_drop]
     rfl
   exact key2 (P.length / 64) 0 ae3 θ (by omega) rfl h3 h4 kpA
  | succ n ih =>
   intro i θ hi h3 h4 hk
   have hil:i<ap7.length:=by rw[aT6];omega
   obtain⟨pv,hpv⟩ : ∃p,ap7[i]? = some p:=⟨_,B9 hil⟩
   have hpθ:w7 θ 1 (ai0 ap7) pr:=hp3.keep fun g o ob hb hg=>hk g ob (hpb g o hb).1 (hpb g o hb).2 hg
   obtain⟨g,o,q1,q2,q3⟩:=aE1 hpθ hpv
   obtain⟨kv,hkv,hroot⟩:=aM7 aU3 _ _ i pv bN7 hpv
   refine hR _ _ _ _ _ _ (l3 (C8 (by omega)) ?_)
   refine S9 (fun j => ∀η:H,η b3=some (.cells ⟨J2 (ae3.ints.take (i+1)++List.replicate (8 - (i+1)) 0)⟩ 193 (0,0))->η b4=some (.cells ⟨J2 (Z7.take (i+1)++List.replicate n 0)⟩ 195 (0,0))->(∀c o,c≠b3->c≠b4->σ3 c=some o->η c=some o)->j ⟨⟨l⟩⟩ pr (some ⟨b3,0,none⟩) (some ⟨b4,0,none⟩) (i:Int) η) ?_ ?_
   ·intro η a1 a2 a3
    rw[C7 (i:=i)]
    exact ih (i+1) η (by omega) a1 a2 a3
   intro j hj
   rw[q1]
   have q3':s5 g (o+((i:Nat):Int).toNat * 1) θ=some (.int .u64 pv):=by simpa using q3
   refine i6 (l5 ⟨by omega,by omega⟩ (E9 q3' ?_))
   refine i7 (bV9 _ _ hroot (B6 ?_))
   refine i6 (l5 ⟨by omega,by omega⟩ ?_)
   have hkl:(Z7.take i).length=i:=by rw[F0,ag9];omega
   have ho:0+((i:Nat):Int).toNat * 1=(Z7.take i).length:=by rw[hkl];omega
   rw[List.replicate_succ]at h4
   rw[ho]
   refine ar1 h4 Z1 (by rw[U0];show _+1<=_;simp) (ap2 _) (.inl (A6 _)) ?_
   intro θ1 p1
   rw[ap1]at p1
   have hkt:Z7.take i++[kv]=Z7.take (i+1):=by
    have hx:i<Z7.length:=by rw[ag9];omega
    rw[List.take_succ_eq_append_getElem hx]
    rw[B9 hx]at hkv
    cases hkv;rfl
   rw[hkt]at p1
   have h3':=p1.get x34 h3
   have k1 : ∀c o,c≠b3->c≠b4->σ3 c=some o->θ1 c=some o:=fun c o c1 c2 hc=>p1.get c2 (hk c o c1 c2 hc)
   refine G8 (fun hb => ?_) (fun hb => ?_)
   ·have h8:i<8:=by have:=E6 hb;omega
    have hp8:(ap7.take 8)[i]? = some pv:=by rw[List.getElem?_take_of_lt h8];exact hpv
    obtain⟨hv,hhv,hroot2⟩:=aM7 au7 _ _ i pv bp0 hp8
    have hpθ1:w7 θ1 1 (ai0 ap7) pr:=hp3.keep fun g o ob hb hg=>k1 g ob (hpb g o hb).1 (hpb g o hb).2 hg
    obtain⟨g',o',q1',_,q3'⟩:=aE1 hpθ1 hpv
    rw[q1]at q1';cases q1'
    have q3'':s5 g (o+((i:Nat):Int).toNat * 1) θ1=some (.int .u64 pv):=by simpa using q3'
    refine i6 (l5 ⟨by omega,by omega⟩ (E9 q3'' ?_))
    refine i7 (br9 _ _ hroot2 (B6 ?_))
    refine i6 (l5 ⟨by omega,by omega⟩ ?_)
    have hhl:(ae3.ints.take i).length=i:=by rw[F0];show min i 8=i;omega
    have ho2:0+((i:Nat):Int).toNat * 1=(ae3.ints.take i).length:=by rw[hhl];omega
    have e8:8 - i=(8 - (i+1))+1:=by omega
    rw[e8,List.replicate_succ]at h3'
    rw[ho2]
    refine ar1 h3' Z1 (by rw[U0];show _+1<=_;simp) (ap2 _) (.inl (A6 _)) ?_
    intro θ2 p2
    rw[ap1]at p2
    have hht:ae3.ints.take i++[hv]=ae3.ints.take (i+1):=by
     have hx:i<ae3.ints.length:=h8
     rw[List.take_succ_eq_append_getElem hx]
     rw[B9 hx]at hhv
     cases hhv;rfl
    rw[hht]at p2
    exact hj θ2 p2.same (p2.get x34.symm p1.same) fun c o c1 c2 hc=>p2.get c1 (k1 c o c1 c2 hc)
   ·have h8 : ¬i<8:=by have:=J0 hb;omega
    refine hj θ1 ?_ p1.same k1
    rw[H7 (show ae3.ints.length<=i+1 by show 8<=i+1;omega),show 8 - (i+1)=0 by omega]
    rw[H7 (show ae3.ints.length<=i by show 8<=i;omega),show 8 - i=0 by omega]at h3'
    exact h3'
 exact key1 64 0 σ3 rfl d3 d4 fun _ _ _ _ h=>h
theorem ci9 (s:List UInt8) (i:Nat) (hi:i<8 * s.length) (hs:s.length<=1000000) (hK:K (.int .i64 ((ae8 s i:Nat):Int)) σ):a8 197 [.string ⟨⟨s⟩⟩,.int .i64 ((i:Nat):Int)] K σ:=by
 refine dz8 _ _ ?_
 unfold cT5
 have td:Int.tdiv ((i:Nat):Int) 8=((i / 8:Nat):Int):=rfl
 have tm:Int.tmod ((i:Nat):Int) 8=((i % 8:Nat):Int):=rfl
 rw[td,tm,n0 (x:=((i / 8:Nat):Int)) (by omega) (by omega),n0 (x:=7 - ((i % 8:Nat):Int)) (by omega) (by omega)]
 refine l5 (by decide) (M3 (c:=s.getD (i / 8) 0) (by omega) ?_ (l5 (by decide) (l5 (by omega) ?_)))
 ·rw[B0,L0]
  show s[i / 8]? = _
  rw[B9 (by omega)];rfl
 ·have hc:=(s.getD (i / 8) 0).toNat_lt
  have e:A0 .and .i64 (Int.fdiv (IntKind.i64.wrap (((s.getD (i / 8) 0).toNat:Nat):Int)) (2 ^ min (Int.toNat (7 - ((i % 8:Nat):Int))) (IntKind.bits .i64))) 1=((ae8 s i:Nat):Int):=by
   unfold ae8
   generalize (s.getD (i / 8) 0).toNat=c at *
   have h7:(7 - ((i % 8:Nat):Int)).toNat=7 - i % 8:=by omega
   rw[h7,n0 (x:=(c:Int)) (by omega) (by omega),Nat.min_eq_left (by show 7 - i % 8<=64;omega)]
   rw[show((2:Int) ^ (7 - i % 8))=((2 ^ (7 - i % 8):Nat):Int)from by norm_cast,Int.fdiv_eq_ediv_of_nonneg _ (Int.natCast_nonneg _)]
   rw[show((c:Int) / ((2 ^ (7 - i % 8):Nat):Int))=((c / 2 ^ (7 - i % 8):Nat):Int)from by norm_cast]
   have hle:c / 2 ^ (7 - i % 8)<=c:=Nat.div_le_self _ _
   generalize c / 2 ^ (7 - i % 8)=q at *
   unfold A0
   dsimp only
   have h2:(BitVec.ofInt IntKind.i64.bits ((q:Nat):Int)).toNat=q:=by
    rw[BitVec.toNat_ofInt]
    show(((q:Nat):Int) % 18446744073709551616).toNat=q
    omega
   have h1:(BitVec.ofInt IntKind.i64.bits 1).toNat=1:=by decide
   rw[BitVec.toNat_and,h2,h1,Nat.and_one_is_mod]
   exact n0 (by omega) (by omega)
  rw[e];exact hK
theorem bj8 (l:List UInt8) (hl:l.length<=100000000) (hK:K (.string ⟨⟨ar8 l⟩⟩) σ):a8 152 [.string ⟨⟨l⟩⟩] K σ:=by
 rw[aR1]at hK
 refine dw8 _ ?_
 unfold cM7
 refine i7 (ci8 l hl (I1 ?_))
 have hS:=bv1 l
 generalize W9 l=S at *
 have hsz : ∀l:List UInt8,(⟨⟨l⟩⟩:ByteArray).size=l.length:=fun _=>rfl
 refine u5 ?_
 intro R hR
 have key : ∀n i:Nat,i+n=32->R ⟨⟨S⟩⟩ ⟨⟨(List.range i).map fun i=>ltr (Q6 S i)⟩⟩ ((i:Nat):Int) σ:=by
  intro n
  induction n with
  | zero =>
   intro i hi
   have hi:i=32:=by omega
   subst hi
   exact hR _ _ _ _ (k9 (by decide) hK)
  | succ n ih =>
   intro i hi
   refine hR _ _ _ _ (l3 (C8 (by omega)) ?_)
   refine u5 ?_
   intro R2 hR2
   have fin:R2 ⟨⟨S⟩⟩ ⟨⟨(List.range i).map fun i=>ltr (Q6 S i)⟩⟩ ((i:Nat):Int) ((Q6 S i:Nat):Int) 5 σ:=by
    refine hR2 _ _ _ _ _ _ (k9 (by decide) ?_)
    refine i7 (cM1 (I1 ?_))
    have hg:=cd1 S i
    have hlt:(⟨⟨L2⟩⟩:ByteArray).size=32:=rfl
    rw[n0 (x:=((Q6 S i:Nat):Int)+1) (by omega) (by omega)]
    refine l5 ⟨B3 (by omega) (by show _<=((32:Nat):Int);omega),B3 (by omega) (by omega)⟩ ?_
    have e:(⟨⟨L2⟩⟩:ByteArray).extract ((Q6 S i:Nat):Int).toNat (((Q6 S i:Nat):Int)+1).toNat=⟨⟨[ltr (Q6 S i)]⟩⟩:=by
     apply O3
     rw[I8,B0,show(((Q6 S i:Nat):Int)+1).toNat=Q6 S i+1 from by omega]
     show(L2.take (Q6 S i+1)).drop (Q6 S i)=[L2.getD (Q6 S i) 0]
     have hx:Q6 S i<L2.length:=hg
     rw[List.drop_take,Nat.add_sub_cancel_left,ad7 hx,L0,B9 hx]
     rfl
    have e':(⟨⟨[48,49,50,51,52,53,54,55,56,57,97,98,99,100,102,103,104,105,106,107,108,109,110,112,113,114,115,118,119,120,121,122]⟩⟩:ByteArray)=⟨⟨L2⟩⟩:=rfl
    rw[e',e]
    refine l5 (by rw[hsz,hsz,Y4,List.length_range];show i+1<=_;omega) ?_
    rw[ax0,n0 (x:=(i:Int)+1) (by omega) (by omega),show(i:Int)+1=((i+1:Nat):Int)from by omega]
    have:=ih (i+1) (by omega)
    rw[List.range_succ,List.map_append]at this
    exact this
   have bit : ∀ (k:Nat) (n:Nat),n<32->k<5->R2 ⟨⟨S⟩⟩ ⟨⟨(List.range i).map fun i=>ltr (Q6 S i)⟩⟩ ((i:Nat):Int) ((2 * n+ae8 S (5 * i+k):Nat):Int) ((k+1:Nat):Int) σ->R2 ⟨⟨S⟩⟩ ⟨⟨(List.range i).map fun i=>ltr (Q6 S i)⟩⟩ ((i:Nat):Int) ((n:Nat):Int) ((k:Nat):Int) σ:=by
    intro k n hn hk hnext
    refine hR2 _ _ _ _ _ _ (l3 (C8 (by omega)) ?_)
    have hb:ae8 S (5 * i+k)<2:=Nat.mod_lt _ (by decide)
    rw[n0 (x:=5 * (i:Int)) (by omega) (by omega),n0 (x:=5 * (i:Int)+(k:Int)) (by omega) (by omega),show 5 * (i:Int)+(k:Int)=((5 * i+k:Nat):Int)from by omega]
    refine i7 (ci9 S _ (by omega) (by omega) (B6 ?_))
    rw[n0 (x:=2 * (n:Int)) (by omega) (by omega),n0 (x:=2 * (n:Int)+((ae8 S (5 * i+k):Nat):Int)) (by omega) (by omega),n0 (x:=(k:Int)+1) (by omega) (by omega)]
    rw[show 2 * (n:Int)+((ae8 S (5 * i+k):Nat):Int)=((2 * n+ae8 S (5 * i+k):Nat):Int)from by omega,show(k:Int)+1=((k+1:Nat):Int)from by omega]
    exact hnext
   have hb : ∀j,ae8 S j<2:=fun j=>Nat.mod_lt _ (by decide)
   have b0:=hb (5 * i+0);have b1:=hb (5 * i+1);have b2:=hb (5 * i+2);have b3:=hb (5 * i+3);have b4:=hb (5 * i+4)
   refine bit 0 0 (by decide) (by decide) (bit 1 _ (by omega) (by decide) (bit 2 _ (by omega) (by decide) (bit 3 _ (by omega) (by decide) (bit 4 _ (by omega) (by decide) ?_))))
   have:2 * (2 * (2 * (2 * (2 * 0+ae8 S (5 * i+0))+ae8 S (5 * i+1))+ae8 S (5 * i+2))+ae8 S (5 * i+3))+ae8 S (5 * i+4)=Q6 S i:=by
    unfold Q6;rw[Nat.mul_zero,H6,Nat.add_zero]
   rw[this]
   exact fin
 exact key 32 0 rfl
end
theorem cx2 : ∀n:Nat,n<256->IntKind.i64.wrap (Int.tdiv (IntKind.i64.wrap ((n:Nat):Int)) 16)=((n / 16:Nat):Int):=by decide +kernel
theorem cx3 : ∀n:Nat,n<256->Int.tmod (IntKind.i64.wrap ((n:Nat):Int)) 16=((n % 16:Nat):Int):=by decide +kernel
theorem bW0 : ∀k:Nat,k<16->(⟨⟨[48,49,50,51,52,53,54,55,56,57,97,98,99,100,101,102]⟩⟩:ByteArray).extract k (k+1)=⟨⟨[aq4.getD k 0]⟩⟩:=by
 intro k hk
 rw[bex,Q3]
 have h:=br5 hk
 have h:([48,49,50,51,52,53,54,55,56,57,97,98,99,100,101,102]:List UInt8)[k]? = some (aq4.getD k 0):=h
 rw[h,List.drop_append_of_le_length (by rw[F0];simp only[y5,H3];omega),M8 (by rw[F0];omega)]
 rfl
theorem bs2 (a:UInt8):(⟨⟨[a]⟩⟩:ByteArray).size=1:=rfl
section
variable {σ : H} {K : KH}
theorem aH3 (s:ByteArray) (hs:s.size<=1000000) (hK:K (.bool (C6 s)) σ):a8 198 [.string s] K σ:=by
 have:s.data.toList.length=s.size:=dl s
 have e:s=⟨⟨s.data.toList⟩⟩:=(K0 s).symm
 rw[e]
 refine dz9 _ ?_
 unfold cT7
 refine i7 (av9 s.data.toList (by omega) (k0 rfl ?_))
 exact hK
theorem bj9 (l:List UInt8) (hl:l.length<=1000000000) (hK:K (.bool (X8 l)) σ):a8 199 [.string ⟨⟨l⟩⟩] K σ:=by
 refine dA0 _ ?_
 unfold cT9
 have hsz : ∀l:List UInt8,(⟨⟨l⟩⟩:ByteArray).size=l.length:=fun _=>rfl
 refine u5 ?_
 intro R hR
 have key : ∀ (q:List UInt8) (i:Nat),l.drop i=q->(X8 l=(((if i=0 then(match q with | []=>true | c::r=>af9 c&&aj5 r)else aj5 q))&&(!l.isEmpty&&(decide (l.length<=56)&&(!(l==[111,117,116]) && !(l==[110,97,109,101]))))))->R ⟨⟨l⟩⟩ ((i:Nat):Int) σ:=by
  intro q
  induction q with
  | nil =>
   intro i hd he
   have h5:l.length<=i:=by simpa using hd
   have he:X8 l=(!l.isEmpty&&(decide (l.length<=56)&&(!(l==[111,117,116]) && !(l==[110,97,109,101])))):=by rw[he];split<;>rfl
   refine hR _ _ _ (k9 (by rw[hsz];simp only[C2];omega) ?_)
   rw[he]at hK
   rw[K1,K1,K1,hsz]
   have e0:(l==[])=l.isEmpty:=by cases l<;>rfl
   have e1:decide (((l.length:Nat):Int)<=56)=decide (l.length<=56):=by rw[E1];omega
   rw[e0,e1]
   generalize l.isEmpty=a0 at *
   generalize decide (l.length<=56)=a1 at *
   generalize (l==[111,117,116])=a2 at *
   cases a0<;>cases a1<;>cases a2<;>(repeat (first | exact hK | refine l3 rfl ?_ | refine k9 rfl ?_))
  | cons x q ih =>
   intro i hd he
   obtain⟨t1,t2,t3⟩:=C5 hd
   refine hR _ _ _ (l3 (by rw[hsz];simp only[z8];omega) ?_)
   refine M3 (c:=x) (by omega) t1 ?_
   have hstep:X8 l=((af9 x||(decide (i≠0)&&as4 x))&&(aj5 q&&(!l.isEmpty&&(decide (l.length<=56)&&(!(l==[111,117,116]) && !(l==[110,97,109,101])))))):=by
    rw[he]
    by_cases h0:i=0
    ·rw[d9 h0,J4 (p:=i≠0) (by simpa using h0)];simp[Bool.and_assoc]
    ·rw[c0 h0,F1 (p:=i≠0) h0];simp[aj5,Bool.and_assoc]
   refine S9 (fun j=>j ⟨⟨l⟩⟩ ((i:Nat):Int) (!(af9 x||(decide (i≠0)&&as4 x))) σ) ?_ ?_
   ·refine G8 (fun h => ?_) (fun h => ?_)
    ·have h:(af9 x||(decide (i≠0)&&as4 x))=false:=by rwa [Bool.not_eq_true']at h
     rw[hstep,h,H4]at hK;exact hK
    ·have h:(af9 x||(decide (i≠0)&&as4 x))=true:=by rwa [Bool.not_eq_false']at h
     rw[C7 (i:=i)]
     refine ih (i+1) t3 ?_
     rw[hstep,h,c0 (by omega),C4]
   ·intro j hj
    have d0:(((x.toNat:Nat):Int)==95)=(x==95):=aO4 x 95
    have d1:decide (((x.toNat:Nat):Int)>=97)=decide (97<=x.toNat):=by rw[E1];omega
    have d2:decide (((x.toNat:Nat):Int)<=122)=decide (x.toNat<=122):=by rw[E1];omega
    have d3:decide (((x.toNat:Nat):Int)>=65)=decide (65<=x.toNat):=by rw[E1];omega
    have d4:decide (((x.toNat:Nat):Int)<=90)=decide (x.toNat<=90):=by rw[E1];omega
    have d5:decide (((x.toNat:Nat):Int)>=48)=decide (48<=x.toNat):=by rw[E1];omega
    have d6:decide (((x.toNat:Nat):Int)<=57)=decide (x.toNat<=57):=by rw[E1];omega
    have d7:decide (((i:Nat):Int)>0)=decide (i≠0):=by rw[E1];omega
    rw[d0,d1,d2,d3,d4,d5,d6,d7]
    unfold af9 as4 at hj
    clear hstep ih he hK hR d0 d1 d2 d3 d4 d5 d6 d7
    generalize (x==95)=a0 at *
    generalize decide (97<=x.toNat)=a1 at *
    generalize decide (x.toNat<=122)=a2 at *
    generalize decide (65<=x.toNat)=a3 at *
    generalize decide (x.toNat<=90)=a4 at *
    generalize decide (48<=x.toNat)=a5 at *
    generalize decide (x.toNat<=57)=a6 at *
    generalize decide (i≠0)=a7 at *
    cases a0<;>cases a1<;>cases a2<;>cases a3<;>cases a4<;>cases a7<;>cases a5<;>(try cases a6)<;>(repeat (first | exact hj | refine l3 rfl ?_ | refine k9 rfl ?_))
 refine key l 0 rfl ?_
 rw[d9 rfl];rfl
theorem bW1 (l:List UInt8) (hs:l.length<=1000000) (hK:K (.string ⟨⟨aw1 l⟩⟩) σ):a8 202 [.string ⟨⟨l⟩⟩] K σ:=by
 refine dA3 _ ?_
 unfold cU5
 have hsz : ∀l:List UInt8,(⟨⟨l⟩⟩:ByteArray).size=l.length:=fun _=>rfl
 refine u5 ?_
 intro R hR
 have key : ∀ (r:List UInt8) (i:Nat),l.drop i=r->R ⟨⟨l⟩⟩ ⟨⟨(l.take i).flatMap aR0⟩⟩ ((i:Nat):Int) σ:=by
  intro r
  induction r with
  | nil =>
   intro i hd
   have hge:l.length<=i:=by simpa using hd
   rw[H7 hge]
   refine hR _ _ _ _ (k9 (by rw[hsz];simp only[C2];omega) ?_)
   rw[K1]
   unfold aw1 at hK
   cases l with
   | nil=>exact l3 rfl hK
   | cons a q =>
    refine k9 ?_ hK
    rw[aa4]
    unfold aR0
    simp
  | cons c r ih =>
   intro i hd
   obtain⟨t1,t2,t3⟩:=C5 hd
   have hc:c.toNat<256:=c.toNat_lt
   have hal:((l.take i).flatMap aR0).length<=2 * l.length:=by rw[aB4,F0];omega
   refine hR _ _ _ _ (l3 (by rw[hsz];simp only[z8];omega) ?_)
   refine M3 (c:=c) (by omega) t1 (l5 (by decide) ?_)
   refine M3 (c:=c) (by omega) t1 (l5 (by decide) ?_)
   rw[cx2 _ hc,cx3 _ hc]
   have w1:IntKind.i64.wrap (((c.toNat / 16:Nat):Int)+1)=((c.toNat / 16+1:Nat):Int):=by rw[n0 (by omega) (by omega)];omega
   have w2:IntKind.i64.wrap (((c.toNat % 16:Nat):Int)+1)=((c.toNat % 16+1:Nat):Int):=by rw[n0 (by omega) (by omega)];omega
   have h16:(⟨⟨[48,49,50,51,52,53,54,55,56,57,97,98,99,100,101,102]⟩⟩:ByteArray).size=16:=rfl
   rw[w1,w2,h16,B0,B0,B0,B0,bW0 _ (by omega),bW0 _ (by omega)]
   refine l5 ⟨B3 (by omega) (by omega),B3 (by omega) (by omega)⟩ (l5 (by rw[bs2,hsz];omega) (l5 ⟨B3 (by omega) (by omega),B3 (by omega) (by omega)⟩ (l5 (by rw[V8,bs2,bs2,hsz];omega) ?_)))
   rw[C7 (i:=i)]
   have e:((⟨⟨(l.take i).flatMap aR0⟩⟩:ByteArray)++⟨⟨[aq4.getD (c.toNat / 16) 0]⟩⟩)++⟨⟨[aq4.getD (c.toNat % 16) 0]⟩⟩=⟨⟨(l.take (i+1)).flatMap aR0⟩⟩:=by
    refine O3 ?_
    rw[O0,O0,Q3,t1,aa3]
    simp[aR0]
   rw[e]
   exact ih (i+1) t3
 exact key l 0 rfl
theorem bW2 {d:DvP} {x y:Sl} (hd:aI0 σ d x y) (hz:aR7 d) (hK:K (.bool d.may) σ):a8 201 [.agg ⟨drC d.name x y d.script⟩] K σ:=by
 refine B7 _ hK (dA2 _ _ _ _ ?_)
 clear hK
 unfold cU3
 refine x0 ?_;intro b5 σ1 g1 e1 n1
 have hd1:=hd.gr g1
 have hxl:x.len=d.inputs.length:=ac4 hd.1
 have hyl:y.len=d.env.length:=by rw[hd.2.1,R0]
 have hnen:=hz.nen
 have hnin:=hz.nin
 have hmay:d.may=((L3 d.name.data.toList==0&&(decide (d.inputs.length<=8)&&(decide (d.env.length<=16)&&decide (d.script.size<=4000))))&&(T6 C6 id none d.inputs&&T6 (fun v:ByteArray×ByteArray=>X8 v.1.data.toList&&decide (v.2.size<=200)) (·.1) none d.env)):=by
  rw[au9,au9]
  have e1:(!d.inputs.any fun p => !C6 p)=d.inputs.all C6:=by rw[List.not_any_eq_all_not];congr 1;funext p;simp
  have e2:(!d.env.any fun v => !X8 v.1.data.toList||decide (200<v.2.size))=d.env.all fun v=>X8 v.1.data.toList&&decide (v.2.size<=200):=by
   rw[List.not_any_eq_all_not];congr 1;funext v
   rw[Bool.not_or,S6];congr 1
   rw[J5];simp
  unfold DvP.may
  rw[e1,e2]
  simp only[T8,List.map_id]
  cases (L3 d.name.data.toList==0)<;>cases decide (d.inputs.length<=8)<;>cases decide (d.env.length<=16)<;>cases decide (d.script.size<=4000)<;>cases (d.inputs.all C6)<;>cases E5 d.inputs<;>simp[Bool.and_comm]
 refine S9 (fun j => ∀b:Bool,d.may=(!b&&(T6 C6 id none d.inputs&&T6 (fun v:ByteArray×ByteArray=>X8 v.1.data.toList&&decide (v.2.size<=200)) (·.1) none d.env))->j (some ⟨b5,0,none⟩) b σ1) ?_ ?_
 ·intro b hb
  cases b with
  | true=>exact l3 rfl ⟨by rw[hb];rfl,g1⟩
  | false =>
   refine k9 rfl ?_
   have hb:d.may=(T6 C6 id none d.inputs&&T6 (fun v:ByteArray×ByteArray=>X8 v.1.data.toList&&decide (v.2.size<=200)) (·.1) none d.env):=hb
   clear hmay
   generalize hE:T6 (fun v:ByteArray×ByteArray=>X8 v.1.data.toList&&decide (v.2.size<=200)) (·.1) none d.env=E at hb
   refine u5 ?_
   intro R hR
   have key : ∀ (r:List ByteArray) (i:Nat) (q:Option ByteArray),d.inputs.drop i=r->AtQ id d.inputs i q->d.may=(T6 C6 id q r&&E)->R (some ⟨b5,0,none⟩) (i:Int) σ1:=by
    intro r
    induction r with
    | nil =>
     intro i q hdr _ he
     have hge:d.inputs.length<=i:=by simpa using hdr
     refine hR _ _ _ (i6 (A7 (f0 e1 (by rfl)) (k9 (by simp only[C2];omega) ?_)))
     have he:d.may=E:=he
     refine u5 ?_
     intro R2 hR2
     have key2 : ∀ (r:List (ByteArray×ByteArray)) (i:Nat) (q:Option ByteArray),d.env.drop i=r->AtQ (·.1) d.env i q->E=T6 (fun v:ByteArray×ByteArray=>X8 v.1.data.toList&&decide (v.2.size<=200)) (·.1) q r->R2 (some ⟨b5,0,none⟩) (i:Int) σ1:=by
      intro r
      induction r with
      | nil =>
       intro i q hdr _ he2
       have hge:d.env.length<=i:=by simpa using hdr
       refine hR2 _ _ _ (i6 (A7 (f0 e1 (by rfl)) (k9 (by simp only[C2];omega) ⟨?_,g1⟩)))
       rw[he,he2];rfl
      | cons v r ih =>
       intro i q hdr hq he2
       obtain⟨t1,t2,t3⟩:=C5 hdr
       obtain⟨g,o,a1,a2,a3,a4⟩:=as9 hd1.2 t1
       have a5:s5 g (o+i * 2+1) σ1=some (.string v.2):=by
        obtain⟨g',o',h1,h2,h3⟩:=hd1.2.rdA (i:=i) (r:=[.string v.1,.string v.2]) (by unfold T0;rw[O4,t1];rfl) (by decide)
        rw[a1]at h1;cases h1
        exact h3 1 _ rfl
       obtain⟨z1,z2⟩:=hz.env v (F7 t1)
       have hsl:v.1.data.toList.length=v.1.size:=dl _
       refine hR2 _ _ _ (i6 (A7 (f0 e1 (by rfl)) (l3 (by simp only[z8];omega) ?_)))
       unfold T6 at he2
       refine S9 (fun j => ∀b:Bool,b=(!((X8 v.1.data.toList&&decide (v.2.size<=200))&&V5 q v.1))->j (some ⟨b5,0,none⟩) (i:Int) b σ1) ?_ ?_
       ·intro b hb2
        cases b with
        | true =>
         refine l3 rfl ⟨?_,g1⟩
         have:((X8 v.1.data.toList&&decide (v.2.size<=200))&&V5 q v.1)=false:=by have:=hb2.symm;rwa [Bool.not_eq_true']at this
         rw[he,he2,this];rfl
        | false =>
         have:((X8 v.1.data.toList&&decide (v.2.size<=200))&&V5 q v.1)=true:=by simpa using hb2.symm
         refine k9 rfl ?_
         rw[C7 (i:=i)]
         exact ih (i+1) _ t3 (AtQ.next (g:=(·.1)) t1) (by rw[he2,this];rfl)
       ·intro j hj
        refine i6 (A7 (f0 e1 (by rfl)) ?_)
        rw[a1]
        refine i6 (l5 (L1 y.len) (y8 a4 ?_))
        have e9:v.1=⟨⟨v.1.data.toList⟩⟩:=(K0 _).symm
        have hcall : ∀ {F:Bool->H->Prop},F (X8 v.1.data.toList) σ1->d8 199 [.string v.1] kB F σ1:=by
         intro F hF
         have:=i7 (t:=kB) (F:=F) (bj9 (σ:=σ1) v.1.data.toList (by omega) (y7 hF))
         rw[<-e9]at this
         exact this
        refine hcall ?_
        cases hv:X8 v.1.data.toList with
        | false=>exact l3 rfl (hj true (by rw[hv];rfl))
        | true =>
         refine k9 rfl (i6 (A7 (f0 e1 (by rfl)) ?_))
         rw[a1]
         refine i6 (l5 (L1 y.len) (y8 a5 ?_))
         by_cases h2:v.2.size<=200
         ·refine k9 (by simp only[C2];omega) ?_
          rcases hq with⟨q0,q1⟩ | ⟨q0,a,q1,q2⟩
          ·exact k9 (by simp only[C2];omega) (hj false (by rw[hv,F1 h2,q1];rfl))
          ·refine l3 (by simp only[z8];omega) (i6 (A7 (f0 e1 (by rfl)) ?_))
           have w1:IntKind.i64.wrap ((i:Int) - 1)=((i - 1:Nat):Int):=by rw[n0 (by omega) (by omega)];omega
           obtain⟨g',o',c1,c2,c3,c4⟩:=as9 hd1.2 q1
           rw[w1,c1]
           refine i6 (l5 (L1 y.len) (y8 c4 (i6 (A7 (f0 e1 (by rfl)) ?_))))
           rw[a1]
           refine i6 (l5 (L1 y.len) (y8 a4 ?_))
           exact hj _ (by rw[hv,F1 h2,q2];rfl)
         ·exact l3 (by simp only[z8];omega) (hj true (by rw[J4 h2,Bool.and_false];rfl))
     exact key2 d.env 0 none rfl (.inl ⟨rfl,rfl⟩) hE.symm
    | cons s r ih =>
     intro i q hdr hq he
     obtain⟨t1,t2,t3⟩:=C5 hdr
     obtain⟨g,o,a1,a2,a3⟩:=U7 hd1.1 t1
     refine hR _ _ _ (i6 (A7 (f0 e1 (by rfl)) (l3 (by simp only[z8];omega) ?_)))
     unfold T6 at he
     refine S9 (fun j => ∀b:Bool,b=(!(C6 s&&V5 q s))->j (some ⟨b5,0,none⟩) (i:Int) b σ1) ?_ ?_
     ·intro b hb2
      cases b with
      | true =>
       refine l3 rfl ⟨?_,g1⟩
       have:(C6 s&&V5 q s)=false:=by have:=hb2.symm;rwa [Bool.not_eq_true']at this
       rw[he];simp only[id,this];rfl
      | false =>
       have:(C6 s&&V5 q s)=true:=by simpa using hb2.symm
       refine k9 rfl ?_
       rw[C7 (i:=i)]
       exact ih (i+1) _ t3 (AtQ.next (g:=id) t1) (by rw[he];simp only[id,this];rfl)
     ·intro j hj
      refine i6 (A7 (f0 e1 (by rfl)) ?_)
      rw[a1]
      refine i6 (l5 (L1 x.len) (y8 a3 ?_))
      refine i7 (aH3 s (hz.inp s (F7 t1)) (y7 ?_))
      cases hv:C6 s with
      | false=>exact l3 rfl (hj true (by rw[hv];rfl))
      | true =>
       refine k9 rfl ?_
       rcases hq with⟨q0,q1⟩ | ⟨q0,a,q1,q2⟩
       ·exact k9 (by simp only[C2];omega) (hj false (by rw[hv,q1];rfl))
       ·refine l3 (by simp only[z8];omega) (i6 (A7 (f0 e1 (by rfl)) ?_))
        have w1:IntKind.i64.wrap ((i:Int) - 1)=((i - 1:Nat):Int):=by rw[n0 (by omega) (by omega)];omega
        obtain⟨g',o',c1,c2,c3⟩:=U7 hd1.1 q1
        rw[w1,c1]
        refine i6 (l5 (L1 x.len) (y8 c3 (i6 (A7 (f0 e1 (by rfl)) ?_))))
        rw[a1]
        refine i6 (l5 (L1 x.len) (y8 a3 ?_))
        exact hj _ (by rw[hv,q2];rfl)
   exact key d.inputs 0 none rfl (.inl ⟨rfl,rfl⟩) hb
 ·intro j hj
  have hsl:d.name.data.toList.length=d.name.size:=dl _
  have hE:d.name=⟨⟨d.name.data.toList⟩⟩:=(K0 _).symm
  have hcall : ∀ {F:Int->H->Prop},F (L3 d.name.data.toList) σ1->d8 97 [.string d.name] kI F σ1:=by
   intro F hF
   have:=i7 (t:=kI) (F:=F) (am6 (σ:=σ1) d.name.data.toList (by have:=hz.name;omega) (B6 hF))
   rw[<-hE]at this
   exact this
  refine y8 (f0 e1 (by rfl)) (hcall ?_)
  cases hn:L3 d.name.data.toList==0 with
  | false=>exact l3 (by rw[bne,hn];rfl) (hj true (by rw[hmay,hn];rfl))
  | true =>
   rw[hn]at hmay
   refine k9 (by rw[bne,hn];rfl) (A7 (f0 e1 (by rfl)) ?_)
   by_cases h8:d.inputs.length<=8
   ·refine k9 (by simp only[C2];omega) (A7 (f0 e1 (by rfl)) ?_)
    rw[F1 h8]at hmay
    by_cases h16:d.env.length<=16
    ·refine k9 (by simp only[C2];omega) (y8 (f0 e1 (by rfl)) ?_)
     rw[F1 h16]at hmay
     refine hj _ ?_
     rw[hmay]
     congr 1
     show(decide (d.script.size<=4000))=_
     rw[J5];simp;omega
    ·refine l3 (by simp only[z8];omega) (hj true ?_)
     rw[hmay,J4 h16];rfl
   ·refine l3 (by simp only[z8];omega) (hj true ?_)
    rw[hmay,J4 h8];rfl
end
theorem bW3 (s:ByteArray) (hz:s.size<=1000000000000) {σ:H} {K:KH} (hK:K (.bool (V4 s)) σ):a8 195 [.string s] K σ:=by
 refine dz6 _ ?_
 unfold cT1
 have hlen:s.data.toList.length=s.size:=(I5 s).symm
 refine u5 ?_
 intro R hR
 have key : ∀ (n i:Nat),n+i=s.size->(∀c∈s.data.toList.take i,(c==47||c==0)=false)->R s (i:Int) σ:=by
  intro n
  induction n with
  | zero =>
   intro i hn hno
   have hb:P1 s=false:=by
    rw[H7 (by omega)]at hno
    unfold P1
    rw[List.any_eq_false]
    intro x hx
    rw[hno x hx];decide
   refine hR _ _ _ ?_
   refine k9 (J6 (by omega)) ?_
   have hm:V4 s=(decide (1<=s.size)&&(decide (s.size<=56)&&(!B8 s ⟨⟨[46]⟩⟩ && !B8 s ⟨⟨[46,46]⟩⟩))):=by
    unfold V4;rw[hb,ao3,ao3];rfl
   rw[hm]at hK
   by_cases h1:1<=s.size
   ·have e1:decide (1<=s.size)=true:=by simpa using h1
    rw[e1]at hK
    refine l3 (by simp;omega) ?_
    by_cases h2:s.size<=56
    ·have e2:decide (s.size<=56)=true:=by simpa using h2
     rw[e2]at hK
     refine l3 (by simp;omega) ?_
     cases h3:B8 s ⟨⟨[46]⟩⟩ with
     | true=>rw[h3]at hK;exact k9 rfl hK
     | false=>rw[h3]at hK;exact l3 rfl hK
    ·have e2:decide (s.size<=56)=false:=by simpa using h2
     rw[e2]at hK
     exact k9 (by simp;omega) hK
   ·have e1:decide (1<=s.size)=false:=by simpa using h1
    rw[e1]at hK
    exact k9 (by simp;omega) hK
  | succ n ih =>
   intro i hn hno
   obtain⟨ch,hch⟩ : ∃ch,s.data.toList[i]? = some ch:=⟨_,B9 (by omega)⟩
   have hb0:(((ch.toNat:Int):Int)==0)=(ch==0):=by
    by_cases h:ch=0
    ·subst h;rfl
    ·have : ¬ ((ch.toNat : Int) = 0) := by
      intro e;apply h
      have:ch.toNat=0:=by omega
      exact UInt8.toNat_inj.1 this
     have h1:(((ch.toNat:Int):Int)==0)=false:=by simpa using this
     have h2:(ch==0)=false:=by simpa using h
     rw[h1,h2]
   have hb47:(((ch.toNat:Int):Int)==47)=(ch==47):=by
    have:=ch2 ch
    unfold bne at this
    cases h1:(((ch.toNat:Int):Int)==47)<;>cases h2:(ch==47)<;>simp[h1,h2]at this ⊢
   refine hR _ _ _ ?_
   refine l3 (C8 (by omega)) ?_
   refine S9 (fun j => ∀v1 v2 v3 v4,j s (i:Int) v1 v2 v3 v4 (ch==47||ch==0) σ) ?_ ?_
   case refine_2 =>
    intro j hj
    refine M3 (c:=ch) (by omega) (by simpa using hch) ?_
    rw[hb47]
    cases h47:(ch==47) with
    | true =>
     have:=fun a b c d=>hj a b c d
     rw[h47]at this
     exact l3 rfl (this _ _ _ _)
    | false =>
     refine k9 rfl (M3 (c:=ch) (by omega) (by simpa using hch) ?_)
     have:=fun a b c d=>hj a b c d
     rw[h47]at this
     rw[hb0]
     exact this _ _ _ _
   intro v1 v2 v3 v4
   cases hbad:(ch==47||ch==0) with
   | true =>
    have hb:P1 s=true:=by
     unfold P1
     rw[List.any_eq_true]
     exact⟨ch,F7 hch,hbad⟩
    have hm:V4 s=false:=by unfold V4;rw[hb];simp
    rw[hm]at hK
    exact l3 rfl hK
   | false =>
    refine k9 rfl ?_
    rw[C7 (i:=i)]
    refine ih (i+1) (by omega) fun x hx => ?_
    rw[Q3,hch]at hx
    rcases N0.1 hx with h | h
    ·exact hno x h
    ·simp at h;rw[h];exact hbad
 exact key s.size 0 (by omega) (by simp)
theorem bW4 : ∀ (m:Nat),m<=100 -> ∀ (t:Tr) (y:Sl) {σ:H},O1 σ t.kids y->t.total<=1000000000000000 -> ∀ {K:KH},K (.int .i64 (t.deep (m+1))) σ->a8 194 [.agg ⟨O2 t y⟩,.int .i64 ((m+1:Nat):Int)] K σ:=by
 intro m
 induction m with
 | zero =>
  intro _ t y σ hs hT K hK
  refine B7 _ hK (cS9 _ _ _ _ _ _ ?_)
  clear hK
  unfold cs3
  refine x0 ?_;intro b7 σ1 g1 e1 n1
  refine S9 (fun j=>j (((0+1:Nat):Nat):Int) (some ⟨b7,0,none⟩) true σ1) ?_ ?_
  ·refine l3 rfl ⟨?_,g1⟩
   unfold Tr.deep;rw[d9 (.inr rfl)]
  ·intro j hj
   refine E9 (f0 e1) ?_
   by_cases hk:t.kind=2
   ·exact k9 (by simpa using hk) hj
   ·exact l3 (by simpa using hk) hj
 | succ m ih =>
  intro hm t y σ hs hT K hK
  refine B7 _ hK (cS9 _ _ _ _ _ _ ?_)
  clear hK
  unfold cs3
  refine x0 ?_;intro b7 σ1 g1 e1 n1
  unfold Tr.deep
  refine S9 (fun j => ∀b:Bool,(b=true↔t.kind≠2)->j (((m+1+1:Nat):Nat):Int) (some ⟨b7,0,none⟩) b σ1) ?_ ?_
  ·intro b hb
   by_cases hk:t.kind=2
   case neg =>
    rw[d9 (.inl hk)]
    refine l3 (hb.2 hk) ⟨rfl,g1⟩
   have hbf:b=false:=by
    cases b with
    | false=>rfl
    | true=>exact u9 hk (hb.1 rfl)
   rw[c0 (by rintro (h | h);exact h hk;omega)]
   refine k9 hbf (u5 ?_)
   intro R hR
   have hlen:=U1 t
   have key : ∀ (l:List Tr) (i:Nat) (d:Int),t.kids.drop i=l->1<=d->d<=200->t.kids.foldl (fun d x=>Wk.gr d (1+Tr.deep (m+1) x)) 1=l.foldl (fun d x=>Wk.gr d (1+Tr.deep (m+1) x)) d->R (((m+1+1:Nat):Nat):Int) (some ⟨b7,0,none⟩) d (i:Int) σ1:=by
    intro l
    induction l with
    | nil =>
     intro i d hd h1 h2 he
     have hge:t.kids.length<=i:=by simpa using hd
     refine hR _ _ _ _ _ ?_
     refine i6 (A7 (f0 e1) (k9 (by rw[hs.1];exact J6) ⟨?_,g1⟩))
     rw[he];rfl
    | cons x r ihl =>
     intro i d hd h1 h2 he
     have hx:t.kids[i]? = some x:=by
      have:(t.kids.drop i)[0]? = some x:=by rw[hd];rfl
      simpa using this
     have hlt:i<t.kids.length:=by
      rcases F6 i t.kids.length with h | h
      ·exact h
      ·rw[M8 h]at hd;cases hd
     obtain⟨g,o,z,hb,hrd,hz⟩:=ah9 (hs.gr g1) hx
     refine hR _ _ _ _ _ ?_
     refine i6 (A7 (f0 e1) (l3 (by rw[hs.1];exact C8) (i6 (A7 (f0 e1) ?_))))
     rw[hb]
     refine i6 (l5 ⟨by omega,by show(i:Int)<((y.len:Nat):Int);rw[hs.1];omega⟩ ?_)
     have hrd':rdA 5 g (o+(i:Int).toNat * 5) σ1=some (.agg ⟨O2 x z⟩):=by simpa using hrd
     refine A3 hrd' ?_
     unfold O2
     (refine k0 rfl ?_;try dsimp only)
     have w1:IntKind.i64.wrap ((((m+1+1:Nat):Nat):Int) - 1)=((m+1:Nat):Int):=by rw[n0 (by omega) (by omega)];omega
     rw[w1]
     refine i7 (ih (by omega) x z hz (by have:=W4 hx;omega) (B6 ?_))
     have hdl:=bw8 (m+1) x
     rw[n0 (x:=1+Tr.deep (m+1) x) (by omega) (by omega),n0 (x:=(i:Int)+1) (by omega) (by omega)]
     have h2':t.kids.drop (i+1)=r:=by rw[<-List.drop_drop,hd];rfl
     refine ihl (i+1) _ h2' ?_ ?_ ?_
     ·split<;>omega
     ·split<;>omega
     ·rw[he];rfl
   exact key t.kids 0 1 rfl (by omega) (by omega) rfl
  ·intro j hj
   refine E9 (f0 e1) ?_
   by_cases hk:t.kind=2
   ·refine k9 (by simpa using hk) (hj _ ?_)
    have:((((m+1+1:Nat):Int))==1)=false:=by
     simp only[M9];omega
    rw[this];simp[hk]
   ·exact l3 (by simpa using hk) (hj true (by simp[hk]))
theorem bk0 (t:Tr) (y:Sl) {σ:H} (hs:O1 σ t.kids y) (hT:t.total<=1000000000000000) {K:KH} (hK:K (.int .i64 (t.deep 14)) σ):a8 144 [.agg ⟨O2 t y⟩] K σ:=by
 refine B7 _ hK (dw0 _ _ _ _ _ ?_)
 clear hK
 unfold cL1
 refine x0 ?_;intro b6 σ1 g1 e1 n1
 refine A3 (l7 e1) ?_
 (refine k0 rfl ?_;try dsimp only)
 exact i7 (bW4 13 (by omega) t y (hs.gr g1) hT (B6 ⟨rfl,g1⟩))
theorem by8 (t:Tr):decide ((t.deep 14:Int)>12)=t.tooDeep:=rfl
theorem bW5 {l:List UInt8} (h:∀c∈l,(c==0)=false):(l.any fun c=>c==0)=false:=by
 rw[List.any_eq_false]
 intro x hx
 rw[h x hx];decide
theorem cj0 : ∀ (t:Tr) (y:Sl) {σ:H},O1 σ t.kids y->t.total<=1000000000000 -> ∀ {K:KH},K (.bool t.may) σ->a8 145 [.agg ⟨O2 t y⟩] K σ:=by
 refine Tr.ind (P:=fun t => ∀ (y:Sl) {σ:H},O1 σ t.kids y->t.total<=1000000000000 -> ∀ {K:KH},K (.bool t.may) σ->a8 145 [.agg ⟨O2 t y⟩] K σ) ?_
 intro t ih y σ hs hT K hK
 refine B7 _ hK (dw1 _ _ _ _ _ ?_)
 clear hK
 unfold cL3
 refine x0 ?_;intro b6 σ1 g1 e1 n1
 have hs1:=hs.gr g1
 have hT1:=U1 t
 have htot:1+t.name.size+t.data.size+Tr.totalRow t.kids=t.total:=by obtain⟨n,k,e,d,kids⟩:=t;simp only[Tr.total,Tr.name,Tr.kids,Tr.data]
 refine E9 (f0 e1) ?_
 have hmay:t.may=if t.kind=1 then t.kids.isEmpty else if t.kind=3 then t.kids.isEmpty&&(!t.exec&&ah4 t.data)else if t.kind=2 then !t.exec&&(sEq t.data ⟨⟨[]⟩⟩&&Tr.mayRow none t.kids)else false:=by
  obtain⟨n,k,e,d,kids⟩:=t
  rw[Tr.may];rfl
 rw[hmay]
 have hem:((((y.len:Nat):Int):Int)==0)=t.kids.isEmpty:=by
  rw[hs.1]
  cases t.kids with
  | nil=>rfl
  | cons a r=>simp only[List.isEmpty_cons,y5,M9];omega
 by_cases k1:t.kind=1
 ·rw[d9 k1]
  exact l3 (by simpa using k1) (A7 (f0 e1) ⟨by rw[hem],g1⟩)
 rw[c0 k1]
 refine k9 (by simpa using k1) ?_
 by_cases k3:t.kind=3
 ·rw[d9 k3]
  refine l3 (by simpa using k3) (u5 ?_)
  intro R hR
  have hdl:t.data.data.toList.length=t.data.size:=(I5 _).symm
  have key : ∀ (c i:Nat),c+i=t.data.size->(∀ch∈t.data.data.toList.take i,(ch==0)=false)->R (some ⟨b6,0,none⟩) (i:Int) σ1:=by
   intro c
   induction c with
   | zero =>
    intro i hc hno
    rw[H7 (by omega)]at hno
    have hn0:aj2 t.data=false:=bW5 hno
    refine hR _ _ _ ?_
    refine i6 (y8 (f0 e1) (k9 (J6 (by omega)) (i6 (aX9 (f0 e1) ?_))))
    have hln:ah4 t.data=(decide ((((t.data.size:Nat):Int):Int)>=1)&&decide ((((t.data.size:Nat):Int):Int)<=255)):=by
     unfold ah4
     rw[hn0]
     have h1:(!sEq t.data ⟨⟨[]⟩⟩)=decide ((((t.data.size:Nat):Int):Int)>=1):=by
      by_cases h:t.data.size=0
      ·have hl:t.data.data.toList=[]:=Y3 (by omega)
       have : ¬ (((t.data.size:Nat):Int)>=1):=by omega
       unfold sEq;rw[hl];simp[this]
      ·have hl:t.data.data.toList≠[]:=fun e=>h (by rw[<-hdl,e];rfl)
       have:(((t.data.size:Nat):Int)>=1):=by omega
       unfold sEq
       cases hz:t.data.data.toList with
       | nil=>exact u9 hz hl
       | cons a r=>simp[this]
     have h2:decide (t.data.size<=255)=decide ((((t.data.size:Nat):Int):Int)<=255):=by
      by_cases h:t.data.size<=255
      ·have:(((t.data.size:Nat):Int)<=255):=by omega
       simp[h,this]
      ·have : ¬ (((t.data.size:Nat):Int)<=255):=by omega
       simp[h,this]
     rw[h1,h2];simp
    rw[hln]
    cases t.exec with
    | true=>exact k9 rfl ⟨by simp,g1⟩
    | false =>
     refine l3 rfl (i6 (A7 (f0 e1) ?_))
     rw[hem]
     cases t.kids.isEmpty with
     | false=>exact k9 rfl ⟨rfl,g1⟩
     | true =>
      refine l3 rfl (i6 (y8 (f0 e1) ?_))
      cases decide ((((t.data.size:Nat):Int):Int)>=1) with
      | false=>exact k9 rfl ⟨rfl,g1⟩
      | true=>exact l3 rfl (i6 (y8 (f0 e1) ⟨by simp,g1⟩))
   | succ c ihc =>
    intro i hc hno
    obtain⟨ch,hch⟩ : ∃ch,t.data.data.toList[i]? = some ch:=⟨_,B9 (by omega)⟩
    refine hR _ _ _ ?_
    refine i6 (y8 (f0 e1) (l3 (C8 (by omega)) (i6 (y8 (f0 e1) (M3 (c:=ch) (by omega) (by simpa using hch) ?_)))))
    have e0:((((ch.toNat:Nat):Int):Int)==0)=(ch==0):=aO4 ch 0
    rw[e0]
    cases h0:(ch==0) with
    | true =>
     have hn1:aj2 t.data=true:=by
      unfold aj2;rw[List.any_eq_true]
      exact⟨ch,F7 hch,h0⟩
     refine l3 rfl ⟨?_,g1⟩
     unfold ah4;rw[hn1];simp
    | false =>
     refine k9 rfl ?_
     rw[C7 (i:=i)]
     refine ihc (i+1) (by omega) ?_
     intro x hx
     rw[Q3,hch]at hx
     rcases N0.1 hx with h | h
     ·exact hno x h
     ·simp at h;rw[h];exact h0
  exact key t.data.size 0 (by omega) (fun ch h=>by simp at h)
 rw[c0 k3]
 refine k9 (by simpa using k3) ?_
 by_cases k2:t.kind=2
 case neg=>rw[c0 k2];exact k9 (by simpa using k2) ⟨rfl,g1⟩
 rw[d9 k2]
 refine l3 (by simpa using k2) (u5 ?_)
 intro R hR
 have key : ∀ (l:List Tr) (i:Nat) (τ:H),t.kids.drop i=l->Gr σ1 τ->Tr.mayRow none t.kids=Tr.mayRow (if i=0 then none else(t.kids[i - 1]?).map Tr.name) l->R (some ⟨b6,0,none⟩) (i:Int) τ:=by
  intro l
  induction l with
  | nil =>
   intro i τ hd hg he
   have e1:=hg.get e1
   have hge:t.kids.length<=i:=by simpa using hd
   refine hR _ _ _ ?_
   refine i6 (A7 (f0 e1) (k9 (by rw[hs.1];exact J6) (i6 (aX9 (f0 e1) ?_))))
   have hm:Tr.mayRow none t.kids=true:=by rw[he];simp[Tr.mayRow]
   rw[hm]
   cases t.exec with
   | true=>exact k9 rfl ⟨rfl,g1.trans hg⟩
   | false=>exact l3 rfl (i6 (y8 (f0 e1) ⟨by rw[<-ao3];simp,g1.trans hg⟩))
  | cons x r ihl =>
   intro i τ hd hg he
   have e1:=hg.get e1
   obtain⟨hx,hlt,hd'⟩:=C5 hd
   obtain⟨g,o,z,hb,hrd,hz⟩:=ah9 (hs1.gr hg) hx
   obtain⟨gn,on,hbn,hnm⟩:=aA4 (hs1.gr hg) hx
   have hxt:=W4 hx
   have hxn:x.name.size<=x.total:=by obtain⟨n,k,e,d,kids⟩:=x;simp only[Tr.total,Tr.name];omega
   rw[hb]at hbn;cases hbn
   simp only[Tr.mayRow]at he
   refine hR _ _ _ ?_
   refine i6 (A7 (f0 e1) (l3 (by rw[hs.1];exact C8) ?_))
   refine S9 (fun j => ∀ (v1 v2 v3 v4 v5 v6 v7 v8 v9 v10 v11 v12 v13 v14 v15 v16 v17 v18 v19 v20 v21 v22 v23 v24 v25:Value) (b:Bool),(b=true->Tr.mayRow none t.kids=false)->(b=false->Tr.mayRow none t.kids=Tr.mayRow (some x.name) r)->j (some ⟨b6,0,none⟩) (i:Int) v1 v2 v3 v4 v5 v6 v7 v8 v9 v10 v11 v12 v13 v14 v15 v16 v17 v18 v19 v20 v21 v22 v23 v24 v25 b τ) ?_ ?_
   ·intro v1 v2 v3 v4 v5 v6 v7 v8 v9 v10 v11 v12 v13 v14 v15 v16 v17 v18 v19 v20 v21 v22 v23 v24 v25 b h1 h2
    cases b with
    | true=>rw[h1 rfl];exact l3 rfl ⟨by simp,g1.trans hg⟩
    | false =>
     refine k9 rfl ?_
     rw[n0 (by omega) (by omega)]
     refine ihl (i+1) τ hd' hg ?_
     rw[h2 rfl]
     have:i+1 - 1=i:=by omega
     rw[c0 (by omega),this,hx];rfl
   ·intro j hj
    refine i6 (A7 (f0 e1) ?_)
    show j0 y.base _ _
    rw[hb]
    refine i6 (l5 ⟨by omega,by rw[hs.1];omega⟩ (y8 hnm ?_))
    refine i7 (bW3 x.name (by omega) (y7 ?_))
    cases hmn:V4 x.name with
    | false =>
     rw[hmn]at he
     exact l3 rfl (hj _ _ _ _ _ _ _ _ _ _ _ _ _ _ _ _ _ _ _ _ _ _ _ _ _ true (fun _=>by rw[he];rfl) (fun h=>by cases h))
    | true =>
     rw[hmn]at he
     simp only[C4]at he
     refine k9 rfl (i6 (A7 (f0 e1) ?_))
     show j0 y.base _ _
     rw[hb]
     have hrd':rdA 5 g (o+(i:Int).toNat * 5) τ=some (.agg ⟨O2 x z⟩):=by simpa using hrd
     refine i6 (l5 ⟨by omega,by rw[hs.1];omega⟩ (A3 hrd' ?_))
     unfold O2
     (refine k0 rfl ?_;try dsimp only)
     refine i7 (ih x (F7 hx) z hz (by omega) (y7 ?_))
     cases hmx:x.may with
     | false =>
      rw[hmx]at he
      exact l3 rfl (hj _ _ _ _ _ _ _ _ _ _ _ _ _ _ _ _ _ _ _ _ _ _ _ _ _ true (fun _=>by rw[he];rfl) (fun h=>by cases h))
     | true =>
      rw[hmx]at he
      simp only[C4]at he
      refine k9 rfl ?_
      cases i with
      | zero =>
       refine k9 (by simp) (hj _ _ _ _ _ _ _ _ _ _ _ _ _ _ _ _ _ _ _ _ _ _ _ _ _ false (fun h=>by cases h) (fun _ => ?_))
       rw[he];simp[bL4]
      | succ i =>
       have hi1:i<t.kids.length:=by omega
       obtain⟨pv,hpv⟩ : ∃pv,t.kids[i]? = some pv:=⟨_,B9 hi1⟩
       have:i+1 - 1=i:=by omega
       rw[c0 (by omega),this,hpv]at he
       have he:Tr.mayRow none t.kids=(ltB pv.name x.name&&Tr.mayRow (some x.name) r):=he
       refine l3 (C8 (by omega)) ?_
       refine i6 (A7 (f0 e1) ?_)
       obtain⟨g',o',hb',hnm2⟩:=aA4 (hs1.gr hg) hpv
       rw[hb]at hb';cases hb'
       show j0 y.base _ τ
       rw[hb]
       have w1:IntKind.i64.wrap (((i+1:Nat):Int) - 1)=(i:Int):=by rw[n0 (by omega) (by omega)];omega
       rw[w1]
       refine i6 (l5 ⟨by omega,by rw[hs.1];omega⟩ (y8 hnm2 ?_))
       refine i6 (A7 (f0 e1) ?_)
       show j0 y.base _ τ
       rw[hb]
       refine i6 (l5 ⟨by omega,by rw[hs.1];omega⟩ (y8 hnm ?_))
       refine hj _ _ _ _ _ _ _ _ _ _ _ _ _ _ _ _ _ _ _ _ _ _ _ _ _ _ ?_ ?_
       ·intro h
        rw[aA5]at h
        have:ltB pv.name x.name=false:=by simpa using h
        rw[he,this];rfl
       ·intro h
        rw[aA5]at h
        have:ltB pv.name x.name=true:=by simpa using h
        rw[he,this];rfl
 exact key t.kids 0 σ1 rfl (Gr.refl _) rfl
theorem bW6 : ∀ (t:Tr) (y:Sl) {σ:H},O1 σ t.kids y->t.total<=1000000000000000 -> ∀ {K:KH},K (.tuple ⟨[.int .i64 t.sizeT.1,.int .i64 t.sizeT.2]⟩) σ->a8 146 [.agg ⟨O2 t y⟩] K σ:=by
 refine Tr.ind (P:=fun t => ∀ (y:Sl) {σ:H},O1 σ t.kids y->t.total<=1000000000000000 -> ∀ {K:KH},K (.tuple ⟨[.int .i64 t.sizeT.1,.int .i64 t.sizeT.2]⟩) σ->a8 146 [.agg ⟨O2 t y⟩] K σ) ?_
 intro t ih y σ hs hT K hK
 refine B7 _ hK (dw2 _ _ _ _ _ ?_)
 clear hK
 unfold cL5
 refine x0 ?_;intro b6 σ1 g1 e1 n1
 refine A3 (l7 e1) ?_
 (refine k0 rfl ?_;try dsimp only)
 refine i7 (bk0 t y (hs.gr g1) hT (B6 ?_))
 rw[by8]
 cases htd:t.tooDeep with
 | true=>exact l3 rfl ⟨by unfold Tr.sizeT;rw[htd];rfl,g1⟩
 | false =>
  have hst:t.sizeT=t.size:=by unfold Tr.sizeT;rw[htd];rfl
  rw[hst]
  refine k9 rfl (y8 (f0 e1) ?_)
  have hT1:=U1 t
  have hsz:t.size=Tr.sizeRow t.kids (1,(t.data.size:Int)):=by obtain⟨n,k,e,d,kids⟩:=t;simp only[Tr.size,Tr.kids,Tr.data]
  have htot:1+t.data.size+Tr.totalRow t.kids<=t.total:=by obtain⟨n,k,e,d,kids⟩:=t;simp only[Tr.total,Tr.kids,Tr.data];omega
  refine u5 ?_
  intro R hR
  have key : ∀ (l:List Tr) (i:Nat) (a:Int×Int),t.kids.drop i=l->t.size=Tr.sizeRow l a->1<=a.1->0<=a.2->a.1+a.2+Tr.totalRow l<=1000000000000000->R (some ⟨b6,0,none⟩) a.1 a.2 (i:Int) σ1:=by
   intro l
   induction l with
   | nil =>
    intro i a hd he h1 h2 h3
    have hge:t.kids.length<=i:=by simpa using hd
    refine hR _ _ _ _ _ ?_
    refine i6 (A7 (f0 e1) (k9 (by rw[hs.1];exact J6) ⟨?_,g1⟩))
    rw[he];rfl
   | cons x r ihl =>
    intro i a hd he h1 h2 h3
    obtain⟨hx,hlt,hd'⟩:=C5 hd
    obtain⟨g,o,z,hb,hrd,hz⟩:=ah9 (hs.gr g1) hx
    simp only[Tr.totalRow]at h3
    have hxs:=Tr.size_le x
    simp only[Tr.sizeRow]at he
    refine hR _ _ _ _ _ ?_
    refine i6 (A7 (f0 e1) (l3 (by rw[hs.1];exact C8) (i6 (A7 (f0 e1) ?_))))
    show j0 y.base _ _
    rw[hb]
    have hrd':rdA 5 g (o+(i:Int).toNat * 5) σ1=some (.agg ⟨O2 x z⟩):=by simpa using hrd
    refine i6 (l5 ⟨by omega,by rw[hs.1];omega⟩ (A3 hrd' ?_))
    unfold O2
    (refine k0 rfl ?_;try dsimp only)
    refine i7 (ih x (F7 hx) z hz (by have:=W4 hx;omega) (aa9 ?_))
    have hst:x.sizeT=if x.tooDeep=true then(0,0)else x.size:=rfl
    have e3:a.1+x.sizeT.1=(if x.tooDeep=true then a else(a.1+x.size.1,a.2+x.size.2)).1/\a.2+x.sizeT.2=(if x.tooDeep=true then a else(a.1+x.size.1,a.2+x.size.2)).2:=by
     rw[hst];split<;>simp
    rw[e3.1,e3.2]
    have hb1:1<=(if x.tooDeep=true then a else(a.1+x.size.1,a.2+x.size.2)).1:=by split<;>(try simp only)<;>omega
    have hb2:0<=(if x.tooDeep=true then a else(a.1+x.size.1,a.2+x.size.2)).2:=by split<;>(try simp only)<;>omega
    have hb3:(if x.tooDeep=true then a else(a.1+x.size.1,a.2+x.size.2)).1+(if x.tooDeep=true then a else(a.1+x.size.1,a.2+x.size.2)).2+Tr.totalRow r<=1000000000000000:=by split<;>(try simp only)<;>omega
    generalize (if x.tooDeep=true then a else(a.1+x.size.1,a.2+x.size.2))=a' at he hb1 hb2 hb3
    rw[n0 (x:=a'.1) (by omega) (by omega),n0 (x:=a'.2) (by omega) (by omega),n0 (x:=(i:Int)+1) (by omega) (by omega)]
    exact ihl (i+1) a' hd' he hb1 hb2 hb3
  exact key t.kids 0 (1,(t.data.size:Int)) rfl hsz (Int.le_refl _) (by show(0:Int)<=t.data.size;omega) (by show(1:Int)+t.data.size+Tr.totalRow t.kids<=1000000000000000;omega)
theorem aW1 (t:Tr) (y:Sl) {σ:H} (hs:O1 σ t.kids y) (hT:t.total<=1000000000000) {K:KH} (hK:K (.int .i64 t.check) σ):a8 93 [.agg ⟨O2 t y⟩] K σ:=by
 generalize hres:t.check=res at hK
 unfold Tr.check at hres
 refine B7 _ hK (c93 _ _ _ _ _ ?_)
 clear hK
 unfold g93
 refine x0 ?_;intro b6 σ1 g1 e1 n1
 have hs1:=hs.gr g1
 refine A3 (l7 e1) ?_
 (refine k0 rfl ?_;try dsimp only)
 refine i7 (bk0 t y hs1 (by omega) (B6 ?_))
 rw[by8]
 cases htd:t.tooDeep with
 | true=>rw[htd]at hres;simp only[if_true]at hres;exact l3 rfl ⟨by rw[<-hres],g1⟩
 | false =>
  rw[htd]at hres
  simp only[F4,if_false]at hres
  refine k9 rfl ?_
  refine S9 (fun j => ∀b:Bool,(b=true↔sEq t.name ⟨⟨[]⟩⟩=false\/t.may=false)->j (some ⟨b6,0,none⟩) b σ1) ?_ ?_
  ·intro b hb
   cases b with
   | true=>rw[d9 (hb.1 rfl)]at hres;exact l3 rfl ⟨by rw[<-hres],g1⟩
   | false =>
    rw[c0 (fun h=>by have:=hb.2 h;cases this)]at hres
    refine k9 rfl (i6 (A3 (l7 e1) ?_))
    (refine k0 rfl ?_;try dsimp only)
    refine i7 (bW6 t y hs1 (by omega) (aa9 ?_))
    refine S9 (fun j => ∀b:Bool,(b=true↔t.sizeT.1>2000\/t.sizeT.2>100000)->j b σ1) ?_ ?_
    ·intro b hb
     cases b with
     | true=>rw[d9 (hb.1 rfl)]at hres;exact l3 rfl ⟨by rw[<-hres],g1⟩
     | false=>rw[c0 (fun h=>by have:=hb.2 h;cases this)]at hres;exact k9 rfl ⟨by rw[<-hres],g1⟩
    ·intro j hj
     by_cases h1:t.sizeT.1>2000
     ·exact l3 (by simpa using h1) (hj true (by simp[h1]))
     ·exact k9 (by simpa using h1) (hj _ (by simp[h1]))
  ·intro j hj
   rw[ao3]at hj
   refine y8 (f0 e1) ?_
   cases hn:B8 t.name ⟨⟨[]⟩⟩ with
   | false=>exact l3 rfl (hj true (by simp[hn]))
   | true =>
    refine k9 rfl (A3 (l7 e1) ?_)
    (refine k0 rfl ?_;try dsimp only)
    refine i7 (cj0 t y hs1 hT (y7 (hj _ ?_)))
    rw[hn];cases t.may<;>simp
theorem bW7 : ∀ (t:Tr) (y:Sl) {σ:H} {l:List UInt8},O1 σ t.kids y->t.may=true->l.length+(ab4 t).length<=500000000->t.total<=10000000 -> ∀ {K:KH},K (.string ⟨⟨l++ab4 t⟩⟩) σ ->
 a8 94 [.string ⟨⟨l⟩⟩,.agg ⟨O2 t y⟩] K σ:=by
 refine Tr.ind (P:=fun t => ∀ (y:Sl) {σ:H} {l:List UInt8},O1 σ t.kids y->t.may=true->l.length+(ab4 t).length<=500000000->t.total<=10000000 -> ∀ {K:KH},K (.string ⟨⟨l++ab4 t⟩⟩) σ->a8 94 [.string ⟨⟨l⟩⟩,.agg ⟨O2 t y⟩] K σ) ?_
 intro t ih y σ l hs hm hl hTT K hK
 have hE:=az8 t
 have hT:=U1 t
 have hdt:t.data.size<=t.total:=by obtain⟨n,k,e,d,kids⟩:=t;simp only[Tr.total,Tr.data];omega
 refine B7 _ hK (c94 _ _ _ _ _ _ ?_)
 clear hK
 unfold g94
 refine x0 ?_;intro b7 σ1 g1 e1 n1
 have hk0:IntKind.u64.wrap t.kind=((t.kind.toNat:Nat):Int):=by
  rcases al0 hm with h | h | h<;>rw[h]<;>rfl
 have hs1:=hs.gr g1
 refine E9 (f0 e1) ?_
 rw[hk0]
 refine i7 (at3 l t.kind.toNat (by rcases al0 hm with h | h | h<;>rw[h]<;>decide) (by omega) (I1 ?_))
 refine E9 (f0 e1) ?_
 have hpl:=U8 t.kind.toNat
 have hpd:=ab5 t.data.data.toList
 rw[dl]at hpd
 rcases al0 hm with hk | hk | hk
 ·rw[d9 hk]at hE
  refine l3 (by rw[hk];rfl) ?_
  refine S9 (fun j=>j ⟨⟨l++S5 t.kind.toNat⟩⟩ (some ⟨b7,0,none⟩) (((if t.exec then 1 else 0:Nat):Nat):Int) σ1) ?_ ?_
  ·refine i6 (y8 (f0 e1) ?_)
   have hp2:=U8 (if t.exec then 1 else 0)
   refine i7 (at3 _ _ (by split<;>decide) (by rw[s8];omega) (I1 (F9 (f0 e1) ?_)))
   refine i7 (am5 _ t.data.data.toList (by simp only[s8];omega) (by rw[dl];omega) (I1 ⟨?_,g1⟩))
   rw[hE];simp only[E0]
  ·intro j hj
   refine aX9 (f0 e1) ?_
   cases he:t.exec with
   | true=>rw[he]at hj;exact l3 rfl hj
   | false=>rw[he]at hj;exact k9 rfl hj
 ·rw[c0 (by omega),d9 hk]at hE
  refine k9 (by rw[hk];rfl) (l3 (by rw[hk];rfl) ?_)
  refine y8 (f0 e1) ?_
  refine i7 (am5 _ t.data.data.toList (by simp only[s8];omega) (by rw[dl];omega) (I1 ⟨?_,g1⟩))
  rw[hE];simp only[E0]
 ·rw[c0 (by omega),c0 (by omega)]at hE
  refine k9 (by rw[hk];rfl) (k9 (by rw[hk];rfl) ?_)
  refine A7 (f0 e1) ?_
  have hyl:y.len=t.kids.length:=hs1.1
  have hu:IntKind.u64.wrap ((y.len:Nat):Int)=((t.kids.length:Nat):Int):=by rw[hyl];exact af3 (by omega) (by omega)
  show C1 _ _ [_,.int .u64 (IntKind.u64.wrap ((y.len:Nat):Int))] _ _ _
  rw[hu]
  refine i7 (at3 _ t.kids.length (by omega) (by rw[s8];omega) (I1 ?_))
  have hlen2:=U8 t.kids.length
  have hEl:=D9 List.length hE
  simp only[s8]at hEl
  refine u5 ?_
  intro R hR
  have key : ∀ (r:List Tr) (i:Nat) (acc:List UInt8) (τ:H),t.kids.drop i=r->Q5 t.kids=acc++Q5 r->Gr σ1 τ->R ⟨⟨l++S5 t.kind.toNat++S5 t.kids.length++acc⟩⟩ (some ⟨b7,0,none⟩) (i:Int) τ:=by
   intro r
   induction r with
   | nil =>
    intro i acc τ hd he hg
    have hge:t.kids.length<=i:=by simpa using hd
    refine hR _ _ _ _ (i6 (A7 (f0 (hg.get e1)) ?_))
    refine k9 (by show decide ((i:Int)<((y.len:Nat):Int))=false;rw[hyl];exact J6) ?_
    have:Q5 t.kids=acc:=by rw[he];simp[Q5]
    refine⟨?_,g1.trans hg⟩
    rw[hE,this];simp only[E0]
   | cons x r ihr =>
    intro i acc τ hd he hg
    obtain⟨hx,hlt,hd'⟩:=C5 hd
    have hsτ:=hs1.gr hg
    obtain⟨g,o,z,hb,hrd,hz⟩:=ah9 hsτ hx
    obtain⟨gn,on,hbn,hnm⟩:=aA4 hsτ hx
    rw[hb]at hbn;cases hbn
    have hmem:=F7 hx
    have hxT:=W4 hx
    have htr:Tr.totalRow t.kids+1<=t.total:=by obtain⟨n,k,e,d,kids⟩:=t;simp only[Tr.total,Tr.kids];omega
    have hxd:x.name.size<=x.total:=by obtain⟨n,k,e,d,kids⟩:=x;simp only[Tr.total,Tr.name];omega
    have hrl:=D9 List.length he
    rw[Q5]at hrl
    simp only[s8]at hrl
    have hpt:=ab5 x.name.data.toList
    rw[dl]at hpt
    have hel:=az9 x
    have e1':=hg.get e1
    have hrd':rdA 5 g (o+(i:Int).toNat * 5) τ=some (.agg ⟨O2 x z⟩):=by simpa using hrd
    refine hR _ _ _ _ (i6 (A7 (f0 e1') ?_))
    refine l3 (by show decide ((i:Int)<((y.len:Nat):Int))=true;rw[hyl];exact C8) ?_
    refine i6 (A7 (f0 e1') ?_)
    show j0 y.base _ _
    rw[hb]
    refine i6 (l5 ⟨by omega,by show(i:Int)<((y.len:Nat):Int);rw[hyl];omega⟩ (y8 hnm ?_))
    refine i6 (A7 (f0 e1') ?_)
    show j0 y.base _ _
    rw[hb]
    refine i6 (l5 ⟨by omega,by show(i:Int)<((y.len:Nat):Int);rw[hyl];omega⟩ (A3 hrd' ?_))
    unfold O2
    (refine k0 rfl ?_;try dsimp only)
    have hxn:x.name=⟨⟨x.name.data.toList⟩⟩:=by cases x.name;rfl
    rw[hxn]
    refine i7 (am5 _ x.name.data.toList (by simp only[s8];omega) (by rw[dl];omega) (I1 ?_))
    rw[<-hxn]
    refine F9 hrd' (F9 (f0 e1' (by rw[<-hb];rfl)) ?_)
    refine i7 (ih x hmem z hz (bv3 hm hmem) (by simp only[s8];omega) (by omega) (I1 ?_))
    rw[C7 (i:=i)]
    have:=ihr (i+1) (acc++(X0 x.name.data.toList++ab4 x)) τ hd' (by rw[he,Q5];simp only[E0]) hg
    simp only[E0]at this ⊢
    exact this
  have:=key t.kids 0 [] σ1 rfl rfl (Gr.refl _)
  rw[J1]at this
  exact this
theorem by9 (t:Tr) (y:Sl) {σ:H} (hs:O1 σ t.kids y) (hT:t.total<=9000000) {K:KH} (hK:K (.tuple ⟨[.string ⟨⟨(D1 t).1⟩⟩,.int .i64 (D1 t).2]⟩) σ):a8 62 [.agg ⟨O2 t y⟩] K σ:=by
 refine B7 _ hK (c62 _ _ _ _ _ ?_)
 clear hK
 unfold g62
 refine x0 ?_;intro b6 σ1 g1 e1 n1
 have hs1:=hs.gr g1
 have rd1:rdA 5 b6 0 σ1=some (.agg ⟨O2 t y⟩):=l7 e1
 refine A3 rd1 ?_
 unfold O2
 (refine k0 rfl ?_;try dsimp only)
 refine i7 (aW1 t y hs1 (by omega) (B6 ?_))
 unfold D1
 by_cases hc:t.check=0
 case neg =>
  rw[d9 hc]
  exact l3 (by simpa using hc) ⟨rfl,g1⟩
 rw[c0 (by simpa using hc)]
 refine k9 (by simp[hc]) ?_
 have hm:t.may=true:=(bu9 hc).2.2.1
 refine A3 rd1 ?_
 unfold O2
 (refine k0 rfl ?_;try dsimp only)
 refine i7 (am5 [] J8 (by decide) (by decide) (I1 ?_))
 refine F9 rd1 ?_
 have hel:=az9 t
 have hml:(X0 J8).length=11:=by decide +kernel
 refine i7 (bW7 t y (l:=[]++X0 J8) hs1 hm (by rw[T8];omega) (by omega) (I1 ?_))
 rw[T8]
 by_cases hb:(X0 J8++ab4 t).length>60000
 ·rw[d9 hb]
  exact l3 (by show decide (((((X0 J8++ab4 t).length:Nat):Int))>60000)=true;simp only[gt_iff_lt,z8];omega) ⟨rfl,g1⟩
 ·rw[c0 hb]
  exact k9 (by show decide (((((X0 J8++ab4 t).length:Nat):Int))>60000)=false;simp only[gt_iff_lt,C2];omega) ⟨rfl,g1⟩
def okR (r:I7):Prop:=r.lost=true->r.left=[]
theorem okR.take {r:I7} (h:okR r) (k:Nat):okR (r.take k).2:=by
 unfold I7.take
 split
 ·intro _;rfl
 ·rename_i hc
  intro hl
  have hl:r.lost=true:=hl
  rw[h hl]at hc
  simp at hc
theorem okR.num {r:I7} (h:okR r):okR r.num.2:=h.take _
theorem okR.text {r:I7} (h:okR r):okR r.text.2:=by
 unfold I7.text
 split
 ·exact h.num
 ·exact h.num.take _
theorem okR.num0 {r:I7} (h:okR r) (hl:r.num.2.lost=true):r.num.1=0:=by
 unfold I7.num I7.take at hl ⊢
 split
 ·rfl
 ·rename_i hc
  rw[c0 hc]at hl
  rw[h hl]at hc
  simp at hc
def bs4 (f:Nat):Prop := ∀ (r:I7) {σ:H} {b:Nat},ak0 σ b r->okR r->r.left.length<=1000000 -> ∀ {K:KH},
 (Q9 f r=none -> ∀n k e d (y:Sl) σ',Btn b σ σ'->K (.tuple ⟨[.agg ⟨[.string n,.int .i64 k,.bool e,.string d,.slice y.base y.len y.cap]⟩,.bool false]⟩) σ') ->
 (∀t r',Q9 f r=some (t,r') -> ∀y σ' τ',ak0 σ' b r'->Btn b σ σ'->Gr τ' σ'->O1 τ' t.kids y->(∀c,σ c≠none->τ' c=none)->K (.tuple ⟨[.agg ⟨O2 t y⟩,.bool true]⟩) σ') ->
 a8 91 [.pointer (some ⟨b,0,none⟩),.int .i64 ((f:Nat):Int)] K σ
theorem ak0.gr {σ σ':H} {b:Nat} {r:I7} (h:ak0 σ b r) (hg:Gr σ σ'):ak0 σ' b r:=hg.get h
theorem ak0.put {σ σ':H} {b c:Nat} {o:Obj} {r:I7} (h:ak0 σ b r) (p:L6 σ c o σ') (hc:c≠b):ak0 σ' b r:=p.get hc.symm h
theorem dh3 (n:Int) (h0:0<=n):IntKind.i64.wrap (Int.tmod n 1000)=Int.tmod n 1000:=by
 rw[Int.tmod_eq_emod_of_nonneg h0]
 exact n0 (by omega) (by omega)
theorem bs5 : ∀ (f:Nat) (r:I7) (t:Tr) (r':I7),Q9 f r=some (t,r')->r'.left.length<=r.left.length:=by
 have hf : ∀ (r:I7) (t:Tr) (r':I7),Z8 r=some (t,r')->r'.left.length<=r.left.length:=by
  intro r t r' h
  unfold Z8 at h
  split at h
  ·cases h
  ·split at h
   ·cases h
   ·cases h;exact F5 (P2 _) (B5 r)
 have hl : ∀ (r:I7) (t:Tr) (r':I7),ab6 r=some (t,r')->r'.left.length<=r.left.length:=by
  intro r t r' h
  unfold ab6 at h
  split at h
  ·cases h
  ·cases h;exact P2 r
 intro f
 induction f with
 | zero =>
  intro r t r' h
  unfold Q9 at h
  split at h
  ·exact F5 (hf _ _ _ h) (B5 r)
  ·split at h
   ·exact F5 (hl _ _ _ h) (B5 r)
   ·cases h
 | succ f ih =>
  intro r t r' h
  unfold Q9 at h
  split at h
  ·exact F5 (hf _ _ _ h) (B5 r)
  ·split at h
   ·exact F5 (hl _ _ _ h) (B5 r)
   ·split at h
    ·unfold al2 at h
     split at h
     ·cases h
     ·split at h
      ·cases h
      ·rename_i l r2 hk
       split at h
       ·cases h
       ·cases h
        exact F5 (aM0 _ ih _ _ _ _ hk) (F5 (B5 _) (B5 r))
    ·cases h
theorem bW8:sizeT Tryz.prog 4=some 1:=by kernel_rfl
def bb2 (f:Nat) (r:I7):Option (Tr×I7):=if Int.tmod r.num.1 1000==1 then Z8 r.num.2 else if Int.tmod r.num.1 1000==3 then ab6 r.num.2 else if Int.tmod r.num.1 1000==2 then(if f=0 then none else al2 (Q9 (f - 1)) r.num.2)else none
theorem aW2 (f:Nat) (r:I7):Q9 f r=bb2 f r:=by
 unfold bb2
 cases f with
 | zero=>unfold Q9;simp
 | succ f=>rw[Q9];rfl
theorem bs6 (f:Nat) (r:I7) (t:Tr) (r':I7) (h:Q9 f r=some (t,r')):r'.lost=false:=by
 rw[aW2]at h
 unfold bb2 at h
 split at h
 ·unfold Z8 at h
  split at h
  ·cases h
  ·split at h
   ·cases h
   ·rename_i hl;cases h;simpa using hl
 ·split at h
  ·unfold ab6 at h
   split at h
   ·cases h
   ·rename_i hl;cases h;simpa using hl
  ·split at h
   ·split at h
    ·cases h
    ·unfold al2 at h
     split at h
     ·cases h
     ·split at h
      ·cases h
      ·split at h
       ·cases h
       ·rename_i hl;cases h;simpa using hl
   ·cases h
theorem bI0 : ∀f:Nat,f<=100->bs4 f:=by
 have step : ∀f:Nat,f<=100->(∀g,f=g+1->bs4 g)->bs4 f:=by
  intro f hf100 ih r σ b h hok hl K hX hK
  rw[aW2]at hX hK
  refine c91 _ _ ?_
  unfold g91
  refine x0 ?_;intro b3 σ1 g1 e1 n1
  have hnl:=B5 r
  have hn0:0<=r.num.1:=(ae4 _).1
  have hn3:b3≠b:=(o0 h n1).symm
  refine i7 (aJ5 (h.gr g1) (by omega) fun σ2 h2 k2 => ?_)
  refine k0 rfl ?_
  try dsimp only
  refine l5 (by decide) ?_
  have e2:=k2 b3 _ hn3 e1
  have K2:Btn b σ σ2:=(Btn.of g1).trans k2
  refine x0 ?_;intro b5 σ3 g3 e3 n3
  have n5s:σ b5=none:=K2.none (by rw[h2];simp) n3
  have n35:b3≠b5:=o0 e2 n3
  have n5:b5≠b:=(o0 h2 n3).symm
  rw[dh3 _ hn0]
  refine w4 e3 I2 ?_
  intro σ4 p4
  have h4:ak0 σ4 b r.num.2:=(h2.gr g3).put p4 n5
  have v4:σ4 b3=some (.cells ⟨nd 0 false ⟨⟨[]⟩⟩ slN⟩ 75 (0,0)):=p4.get n35 (g3.get e2)
  have K4:Btn b σ σ4:=(K2.gr g3).putF p4 n5s
  have e4:σ4 b5=some (.cells ⟨nd (Int.tmod r.num.1 1000) false ⟨⟨[]⟩⟩ slN⟩ 75 (0,0)):=p4.same
  clear p4 e3 g3 e2 k2 h2 K2 n3
  unfold bb2 at hX hK
  generalize Int.tmod r.num.1 1000=kd at *
  refine E9 (f0 e4) ?_
  have hnl2:=B5 r.num.2
  by_cases k1:kd=1
  ·subst k1
   refine l3 rfl ?_
   rw[d9 (show((1:Int)==1)=true from rfl)]at hX hK
   refine i7 (aJ5 h4 (by omega) fun σ5 h5 k5 => ?_)
   refine k0 rfl ?_
   try dsimp only
   have e5:=k5 _ _ n5 e4
   refine w4 e5 bW8 ?_
   intro σ6 p6
   refine i7 (aB9 (h5.put p6 n5) (by omega) fun σ7 h7 k7=>I1 ?_)
   have e7:=k7 _ _ n5 p6.same
   refine w4 e7 M0 ?_
   intro σ8 p8
   have e8:σ8 b5=some (.cells ⟨nd 1 (r.num.2.num.1==1) ⟨⟨r.num.2.num.2.text.1⟩⟩ slN⟩ 75 (0,0)):=p8.same
   have v8:=p8.get n35 (k7 _ _ hn3 (p6.get n35 (k5 _ _ hn3 v4)))
   have h8:=h7.put p8 n5
   have K8:Btn b σ σ8:=(((K4.trans k5).putF p6 n5s).trans k7).putF p8 n5s
   refine A3 (l7 e8) ?_
   unfold nd
   (refine k0 rfl ?_;try dsimp only)
   unfold Z8 at hX hK
   refine G8 (fun hb => ?_) (fun hb => ?_)
   ·have hb:=E6 hb
    rw[c0 (show ¬r.num.2.num.1>1 by omega)]at hX hK
    refine i7 (bb1 h8 (y7 ?_))
    refine F9 (l7 e8) ?_
    refine w4 v8 I2 ?_
    intro σ9 p9
    refine A3 (l7 p9.same) ?_
    (refine k0 rfl ?_;try dsimp only)
    have K9:Btn b σ σ9:=K8.putF p9 n1
    cases hlost:r.num.2.num.2.text.2.lost with
    | true =>
     rw[hlost]at hX
     exact hX rfl _ _ _ _ slN σ9 K9
    | false =>
     rw[hlost]at hK
     exact hK _ _ rfl slN σ9 (fun _=>none) (h8.put p9 hn3) K9 (ah5 _) O1.nil (fun _ _=>rfl)
   ·have hb:=J0 hb
    rw[d9 (show r.num.2.num.1>1 by omega)]at hX
    refine w4 v8 I2 ?_
    intro σ9 p9
    refine A3 (l7 p9.same) ?_
    (refine k0 rfl ?_;try dsimp only)
    exact hX rfl _ _ _ _ slN σ9 (K8.putF p9 n1)
  have k1':(kd==1)=false:=by simpa using k1
  rw[k1',c0 (by decide)]at hX hK
  refine k9 k1' ?_
  by_cases k3:kd=3
  ·subst k3
   refine l3 rfl ?_
   rw[d9 (show((3:Int)==3)=true from rfl)]at hX hK
   refine i7 (aB9 h4 (by omega) fun σ7 h7 k7=>I1 ?_)
   have e7:=k7 _ _ n5 e4
   refine w4 e7 M0 ?_
   intro σ8 p8
   have e8:σ8 b5=some (.cells ⟨nd 3 false ⟨⟨r.num.2.text.1⟩⟩ slN⟩ 75 (0,0)):=p8.same
   have v8:=p8.get n35 (k7 _ _ hn3 v4)
   have h8:=h7.put p8 n5
   have K8:Btn b σ σ8:=(K4.trans k7).putF p8 n5s
   refine A3 (l7 e8) ?_
   unfold nd
   (refine k0 rfl ?_;try dsimp only)
   unfold ab6 at hX hK
   refine i7 (bb1 h8 (y7 ?_))
   refine F9 (l7 e8) ?_
   refine w4 v8 I2 ?_
   intro σ9 p9
   refine A3 (l7 p9.same) ?_
   (refine k0 rfl ?_;try dsimp only)
   have K9:Btn b σ σ9:=K8.putF p9 n1
   cases hlost:r.num.2.text.2.lost with
   | true =>
    rw[hlost]at hX
    exact hX rfl _ _ _ _ slN σ9 K9
   | false =>
    rw[hlost]at hK
    exact hK _ _ rfl slN σ9 (fun _=>none) (h8.put p9 hn3) K9 (ah5 _) O1.nil (fun _ _=>rfl)
  have k3':(kd==3)=false:=by simpa using k3
  rw[k3',c0 (by decide)]at hX hK
  refine k9 k3' ?_
  by_cases k2:kd=2
  ·subst k2
   refine l3 rfl ?_
   rw[d9 (show((2:Int)==2)=true from rfl)]at hX hK
   refine i7 (aJ5 h4 (by omega) fun σ5 h5 k5 => ?_)
   refine k0 rfl ?_
   try dsimp only
   have e5:=k5 _ _ n5 e4
   have v5:=k5 _ _ hn3 v4
   have K5:=K4.trans k5
   have hcn0:0<=r.num.2.num.1:=(ae4 _).1
   have hok2:okR r.num.2.num.2:=hok.num.num
   have hnl3:=B5 r.num.2
   have hlostN:r.num.2.num.2.lost=true->al2 (Q9 (f - 1)) r.num.2=none:=fun hl=>by
    have h0:=hok.num.num0 hl
    unfold al2
    rw[h0,c0 (by decide)]
    have e0:U2 (Q9 (f - 1)) (Int.toNat 0) r.num.2.num.2=some ([],r.num.2.num.2):=rfl
    rw[e0]
    dsimp only
    rw[hl];rfl
   clear h4 e4 v4 K4 k5
   refine S9 (fun j => ∀bad:Bool,(bad=true->(if f=0 then none else al2 (Q9 (f - 1)) r.num.2)=none)->(bad=false->f≠0 /\ ¬r.num.2.num.1>2000/\r.num.2.num.2.lost=false)->j (some ⟨b,0,none⟩) ((f:Nat):Int) (some ⟨b3,0,none⟩) (some ⟨b5,0,none⟩) r.num.2.num.1 bad σ5) ?_ ?_
   rotate_left
   ·intro j hj
    by_cases hf0:f=0
    ·refine l3 (by subst hf0;rfl) (hj true (fun _=>d9 hf0) (fun h=>by cases h))
    ·refine k9 (by simp only[M9,ne_eq];omega) ?_
     refine G8 (fun hb => ?_) (fun hb => ?_)
     ·have hb:=E6 hb
      refine hj true (fun _ => ?_) (fun h=>by cases h)
      rw[c0 hf0];unfold al2;rw[d9 (by omega)]
     ·have hb:=J0 hb
      refine i7 (bb1 h5 (y7 ?_))
      cases hlost:r.num.2.num.2.lost with
      | true=>exact hj true (fun _=>by rw[c0 hf0];exact hlostN hlost) (fun h=>by cases h)
      | false=>exact hj false (fun h=>by cases h) (fun _=>⟨hf0,by omega,hlost⟩)
   intro bad hb1 hb2
   cases bad with
   | true =>
    refine l3 rfl (i6 (A3 (l7 e5) ?_))
    unfold nd
    (refine k0 rfl ?_;try dsimp only)
    refine w4 v5 I2 ?_
    intro σ9 p9
    refine i6 (A3 (l7 p9.same) ?_)
    (refine k0 rfl ?_;try dsimp only)
    exact hX (hb1 rfl) _ _ _ _ slN σ9 (K5.putF p9 n1)
   | false =>
    obtain⟨hf0,hle,hlost⟩:=hb2 rfl
    rw[c0 hf0]at hX hK
    obtain⟨f',rfl⟩ : ∃f',f=f'+1:=⟨f - 1,by omega⟩
    have ih:=ih f' rfl
    rw[Nat.add_sub_cancel]at hX hK
    unfold al2 at hX hK
    rw[c0 hle]at hX hK
    refine k9 rfl (u5 ?_)
    intro R hR
    have sb:σ5 b≠none:=by rw[h5];simp
    have sb5:σ5 b5≠none:=by rw[e5];simp
    have sb3:σ5 b3≠none:=by rw[v5];simp
    have key : ∀ (q i:Nat) (rr:I7) (ts:List Tr) (σ' ρ:H) (z:Sl) (rows:List (List Value)),i+q=r.num.2.num.1.toNat->rows.length=i->ak0 σ' b rr->okR rr->rr.left.length<=r.left.length ->
     σ' b5=some (.cells ⟨nd 2 false ⟨⟨[]⟩⟩ z⟩ 75 (0,0))->D8 σ' 75 5 rows z->ad2 ρ ts rows->Gr ρ σ'->(∀c,σ5 c≠none->ρ c=none)->(∀g,z.base=some ⟨g,0,none⟩->ρ g=none/\σ5 g=none)->Kn b b5 σ5 σ' ->
     U2 (Q9 f') r.num.2.num.1.toNat r.num.2.num.2=(match U2 (Q9 f') q rr with | none=>none | some (l,r')=>some (ts++l,r'))->R (some ⟨b,0,none⟩) (((f'+1:Nat):Nat):Int) (some ⟨b3,0,none⟩) (some ⟨b5,0,none⟩) r.num.2.num.1 (i:Int) σ':=by
     intro q
     induction q with
     | zero =>
      intro i rr ts σ' ρ z rows hi hlen N hokr hle' hb hown hrt hg hρ hz hkp hkd
      refine hR _ _ _ _ _ _ _ (k9 (J6 (by omega)) ?_)
      refine i6 (A3 (l7 hb) ?_)
      unfold nd
      (refine k0 rfl ?_;try dsimp only)
      refine i7 (bb1 N (y7 ?_))
      refine F9 (l7 hb) ?_
      have v':=hkp b3 _ hn3 n35 v5
      refine w4 v' I2 ?_
      intro σ9 p9
      refine i6 (A3 (l7 p9.same) ?_)
      (refine k0 rfl ?_;try dsimp only)
      simp only[U2,J1]at hkd
      rw[hkd]at hX hK
      dsimp only at hX hK
      have KF:Btn b σ σ9:=fun c o hc ho=>p9.get (fun e=>by subst e;rw[n1]at ho;cases ho) (hkp c o hc (fun e=>by subst e;rw[n5s]at ho;cases ho) (K5 c o hc ho))
      cases hl9:rr.lost with
      | true =>
       rw[hl9]at hX
       exact hX rfl _ _ _ _ z σ9 KF
      | false =>
       rw[hl9]at hK
       have hg3:Gr ρ σ9:=hg.putF p9 (hρ _ sb3)
       obtain⟨τ',t1,t2,t3,t4⟩:=bh7 (hown.keep fun g o hgz ho=>p9.get (fun e=>by subst e;exact sb3 (hz _ hgz).2) ho) hrt hg3 fun g hgz=>(hz g hgz).1
       refine hK _ _ rfl z σ9 τ' (N.put p9 hn3) KF t2 t3 fun c hc => ?_
       have hc5:σ5 c≠none:=by
        cases ho:σ c with
        | none=>exact u9 ho hc
        | some o =>
         by_cases e:c=b
         ·subst e;exact sb
         ·rw[K5 c o e ho];simp
       exact t4 c (fun e=>hc5 (hz c e).2) (hρ c hc5)
     | succ q ihq =>
      intro i rr ts σ' ρ z rows hi hlen N hokr hle' hb hown hrt hg hρ hz hkp hkd
      have htl:=P2 rr
      refine hR _ _ _ _ _ _ _ (l3 (C8 (by omega)) ?_)
      refine i7 (aB9 N (by omega) fun σ3 h3 k3=>I1 ?_)
      rw[show U2 (Q9 f') (q+1) rr=(match Q9 f' rr.text.2 with
       | none=>none
       | some (t,r2)=>match U2 (Q9 f') q r2 with
        | none=>none
        | some (l,r3)=>some (t.named ⟨⟨rr.text.1⟩⟩::l,r3))from rfl]at hkd
      rw[n0 (x:=(((f'+1:Nat):Nat):Int) - 1) (by omega) (by omega),show(((f'+1:Nat):Nat):Int) - 1=((f':Nat):Int)from by omega]
      refine i7 (ih rr.text.2 h3 hokr.text (by omega) ?_ ?_)
      ·intro hnone n k e d y σ4 k4
       rw[hnone]at hkd
       refine k0 rfl ?_
       try dsimp only
       refine x0 ?_;intro b73 τ1 u1 f1 m1
       refine w4 f1 I2 ?_
       intro τ2 q2
       have hb4:=k4 _ _ n5 (k3 _ _ n5 hb)
       have hv4:=k4 _ _ hn3 (k3 _ _ hn3 (hkp b3 _ hn3 n35 v5))
       have gg:=u1.putF q2 m1
       refine l3 rfl (i6 (A3 (l7 ((Gr.refl σ4).trans gg |>.get hb4)) ?_))
       unfold nd
       (refine k0 rfl ?_;try dsimp only)
       refine w4 (gg.get hv4) I2 ?_
       intro σ9 p9
       refine i6 (A3 (l7 p9.same) ?_)
       (refine k0 rfl ?_;try dsimp only)
       rw[hkd]at hX
       refine hX rfl _ _ _ _ z σ9 fun c o hc ho=>p9.get (fun e=>by subst e;rw[n1]at ho;cases ho) (gg.get (k4 c o hc (k3 c o hc (hkp c o hc (fun e=>by subst e;rw[n5s]at ho;cases ho) (K5 c o hc ho)))))
      intro t r4 hsome y σ4 τ4 N4 k4 g4 s4 f4
      have hl4:=bs5 f' _ _ _ hsome
      have hlo4:=bs6 f' _ _ _ hsome
      rw[hsome]at hkd
      unfold O2
      refine k0 rfl ?_
      try dsimp only
      refine x0 ?_;intro b73 σA gA eA mA
      refine w4 eA I2 ?_
      intro σ6 p6
      refine k9 rfl ?_
      refine w4 p6.same M0 ?_
      intro σ7 p7
      have k13 : ∀c o,c≠b->σ' c=some o->σ4 c=some o:=fun c o c1 ho=>k4 c o c1 (k3 c o c1 ho)
      have g47:Gr σ4 σ7:=(gA.putF p6 mA).putF p7 mA
      have b4:=k13 b5 _ n5 hb
      refine i6 (A7 (f0 (g47.get b4)) ?_)
      refine A3 (l7 p7.same) ?_
      (refine k0 rfl ?_;try dsimp only)
      refine x0 ?_;intro b96 σ8 g8 e8 m8
      have g48:Gr σ4 σ8:=g47.trans g8
      have hgb : ∀g,z.base=some ⟨g,0,none⟩->g≠b/\g≠b5:=fun g hgz=>⟨fun e=>by subst e;exact sb (hz _ hgz).2,fun e=>by subst e;exact sb5 (hz _ hgz).2⟩
      have own8:D8 σ8 75 5 rows z:=hown.keep fun g o hgz ho=>g48.get (k13 g o (hgb g hgz).1 ho)
      obtain⟨inf,zz,i1,i2,i3,i4,i5⟩:=aV0
      have hnd:O2 (t.named ⟨⟨rr.text.1⟩⟩) y=[.string ⟨⟨rr.text.1⟩⟩,.int .i64 t.kind,.bool t.exec,.string t.data,.slice y.base y.len y.cap]:=by obtain⟨tn,tkd,tex,td,tks⟩:=t;rfl
      have hone1 : ∀u∈O2 (t.named ⟨⟨rr.text.1⟩⟩) y,u.oneCell'=true:=by
       rw[hnd]
       intro u hu
       simp only[A5,List.mem_nil_iff,or_false]at hu
       rcases hu with rfl | rfl | rfl | rfl | rfl<;>rfl
      have e8':σ8 b96=some (.cells ⟨O2 (t.named ⟨⟨rr.text.1⟩⟩) y⟩ 75 (0,0)):=by rw[hnd];exact e8
      refine az5 aU9 i1 i2 i3 rfl i5 (by decide) own8 e8' rfl hone1 (by omega) i4 ?_
      intro z' σ9 own9 hcase
      obtain⟨g',cur,z1,z2,z3',z4',z5'⟩:=own9.last (by decide)
      have gρ3:Gr ρ σ4:=P0 fun c o hc=>k13 c o (fun e=>by subst e;rw[hρ _ sb]at hc;cases hc) (hg.get hc)
      have hσ3 : ∀c,σ' c≠none->c≠b->σ3 c≠none:=fun c hc cw=>by
       cases ho:σ' c with
       | none=>exact u9 ho hc
       | some o=>rw[k3 c o cw ho];simp
      have g'ρ:ρ g'=none/\τ4 g'=none/\σ5 g'=none/\Gr ρ σ9/\Gr τ4 σ9/\(∀c o,c≠g'->σ8 c=some o->σ9 c=some o):=by
       rcases hcase with⟨g,o,hz1,hz2,p9⟩ | ⟨g,hz1,hf9,g9⟩
       ·have hgg:g=g':=by rw[hz2,hz1]at z1;cases z1;rfl
        subst hgg
        obtain⟨q1,q2⟩:=hz g hz1
        have ht4:τ4 g=none:=f4 g (hσ3 g (hown.has hz1) (hgb g hz1).1)
        exact⟨q1,ht4,q2,(gρ3.trans g48).putF p9 q1,(g4.trans g48).putF p9 ht4,fun c o hc ho=>p9.get hc ho⟩
       ·have hgg:g=g':=by rw[hz1]at z1;cases z1;rfl
        subst hgg
        have h4n:=C3 g48 hf9
        refine⟨C3 gρ3 h4n,C3 g4 h4n,?_,(gρ3.trans g48).trans g9,(g4.trans g48).trans g9,fun c o _ ho=>g9.get ho⟩
        cases hs:σ5 g with
        | none=>rfl
        | some o =>
         by_cases e1:g=b
         ·subst e1;rw[N4]at h4n;cases h4n
         ·by_cases e2:g=b5
          ·subst e2;rw[b4]at h4n;cases h4n
          ·rw[k13 g o e1 (hkp g o e1 e2 hs)]at h4n;cases h4n
      obtain⟨q1,q2,q3,q4,q5,q6⟩:=g'ρ
      have gb:b≠g':=fun e=>by subst e;exact sb q3
      have gb5:b5≠g':=fun e=>by subst e;exact sb5 q3
      have b9:=q6 b5 _ gb5 (g48.get b4)
      refine i6 (w4 b9 aN1 ?_)
      intro σB pB
      have tb5:τ4 b5=none:=f4 _ (hσ3 _ (by rw[hb];simp) n5)
      have hdis : ∀b',ρ b'≠none->τ4 b'=none:=fun b' hb'=>by
       cases hr:ρ b' with
       | none=>exact u9 hr hb'
       | some o=>exact f4 b' (hσ3 b' (by rw[hg.get hr];simp) fun e=>by subst e;rw[hρ _ sb]at hr;cases hr)
      rw[bi3 (by omega)]
      refine ihq (i+1) r4 (ts++[t.named ⟨⟨rr.text.1⟩⟩]) σB (ρ.union τ4) z' (rows++[O2 (t.named ⟨⟨rr.text.1⟩⟩) y]) (by omega) (by rw[s8,hlen];rfl) ((show ak0 σ9 b r4 from q6 b _ gb (g48.get N4)).put pB n5) (fun h=>by rw[hlo4]at h;cases h) (by omega) pB.same ?_ ?_ ?_ ?_ ?_ ?_ ?_
      ·exact own9.put pB (by rw[z1];intro e;cases e;exact gb5 rfl)
      ·exact(hrt.gr (bu8 _ _)).snoc (ac0.2 ⟨y,rfl,by rw[aM2];exact s4.gr (bd8 hdis)⟩)
      ·exact bd7 (q4.putF pB (hρ _ sb5)) (q5.putF pB tb5)
      ·intro c hc
       refine ao4 (hρ c hc) ?_
       by_cases e1:c=b
       ·subst e1;exact f4 _ (by rw[h3];simp)
       ·by_cases e2:c=b5
        ·subst e2;exact tb5
        ·cases ho:σ5 c with
         | none=>exact u9 ho hc
         | some o=>exact f4 _ (hσ3 _ (by rw[hkp c o e1 e2 ho];simp) e1)
      ·intro g hgz
       rw[z1]at hgz;cases hgz
       exact⟨ao4 q1 q2,q3⟩
      ·intro c o c1 c2 ho
       exact pB.get c2 (q6 c o (fun e=>by subst e;rw[q3]at ho;cases ho) (g48.get (k13 c o c1 (hkp c o c1 c2 ho))))
      ·rw[hkd]
       dsimp only
       cases U2 (Q9 f') q r4 with
       | none=>rfl
       | some p=>obtain⟨l,r5⟩:=p;simp
    exact key r.num.2.num.1.toNat 0 r.num.2.num.2 [] σ5 (fun _=>none) ⟨none,0,0⟩ [] (by omega) rfl h5 hok2 (by omega) e5 (D8.nil _ _ _) trivial (ah5 _) (fun _ _=>rfl) (fun g h=>by cases h) (fun c o c1 c2 ho=>ho) (by cases U2 (Q9 f') r.num.2.num.1.toNat r.num.2.num.2 with | none=>rfl | some p=>obtain⟨l,r5⟩:=p;rfl)
  have k2':(kd==2)=false:=by simpa using k2
  rw[k2',c0 (by decide)]at hX
  refine k9 k2' (A3 (l7 e4) ?_)
  unfold nd
  (refine k0 rfl ?_;try dsimp only)
  refine w4 v4 I2 ?_
  intro σ9 p9
  refine A3 (l7 p9.same) ?_
  (refine k0 rfl ?_;try dsimp only)
  exact hX rfl _ _ _ _ slN σ9 (K4.putF p9 n1)
 intro f
 induction f with
 | zero=>intro h;exact step 0 h (fun g e=>by omega)
 | succ f ih=>intro h;exact step (f+1) h (fun g e=>(show f=g by omega) ▸ ih (by omega))
def cj1 (s:List UInt8) (T:List UInt8×I7):Option Tr:=match Q9 13 T.2 with
 | none=>none
 | some (t,r)=>if(T.1==J8)&&(!r.lost&&r.left.isEmpty&&((D1 t).2==0&&(D1 t).1==s))then some t else none
theorem bI1 (s:List UInt8):ao9 s=cj1 s (I7.mk s false).text:=by
 unfold ao9 cj1
 dsimp only
 generalize (I7.mk s false).text=T
 by_cases h:T.1=J8
 ·rw[d9 h,h,beq_self_eq_true]
  cases Q9 13 T.2 with
  | none=>rfl
  | some p=>obtain⟨t,r⟩:=p;simp
 ·rw[c0 h]
  have:(T.1==J8)=false:=by simpa using h
  rw[this]
  cases Q9 13 T.2 with
  | none=>rfl
  | some p=>obtain⟨t,r⟩:=p;simp
def bI2:Option Tr->Tr×Int
 | some t=>(t,0)
 | none=>(.mk ⟨⟨[]⟩⟩ 0 false ⟨⟨[]⟩⟩ [],4)
theorem bz0 (s:List UInt8) (hs:s.length<=1000000) {σ:H} {K:KH} (hK:∀y σ',Gr σ σ'->O1 σ' (T9 s).1.kids y->K (.tuple ⟨[.agg ⟨O2 (T9 s).1 y⟩,.int .i64 (T9 s).2]⟩) σ'):a8 60 [.string ⟨⟨s⟩⟩] K σ:=by
 refine c60 _ ?_
 unfold g60
 have hdr:T9 s=bI2 (ao9 s):=by rw[bp7];unfold T9 bI2;cases ab7 s<;>rfl
 rw[hdr]at hK
 clear hdr
 rw[bI1]at hK
 refine x0 ?_;intro b2 σ1 g1 e1 n1
 refine x0 ?_;intro b3 σ2 g2 e2 n2
 have n23:b2≠b3:=o0 e1 n2
 have h2:ak0 σ2 b3 ⟨s,false⟩:=e2
 have n3s:σ b3=none:=C3 g1 n2
 have htl:=P2 ⟨s,false⟩
 have htl:(I7.mk s false).text.2.left.length<=s.length:=htl
 have hok0:okR ⟨s,false⟩:=fun h=>by cases h
 refine i7 (aB9 h2 (by show s.length<=_;omega) fun σ3 h3 k3=>I1 ?_)
 have e3:=k3 _ _ n23 (g2.get e1)
 have G3:Btn b3 σ σ3:=((Btn.of g1).gr g2).trans k3
 have hok1:=hok0.text
 generalize (I7.mk s false).text=T at *
 have bad : ∀ (σ':H),bI2 none=bI2 none->Btn b3 σ σ'->σ' b2=some (.cells ⟨nd 0 false ⟨⟨[]⟩⟩ slN⟩ 75 (0,0))->True:=fun _ _ _ _=>trivial
 clear bad
 have gB : ∀σ':H,Btn b3 σ σ'->Gr σ σ':=fun σ' h=>P0 fun c o ho=>h c o (fun e=>by subst e;rw[n3s]at ho;cases ho) ho
 refine i7 (bI0 13 (by decide) T.2 h3 hok1 (by omega) ?_ ?_)
 ·intro hnone n k e d y σ4 k4
  unfold cj1 at hK
  rw[hnone]at hK
  have hK : ∀ (y:Sl) σ',Gr σ σ'->O1 σ' [] y->K (.tuple ⟨[.agg ⟨O2 (Tr.mk ⟨⟨[]⟩⟩ 0 false ⟨⟨[]⟩⟩ []) y⟩,.int .i64 4]⟩) σ':=hK
  refine k0 rfl ?_
  try dsimp only
  refine x0 ?_;intro b11 σ5 g5 e5 n5
  refine w4 e5 I2 ?_
  intro σ6 p6
  have e4:=k4 _ _ n23 e3
  have e6:=p6.get (o0 e4 n5) (g5.get e4)
  have K6:Btn b3 σ σ6:=(G3.trans k4).gr (g5.putF p6 n5)
  refine S9 (fun j=>j ⟨⟨s⟩⟩ (some ⟨b2,0,none⟩) (some ⟨b11,0,none⟩) true σ6) ?_ ?_
  ·refine l3 rfl (w4 e6 I2 ?_)
   intro σ7 p7
   refine i6 (A3 (l7 p7.same) ?_)
   (refine k0 rfl ?_;try dsimp only)
   exact hK slN σ7 (gB _ (K6.putF p7 n1)) O1.nil
  ·intro j hj
   refine G8 (fun _=>hj) (fun _ => ?_)
   exact l3 rfl hj
 intro t r' hsome y σ4 τ4 h4 k4 g4 s4 f4
 unfold cj1 at hK
 rw[hsome]at hK
 dsimp only at hK
 have htot:t.total<=1000000:=by have:=bg9 _ _ _ _ hsome;omega
 unfold O2
 refine k0 rfl ?_
 try dsimp only
 refine x0 ?_;intro b11 σ5 g5 e5 n5
 refine w4 e5 I2 ?_
 intro σ6 p6
 have e4:=k4 _ _ n23 e3
 have n2b:b2≠b11:=o0 e4 n5
 have e6:=p6.get n2b (g5.get e4)
 have u6:σ6 b11=some (.cells ⟨O2 t y⟩ 75 (0,0)):=p6.same
 have g46:=g5.putF p6 n5
 have K6:Btn b3 σ σ6:=(G3.trans k4).gr g46
 have h6:ak0 σ6 b3 r':=h4.gr g46
 have s6:O1 σ6 t.kids y:=(s4.gr g4).gr g46
 have n11:σ b11=none:=(G3.trans k4).none (by rw[h4];simp) n5
 -- it is none
 have bad:bI2 none=bI2 none->(((T.1==J8)&&(!r'.lost&&r'.left.isEmpty&&((D1 t).2==0&&(D1 t).1==s)))=false)->t8 75 (.pointer (some ⟨b2,0,none⟩)) (.agg ⟨[.string (⟨⟨[]⟩⟩:ByteArray),.int .i64 0,.bool false,.string (⟨⟨[]⟩⟩:ByteArray),.slice none 0 0]⟩) (j0 (some ⟨b2,0,none⟩) (fun(b17 o18:Nat) =>
  l4 (rdA 5 b17 o18) (.one (.agg [.str,(.int .i64),.bool,.str,.slc])) (fun(r19:ByteArray) (r20:Int) (r21:Bool) (r22:ByteArray) (r23:Sl) =>
   K (.tuple ⟨[.agg ⟨[.string r19,.int .i64 r20,.bool r21,.string r22,.slice r23.base r23.len r23.cap]⟩,.int .i64 4]⟩)))) σ6:=by
  intro _ hf
  rw[hf]at hK
  have hK : ∀ (y:Sl) σ',Gr σ σ'->O1 σ' [] y->K (.tuple ⟨[.agg ⟨O2 (Tr.mk ⟨⟨[]⟩⟩ 0 false ⟨⟨[]⟩⟩ []) y⟩,.int .i64 4]⟩) σ':=hK
  refine w4 e6 I2 ?_
  intro σ7 p7
  refine i6 (A3 (l7 p7.same) ?_)
  (refine k0 rfl ?_;try dsimp only)
  exact hK slN σ7 (gB _ (K6.putF p7 n1)) O1.nil
 refine S9 (fun j => ∀bb:Bool,(bb = !((T.1==J8)&&(!r'.lost&&r'.left.isEmpty)))->j ⟨⟨s⟩⟩ (some ⟨b2,0,none⟩) (some ⟨b11,0,none⟩) bb σ6) ?_ ?_
 rotate_left
 ·intro j hj
  rw[K1]
  refine G8 (fun hb=>hj true ?_) (fun hb => ?_)
  ·have hb:(T.1==J8)=false:=by simpa[J8]using hb
   rw[hb];rfl
  ·have hb:(T.1==J8)=true:=by simpa[J8]using hb
   refine k9 rfl (i7 (ci6 h6 (y7 (hj _ ?_))))
   rw[hb,C4]
 intro bb hbb
 cases bb with
 | true =>
  refine l3 rfl (bad rfl ?_)
  have:((T.1==J8)&&(!r'.lost&&r'.left.isEmpty))=false:=by
   cases hX:((T.1==J8)&&(!r'.lost&&r'.left.isEmpty)) with
   | false=>rfl
   | true=>rw[hX]at hbb;cases hbb
  rw[<-Bool.and_assoc,this,H4]
 | false =>
  have hg:((T.1==J8)&&(!r'.lost&&r'.left.isEmpty))=true:=by
   cases hX:((T.1==J8)&&(!r'.lost&&r'.left.isEmpty)) with
   | true=>rfl
   | false=>rw[hX]at hbb;cases hbb
  refine k9 rfl (i6 (A3 (l7 u6) ?_))
  unfold O2
  (refine k0 rfl ?_;try dsimp only)
  refine i7 (by9 t y s6 (by omega) ?_)
  refine k0 rfl ?_
  try dsimp only
  refine S9 (fun j => ∀cc:Bool,(cc = !((D1 t).2==0&&(D1 t).1==s))->j (some ⟨b2,0,none⟩) (some ⟨b11,0,none⟩) cc σ6) ?_ ?_
  rotate_left
  ·intro j hj
   refine G8 (fun hb=>hj true ?_) (fun hb=>hj _ ?_)
   ·have hb:((D1 t).2==0)=false:=by simpa using hb
    rw[hb];rfl
   ·have hb:((D1 t).2==0)=true:=by simpa using hb
    rw[hb,K1,C4]
  intro cc hcc
  cases cc with
  | true =>
   refine l3 rfl (bad rfl ?_)
   have:((D1 t).2==0&&(D1 t).1==s)=false:=by
    cases hX:((D1 t).2==0&&(D1 t).1==s) with
    | false=>rfl
    | true=>rw[hX]at hcc;cases hcc
   rw[<-Bool.and_assoc,this,Bool.and_false]
  | false =>
   have h2:((D1 t).2==0&&(D1 t).1==s)=true:=by
    cases hX:((D1 t).2==0&&(D1 t).1==s) with
    | true=>rfl
    | false=>rw[hX]at hcc;cases hcc
   have hall:((T.1==J8)&&(!r'.lost&&r'.left.isEmpty&&((D1 t).2==0&&(D1 t).1==s)))=true:=by
    rw[<-Bool.and_assoc,hg,h2];rfl
   rw[hall]at hK
   refine k9 rfl (i6 (A3 (l7 u6) ?_))
   unfold O2
   (refine k0 rfl ?_;try dsimp only)
   refine w4 e6 I2 ?_
   intro σ7 p7
   refine i6 (A3 (l7 p7.same) ?_)
   (refine k0 rfl ?_;try dsimp only)
   have hK : ∀ (y:Sl) σ',Gr σ σ'->O1 σ' t.kids y->K (.tuple ⟨[.agg ⟨O2 t y⟩,.int .i64 0]⟩) σ':=hK
   refine hK y σ7 (gB _ (K6.putF p7 n1)) (s4.gr ((g4.trans g46).putF p7 (f4 b2 (by rw[e3];simp))))
section
variable {σ : H} {K : KH}
theorem bs7 {d:DvP} {x y:Sl} (hd:aI0 σ d x y) (hz:aR7 d) (hK:K (.tuple ⟨[.string ⟨⟨if d.may then d.text else []⟩⟩,.int .i64 (if d.may then 0 else 2)]⟩) σ):a8 155 [.agg ⟨drC d.name x y d.script⟩] K σ:=by
 refine B7 _ hK (dx1 _ _ _ _ ?_)
 clear hK
 unfold cN3
 refine x0 ?_;intro b5 σ1 g1 e1 n1
 refine A3 (l7 e1 (by rfl)) (k0 rfl ?_)
 dsimp only
 refine i7 (bW2 (hd.gr g1) hz (y7 ?_))
 cases hm:d.may with
 | false=>exact l3 rfl ⟨rfl,g1⟩
 | true =>
  refine k9 rfl ?_
  have hq:d.inputs.length<=8/\d.env.length<=16/\d.script.size<=4000:=by
   unfold DvP.may at hm
   simp only[A8,z8]at hm
   exact⟨hm.2.1.1,hm.2.1.2,hm.2.2.2.2.2⟩
  obtain⟨q1,q2,q3⟩:=hq
  have hT:=aB6 hz q1 q2 q3
  have hzn:=hz.name
  have hd1:=hd.gr g1
  have hxl:x.len=d.inputs.length:=ac4 hd.1
  have hyl:y.len=d.env.length:=by rw[hd.2.1,R0]
  have z1:(⟨⟨[100,114,118,32]⟩⟩:ByteArray).size=4:=rfl
  have z2:(⟨⟨[10]⟩⟩:ByteArray).size=1:=rfl
  have z3:(⟨⟨[105,110,32]⟩⟩:ByteArray).size=3:=rfl
  have z4:(⟨⟨[101,110,118,32]⟩⟩:ByteArray).size=4:=rfl
  have z5:(⟨⟨[32]⟩⟩:ByteArray).size=1:=rfl
  have z6:(⟨⟨[114,117,110,10]⟩⟩:ByteArray).size=4:=rfl
  refine y8 (f0 e1 (by rfl)) (l5 (by omega) (l5 (by rw[V8];omega) ?_))
  refine u5 ?_
  intro R hR
  have key : ∀ (r:List ByteArray) (i:Nat) (s:ByteArray),d.inputs.drop i=r->s.data.toList=[100,114,118,32]++d.name.data.toList++[10]++(d.inputs.take i).flatMap inL->R (some ⟨b5,0,none⟩) s (i:Int) σ1:=by
   intro r
   induction r with
   | cons p r ih =>
    intro i s hdr he
    obtain⟨t1,t2,t3⟩:=C5 hdr
    obtain⟨g,o,a1,a2,a3⟩:=U7 hd1.1 t1
    have hal:((d.inputs.take i).flatMap inL).length<=8 * 1000004:=am4 inL 1000004 8 d.inputs i (fun a ha=>by have:=hz.inp a ha;show([105,110,32]++a.data.toList++[10]).length<=_;rw[s8,s8,<- I5];show 3+_+1<=_;omega) q1
    have hp:=hz.inp p (F7 t1)
    have hsz:s.size<=10000000:=by rw[I5,he];simp only[s8,<- I5,y5,H3];omega
    refine hR _ _ _ _ (i6 (A7 (f0 e1 (by rfl)) (l3 (by simp only[z8];omega) (l5 (by omega) (i6 (A7 (f0 e1 (by rfl)) ?_))))))
    rw[a1]
    refine i6 (l5 (L1 x.len) (y8 a3 (l5 (by rw[V8];omega) (l5 (by rw[V8,V8];omega) ?_))))
    rw[C7 (i:=i)]
    refine ih (i+1) _ t3 ?_
    rw[O0,O0,O0,he,Q3,t1,aa3]
    simp[inL]
   | nil =>
    intro i s hdr he
    have hge:d.inputs.length<=i:=by simpa using hdr
    rw[H7 hge]at he
    refine hR _ _ _ _ (i6 (A7 (f0 e1 (by rfl)) (k9 (by simp only[C2];omega) ?_)))
    refine u5 ?_
    intro R2 hR2
    have hil:(d.inputs.flatMap inL).length<=70000000:=by
     have:=hT;rw[DvP.text_eq]at this;simp only[s8]at this;omega
    have key2 : ∀ (r:List (ByteArray×ByteArray)) (i:Nat) (s:ByteArray),d.env.drop i=r->s.data.toList=[100,114,118,32]++d.name.data.toList++[10]++d.inputs.flatMap inL++(d.env.take i).flatMap aq5->R2 (some ⟨b5,0,none⟩) s (i:Int) σ1:=by
     intro r
     induction r with
     | cons v r ih =>
      intro i s hdr he
      obtain⟨t1,t2,t3⟩:=C5 hdr
      obtain⟨g,o,a1,a2,a3,a4⟩:=as9 hd1.2 t1
      have a5:s5 g (o+i * 2+1) σ1=some (.string v.2):=by
       obtain⟨g',o',h1,h2,h3⟩:=hd1.2.rdA (i:=i) (r:=[.string v.1,.string v.2]) (by unfold T0;rw[O4,t1];rfl) (by decide)
       rw[a1]at h1;cases h1
       exact h3 1 _ rfl
      obtain⟨w1,w2⟩:=hz.env v (F7 t1)
      have hal:((d.env.take i).flatMap aq5).length<=16 * 3000007:=am4 aq5 3000007 16 d.env i (fun v hv=>by
       obtain⟨p1,p2⟩:=hz.env v hv
       have:=at0 v.2.data.toList
       rw[<-I5]at this
       unfold aq5
       simp only[s8,<- I5,y5,H3];omega) q2
      have hsz:s.size<=200000000:=by rw[I5,he];simp only[s8,<- I5,y5,H3];omega
      have hhl:=at0 v.2.data.toList
      have hl2:v.2.data.toList.length=v.2.size:=dl _
      have hhs:(⟨⟨aw1 v.2.data.toList⟩⟩:ByteArray).size=(aw1 v.2.data.toList).length:=rfl
      refine hR2 _ _ _ _ (i6 (A7 (f0 e1 (by rfl)) (l3 (by simp only[z8];omega) (l5 (by omega) (i6 (A7 (f0 e1 (by rfl)) ?_))))))
      rw[a1]
      refine i6 (l5 (L1 y.len) (y8 a4 (l5 (by rw[V8];omega) (l5 (by rw[V8,V8];omega) (i6 (A7 (f0 e1 (by rfl)) ?_))))))
      rw[a1]
      refine i6 (l5 (L1 y.len) (y8 a5 ?_))
      have hE:v.2=⟨⟨v.2.data.toList⟩⟩:=(K0 _).symm
      have hcall : ∀ {F:ByteArray->H->Prop},F ⟨⟨aw1 v.2.data.toList⟩⟩ σ1->d8 202 [.string v.2] kS F σ1:=by
       intro F hF
       have:=i7 (t:=kS) (F:=F) (bW1 (σ:=σ1) v.2.data.toList (by omega) (I1 hF))
       rw[<-hE]at this
       exact this
      refine hcall (F9 a4 (F9 (f0 e1 (by show some (Value.slice y.base y.len y.cap)=_;rw[a1])) (l5 (by simp only[V8];omega) (l5 (by simp only[V8];omega) ?_))))
      rw[C7 (i:=i)]
      refine ih (i+1) _ t3 ?_
      rw[O0,O0,O0,O0,O0,he,Q3,t1,aa3]
      simp[aq5]
     | nil =>
      intro i s hdr he
      have hge:d.env.length<=i:=by simpa using hdr
      rw[H7 hge]at he
      have hTl:=hT
      rw[DvP.text_eq]at hTl
      have hsz:s.size<=200000000:=by rw[I5,he];simp only[s8,y5,H3]at hTl ⊢;omega
      refine hR2 _ _ _ _ (i6 (A7 (f0 e1 (by rfl)) (k9 (by simp only[C2];omega) (l5 (by omega) (i6 (y8 (f0 e1 (by rfl)) (l5 (by rw[V8];omega) ⟨?_,g1⟩)))))))
      rw[d9 rfl,d9 rfl,DvP.text_eq]
      congr 3
      refine D9 Value.string (O3 ?_)
      rw[O0,O0,he]
    exact key2 d.env 0 s rfl (by simpa using he)
  exact key d.inputs 0 _ rfl (by rw[O0,O0];simp)
theorem bI3 {d:DvP} {x y:Sl} (hd:aI0 σ d x y) (hz:aR7 d) (hK:K (.tuple ⟨[.string ⟨⟨d.path.1⟩⟩,.int .i64 d.path.2]⟩) σ):a8 101 [.agg ⟨drC d.name x y d.script⟩] K σ:=by
 refine B7 _ hK (dt1 _ _ _ _ ?_)
 clear hK
 unfold cE3
 refine x0 ?_;intro b5 σ1 g1 e1 n1
 refine A3 (l7 e1 (by rfl)) (k0 rfl ?_)
 dsimp only
 refine i7 (bs7 (hd.gr g1) hz (k0 rfl ?_))
 unfold DvP.path
 cases hm:d.may with
 | false=>exact l3 rfl ⟨rfl,g1⟩
 | true =>
  simp only[if_true]
  have hq:d.inputs.length<=8/\d.env.length<=16/\d.script.size<=4000:=by
   unfold DvP.may at hm
   simp only[A8,z8]at hm
   exact⟨hm.2.1.1,hm.2.1.2,hm.2.2.2.2.2⟩
  obtain⟨q1,q2,q3⟩:=hq
  have hT:=aB6 hz q1 q2 q3
  have hzn:=hz.name
  refine k9 rfl (l5 (by show 4+d.text.length<=_;omega) ?_)
  refine y8 (f0 e1 (by rfl)) ?_
  have eC:(⟨⟨[100,114,118,58]⟩⟩:ByteArray)++⟨⟨d.text⟩⟩=⟨⟨[100,114,118,58]++d.text⟩⟩:=O3 (by rw[O0])
  rw[eC]
  refine i7 (bj8 ([100,114,118,58]++d.text) (by rw[s8];show 4+_<=_;omega) (I1 (F9 (f0 e1 (by rfl)) ?_)))
  have hE:d.name=⟨⟨d.name.data.toList⟩⟩:=(K0 _).symm
  have hnl:d.name.data.toList.length=d.name.size:=dl _
  rw[hE]
  refine i7 (bj7 (ar8 ([100,114,118,58]++d.text)) d.name.data.toList (F5 (au5 _) (by decide)) (by omega) (k0 rfl ⟨?_,g1⟩))
  rfl
theorem bs8 (nar name:List UInt8) (h1:nar.length<=1000000) (h2:name.length<=1000000) (hK:∀σ',Gr σ σ'->K (.tuple ⟨[.string ⟨⟨(U9 nar name).1⟩⟩,.int .i64 (U9 nar name).2]⟩) σ'):a8 99 [.string ⟨⟨nar⟩⟩,.string ⟨⟨name⟩⟩] K σ:=by
 refine c99 _ _ ?_
 unfold g99
 unfold U9 at hK
 refine i7 (am6 name (by omega) (B6 ?_))
 cases hn:L3 name != 0 with
 | true=>rw[d9 hn]at hK;exact l3 rfl (hK σ (Gr.refl _))
 | false =>
  rw[c0 (by rw[hn];decide)]at hK
  refine k9 rfl (i7 (bz0 nar h1 fun y σ1 g1 hs=>k0 rfl ?_))
  try dsimp only
  cases hd:(T9 nar).2 != 0 with
  | true=>rw[d9 hd]at hK;exact l3 rfl (hK σ1 g1)
  | false =>
   rw[c0 (by rw[hd];decide)]at hK
   refine k9 rfl ?_
   have l1:=ab5 nar
   have l2:=ab5 name
   refine i7 (am5 [97,100,100,58] nar (by decide) (by omega) (I1 ?_))
   refine i7 (am5 ([97,100,100,58]++X0 nar) name (by rw[s8];simp only[y5,H3];omega) (by omega) (I1 ?_))
   refine i7 (bj8 _ (by simp only[s8,y5,H3];omega) (I1 ?_))
   refine i7 (bj7 _ name (F5 (au5 _) (by decide)) (by omega) (k0 rfl ?_))
   exact hK σ1 g1
end
theorem bI4:ElT Tryz.prog 36 5 1:=ax7 (by kernel_rfl) (by decide) (by kernel_rfl)
theorem cx4 : ∀a:Nat,a<16 -> ∀b:Nat,b<16->IntKind.u8.wrap (IntKind.i64.wrap ((IntKind.i64.wrap (16 * ((a:Nat):Int)))+((b:Nat):Int)))=(((UInt8.ofNat (16 * a+b)).toNat:Nat):Int):=by decide +kernel
def aR9 (c:UInt8):Int:=match ac7 c with
 | some x=>((x:Nat):Int)
 | none => -1
theorem bW9 (c:UInt8) {x:Nat} (h:ac7 c=some x):x<16:=by
 unfold ac7 at h
 split at h
 ·cases h;omega
 ·split at h
  ·cases h;omega
  ·cases h
section
variable {σ : H} {K : KH}
theorem aP4 (c:UInt8) (hK:K (.int .i64 (aR9 c)) σ):a8 244 [.int .u8 ((c.toNat:Nat):Int)] K σ:=by
 refine dD2 _ ?_
 unfold da9
 have hc:c.toNat<256:=c.toNat_lt
 unfold aR9 ac7 at hK
 refine S9 (fun j => ∀b:Bool,b=decide (48<=c.toNat/\c.toNat<=57)->j ((c.toNat:Nat):Int) b σ) ?_ ?_
 ·intro b hb
  by_cases h:48<=c.toNat/\c.toNat<=57
  ·rw[F1 h]at hb
   rw[d9 h]at hK
   refine l3 hb ?_
   have:IntKind.i64.wrap (IntKind.u8.wrap (((c.toNat:Nat):Int) - 48))=((c.toNat - 48:Nat):Int):=by
    rw[show(((c.toNat:Nat):Int) - 48)=((c.toNat - 48:Nat):Int)from by omega]
    have hlt:c.toNat - 48<10:=by omega
    generalize c.toNat - 48=n at hlt
    have : ∀n:Nat,n<10->IntKind.i64.wrap (IntKind.u8.wrap ((n:Nat):Int))=((n:Nat):Int):=by decide
    exact this n hlt
   rw[this];exact hK
  ·rw[J4 h]at hb
   rw[c0 h]at hK
   refine k9 hb ?_
   refine S9 (fun j => ∀b:Bool,b=decide (97<=c.toNat/\c.toNat<=102)->j ((c.toNat:Nat):Int) b σ) ?_ ?_
   ·intro b hb
    by_cases h:97<=c.toNat/\c.toNat<=102
    ·rw[F1 h]at hb
     rw[d9 h]at hK
     refine l3 hb ?_
     have:IntKind.i64.wrap ((IntKind.i64.wrap (IntKind.u8.wrap (((c.toNat:Nat):Int) - 97)))+10)=((c.toNat - 87:Nat):Int):=by
      rw[show(((c.toNat:Nat):Int) - 97)=((c.toNat - 97:Nat):Int)from by omega,show c.toNat - 87=(c.toNat - 97)+10 from by omega]
      have hlt:c.toNat - 97<6:=by omega
      generalize c.toNat - 97=n at hlt
      have : ∀n:Nat,n<6->IntKind.i64.wrap ((IntKind.i64.wrap (IntKind.u8.wrap ((n:Nat):Int)))+10)=((n+10:Nat):Int):=by decide
      exact this n hlt
     rw[this];exact hK
    ·rw[J4 h]at hb
     rw[c0 h]at hK
     exact k9 hb hK
   ·intro j hj
    by_cases h1:97<=c.toNat
    ·refine l3 (by simp only[ge_iff_le,z8];omega) (hj _ ?_)
     rw[E1];omega
    ·refine k9 (by simp only[ge_iff_le,C2];omega) (hj _ ?_)
     rw[J4 (by omega)]
 ·intro j hj
  by_cases h1:48<=c.toNat
  ·refine l3 (by simp only[ge_iff_le,z8];omega) (hj _ ?_)
   rw[E1];omega
  ·refine k9 (by simp only[ge_iff_le,C2];omega) (hj _ ?_)
   rw[J4 (by omega)]
theorem bs9 (l:List UInt8) (hl:l.length<=1000000) (hK:∀v b σ',Gr σ σ'->(b=true->X4 l=some v)->(b=false->X4 l=none)->K (.tuple ⟨[.string ⟨⟨v⟩⟩,.bool b]⟩) σ'):a8 200 [.string ⟨⟨l⟩⟩] K σ:=by
 refine dA1 _ ?_
 unfold cU1
 have hsz : ∀l:List UInt8,(⟨⟨l⟩⟩:ByteArray).size=l.length:=fun _=>rfl
 rw[K1]
 by_cases h0:l=[45]
 ·subst h0
  exact l3 rfl (hK [] true σ (Gr.refl _) (fun _=>rfl) fun h=>by cases h)
 refine k9 (by simpa using h0) ?_
 have hv:X4 l=if l.isEmpty then none else ae7 l:=by
  unfold X4;rw[c0 (by simpa using h0)]
 refine u5 ?_
 intro R hR
 have key : ∀ (m:Nat) (i:Nat) (r done:List UInt8) (z:Sl) (τ:H),r.length<=m->l.drop i=r->i<=l.length->i % 2=0->done.length<=i->ae7 l=(ae7 r).map (done ++ ·)->E7 σ τ 5 1 (B1 done) z->R ⟨⟨l⟩⟩ z (i:Int) τ:=by
  intro m
  induction m using Nat.strongRecOn with
  | ind m ih =>
  intro i r done z τ hm hdr hil hi2 hdl hu hz
  have hrl:r.length=l.length - i:=by rw[<-hdr,M1]
  have w1:IntKind.i64.wrap ((i:Int)+1)=((i+1:Nat):Int):=by rw[n0 (by omega) (by omega)];omega
  match r,hrl,hu,hdr,hm with
  | a::c::r',hrl,hu,hdr,hm =>
   simp only[y5]at hrl hm
   obtain⟨t1,t2,t3⟩:=C5 hdr
   obtain⟨u1,u2,u3⟩:=C5 t3
   refine hR _ _ _ _ ?_
   dsimp only
   rw[w1]
   refine l3 (by rw[hsz];simp only[z8];omega) ?_
   refine M3 (c:=a) (by omega) t1 (i7 (aP4 a (B6 ?_)))
   refine M3 (c:=c) (by omega) u1 (i7 (aP4 c (B6 ?_)))
   refine S9 (fun j => ∀b:Bool,b = !((ac7 a).isSome&&(ac7 c).isSome)->j ⟨⟨l⟩⟩ z (i:Int) (aR9 a) (aR9 c) b τ) ?_ ?_
   ·intro b hb
    cases ha:ac7 a with
    | none =>
     refine l3 (by rw[hb,ha];rfl) (hK [] false τ hz.1 (fun h=>by cases h) fun _ => ?_)
     rw[hv,hu,ae7,ha]
     split<;>rfl
    | some p =>
     cases hc:ac7 c with
     | none =>
      refine l3 (by rw[hb,ha,hc];rfl) (hK [] false τ hz.1 (fun h=>by cases h) fun _ => ?_)
      rw[hv,hu,ae7,ha,hc]
      split<;>rfl
     | some q =>
      have e1:aR9 a=((p:Nat):Int):=by unfold aR9;rw[ha]
      have e2:aR9 c=((q:Nat):Int):=by unfold aR9;rw[hc]
      rw[e1,e2,cx4 p (bW9 a ha) q (bW9 c hc)]
      refine k9 (by rw[hb,ha,hc];rfl) ?_
      refine hz.app1 bI4 (r:=[.int .u8 (((UInt8.ofNat (16 * p+q)).toNat:Nat):Int)]) rfl rfl (by rw[D7];omega) ?_
      intro z' τ' hz' _ _
      have e3:B1 done++[[Value.int .u8 (((UInt8.ofNat (16 * p+q)).toNat:Nat):Int)]]=B1 (done++[UInt8.ofNat (16 * p+q)]):=by rw[ag8];rfl
      rw[e3]at hz'
      rw[n0 (x:=(i:Int)+2) (by omega) (by omega),show(i:Int)+2=((i+2:Nat):Int)from by omega]
      refine ih (m - 2) (by omega) (i+2) r' _ z' τ' (by omega) u3 (by omega) (by omega) (by simp;omega) ?_ hz'
      rw[hu,ae7,ha,hc]
      cases ae7 r' with
      | none=>rfl
      | some v=>simp
   ·intro j hj
    have neg : ∀c:UInt8,decide (aR9 c<0) = !(ac7 c).isSome:=by
     intro c
     unfold aR9
     cases ac7 c with
     | none=>rfl
     | some x=>show decide (((x:Nat):Int)<0)=false;simp only[C2];omega
    rw[neg,neg]
    cases h1:(ac7 a).isSome with
    | false=>exact l3 rfl (hj true (by rw[h1];rfl))
    | true=>exact k9 rfl (hj _ (by rw[h1,C4]))
  | [],hrl,hu,hdr,hm =>
   simp only[H3]at hrl
   refine hR _ _ _ _ ?_
   dsimp only
   rw[w1]
   refine k9 (by rw[hsz];simp only[C2];omega) ?_
   refine aj3 av6 ba8 aP0 hz.at ?_
   have hu:ae7 l=some done:=by rw[hu];simp[ae7]
   rw[K1]
   by_cases hle:l=[]
   ·refine k9 (by rw[hle];rfl) (hK done false τ hz.1 (fun h=>by cases h) fun _ => ?_)
    rw[hv,hle];rfl
   ·refine l3 (by simpa using hle) (l5 (by decide) (hK done _ τ hz.1 (fun _ => ?_) fun h => ?_))
    ·rw[hv,c0 (by simpa using hle),hu]
    ·rw[hsz,Int.tmod_eq_emod_of_nonneg (by omega)]at h
     simp only[M9,ne_eq]at h
     omega
  | [a],hrl,hu,hdr,hm =>
   simp only[y5,H3]at hrl
   refine hR _ _ _ _ ?_
   dsimp only
   rw[w1]
   refine k9 (by rw[hsz];simp only[C2];omega) ?_
   refine aj3 av6 ba8 aP0 hz.at ?_
   have hu:ae7 l=none:=by rw[hu];simp[ae7]
   have hn:X4 l=none:=by rw[hv,hu];split<;>rfl
   rw[K1]
   by_cases hle:l=[]
   ·exact k9 (by rw[hle];rfl) (hK done false τ hz.1 (fun h=>by cases h) fun _=>hn)
   ·refine l3 (by simpa using hle) (l5 (by decide) (hK done _ τ hz.1 (fun h => ?_) fun _=>hn))
    rw[hsz,Int.tmod_eq_emod_of_nonneg (by omega)]at h
    simp only[beq_iff_eq]at h
    omega
 refine key l.length 0 l [] ⟨none,0,0⟩ σ (A6 _) rfl (Nat.zero_le _) rfl (A6 _) ?_ (E7.nil' (Gr.refl _) _ _)
 cases ae7 l<;>simp
theorem bt0 (l:List UInt8) (hl:l.length<=1000000) (hK:∀z σ',E7 σ σ' 9 1 (n9 (J3 32 ⟨⟨l⟩⟩)) z->K (.slice z.base z.len z.cap) σ'):a8 154 [.string ⟨⟨l⟩⟩] K σ:=by
 refine dx0 _ ?_
 unfold cN1
 have hsz : ∀l:List UInt8,(⟨⟨l⟩⟩:ByteArray).size=l.length:=fun _=>rfl
 refine u5 ?_
 intro R hR
 have key : ∀ (m i fr:Nat) (done:List ByteArray) (w r:List UInt8) (z:Sl) (τ:H),i+m=l.length->fr<=i->l.drop i=r->(l.take i).drop fr=w->(32:UInt8)∉w->done.length<=i->J3 32 ⟨⟨l⟩⟩=done++((O7 32 (w++r)).map fun l=>(⟨⟨l⟩⟩:ByteArray))->E7 σ τ 9 1 (n9 done) z->R ⟨⟨l⟩⟩ z (fr:Int) (i:Int) τ:=by
  intro m
  induction m with
  | zero =>
   intro i fr done w r z τ him hfr hdr hw hn hdl hp hz
   have hr0:r=[]:=by rw[<-hdr];exact M8 (by omega)
   subst hr0
   refine hR _ _ _ _ _ (l3 (by rw[hsz];simp only[z8];omega) ?_)
   refine S9 (fun j => ∀z' τ',E7 σ τ' 9 1 (n9 (J3 32 ⟨⟨l⟩⟩)) z' -> ∀f:Int,j ⟨⟨l⟩⟩ z' f (i:Int) τ') ?_ ?_
   ·intro z' τ' hz' f
    rw[n0 (x:=(i:Int)+1) (by omega) (by omega)]
    exact hR _ _ _ _ _ (k9 (by rw[hsz];simp only[C2];omega) (hK z' τ' hz'))
   ·intro j hj
    refine j_d ?_
    refine l3 (by rw[hsz,show i=l.length from by omega];simp) (l3 rfl (l5 ⟨B3 (by omega) (by rw[hsz];omega),B3 (by omega) (by rw[B0];omega)⟩ ?_))
    rw[B0,B0,bex,hw]
    refine hz.app1 Y8 (r:=[.string ⟨⟨w⟩⟩]) rfl rfl (by rw[J7];omega) ?_
    intro z' τ' hz' _ _
    refine hj z' τ' ?_ _
    rw[J1,ar5 hn]at hp
    rw[hp]
    have:n9 (done++[(⟨⟨w⟩⟩:ByteArray)])=n9 done++[[Value.string ⟨⟨w⟩⟩]]:=by simp[n9]
    rw[H5,List.map_nil,this];exact hz'
  | succ m ih =>
   intro i fr done w r z τ him hfr hdr hw hn hdl hp hz
   obtain⟨x,hx⟩ : ∃x,l[i]? = some x:=⟨_,B9 (by omega)⟩
   have hr0:r=x::l.drop (i+1):=by rw[<-hdr];exact ac6 hx
   subst hr0
   refine hR _ _ _ _ _ (l3 (by rw[hsz];simp only[z8];omega) ?_)
   refine j_d ?_
   refine j_d ?_
   refine k9 (by rw[hsz];simp only[M9,ne_eq];omega) ?_
   refine M3 (c:=x) (by omega) hx ?_
   rw[show(((x.toNat:Nat):Int)==32)=(x==32)from aO4 x 32]
   cases hb:x==32 with
   | true =>
    have hx32:x=32:=by simpa using hb
    subst hx32
    refine l3 rfl (l5 ⟨B3 (by omega) (by rw[hsz];omega),B3 (by omega) (by rw[B0];omega)⟩ ?_)
    rw[B0,B0,bex,hw]
    refine hz.app1 Y8 (r:=[.string ⟨⟨w⟩⟩]) rfl rfl (by rw[J7];omega) ?_
    intro z' τ' hz' _ _
    dsimp only
    rw[C7 (i:=i)]
    refine ih (i+1) (i+1) (done++[⟨⟨w⟩⟩]) [] _ z' τ' (by omega) (A6 _) rfl (M8 (by rw[F0];omega)) (by simp) (by simp;omega) ?_ ?_
    ·rw[hp,aF7 hn];simp
    ·have:n9 (done++[(⟨⟨w⟩⟩:ByteArray)])=n9 done++[[Value.string ⟨⟨w⟩⟩]]:=by simp[n9]
     rw[this];exact hz'
   | false =>
    refine k9 rfl ?_
    dsimp only
    rw[C7 (i:=i)]
    refine ih (i+1) fr done (w++[x]) _ z τ (by omega) (by omega) rfl ?_ ?_ (by omega) ?_ hz
    ·rw[Q3,hx,List.drop_append_of_le_length (by rw[F0];omega),hw];rfl
    ·intro hm
     rcases N0.1 hm with hm | hm
     ·exact hn hm
     ·rw[ak2]at hm
      rw[<-hm]at hb
      simp at hb
    ·rw[hp];simp
 refine key l.length 0 0 [] [] l ⟨none,0,0⟩ σ (by omega) (A6 _) rfl rfl (by simp) (A6 _) ?_ (E7.nil' (Gr.refl _) _ _)
 rfl
end
def stI (c:Nat):Int:=if c=0 then 0 else if c<=2 then 1 else if c=3 then 2 else 3
structure RlK (σ0 τ:H) (b s:Nat) (d:DvP) (st:Int) (x y:Sl):Prop where
 cell:τ b=some (.cells ⟨drC d.name x y d.script⟩ 113 (0,0))
 stc:τ s=some (.cells ⟨[.int .i64 st]⟩ 3 (0,0))
 hx:E7 σ0 τ 9 1 (n9 d.inputs) x
 hy:E7 σ0 τ 206 2 (T0 d.env) y
 xy : ∀g,x.base=some ⟨g,0,none⟩->y.base≠some ⟨g,0,none⟩
 nx:x.base≠some ⟨b,0,none⟩
 ny:y.base≠some ⟨b,0,none⟩
 sx:x.base≠some ⟨s,0,none⟩
 sy:y.base≠some ⟨s,0,none⟩
 hb:σ0 b=none
 hs:σ0 s=none
 bs:b≠s
section
variable {σ0 σ : H} {b s : Nat} {d : DvP} {x y wx : Sl} {w : List ByteArray} {K : KH} {c : Nat} {st : Int}
theorem RlK.gr {σ':H} (h:RlK σ0 σ b s d st x y) (hg:Gr σ σ'):RlK σ0 σ' b s d st x y :=
 ⟨hg.get h.cell,hg.get h.stc,h.hx.gr hg,h.hy.gr hg,h.xy,h.nx,h.ny,h.sx,h.sy,h.hb,h.hs,h.bs⟩
theorem bI5 (h:RlK σ0 σ b s d (stI c) x y) (hJ:DvJ d) (hc:c<=3) (hw:w7 σ 1 (n9 w) wx) (hpos:0<w.length) (hwl:w.length<=1000000) (hws:∀s∈w,s.size<=1000000)
 (hX:Q8 c d w=none -> ∀e σ',e≠0->Gr σ0 σ'->K (.int .i64 e) σ')
 (hK:∀d' c',Q8 c d w=some (d',c') -> ∀σ' x' y',RlK σ0 σ' b s d' (stI c') x' y'->K (.int .i64 0) σ') :
 a8 153 [.pointer (some ⟨b,0,none⟩),.pointer (some ⟨s,0,none⟩),.slice wx.base wx.len wx.cap] K σ:=by
 refine dw9 _ _ _ ?_
 unfold cM9
 refine j_d ?_
 have hwn:wx.len=w.length:=ac4 hw
 have hg0:w[0]? = some (w.getD 0 ⟨⟨[]⟩⟩):=bj5 rfl hpos
 obtain⟨g,o,a1,_,a2⟩:=U7 hw hg0
 have G0:Gr σ0 σ:=h.hx.1
 have e4:(4:Int)≠0:=by decide
 have e3:(3:Int)≠0:=by decide
 rw[a1]
 refine i6 (l5 ⟨Int.le_refl _,by show(0:Int)<((wx.len:Nat):Int);omega⟩ (y8 a2 ?_))
 have at1 : ∀ {k:Nat},w.length=k->1<k->s5 g (o+(1:Int).toNat * 1) σ=some (.string (w.getD 1 ⟨⟨[]⟩⟩)):=by
  intro k hk h1
  obtain⟨g',o',q1,_,q2⟩:=U7 hw (bj5 hk h1)
  rw[a1]at q1;cases q1;exact q2
 have sz1:=aI5 hws 1
 have sz2:=aI5 hws 2
 by_cases h1:w.getD 0 ⟨⟨[]⟩⟩=ac8
 ·have hL : Q8 c d w = if c = 0 /\ w.length = 2 /\ L3 (w.getD 1 ⟨⟨[]⟩⟩).data.toList = 0 then some ({ d with name := w.getD 1 ⟨⟨[]⟩⟩ }, 1) else none := by
   unfold Q8;simp only[h1,if_true]
  rw[hL]at hX hK
  refine l3 (by rw[h1];decide +kernel) ?_
  refine S9 (fun j => ∀q:Bool,q = !(decide (c=0/\w.length=2/\L3 (w.getD 1 ⟨⟨[]⟩⟩).data.toList=0))->j (some ⟨b,0,none⟩) (some ⟨s,0,none⟩) wx q σ) ?_ ?_
  ·intro q hq
   by_cases hh:c=0/\w.length=2/\L3 (w.getD 1 ⟨⟨[]⟩⟩).data.toList=0
   ·rw[F1 hh]at hq
    rw[d9 hh]at hK
    refine k9 hq ?_
    rw[a1]
    refine i6 (l5 ⟨by omega,by show(1:Int)<((wx.len:Nat):Int);omega⟩ (y8 (at1 hh.2.1 (by decide)) (i6 (w4 h.cell av8 ?_))))
    intro σ1 p1
    refine i6 (w4 (p1.get h.bs.symm h.stc) aB8 ?_)
    intro σ2 p2
    exact hK _ _ rfl σ2 x y ⟨p2.get h.bs p1.same,p2.same,(h.hx.putF p1 h.hb h.nx).putF p2 h.hs h.sx,(h.hy.putF p1 h.hb h.ny).putF p2 h.hs h.sy,h.xy,h.nx,h.ny,h.sx,h.sy,h.hb,h.hs,h.bs⟩
   ·rw[J4 hh]at hq
    rw[c0 hh]at hX
    exact l3 hq (hX rfl 4 σ e4 G0)
  ·intro j hj
   refine i6 (E9 (f0 h.stc (by rfl)) ?_)
   by_cases h0:c=0
   ·subst h0
    refine k9 (by decide) ?_
    by_cases h2:w.length=2
    ·refine k9 (by rw[hwn,h2];rfl) ?_
     have:=at1 h2 (by decide)
     refine i6 (l5 ⟨by omega,by show(1:Int)<((wx.len:Nat):Int);omega⟩ (y8 this ?_))
     have hE:w.getD 1 ⟨⟨[]⟩⟩=⟨⟨(w.getD 1 ⟨⟨[]⟩⟩).data.toList⟩⟩:=(K0 _).symm
     have hll:(w.getD 1 ⟨⟨[]⟩⟩).data.toList.length=(w.getD 1 ⟨⟨[]⟩⟩).size:=dl _
     have hcall : ∀ {F:Int->H->Prop},F (L3 (w.getD 1 ⟨⟨[]⟩⟩).data.toList) σ->d8 97 [.string (w.getD 1 ⟨⟨[]⟩⟩)] kI F σ:=by
      intro F hF
      have:=i7 (t:=kI) (F:=F) (am6 (σ:=σ) (w.getD 1 ⟨⟨[]⟩⟩).data.toList (by omega) (B6 hF))
      rw[<-hE]at this
      exact this
     refine hcall ?_
     refine hj _ ?_
     rw[bne];congr 1
     rw[J5];simp[h2]
    ·refine l3 ?_ (hj true ?_)
     ·simp only[bne_iff_ne,ne_eq];omega
     ·rw[J4 (fun hh=>h2 hh.2.1)];rfl
   ·refine l3 ?_ (hj true ?_)
    ·simp only[bne_iff_ne,ne_eq];unfold stI;rw[c0 h0];split<;>(try split)<;>decide
    ·rw[J4 (fun hh=>h0 hh.1)];rfl
 ·refine k9 (by rw[Bool.eq_false_iff];intro e;exact h1 (P8.1 e)) ?_
  by_cases h2:w.getD 0 ⟨⟨[]⟩⟩=inB
  ·have hL : Q8 c d w = if (c = 1 \/ c = 2) /\ w.length = 2 /\ C6 (w.getD 1 ⟨⟨[]⟩⟩) = true /\ T5 d.inputs (w.getD 1 ⟨⟨[]⟩⟩) = true /\ d.inputs.length < 8 then some ({ d with inputs := d.inputs ++ [w.getD 1 ⟨⟨[]⟩⟩] }, 2) else none := by
    unfold Q8;rw[h2,c0 (show ¬ (inB=ac8)by decide),d9 rfl]
   rw[hL]at hX hK
   refine l3 (by rw[h2];decide +kernel) (i6 (A7 (f0 h.cell (by rfl)) ?_))
   have hxl:x.len=d.inputs.length:=by rw[h.hx.len,J7]
   have hn8:=hJ.nin
   have hst:decide (stI c=1)=decide (c=1\/c=2):=by
    match c,hc with
    | 0,_=>decide
    | 1,_=>decide
    | 2,_=>decide
    | 3,_=>decide
   generalize hsS:w.getD 1 ⟨⟨[]⟩⟩=S at *
   refine S9 (fun j => ∀q:Bool,(q=true -> ¬ ((c=1\/c=2)/\w.length=2/\C6 S=true/\T5 d.inputs S=true))->(q=false->((c=1\/c=2)/\w.length=2/\C6 S=true/\T5 d.inputs S=true))->j (some ⟨b,0,none⟩) wx ((x.len:Nat):Int) q σ) ?_ ?_
   ·intro q hq1 hq2
    cases q with
    | true =>
     refine l3 rfl (hX ?_ 4 σ e4 G0)
     rw[c0 fun hh=>hq1 rfl ⟨hh.1,hh.2.1,hh.2.2.1,hh.2.2.2.1⟩]
    | false =>
     obtain⟨k1,k2,k3,k4⟩:=hq2 rfl
     refine k9 rfl ?_
     by_cases h8:d.inputs.length=8
     ·refine l3 (by rw[hxl,h8];rfl) (hX ?_ 3 σ e3 G0)
      rw[c0 fun hh=>by have:=hh.2.2.2.2;omega]
     ·rw[d9 ⟨k1,k2,k3,k4,by omega⟩]at hK
      refine k9 (by simp only[M9,ne_eq];omega) (i6 (A7 (f0 h.cell (by rfl)) ?_))
      rw[a1]
      refine i6 (l5 ⟨by omega,by show(1:Int)<((wx.len:Nat):Int);omega⟩ (y8 (at1 k2 (by decide)) ?_))
      refine h.hx.app1 Y8 (r:=[.string S]) rfl rfl (by rw[J7];omega) ?_
      intro x' σ2 r2 m1 m2
      have er:n9 d.inputs++[[Value.string S]]=n9 (d.inputs++[S]):=by simp[n9]
      rw[er]at r2
      have cell2:=m1 b _ h.cell h.nx
      have stc2:=m1 s _ h.stc h.sx
      have hy2:E7 σ0 σ2 206 2 (T0 d.env) y:=⟨r2.1,h.hy.2.1.keep fun g o hg ho=>m1 g o ho (fun e=>h.xy g e hg),h.hy.2.2⟩
      have nx':x'.base≠some ⟨b,0,none⟩:=fun e=>(m2 b e).elim h.nx fun e2=>by rw[h.cell]at e2;cases e2
      have sx':x'.base≠some ⟨s,0,none⟩:=fun e=>(m2 s e).elim h.sx fun e2=>by rw[h.stc]at e2;cases e2
      refine i6 (w4 cell2 aO8 ?_)
      intro σ3 p3
      have hs2:stI 2=stI c:=by rcases k1 with rfl | rfl<;>rfl
      refine hK _ _ rfl σ3 x' y ⟨p3.same,?_,r2.putF p3 h.hb nx',hy2.putF p3 h.hb h.ny,fun g hg hy => ?_,nx',h.ny,sx',h.sy,h.hb,h.hs,h.bs⟩
      ·rw[hs2];exact p3.get h.bs.symm stc2
      ·rcases m2 g hg with hh | hh
       ·exact h.xy g hh hy
       ·exact h.hy.2.1.has hy hh
   ·intro j hj
    refine i6 (E9 (f0 h.stc (by rfl)) ?_)
    by_cases k1:c=1\/c=2
    ·rw[F1 k1]at hst
     refine k9 (by rw[bne,E6 hst];rfl) ?_
     by_cases k2:w.length=2
     ·refine k9 (by rw[hwn,k2];rfl) ?_
      have hrd:=at1 k2 (by decide)
      refine i6 (l5 ⟨by omega,by show(1:Int)<((wx.len:Nat):Int);omega⟩ (y8 hrd (i7 (aH3 S sz1 (y7 ?_)))))
      cases k3:C6 S with
      | false=>exact l3 rfl (hj true (fun _ hh=>by rw[hh.2.2.1]at k3;cases k3) fun h=>by cases h)
      | true =>
       refine k9 rfl ?_
       by_cases hp0:d.inputs=[]
       ·refine k9 (by rw[hxl,hp0];rfl) (hj false (fun h=>by cases h) fun _=>⟨k1,k2,k3,?_⟩)
        rw[hp0];rfl
       ·have hpp:0<d.inputs.length:=List.length_pos_iff.2 hp0
        obtain⟨v,hv⟩ : ∃v,d.inputs[d.inputs.length - 1]? = some v:=⟨_,B9 (by omega)⟩
        obtain⟨g',o',r1,r2,r3⟩:=U7 h.hx.at hv
        have hwr:IntKind.i64.wrap (((x.len:Nat):Int) - 1)=((d.inputs.length - 1:Nat):Int):=by rw[n0 (by omega) (by omega)];omega
        have hla:T5 d.inputs S=E4 v S:=by
         unfold T5
         rw[List.getLast?_eq_getElem?,hv]
        refine l3 (by simp only[z8];omega) (i6 (A7 (f0 h.cell (by rfl)) ?_))
        rw[hwr,r1]
        refine i6 (l5 (L1 x.len) (y8 r3 ?_))
        refine i6 (l5 ⟨by omega,by show(1:Int)<((wx.len:Nat):Int);omega⟩ (y8 hrd ?_))
        refine hj _ (fun hq hh => ?_) fun hq=>⟨k1,k2,k3,?_⟩
        ·rw[<-hla,hh.2.2.2]at hq;cases hq
        ·rw[hla];simpa using hq
     ·refine l3 (by simp only[bne_iff_ne,ne_eq];omega) (hj true (fun _ hh=>k2 hh.2.1) fun h=>by cases h)
    ·rw[J4 k1]at hst
     refine l3 (by have:=J0 hst;simpa using this) (hj true (fun _ hh=>k1 hh.1) fun h=>by cases h)
  ·refine k9 (by rw[Bool.eq_false_iff];intro e;exact h2 (P8.1 e)) ?_
   have hst:decide (stI c<1) = !decide (c=1\/c=2\/c=3):=by
    match c,hc with
    | 0,_=>decide
    | 1,_=>decide
    | 2,_=>decide
    | 3,_=>decide
   by_cases h3:w.getD 0 ⟨⟨[]⟩⟩=af6
   ·have hL : Q8 c d w = if (c = 1 \/ c = 2 \/ c = 3) /\ w.length = 3 /\ X8 (w.getD 1 ⟨⟨[]⟩⟩).data.toList = true /\ T5 (d.env.map (·.1)) (w.getD 1 ⟨⟨[]⟩⟩) = true /\ d.env.length < 16 then (match X4 (w.getD 2 ⟨⟨[]⟩⟩).data.toList with
     | some v=>if v.length<=200 then some ({ d with env:=d.env++[(w.getD 1 ⟨⟨[]⟩⟩,⟨⟨v⟩⟩)] },3)else none
     | none=>none)else none:=by
     unfold Q8;rw[h3,c0 (show ¬ (af6=ac8)by decide),c0 (show ¬ (af6=inB)by decide),d9 rfl];rfl
    rw[hL]at hX hK
    refine l3 (by rw[h3];decide +kernel) (i6 (A7 (f0 h.cell (by rfl)) ?_))
    have hyl:y.len=d.env.length:=by rw[h.hy.len,R0]
    have hn16:=hJ.nen
    have at2:w.length=3->s5 g (o+(2:Int).toNat * 1) σ=some (.string (w.getD 2 ⟨⟨[]⟩⟩)):=by
     intro hk
     obtain⟨g',o',q1,_,q2⟩:=U7 hw (bj5 hk (i:=2) (by omega))
     rw[a1]at q1;cases q1;exact q2
    generalize hsS:w.getD 1 ⟨⟨[]⟩⟩=S at *
    generalize hsT:w.getD 2 ⟨⟨[]⟩⟩=T at *
    refine S9 (fun j => ∀q:Bool,(q=true -> ¬ ((c=1\/c=2\/c=3)/\w.length=3/\X8 S.data.toList=true/\T5 (d.env.map (·.1)) S=true))->(q=false->((c=1\/c=2\/c=3)/\w.length=3/\X8 S.data.toList=true/\T5 (d.env.map (·.1)) S=true))->j (some ⟨b,0,none⟩) (some ⟨s,0,none⟩) wx ((y.len:Nat):Int) q σ) ?_ ?_
    ·intro q hq1 hq2
     cases q with
     | true =>
      refine l3 rfl (hX ?_ 4 σ e4 G0)
      rw[c0 fun hh=>hq1 rfl ⟨hh.1,hh.2.1,hh.2.2.1,hh.2.2.2.1⟩]
     | false =>
      obtain⟨k1,k2,k3,k4⟩:=hq2 rfl
      refine k9 rfl ?_
      rw[a1]
      refine i6 (l5 ⟨by omega,by show(2:Int)<((wx.len:Nat):Int);omega⟩ (y8 (at2 k2) ?_))
      have hE:T=⟨⟨T.data.toList⟩⟩:=(K0 _).symm
      have hll:T.data.toList.length=T.size:=dl _
      have hcall : ∀ {F:ByteArray->Bool->H->Prop},(∀v q σ',Gr σ σ'->(q=true->X4 T.data.toList=some v)->(q=false->X4 T.data.toList=none)->F ⟨⟨v⟩⟩ q σ')->d8 200 [.string T] (.tup [.sc .str,.sc .bool]) F σ:=by
       intro F hF
       have:=i7 (t := .tup [.sc .str,.sc .bool]) (F:=F) (bs9 (σ:=σ) T.data.toList (by omega) fun v q σ' h1 h2 h3=>k0 rfl (hF v q σ' h1 h2 h3))
       rw[<-hE]at this
       exact this
      refine hcall fun v q σ1 g1 v1 v2 => ?_
      have h1:=h.gr g1
      refine S9 (fun j => ∀q':Bool,(q'=true -> ∀v',X4 T.data.toList=some v' -> ¬v'.length<=200)->(q'=false->X4 T.data.toList=some v/\v.length<=200)->j (some ⟨b,0,none⟩) (some ⟨s,0,none⟩) wx ((y.len:Nat):Int) ⟨⟨v⟩⟩ q' σ1) ?_ ?_
      ·intro q' hq1' hq2'
       cases q' with
       | true =>
        refine l3 rfl (hX ?_ 4 σ1 e4 h1.hx.1)
        split
        ·cases hvv:X4 T.data.toList with
         | none=>rfl
         | some v'=>exact c0 (hq1' rfl v' hvv)
        ·rfl
       | false =>
        obtain⟨u1,u2⟩:=hq2' rfl
        refine k9 rfl ?_
        by_cases h16:d.env.length=16
        ·refine l3 (by rw[hyl,h16];rfl) (hX ?_ 3 σ1 e3 h1.hx.1)
         rw[c0 fun hh=>by have:=hh.2.2.2.2;omega]
        ·rw[d9 ⟨k1,k2,k3,k4,by omega⟩,u1]at hK
         simp only[d9 u2]at hK
         refine k9 (by simp only[M9,ne_eq];omega) (i6 (A7 (f0 h1.cell (by rfl)) ?_))
         have at1':s5 g (o+(1:Int).toNat * 1) σ1=some (.string S):=by
          obtain⟨g',o',q1,_,q2⟩:=U7 (hw.gr g1) (bj5 k2 (i:=1) (by omega))
          rw[a1]at q1;cases q1;rw[hsS]at q2;exact q2
         rw[a1]
         refine i6 (l5 ⟨by omega,by show(1:Int)<((wx.len:Nat):Int);omega⟩ (y8 at1' ?_))
         refine h1.hy.app1 by4 (r:=[.string S,.string ⟨⟨v⟩⟩]) rfl rfl (by rw[R0];omega) ?_
         intro y' σ2 r2 m1 m2
         have er:T0 d.env++[[Value.string S,.string ⟨⟨v⟩⟩]]=T0 (d.env++[(S,⟨⟨v⟩⟩)]):=by simp[T0]
         rw[er]at r2
         have cell2:=m1 b _ h1.cell h.ny
         have stc2:=m1 s _ h1.stc h.sy
         have hx2:E7 σ0 σ2 9 1 (n9 d.inputs) x:=⟨r2.1,h1.hx.2.1.keep fun g o hg ho=>m1 g o ho (fun e=>h.xy g hg e),h1.hx.2.2⟩
         have ny':y'.base≠some ⟨b,0,none⟩:=fun e=>(m2 b e).elim h.ny fun e2=>by rw[h1.cell]at e2;cases e2
         have sy':y'.base≠some ⟨s,0,none⟩:=fun e=>(m2 s e).elim h.sy fun e2=>by rw[h1.stc]at e2;cases e2
         refine i6 (w4 cell2 by5 ?_)
         intro σ3 p3
         refine i6 (w4 (p3.get h.bs.symm stc2) aB8 ?_)
         intro σ4 p4
         refine hK _ _ rfl σ4 x y' ⟨p4.get h.bs p3.same,p4.same,(hx2.putF p3 h.hb h.nx).putF p4 h.hs h.sx,(r2.putF p3 h.hb ny').putF p4 h.hs sy',fun g hg hy => ?_,h.nx,ny',h.sx,sy',h.hb,h.hs,h.bs⟩
         rcases m2 g hy with hh | hh
         ·exact h.xy g hg hh
         ·exact h1.hx.2.1.has hg hh
      ·intro j hj
       cases q with
       | false=>exact l3 rfl (hj true (fun _ v' hv'=>by rw[v2 rfl]at hv';cases hv') fun h=>by cases h)
       | true =>
        have hv1:=v1 rfl
        refine k9 rfl (hj _ (fun hq v' hv' => ?_) fun hq=>⟨hv1,?_⟩)
        ·rw[hv1]at hv';cases hv'
         have hq:((v.length:Nat):Int)>200:=E6 hq
         omega
        ·have hq : ¬ ((v.length:Nat):Int)>200:=J0 hq
         omega
    ·intro j hj
     refine i6 (E9 (f0 h.stc (by rfl)) ?_)
     rw[hst]
     by_cases k1:c=1\/c=2\/c=3
     ·rw[F1 k1]
      refine k9 rfl ?_
      by_cases k2:w.length=3
      ·refine k9 (by rw[hwn,k2];rfl) ?_
       have hrd:=at1 k2 (by decide)
       refine i6 (l5 ⟨by omega,by show(1:Int)<((wx.len:Nat):Int);omega⟩ (y8 hrd ?_))
       have hE:S=⟨⟨S.data.toList⟩⟩:=(K0 _).symm
       have hll:S.data.toList.length=S.size:=dl _
       have hcall : ∀ {F:Bool->H->Prop},F (X8 S.data.toList) σ->d8 199 [.string S] kB F σ:=by
        intro F hF
        have:=i7 (t:=kB) (F:=F) (bj9 (σ:=σ) S.data.toList (by omega) (y7 hF))
        rw[<-hE]at this
        exact this
       refine hcall ?_
       cases k3:X8 S.data.toList with
       | false=>exact l3 rfl (hj true (fun _ hh=>by rw[hh.2.2.1]at k3;cases k3) fun h=>by cases h)
       | true =>
        refine k9 rfl ?_
        by_cases hp0:d.env=[]
        ·refine k9 (by rw[hyl,hp0];rfl) (hj false (fun h=>by cases h) fun _=>⟨k1,k2,k3,?_⟩)
         rw[hp0];rfl
        ·have hpp:0<d.env.length:=List.length_pos_iff.2 hp0
         obtain⟨v,hv⟩ : ∃v,d.env[d.env.length - 1]? = some v:=⟨_,B9 (by omega)⟩
         obtain⟨g',o',r1,r2,r3,r4⟩:=as9 h.hy.at hv
         have hwr:IntKind.i64.wrap (((y.len:Nat):Int) - 1)=((d.env.length - 1:Nat):Int):=by rw[n0 (by omega) (by omega)];omega
         have hla:T5 (d.env.map (·.1)) S=E4 v.1 S:=by
          unfold T5
          rw[List.getLast?_eq_getElem?,O4,Y4,hv];rfl
         refine l3 (by simp only[z8];omega) (i6 (A7 (f0 h.cell (by rfl)) ?_))
         rw[hwr,r1]
         refine i6 (l5 (L1 y.len) (y8 r4 ?_))
         refine i6 (l5 ⟨by omega,by show(1:Int)<((wx.len:Nat):Int);omega⟩ (y8 hrd ?_))
         refine hj _ (fun hq hh => ?_) fun hq=>⟨k1,k2,k3,?_⟩
         ·rw[<-hla,hh.2.2.2]at hq;cases hq
         ·rw[hla];simpa using hq
      ·refine l3 (by simp only[bne_iff_ne,ne_eq];omega) (hj true (fun _ hh=>k2 hh.2.1) fun h=>by cases h)
     ·rw[J4 k1]
      exact l3 rfl (hj true (fun _ hh=>k1 hh.1) fun h=>by cases h)
   ·refine k9 (by rw[Bool.eq_false_iff];intro e;exact h3 (P8.1 e)) ?_
    by_cases h4:w.getD 0 ⟨⟨[]⟩⟩=aj6
    ·have hL : Q8 c d w = if (c = 1 \/ c = 2 \/ c = 3) /\ w.length = 1 then some (d, 4) else none := by
      unfold Q8;rw[h4,c0 (show ¬ (aj6=ac8)by decide),c0 (show ¬ (aj6=inB)by decide),c0 (show ¬ (aj6=af6)by decide),d9 rfl]
     rw[hL]at hX hK
     refine l3 (by rw[h4];decide +kernel) ?_
     refine S9 (fun j => ∀q:Bool,q = !(decide ((c=1\/c=2\/c=3)/\w.length=1))->j (some ⟨s,0,none⟩) q σ) ?_ ?_
     ·intro q hq
      by_cases hh:(c=1\/c=2\/c=3)/\w.length=1
      ·rw[F1 hh]at hq
       rw[d9 hh]at hK
       refine k9 hq (i6 (w4 h.stc aB8 ?_))
       intro σ1 p1
       exact hK _ _ rfl σ1 x y ⟨p1.get h.bs h.cell,p1.same,h.hx.putF p1 h.hs h.sx,h.hy.putF p1 h.hs h.sy,h.xy,h.nx,h.ny,h.sx,h.sy,h.hb,h.hs,h.bs⟩
      ·rw[J4 hh]at hq
       rw[c0 hh]at hX
       exact l3 hq (hX rfl 4 σ e4 G0)
     ·intro j hj
      refine i6 (E9 (f0 h.stc (by rfl)) ?_)
      rw[hst]
      by_cases k1:c=1\/c=2\/c=3
      ·rw[F1 k1]
       refine k9 rfl (hj _ ?_)
       rw[bne];congr 1
       rw[J5];simp[k1];omega
      ·rw[J4 k1]
       exact l3 rfl (hj true (by rw[J4 fun hh=>k1 hh.1];rfl))
    ·refine k9 (by rw[Bool.eq_false_iff];intro e;exact h4 (P8.1 e)) ?_
     exact hX (aM5 h1 h2 h3 h4) 18 σ (by decide) G0
end
end Go.Proofs.YtgfiobhpipollaaGreatDoor

