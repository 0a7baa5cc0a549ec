/- A part of a proof. -/
import Derived.Test.YtgfiobhpipollaaGreatDoorObb
import Derived.Shelf.SlIter.Nil
import Derived.Shelf.SortM.Plain
import Derived.Shelf.SortM.SortNone
import Derived.Ground.GgzProg
import Derived.Ground.SlgmProg
import Derived.Test.YtgfiobhpipollaaGreatDoorProg
import Derived.Laws.Runes
import Derived.Test.YtgfiobhpipollaaGreatDoorCards
import Derived.Test.YtgfiobhpipollaaGreatDoorTie
import Derived.WalkKit
import Derived.ProofKit
import Derived.OpenShut
import Derived.Deep.DeepHandedRow
import Derived.Lib.LaidTab
import Derived.Laws.StandIn
import Derived.Test.YtgfiobhpipollaaGreatDoorChecked
namespace Go.Proofs
open Go.RowKit Go.Maps Go.Sort Go.Shelf
def Tryz.keys35_ren:Go.Shelf.Ren:=⟨fun | 7=>35 | 10=>68 | n=>n,fun | 23=>39 | 26=>9 | 3=>3 | 28=>64 | 0=>0 | 27=>63 | 33=>61 | 4=>4 | n=>n,fun | n=>n⟩
theorem Tryz.keys35:Go.Proofs.SlLaysZ.n7 Tryz.prog Tryz.keys35_ren:={
 mixed:=by kernel_rfl
 f7:=⟨Tryz.f35.name,by decide,Tryz.func35.trans (congrArg some (by kernel_rfl))⟩
 f10:=⟨Tryz.f68.name,by decide,Tryz.func68.trans (congrArg some (by kernel_rfl))⟩
 t0:=Tryz.underlying0
 a0:=Tryz.isAgg0
 z0:=Tryz.sizeOf0
 v0:=Tryz.zeroValue0
 t4:=Tryz.underlying4
 a4:=Tryz.isAgg4
 z4:=Tryz.sizeOf4
 v4:=Tryz.zeroValue4
 t23:=Tryz.underlying39
 a23:=Tryz.isAgg39
 z23:=Tryz.sizeOf39
 v23:=Tryz.zeroValue39
 t26:=Tryz.underlying9
 a26:=Tryz.isAgg9
 z26:=Tryz.sizeOf9
 v26:=Tryz.zeroValue9
 t27:=Tryz.underlying63
 a27:=Tryz.isAgg63
 z27:=Tryz.sizeOf63
 v27:=Tryz.zeroValue63
 t28:=Tryz.underlying64
 a28:=Tryz.isAgg64
 z28:=Tryz.sizeOf64
 v28:=Tryz.zeroValue64
 t33:=Tryz.underlying61
 a33:=Tryz.isAgg61
 z33:=Tryz.sizeOf61
 v33:=Tryz.zeroValue61 }
def Tryz.sorted34_ren:Go.Shelf.Ren:=⟨fun | 6=>34 | 8=>66 | 9=>67 | 11=>102 | 13=>104 | 12=>103 | 23=>165 | 24=>166 | 14=>156 | 15=>157 | 16=>158 | 17=>159 | 18=>160 | 19=>161 | 20=>162 | 21=>163 | 22=>164 | 25=>203 | 26=>204 | 27=>205 | 28=>206 | 29=>207 | 30=>208 | 31=>245 | n=>n,fun | 26=>9 | 28=>64 | 24=>23 | 0=>0 | 3=>3 | 37=>133 | 48=>188 | 50=>138 | 4=>4 | 40=>182 | 39=>181 | 45=>159 | 5=>5 | 9=>9 | 51=>217 | 55=>178 | 57=>242 | 58=>135 | 33=>61 | n=>n,fun | n=>n⟩
theorem Tryz.sorted34:Go.Proofs.SlLaysZ.n6 Tryz.prog Tryz.sorted34_ren:={
 mixed:=by kernel_rfl
 f6:=⟨Tryz.f34.name,by decide,Tryz.func34.trans (congrArg some (by kernel_rfl))⟩
 f8:=⟨Tryz.f66.name,by decide,Tryz.func66.trans (congrArg some (by kernel_rfl))⟩
 f11:=⟨Tryz.f102.name,by decide,Tryz.func102.trans (congrArg some (by kernel_rfl))⟩
 t0:=Tryz.underlying0
 a0:=Tryz.isAgg0
 z0:=Tryz.sizeOf0
 v0:=Tryz.zeroValue0
 t24:=Tryz.underlying23
 a24:=Tryz.isAgg23
 z24:=Tryz.sizeOf23
 v24:=Tryz.zeroValue23
 t26:=Tryz.underlying9
 a26:=Tryz.isAgg9
 z26:=Tryz.sizeOf9
 v26:=Tryz.zeroValue9
 t28:=Tryz.underlying64
 a28:=Tryz.isAgg64
 z28:=Tryz.sizeOf64
 v28:=Tryz.zeroValue64
 i26:=by kernel_rfl }
def Tryz.sort67_ren:Go.Shelf.Ren:=⟨fun | 6=>67 | 8=>104 | 9=>103 | 19=>165 | 20=>166 | 21=>156 | 22=>157 | 23=>158 | 24=>159 | 25=>160 | 26=>161 | 27=>162 | 28=>163 | 29=>164 | 36=>203 | 31=>204 | 32=>205 | 37=>206 | 38=>207 | 39=>208 | 41=>245 | n=>n,fun | 27=>23 | 29=>9 | 3=>3 | 32=>133 | 26=>23 | 0=>0 | 44=>188 | 46=>138 | 4=>4 | 36=>182 | 35=>181 | 41=>159 | 5=>5 | 9=>9 | 53=>217 | 57=>178 | 63=>242 | 64=>135 | n=>n,fun | n=>n⟩
theorem Tryz.sort67:Go.Proofs.SlLaysM.n6 Tryz.prog Tryz.sort67_ren:={
 mixed:=by kernel_rfl
 f6:=⟨Tryz.f67.name,by decide,Tryz.func67.trans (congrArg some (by kernel_rfl))⟩
 f8:=Tryz.func104.trans (congrArg some (by kernel_rfl))
 f9:=⟨Tryz.f103.name,by decide,Tryz.func103.trans (congrArg some (by kernel_rfl))⟩
 f19:=Tryz.func165.trans (congrArg some (by kernel_rfl))
 f20:=Tryz.func166.trans (congrArg some (by kernel_rfl))
 f21:=⟨Tryz.f156.name,by decide,Tryz.func156.trans (congrArg some (by kernel_rfl))⟩
 f22:=⟨Tryz.f157.name,by decide,Tryz.func157.trans (congrArg some (by kernel_rfl))⟩
 f23:=⟨Tryz.f158.name,by decide,Tryz.func158.trans (congrArg some (by kernel_rfl))⟩
 f24:=⟨Tryz.f159.name,by decide,Tryz.func159.trans (congrArg some (by kernel_rfl))⟩
 f25:=⟨Tryz.f160.name,by decide,Tryz.func160.trans (congrArg some (by kernel_rfl))⟩
 f26:=⟨Tryz.f161.name,by decide,Tryz.func161.trans (congrArg some (by kernel_rfl))⟩
 f27:=⟨Tryz.f162.name,by decide,Tryz.func162.trans (congrArg some (by kernel_rfl))⟩
 f28:=⟨Tryz.f163.name,by decide,Tryz.func163.trans (congrArg some (by kernel_rfl))⟩
 f29:=⟨Tryz.f164.name,by decide,Tryz.func164.trans (congrArg some (by kernel_rfl))⟩
 f31:=Tryz.func204.trans (congrArg some (by kernel_rfl))
 f32:=Tryz.func205.trans (congrArg some (by kernel_rfl))
 f36:=⟨Tryz.f203.name,by decide,Tryz.func203.trans (congrArg some (by kernel_rfl))⟩
 f37:=⟨Tryz.f206.name,by decide,Tryz.func206.trans (congrArg some (by kernel_rfl))⟩
 f38:=⟨Tryz.f207.name,by decide,Tryz.func207.trans (congrArg some (by kernel_rfl))⟩
 f39:=⟨Tryz.f208.name,by decide,Tryz.func208.trans (congrArg some (by kernel_rfl))⟩
 f41:=⟨Tryz.f245.name,by decide,Tryz.func245.trans (congrArg some (by kernel_rfl))⟩
 t0:=Tryz.underlying0
 a0:=Tryz.isAgg0
 z0:=Tryz.sizeOf0
 v0:=Tryz.zeroValue0
 t3:=Tryz.underlying3
 a3:=Tryz.isAgg3
 z3:=Tryz.sizeOf3
 v3:=Tryz.zeroValue3
 t4:=Tryz.underlying4
 a4:=Tryz.isAgg4
 z4:=Tryz.sizeOf4
 v4:=Tryz.zeroValue4
 t5:=Tryz.underlying5
 a5:=Tryz.isAgg5
 z5:=Tryz.sizeOf5
 v5:=Tryz.zeroValue5
 t9:=Tryz.underlying9
 a9:=Tryz.isAgg9
 z9:=Tryz.sizeOf9
 v9:=Tryz.zeroValue9
 t26:=Tryz.underlying23
 a26:=Tryz.isAgg23
 z26:=Tryz.sizeOf23
 v26:=Tryz.zeroValue23
 t27:=Tryz.underlying23
 a27:=Tryz.isAgg23
 z27:=Tryz.sizeOf23
 v27:=Tryz.zeroValue23
 t29:=Tryz.underlying9
 a29:=Tryz.isAgg9
 z29:=Tryz.sizeOf9
 v29:=Tryz.zeroValue9
 t32:=Tryz.underlying133
 a32:=Tryz.isAgg133
 z32:=Tryz.sizeOf133
 v32:=Tryz.zeroValue133
 t35:=Tryz.underlying181
 a35:=Tryz.isAgg181
 z35:=Tryz.sizeOf181
 v35:=Tryz.zeroValue181
 t36:=Tryz.underlying182
 a36:=Tryz.isAgg182
 z36:=Tryz.sizeOf182
 v36:=Tryz.zeroValue182
 t41:=Tryz.underlying159
 a41:=Tryz.isAgg159
 z41:=Tryz.sizeOf159
 v41:=Tryz.zeroValue159
 t44:=Tryz.underlying188
 a44:=Tryz.isAgg188
 z44:=Tryz.sizeOf188
 v44:=Tryz.zeroValue188
 t46:=Tryz.underlying138
 a46:=Tryz.isAgg138
 z46:=Tryz.sizeOf138
 v46:=Tryz.zeroValue138
 t53:=Tryz.underlying217
 a53:=Tryz.isAgg217
 z53:=Tryz.sizeOf217
 v53:=Tryz.zeroValue217
 t57:=Tryz.underlying178
 a57:=Tryz.isAgg178
 z57:=Tryz.sizeOf178
 v57:=Tryz.zeroValue178
 t63:=Tryz.underlying242
 a63:=Tryz.isAgg242
 z63:=Tryz.sizeOf242
 v63:=Tryz.zeroValue242
 t64:=Tryz.underlying135
 a64:=Tryz.isAgg135
 z64:=Tryz.sizeOf135
 v64:=Tryz.zeroValue135 }
theorem Tryz.sorts34 (m:Nat):AnyZ.SortsIn Tryz.prog Tryz.sorted34_ren Fence.wide m :=
 ⟨fun blk off cap ss W hH hblk hsz=>callsIn_wide.2 (AnyM.slices_Sort_string Tryz.sort67 blk off cap ss W hH hblk hsz),
  fun p cap W=>callsIn_wide.2 (AnyM.slices_Sort_string_none Tryz.sort67 p cap W)⟩
end Go.Proofs

set_option maxRecDepth 100000
namespace Go.Proofs.YtgfiobhpipollaaGreatDoor
open Go Go.HL Go.Wk Go.RowKit Go.Maps Go.Sort Go.Shelf
theorem aU5 {σ:H} {w w':World} (hw:σ.le w) (hb:Below w.heap.size w w'):I0 σ w σ w' :=
 ⟨fun b o h=>(hb.block b (hw.lt h)).trans (hw b o h),hb.size,fun b hlt _=>hb.block b hlt,fun b o h hn=>by rw[h]at hn;(cases hn),hb.os,hb.tape,hb.output⟩
theorem aR2 {σ:H} {w w':World} {g:Nat} {o:Obj} (hw:σ.le w) (hb:Below w.heap.size w w') (hg:w.heap.size<=g) (ho:w'.heap[g]? = some o):I0 σ w (σ.put g o) w':=by
 refine⟨fun b o' h => ?_,hb.size,fun b hlt _=>hb.block b hlt,fun b o' h hn => ?_,hb.os,hb.tape,hb.output⟩
 ·by_cases e:b=g
  ·subst e;rw[H.put_same]at h;cases h;exact ho
  ·rw[H.put_other _ _ e]at h;exact(hb.block b (hw.lt h)).trans (hw b o' h)
 ·by_cases e:b=g
  ·subst e;exact hg
  ·rw[H.put_other _ _ e]at h;rw[h]at hn;cases hn
def bh3 (σ:H) (x:Sl) (l:List ByteArray):Prop:=x.len=l.length/\(l=[] \/ ∃g cur,x.base=some ⟨g,0,none⟩/\σ g=some (.cells ⟨cur⟩ 9 (0,0))/\cur.take l.length=l.map Value.string)
def ah8 (l:List ByteArray):List ByteArray:=((l.map fun s=>s.data.toList).mergeSort (fun x y=>decide (x<=y))).map fun x=>⟨⟨x⟩⟩
theorem bP8 {σ:H} {b2 e:Nat} {ents:List (ByteArray×Int)} {t:TypeId} (h2:σ b2=some (.cells ⟨[.map (some e)]⟩ t (0,0))) (hm:I6 σ e (M6 kkS aj9 ents)) (hk:∀s∈ab1 ents,s.size<=maxLen) (hn:ents.length * 16<=140737488355328) {K:KH}
 (hK:∀x σ',E7 σ σ' 9 1 (n9 (ah8 (ab1 ents))) x->K (.slice x.base x.len x.cap) σ'):a8 34 [.func (.func 68) ⟨[]⟩ ⟨[.pointer (some ⟨b2,0,none⟩)]⟩] K σ:=by
 obtain⟨es,c,he,hl,hst⟩:=hm
 intro w hw
 let R:Value->Option (DataW Unit×List MemPlace):=fun _=>some (.nil,[])
 have hsz:es.size=ents.length:=by
  have:=D9 List.length hl
  simpa[M6]using this
 have hkey : ∀x∈es.toList,∃s∈ab1 ents,x.key = .string s:=by
  intro x hx
  have:(x.key,x.val)∈M6 kkS aj9 ents:=by rw[<-hl];exact O5.2 ⟨x,hx,rfl⟩
  obtain⟨⟨s,v⟩,h1,h3⟩:=O5.1 this
  refine⟨s,O5.2 ⟨_,h1,rfl⟩,?_⟩
  exact(Prod.mk.inj h3).1.symm
 have hrd : ∀x∈es.toList,∀s,x.key = .string s->s.size<=maxLen->Go.WideElems.rd Tryz.prog 9 R x=some (.string s.data.toList,.nil):=by
  intro x _ s hs hle
  unfold Go.WideElems.rd keyOf mapKey
  rw[hs,ap0]
  simp[hle,R]
 have hown:w.ownsMap Tryz.prog 9 R e es.size (.map ((es.toList.map (Go.WideElems.rg Tryz.prog 9 R)).foldr DataW.insert [])):=by
  refine⟨es,c,hw e _ he,⟨?_,hst,?_⟩,A6 _,rfl⟩
  ·rw[hsz];unfold maxLen;omega
  ·intro x hx
   obtain⟨s,h1,h3⟩:=hkey x hx
   exact⟨_,hrd x hx s h3 (hk s h1)⟩
 have hms:Maps.size (.map ((es.toList.map (Go.WideElems.rg Tryz.prog 9 R)).foldr DataW.insert []))=ents.length:=by
  rw[Maps.size_eq,(Go.WideShapes.sorted_perm _).length_eq];simp[hsz]
 have hperm:(strKeys (.map ((es.toList.map (Go.WideElems.rg Tryz.prog 9 R)).foldr DataW.insert []))).Perm ((ab1 ents).map fun s=>s.data.toList):=by
  have h1:(strKeys (.map ((es.toList.map (Go.WideElems.rg Tryz.prog 9 R)).foldr DataW.insert []))).Perm ((es.toList.map (Go.WideElems.rg Tryz.prog 9 R)).map fun p=>strOf p.1):=(Go.WideShapes.sorted_perm _).map _
  have h3:((es.toList.map (Go.WideElems.rg Tryz.prog 9 R)).map fun p=>strOf p.1)=(ab1 ents).map fun s=>s.data.toList:=by
   have h4:es.toList.map (fun e=>e.key)=(ab1 ents).map Value.string:=by
    have:=D9 (List.map Prod.fst) hl
    simp only[List.map_map,M6]at this
    rw[ab1,List.map_map]
    exact this
   have h5:((es.toList.map (Go.WideElems.rg Tryz.prog 9 R)).map fun p=>strOf p.1)=(es.toList.map (fun e=>e.key)).map fun v=>(match v with | .string s=>s.data.toList | _=>[]):=by
    rw[List.map_map,List.map_map]
    refine List.map_congr_left ?_
    intro x hx
    obtain⟨s,h1,h3⟩:=hkey x hx
    simp only[Function.comp]
    rw[h3,Go.WideElems.rg_of (hrd x hx s h3 (hk s h1))]
    rfl
   rw[h5,h4,List.map_map]
   rfl
  rw[<-h3];exact h1
 have hcell:w.cell? ⟨b2,0,none⟩=some (.map (some e)):=by simp[World.cell?,hw b2 _ h2]
 have hseq:=AnyZ.keys_gives (ρ:=Tryz.keys35_ren) { Tryz.keys35 with } Fence.wide 2 trivial rfl (by omega) b2 e es.size (.map ((es.toList.map (Go.WideElems.rg Tryz.prog 9 R)).foldr DataW.insert [])) (R:=R) w (hw.lt h2) hcell hown
 have hcall:=AnyZ.sorted_in Tryz.sorted34 Fence.wide 5 trivial trivial trivial trivial rfl (by omega) (Tryz.sorts34 _) (enters_of Tryz.func67 (by kernel_rfl) rfl) 68 #[.pointer (some ⟨b2,0,none⟩)] trivial (enters_of Tryz.func68 (by kernel_rfl) rfl) _ _ (by rw[hms];unfold maxLen;omega) (by rw[hms];exact hn) w hseq
 refine callsIn_wide.2 ((callsIn_wide.1 hcall).mono ?_)
 rintro en w' ⟨v,ss,rfl,hS,hrow,hnil,hbel⟩
 have hsrt:ss.mergeSort (fun x y=>decide (x<=y))=((ab1 ents).map fun s=>s.data.toList).mergeSort (fun x y=>decide (x<=y)):=mergeSort_of_perm (hS.trans hperm)
 have henc:(ss.mergeSort (fun x y=>decide (x<=y))).map encStr=(ah8 (ab1 ents)).map Value.string:=by
  rw[hsrt];unfold ah8;rw[List.map_map];rfl
 have hlen:ss.length=(ah8 (ab1 ents)).length:=by
  have:=D9 List.length henc
  simpa using this
 have hflat : ∀l:List ByteArray,(n9 l).flatten=l.map Value.string:=by
  intro l
  induction l with
  | nil=>rfl
  | cons a r ih =>
   have ih:(r.map fun s=>[Value.string s]).flatten=r.map Value.string:=ih
   simp[n9,ih]
 have hone : ∀l:List ByteArray,∀r∈n9 l,r.length=1:=by
  intro l r hr
  obtain⟨s,_,rfl⟩:=O5.1 hr;rfl
 obtain⟨_,⟨rfl,hz⟩ | ⟨g,cap,cur,rfl,hbg,hcur,hnc,_,hcs,htake⟩⟩:=hrow
 ·have:ah8 (ab1 ents)=[]:=by apply Y3;rw[<-hlen,hz]
  rw[this]at hK
  exact⟨_,rfl,σ,aU5 hw hbel,hK ⟨none,0,0⟩ σ (E7.nil _ _ _)⟩
 ·have hng : σ g = none := by
   cases hg:σ g with
   | none=>rfl
   | some o=>have:=hw.lt hg;omega
  refine⟨_,rfl,σ.put g (.cells cur 9 (0,0)),aR2 hw hbel hbg hcur,hK ⟨some ⟨g,0,none⟩,ss.length,cap⟩ _ ⟨Gr.put hng _,⟨by show ss.length=_;rw[hlen];simp[n9],hone _,.inr ⟨g,cur.toList,rfl,H.put_same _ _ _,by rw[Array.length_toList];exact hcs,hnc,?_⟩⟩,fun g' hg'=>by cases hg';exact hng⟩⟩
  rw[hflat,<- henc];simpa using htake
attribute [local irreducible] j0 w6 l8 A2 l4 A9 w9 U3 V0 R1 M7 V2 C1 y6 app A4 C9 u7 sizeT oW H8 F2 l9 U5 H2 G1 y9 V1 B2 Gr L6
end Go.Proofs.YtgfiobhpipollaaGreatDoor

set_option maxRecDepth 100000
namespace Go.Proofs.YtgfiobhpipollaaGreatDoor
open Go Go.HL Go.Wk
attribute [local irreducible] j0 w6 l8 A2 l4 A9 w9 U3 V0 R1 M7 V2 C1 y6 app A4 C9 u7 sizeT oW H8 F2 l9 U5 H2 G1 y9 V1 B2 Gr L6
def sl0:ByteArray:=⟨⟨[47,0]⟩⟩
theorem aU6 {s:ByteArray} {i:Nat} {c:UInt8} {g:UInt8->H->Prop} {σ:H} (h:s[i]? = some c) (hg:g c σ):B2 s (i:Int) g σ:=by
 unfold B2
 rw[d9 (by omega)]
 have:((i:Int)).toNat=i:=by omega
 rw[this,h]
 exact hg
theorem bh4 (r:Int) {σ:H} {K:KH} (hK:K (.bool (Utf8.valid r)) σ):a8 278 [.int .i32 r] K σ:=by
 refine dE6 _ ?_
 unfold dd9
 refine S9 (fun j => ∀x:Bool,x=decide (0<=r/\r<55296)->j r x σ) ?_ ?_
 ·intro x hx
  by_cases h:0<=r/\r<55296
  ·refine l3 (by simp[hx,h]) ?_
   have:Utf8.valid r=true:=by simp[Utf8.valid,h]
   rw[this]at hK;exact hK
  ·refine k9 (by simp[hx,h]) ?_
   refine S9 (fun j => ∀y:Bool,y=Utf8.valid r->j y σ) ?_ ?_
   ·intro y hy
    cases hv:Utf8.valid r with
    | true=>rw[hv]at hK hy;exact l3 hy hK
    | false=>rw[hv]at hK hy;exact k9 hy hK
   ·intro j hj
    by_cases h2:57343<r
    ·refine l3 (by simpa using h2) (hj _ ?_)
     by_cases h3:r<=1114111
     ·have:Utf8.valid r=true:=by simp[Utf8.valid,h3];omega
      rw[this];simpa using h3
     ·have:Utf8.valid r=false:=by simp[Utf8.valid];omega
      rw[this];simpa using h3
    ·refine k9 (by simpa using h2) (hj _ ?_)
     have:Utf8.valid r=false:=by simp[Utf8.valid];omega
     rw[this]
 ·intro j hj
  by_cases h:0<=r
  ·exact l3 (by simpa using h) (hj _ (by simp[h]))
  ·exact k9 (by simpa using h) (hj _ (by simp[h]))
theorem cd5:Tryz.prog.underlying 21=some (.int .i32):=by kernel_rfl
theorem ct4 (r:Int) {F:ByteArray->H->Prop} {σ:H} (h:F (Utf8.encode r) σ):M7 Tryz.prog (convert 21 9 (.int .i32 r)) kS F σ:=by
 unfold M7 C9
 intro w hw
 have:=run_convert_int_string (P:=Tryz.prog) w 21 9 .i32 r (by rw[cd5];rfl) ap0
 simp only[ae0,Sem.run_bind,this,Result.andThen_ok,Sem.run_pure]
 exact⟨σ,I0.refl hw,I1 h⟩
theorem bP9 : ∀n:Fin 128,decide (firstIdx sl0 (IntKind.u8.wrap ((n.val:Nat):Int)).toNat.toUInt8>=0)=(((n.val:Nat):Int)==47||((n.val:Nat):Int)==0):=by decide
theorem bh5 (r:Int) {σ:H} {K:KH} (hK:∀n:Int,(decide (n>=0)=(r==47||r==0))->K (.int .i64 n) σ):a8 270 [.string sl0,.int .i32 r] K σ:=by
 refine A4.drop (K':=fun v σ' => ∃n:Int,v = .int .i64 n/\decide (n>=0)=(r==47||r==0)/\Gr σ σ') ?_ (fun v σ' ⟨n,hv,hn,hg⟩=>⟨σ,hg,hv ▸ hK n hn⟩)
 refine dE3 _ _ ?_
 unfold dd3
 refine S9 (fun j => ∀x:Bool,x=decide (0<=r/\r<128)->j sl0 r x σ) ?_ ?_
 case refine_2 =>
  intro j hj
  by_cases h:0<=r
  ·exact l3 (by simpa using h) (hj _ (by simp[h]))
  ·exact k9 (by simpa using h) (hj _ (by simp[h]))
 intro x hx
 by_cases h:0<=r/\r<128
 ·refine l3 (by simp[hx,h]) ?_
  refine i7 (aa1 _ _ (B6 ⟨_,rfl,?_,Gr.refl _⟩))
  obtain⟨n,rfl⟩ : ∃n:Nat,r=n:=⟨r.toNat,by omega⟩
  exact bP9 ⟨n,by omega⟩
 refine k9 (by simp[hx,h]) ?_
 have hno:(r==47||r==0)=false:=by simp;omega
 have hm1:decide ((-1:Int)>=0)=(r==47||r==0):=by rw[hno];decide
 by_cases h5:r=65533
 ·refine l3 (by simpa using h5) ?_
  refine aT2 ap0 sl0 ?_
  intro b σ1 g1 e1 n1
  refine u5 ?_
  intro R hR
  have k2 : ∀σ',Gr σ σ'->σ' b=some (.stringIter sl0 2)->R (some ⟨b,0,none⟩) σ':=by
   intro σ' hg hb
   refine hR _ _ (ar3 hb (fun _=>⟨_,rfl,hm1,hg⟩) (fun hlt=>u9 hlt (by decide)))
  have k1 : ∀σ',Gr σ σ'->σ' b=some (.stringIter sl0 1)->R (some ⟨b,0,none⟩) σ':=by
   intro σ' hg hb
   refine hR _ _ (ar3 hb (fun hlt=>u9 (by decide) hlt) (fun _ σ2 hp => ?_))
   refine k9 (by decide) ?_
   exact k2 σ2 (hg.putF hp n1) hp.same
  refine hR _ _ (ar3 e1 (fun hlt=>u9 (by decide) hlt) (fun _ σ2 hp => ?_))
  refine k9 (by decide) ?_
  exact k1 σ2 (g1.putF hp n1) hp.same
 refine k9 (by simpa using h5) ?_
 refine i7 (bh4 r (y7 ?_))
 cases hv:Utf8.valid r with
 | false=>exact l3 rfl ⟨_,rfl,hm1,Gr.refl _⟩
 | true =>
  refine k9 rfl (ct4 r ?_)
  have h128:128<=r:=by
   simp[Utf8.valid]at hv;omega
  obtain⟨f1,f2,f3⟩:=encode_facts r hv h128
  have hl:IntKind.i64.wrap (((Utf8.encode r).size:Int) - 1)=(((Utf8.encode r).size - 1:Nat):Int):=by
   rw[n0 (by omega) (by omega)];omega
  rw[hl]
  refine u5 ?_
  intro R hR
  refine hR _ _ _ _ _ ?_
  by_cases h2:(Utf8.encode r).size=2
  ·refine l3 (by rw[h2];decide) ?_
   refine S9 (fun _=>True) trivial ?_
   intro j _
   have hf:=f3 (by omega)
   have hget:(Utf8.encode r)[(Utf8.encode r).size - 1]? = some ((Utf8.encode r)[(Utf8.encode r).size - 1]'(by omega)):=by simp
   have hi1:sl0[(Utf8.encode r).size - 1]? = some 0:=by rw[h2];decide
   refine aU6 hi1 (aU6 hget ?_)
   refine l3 (by simp;omega) ?_
   refine l5 ?_ ?_
   ·simp only[h2];exact⟨trivial,by unfold A1;decide⟩
   refine aU6 hget ?_
   refine i7 (aa1 _ _ (B6 ?_))
   have he:sl0.extract (IntKind.i64.wrap ((((Utf8.encode r).size - 1:Nat):Int)+1)).toNat sl0.size=⟨⟨[]⟩⟩:=by simp only[h2];decide
   rw[he]
   exact l3 rfl ⟨_,rfl,hm1,Gr.refl _⟩
  ·have hs2:sl0.size=2:=rfl
   refine k9 (by rw[hs2];simp;omega) ⟨_,rfl,hm1,Gr.refl _⟩
theorem bQ0 (s:ByteArray) (i:Nat) (hi:i<s.size):1<=(Utf8.decode s i).2/\i+(Utf8.decode s i).2<=s.size /\
 ((((Utf8.decode s i).1:Nat):Int)==47||(((Utf8.decode s i).1:Nat):Int)==0)=((s.toList.drop i).take (Utf8.decode s i).2).any fun c=>c==47||c==0:=by
 have hget : ∀k,i+k<s.size->s.toList[i+k]? = some (s.get! (i+k)):=by
  intro k hk
  rw[ByteArray.toList_eq]
  have:s.get! (i+k)=s.data[i+k]'hk:=by
   show s.data[i+k]! = _
   exact getElem!_pos s.data (i+k) hk
  rw[this]
  simp[hk]
 have hlen:s.toList.length=s.size:=by rw[ByteArray.toList_eq];simp
 have taken : ∀w,i+w<=s.size->(s.toList.drop i).take w=(List.range w).map fun k=>s.get! (i+k):=by
  intro w hw
  apply List.ext_getElem?
  intro k
  by_cases hk:k<w
  ·rw[List.getElem?_take,d9 hk,List.getElem?_drop,hget k (by omega)]
   simp[hk]
  ·rw[List.getElem?_take,c0 hk]
   simp[hk]
 have hbig : ∀k,128<=(s.get! (i+k)).toNat->((s.get! (i+k))==47||(s.get! (i+k))==0)=false:=by
  intro k hk
  cases hc:((s.get! (i+k))==47||(s.get! (i+k))==0) with
  | false=>rfl
  | true =>
   simp only[Bool.or_eq_true,beq_iff_eq]at hc
   rcases hc with hc | hc<;>(rw[hc]at hk;exact u9 hk (by decide))
 have hall : ∀w,i+w<=s.size->(∀k,k<w->128<=(s.get! (i+k)).toNat)->((s.toList.drop i).take w).any (fun c=>c==47||c==0)=false:=by
  intro w hw hk
  rw[taken w hw,List.any_map,List.any_eq_false]
  intro k hkm
  have:=hbig k (hk k (List.mem_range.1 hkm))
  simp only[Function.comp]
  rw[this];simp
 have hcont : ∀k,(decide (i+k<s.size)&&(s.get! (i+k)).toNat / 64==2)=true->i+k<s.size/\128<=(s.get! (i+k)).toNat:=by
  intro k h
  simp only[A8,z8,beq_iff_eq]at h
  exact⟨h.1,by omega⟩
 unfold Utf8.decode
 simp only
 by_cases h0:(s.get! (i+0)).toNat<128
 ·rw[d9 h0]
  refine⟨by simp,by simp;omega,?_⟩
  simp only
  rw[taken 1 (by omega)]
  simp only[List.range_one,H5,List.map_nil,List.any_cons,List.any_nil,ad6]
  have e1:((((s.get! (i+0)).toNat:Nat):Int)==47)=(s.get! (i+0)==47):=by
   rw[J5];simp only[beq_iff_eq]
   constructor
   ·intro h;apply UInt8.toNat_inj.1;show(s.get! (i+0)).toNat=47;omega
   ·intro h;rw[h];rfl
  have e2:((((s.get! (i+0)).toNat:Nat):Int)==0)=(s.get! (i+0)==0):=by
   rw[J5];simp only[beq_iff_eq]
   constructor
   ·intro h;apply UInt8.toNat_inj.1;show(s.get! (i+0)).toNat=0;omega
   ·intro h;rw[h];rfl
  rw[e1,e2]
 rw[c0 h0]
 have h0':128<=(s.get! (i+0)).toNat:=by omega
 have one : ∀c:Nat,128<=c->1<=((c,1):Nat×Nat).2/\i+((c,1):Nat×Nat).2<=s.size/\((((((c,1):Nat×Nat).1:Nat):Int)==47||((((c,1):Nat×Nat).1:Nat):Int)==0)=((s.toList.drop i).take ((c,1):Nat×Nat).2).any fun c=>c==47||c==0):=by
  intro c hc
  refine⟨by simp,by simp;omega,?_⟩
  rw [hall 1 (by omega) (fun k hk => by have : k = 0 := by omega
                                        subst this;exact h0')]
  simp;omega
 have many : ∀c w:Nat,128<=c->1<=w->i+w<=s.size->(∀k,k<w->128<=(s.get! (i+k)).toNat)->1<=((c,w):Nat×Nat).2/\i+((c,w):Nat×Nat).2<=s.size/\((((((c,w):Nat×Nat).1:Nat):Int)==47||((((c,w):Nat×Nat).1:Nat):Int)==0)=((s.toList.drop i).take ((c,w):Nat×Nat).2).any fun c=>c==47||c==0):=by
  intro c w hc hw1 hw hk
  refine⟨hw1,hw,?_⟩
  rw[hall w hw hk]
  simp;omega
 split
 ·rename_i h1
  simp only[A8]at h1
  have c1:=hcont 1 (by simpa using h1.2)
  split
  ·rename_i h2
   exact many _ 2 h2 (by omega) (by omega) (fun k hk=>by
    rcases(by omega:k=0\/k=1)with e | e<;>subst e
    ·exact h0'
    ·exact c1.2)
  ·exact one _ (by decide)
 ·split
  ·rename_i h1
   simp only[A8]at h1
   have c1:=hcont 1 (by simpa using h1.1.2)
   have c2:=hcont 2 (by simpa using h1.2)
   split
   ·rename_i h2
    simp only[A8,z8]at h2
    exact many _ 3 (by omega) (by omega) (by omega) (fun k hk=>by
     rcases(by omega:k=0\/k=1\/k=2)with e | e | e<;>subst e
     ·exact h0'
     ·exact c1.2
     ·exact c2.2)
   ·exact one _ (by decide)
  ·split
   ·rename_i h1
    simp only[A8]at h1
    have c1:=hcont 1 (by simpa using h1.1.1.2)
    have c2:=hcont 2 (by simpa using h1.1.2)
    have c3:=hcont 3 (by simpa using h1.2)
    split
    ·rename_i h2
     simp only[A8,z8]at h2
     exact many _ 4 (by omega) (by omega) (by omega) (fun k hk=>by
      rcases(by omega:k=0\/k=1\/k=2\/k=3)with e | e | e | e<;>subst e
      ·exact h0'
      ·exact c1.2
      ·exact c2.2
      ·exact c3.2)
    ·exact one _ (by decide)
   ·exact one _ (by decide)
theorem ct5 {v:Value} {x:Bool} {F:Value->Bool->H->Prop} {σ:H} (h2:F v x σ):HL.app (.tup [.sc .raw,.sc .bool]) F (.tuple ⟨[v,.bool x]⟩) σ:=by
 unfold HL.app;exact h2
def bQ1:List Value:=(List.range 256).map fun i => .bool (i==47||i==0)
theorem bQ2:sizeT Tryz.prog 251=some 256:=by kernel_rfl
theorem bE7 {σ:H} {K:KH} (hK:K (.tuple ⟨[.agg ⟨bQ1⟩,.bool true]⟩) σ):a8 253 [.string sl0] K σ:=by
 refine B7 _ hK (dD6 _ ?_)
 unfold db9
 refine x0 ?_
 intro b σ1 g1 e1 n1
 refine u5 ?_
 intro R hR
 refine hR _ _ _ _ (l3 (by decide) (aU6 (i:=0) (c:=47) (by decide) (k9 (by decide) (i6 (l5 (by decide) ?_)))))
 refine w4 e1 aI7 ?_
 intro σ2 p2
 refine hR _ _ _ _ (l3 (by decide) (aU6 (i:=1) (c:=0) (by decide) (k9 (by decide) (i6 (l5 (by decide) ?_)))))
 refine w4 p2.same aI7 ?_
 intro σ3 p3
 have e3:σ3 b=some (.cells ⟨bQ1⟩ 251 (0,0)):=by rw[p3.same];rfl
 have g3:Gr σ σ3:=(g1.putF p2 n1).putF p3 n1
 refine hR _ _ _ _ (k9 (by decide) (i6 ?_))
 refine ag2 (l7 e3) ?_
 refine w4 e3 bQ2 ?_
 intro σ4 p4
 have e4:σ4 b=some (.cells ⟨bQ1⟩ 251 (0,0)):=by rw[p4.same];rfl
 refine i6 (ag2 (l7 e4) ?_)
 exact⟨rfl,g3.putF p4 n1⟩
theorem bp9 (s:ByteArray) (hs:s.size<=1000000) {σ:H} {K:KH} (hK:∀n:Int,decide (n>=0)=P1 s->K (.int .i64 n) σ):a8 247 [.string s,.string sl0] K σ:=by
 refine A4.drop (K':=fun v σ' => ∃n:Int,v = .int .i64 n/\decide (n>=0)=P1 s/\Gr σ σ') ?_ (fun v σ' ⟨n,hv,hn,hg⟩=>⟨σ,hg,hv ▸ hK n hn⟩)
 refine dD3 _ _ ?_
 unfold db3
 refine k9 (by rw[B8,ByteArray.toList_eq,ByteArray.toList_eq];rfl) (k9 (by decide) ?_)
 refine S9 (fun j => ∀σ',Gr σ σ'->j s sl0 σ') ?_ ?_
 ·intro σ0 g0
  refine aT2 ap0 s ?_
  intro b σ1 g1 e1 n1
  refine u5 ?_
  intro R hR
  have key : ∀k i σ',s.size - i<=k->i<=s.size->Gr σ0 σ'->σ' b=some (.stringIter s i)->((s.toList.take i).any fun c=>c==47||c==0)=false->R sl0 (some ⟨b,0,none⟩) σ':=by
   intro k
   induction k with
   | zero =>
    intro i σ' hk hi hg hb hf
    refine hR _ _ _ (ar3 hb (fun _=>⟨_,rfl,?_,g0.trans hg⟩) (fun hlt=>by omega))
    have:s.toList.take i=s.toList:=by rw[H7];rw[ByteArray.toList_eq];simp;omega
    rw[this]at hf
    unfold P1;rw[<-ByteArray.toList_eq];rw[hf];decide
   | succ k ih =>
    intro i σ' hk hi hg hb hf
    refine hR _ _ _ (ar3 hb (fun hlt=>⟨_,rfl,?_,g0.trans hg⟩) (fun hlt σ2 hp => ?_))
    ·have:s.toList.take i=s.toList:=by rw[H7];rw[ByteArray.toList_eq];simp;omega
     rw[this]at hf
     unfold P1;rw[<-ByteArray.toList_eq];rw[hf];decide
    ·obtain⟨d1,d2,d3⟩:=bQ0 s i hlt
     have hg2:Gr σ0 σ2:=hg.putF hp n1
     refine i7 (bh5 _ ?_)
     intro n hn
     refine B6 ?_
     cases hc:((((Utf8.decode s i).1:Nat):Int)==47||(((Utf8.decode s i).1:Nat):Int)==0) with
     | true =>
      rw[hc]at hn d3
      refine l3 hn ⟨_,rfl,?_,g0.trans hg2⟩
      have hb:P1 s=true:=by
       unfold P1;rw[<-ByteArray.toList_eq]
       obtain⟨c,h1,h2⟩:=List.any_eq_true.1 d3.symm
       exact List.any_eq_true.2 ⟨c,List.mem_of_mem_drop (List.mem_of_mem_take h1),h2⟩
      rw[hb];simp
     | false =>
      rw[hc]at hn d3
      refine k9 hn ?_
      refine ih (i+(Utf8.decode s i).2) σ2 (by omega) d2 hg2 hp.same ?_
      rw[List.take_add,List.any_append,hf,<- d3];rfl
  exact key _ 0 σ1 (A6 _) (by omega) g1 e1 rfl
 ·intro j hj
  refine i7 ?_
  refine dE4 _ ?_
  unfold dd5
  refine y7 ?_
  by_cases h8:8<s.size
  ·refine l3 (by simp;omega) ?_
   refine i7 (bE7 ?_)
   refine ct5 ?_
   refine x0 ?_
   intro b σ1 g1 e1 n1
   refine w4 e1 bQ2 ?_
   intro σ2 p2
   have e2:σ2 b=some (.cells ⟨bQ1⟩ 251 (0,0)):=by rw[p2.same];rfl
   have g2:Gr σ σ2:=g1.putF p2 n1
   refine l3 rfl ?_
   refine u5 ?_
   intro R hR
   have hlen:s.toList.length=s.size:=by rw[ByteArray.toList_eq];simp
   have key : ∀k i:Nat,s.size - i<=k->i<=s.size->((s.toList.take i).any fun c=>c==47||c==0)=false->R s (some ⟨b,0,none⟩) (i:Int) σ2:=by
    intro k
    induction k with
    | zero =>
     intro i hk hi hf
     refine hR _ _ _ _ (k9 (by simp;omega) ⟨_,rfl,?_,g2⟩)
     have:s.toList.take i=s.toList:=by rw[H7];omega
     rw[this]at hf
     unfold P1;rw[<-ByteArray.toList_eq];rw[hf];decide
    | succ k ih =>
     intro i hk hi hf
     by_cases hlt:i<s.size
     ·refine hR _ _ _ _ (l3 (by simp;omega) ?_)
      have hget:s[i]? = some s[i]:=by simp[hlt]
      refine aU6 hget ?_
      refine i7 ?_
      refine dE5 _ _ ?_
      unfold dd7
      have hb256:(s[i]).toNat<256:=UInt8.toNat_lt _
      refine i6 (l5 ⟨by omega,by omega⟩ ?_)
      refine aX9 (x:=(s[i].toNat==47||s[i].toNat==0)) (f0 e2 ?_) (y7 ?_)
      ·have:(0+(((s[i]).toNat:Int)).toNat * 1)=(s[i]).toNat:=by omega
       rw[this]
       simp[bQ1,hb256]
      ·have hc : (s[i].toNat == 47 || s[i].toNat == 0) = (s[i] == 47 || s[i] == 0) := by
        have q : ∀n:UInt8,(s[i].toNat==n.toNat)=(s[i]==n):=by
         intro n;rw[J5];simp only[beq_iff_eq];exact UInt8.toNat_inj
        have q1:=q 47
        have q2:=q 0
        rw[<-q1,<- q2];rfl
       rw[hc]
       have hli:s.toList[i]? = some s[i]:=by
        rw[ByteArray.toList_eq];simp[hlt,ByteArray.getElem_eq_getElem_data]
       cases hv:(s[i]==47||s[i]==0) with
       | true =>
        refine l3 rfl ⟨_,rfl,?_,g2⟩
        have hb:P1 s=true:=by
         unfold P1;rw[<-ByteArray.toList_eq]
         exact List.any_eq_true.2 ⟨s[i],F7 hli,hv⟩
        rw[hb];simp
       | false =>
        refine k9 rfl ?_
        rw[n0 (by omega) (by omega)]
        refine ih (i+1) (by omega) (by omega) ?_
        rw[Q3,List.any_append,hf,hli]
        simpa using hv
     ·refine hR _ _ _ _ (k9 (by simp;omega) ⟨_,rfl,?_,g2⟩)
      have:s.toList.take i=s.toList:=by rw[H7];omega
      rw[this]at hf
      unfold P1;rw[<-ByteArray.toList_eq];rw[hf];decide
   exact key _ 0 (A6 _) (by omega) rfl
  ·exact k9 (by simp;omega) (hj σ (Gr.refl _))
theorem dE8:dE7:=by
 intro s hs σ K hK
 refine dA5 _ _ ?_
 unfold cV3
 refine i7 (bp9 s hs ?_)
 intro n hn
 refine B6 ?_
 rw[hn]
 exact hK
theorem aN0 (s:ByteArray) (c:UInt8) {σ:H} {K:KH} (hK:K (.int .i64 (firstIdx s c)) σ):a8 176 [.string s,.int .u8 (c.toNat:Int)] K σ:=by
 refine cP7 _ _ ?_
 unfold cs2
 refine cm5 s _ ?_
 have:((c.toNat:Int)).toNat.toUInt8=c:=by simp
 rw[this];exact hK
theorem aR3 (c:UInt8):firstIdx ⟨⟨[c]⟩⟩ c=0:=by
 rcases ab3 ⟨⟨[c]⟩⟩ c with⟨_,h⟩ | ⟨i,h,h2,_⟩
 ·simp at h
 ·have:i<1:=h2
  omega
theorem aH0 (s:ByteArray) (c:UInt8) {σ:H} {K:KH} (hK:K (.int .i64 (firstIdx s c)) σ):cs6 s ⟨⟨[c]⟩⟩ K σ:=by
 unfold cs6
 refine S9 (fun j => ∀b:Bool,(b=true->s=⟨⟨[c]⟩⟩)->j s ⟨⟨[c]⟩⟩ (((⟨⟨[c]⟩⟩:ByteArray).size:Nat):Int) b σ) ?_ ?_
 ·intro b hb
  cases b with
  | true =>
   refine l3 rfl ?_
   have:=hb rfl
   subst this
   rw[aR3]at hK;exact hK
  | false =>
   refine k9 rfl (l3 rfl (M3 (c:=c) (by decide) rfl ?_))
   exact i7 (aN0 s c (B6 hK))
 ·intro j hj
  refine k9 rfl (hj _ ?_)
  intro h;exact(P8.1 h).symm
theorem bQ3 (s:ByteArray) (c:UInt8) {σ:H} {K:KH} (hK:K (.int .i64 (firstIdx s c)) σ):a8 227 [.string s,.string ⟨⟨[c]⟩⟩] K σ:=by
 refine dB5 _ _ ?_
 unfold cX5
 exact i7 (cX1 _ _ (aH0 s c (B6 hK)))
section
variable {ι : Type}
end
section
variable {σ σ' : H} {bf : Nat} {A : AT} {B : Nat -> Prop} {b : Nat} {o : Obj}
end
section
variable {σ : H} {bt : Nat} {A : AT} {B : Nat -> Prop}
end
section
variable {σ : H} {bf : Nat} {A : AT} {B : Nat -> Prop}
end
section
variable {σ τ τ' : H} {bf bh b6 b7 b8 b9 b10 : Nat} {A : AT} {B : Nat -> Prop} {follow : Bool} {b : Nat} {o : Obj}
end
section
variable {σ : H} {bf : Nat} {A : AT} {B : Nat -> Prop}
theorem bh3.gr {σ σ':H} {x:Sl} {l:List ByteArray} (h:bh3 σ x l) (hg:Gr σ σ'):bh3 σ' x l:=by
 obtain⟨h1,h2⟩:=h
 refine⟨h1,?_⟩
 rcases h2 with h2 | ⟨g,cur,e1,e2,e3⟩
 ·exact .inl h2
 ·exact .inr ⟨g,cur,e1,hg.get e2,e3⟩
end
section
variable {σ : H} {bf : Nat} {A : AT} {B : Nat -> Prop}
end
mutual
def aR4 (σ:H):Tr->List Value->Prop
 | .mk n k e d kids,cs => ∃x:Sl,cs=[.string n,.int .i64 k,.bool e,.string d,.slice x.base x.len x.cap]/\x.len=kids.length/\(kids=[] \/ ∃g o cur t fz,x.base=some ⟨g,o,none⟩/\σ g=some (.cells ⟨cur⟩ t fz)/\al8 σ kids (cur.drop o))
def al8 (σ:H):List Tr->List Value->Prop
 | [],_=>True
 | t::r,cs=>aR4 σ t (cs.take 5)/\al8 σ r (cs.drop 5)
end
def O1 (σ:H) (kids:List Tr) (x:Sl):Prop:=x.len=kids.length/\(kids=[] \/ ∃g o cur t fz,x.base=some ⟨g,o,none⟩/\σ g=some (.cells ⟨cur⟩ t fz)/\al8 σ kids (cur.drop o))
def O2 (t:Tr) (x:Sl):List Value:=[.string t.name,.int .i64 t.kind,.bool t.exec,.string t.data,.slice x.base x.len x.cap]
theorem ac0 {σ:H} {t:Tr} {cs:List Value}:aR4 σ t cs ↔ ∃x,cs=O2 t x/\O1 σ t.kids x:=by
 obtain⟨n,k,e,d,kids⟩:=t
 simp only[aR4,O2,O1,Tr.name,Tr.kind,Tr.exec,Tr.data,Tr.kids]
theorem aU7 {σ:H} : ∀ {l:List Tr} {cs:List Value} {i:Nat} {t:Tr},al8 σ l cs->l[i]? = some t->aR4 σ t ((cs.drop (i * 5)).take 5):=by
 intro l
 induction l with
 | nil=>intro cs i t _ h;simp at h
 | cons x r ih =>
  intro cs i t h hi
  simp only[al8]at h
  cases i with
  | zero=>simp at hi;subst hi;simpa using h.1
  | succ i =>
   simp at hi
   have:=ih h.2 hi
   rw[List.drop_drop]at this
   rw[show(i+1) * 5=5+i * 5 by omega];exact this
theorem ah9 {σ:H} {kids:List Tr} {x:Sl} (h:O1 σ kids x) {i:Nat} {t:Tr} (hi:kids[i]? = some t) : ∃g o y,x.base=some ⟨g,o,none⟩/\rdA 5 g (o+i * 5) σ=some (.agg ⟨O2 t y⟩)/\O1 σ t.kids y:=by
 obtain⟨h1,h2 | ⟨g,o,cur,ty,fz,h3,h4,h5⟩⟩:=h
 ·subst h2;simp at hi
 ·have:=aU7 h5 hi
  obtain⟨y,hy,hs⟩:=ac0.1 this
  refine⟨g,o,y,h3,?_,hs⟩
  rw[List.drop_drop]at hy
  have hlen:o+i * 5+5<=cur.length:=by
   have:=D9 List.length hy
   simp[O2]at this
   omega
  rw[aX8 h4 hlen,hy]
theorem aA4 {σ:H} {kids:List Tr} {x:Sl} (h:O1 σ kids x) {i:Nat} {t:Tr} (hi:kids[i]? = some t) : ∃g o,x.base=some ⟨g,o,none⟩/\s5 g (o+i * 5) σ=some (.string t.name):=by
 obtain⟨h1,h2 | ⟨g,o,cur,ty,fz,h3,h4,h5⟩⟩:=h
 ·subst h2;simp at hi
 ·have:=aU7 h5 hi
  obtain⟨y,hy,hs⟩:=ac0.1 this
  refine⟨g,o,h3,f0 h4 ?_⟩
  rw[List.drop_drop]at hy
  have h0:((cur.drop (o+i * 5)).take 5)[0]? = some (.string t.name):=by rw[hy];rfl
  simpa using h0
theorem bw7 {σ σ':H} (hg:Gr σ σ') : ∀t:Tr,∀cs,aR4 σ t cs->aR4 σ' t cs:=by
 refine Tr.ind ?_
 intro t ih cs h
 rw[ac0]at h ⊢
 obtain⟨x,h1,h2,h3⟩:=h
 refine⟨x,h1,h2,?_⟩
 rcases h3 with h3 | ⟨g,o,cur,ty,fz,h3,h4,h5⟩
 ·exact .inl h3
 ·refine .inr ⟨g,o,cur,ty,fz,h3,hg.get h4,?_⟩
  generalize cur.drop o=cs at h5
  clear h4 h3 h2 h1
  generalize t.kids=l at *
  induction l generalizing cs with
  | nil=>trivial
  | cons y r ihr =>
   simp only[al8]at h5 ⊢
   exact⟨ih y (E2 ..) _ h5.1,ihr _ (fun z hz=>ih z (E3 _ hz)) h5.2⟩
theorem bQ4 {σ σ':H} (hg:Gr σ σ') : ∀ {l:List Tr} {cs:List Value},al8 σ l cs->al8 σ' l cs:=by
 intro l
 induction l with
 | nil=>intro _ _;trivial
 | cons y r ih=>intro cs h;simp only[al8]at h ⊢;exact⟨bw7 hg y _ h.1,ih h.2⟩
theorem O1.gr {σ σ':H} {kids:List Tr} {x:Sl} (h:O1 σ kids x) (hg:Gr σ σ'):O1 σ' kids x:=by
 obtain⟨h1,h2 | ⟨g,o,cur,ty,fz,h3,h4,h5⟩⟩:=h
 ·exact⟨h1,.inl h2⟩
 ·exact⟨h1,.inr ⟨g,o,cur,ty,fz,h3,hg.get h4,bQ4 hg h5⟩⟩
theorem O1.nil {σ:H} {b:Option Addr} {c:Nat}:O1 σ [] ⟨b,0,c⟩:=⟨rfl,.inl rfl⟩
theorem I2:sizeT Tryz.prog 75=some 5:=by kernel_rfl
theorem bw8 : ∀ (m:Nat) (t:Tr),1<=t.deep m/\t.deep m<=m+1:=by
 intro m
 induction m with
 | zero=>intro t;simp[Tr.deep]
 | succ m ih =>
  intro t
  unfold Tr.deep
  by_cases h:t.kind≠2\/m=0
  ·rw[d9 h];omega
  ·rw[c0 h]
   have key : ∀ (l:List Tr) (d:Int),1<=d->d<=m+2->1<=l.foldl (fun d x=>gr d (1+Tr.deep m x)) d/\l.foldl (fun d x=>gr d (1+Tr.deep m x)) d<=m+2:=by
    intro l
    induction l with
    | nil=>intro d h1 h2;exact⟨h1,h2⟩
    | cons x r ihl =>
     intro d h1 h2
     have:=ih x
     simp only[Q0]
     refine ihl _ ?_ ?_<;>(unfold Wk.gr;split<;>omega)
   have:=key t.kids 1 (by omega) (by omega)
   omega
theorem bE8 : ∀l:List Tr,l.length<=Tr.totalRow l:=by
 intro l
 induction l with
 | nil=>simp[Tr.totalRow]
 | cons x r ih =>
  simp only[Tr.totalRow,y5]
  have:1<=x.total:=by obtain⟨n,k,e,d,kids⟩:=x;simp only[Tr.total];omega
  omega
theorem U1 (t:Tr):t.kids.length+1<=t.total:=by
 have:=bE8 t.kids
 obtain⟨n,k,e,d,kids⟩:=t
 simp only[Tr.total,Tr.kids]at *;omega
theorem W4 {t x:Tr} {i:Nat} (h:t.kids[i]? = some x):x.total<t.total:=Tr.total_kid (F7 h)
theorem cd6 : ∀ (m:Nat),m<=100 -> ∀ (t:Tr) (y:Sl) {σ:H},O1 σ t.kids y->t.total<=1000000000000000 -> ∀ {K:KH},K (.int .i64 (t.deep (m+1))) σ->a8 209 [.agg ⟨O2 t y⟩,.int .i64 ((m+1:Nat):Int)] K σ:=by
 intro m
 induction m with
 | zero =>
  intro _ t y σ hs hT K hK
  refine B7 _ hK (cU7 _ _ _ _ _ _ ?_)
  clear hK
  unfold cs4
  refine x0 ?_;intro b7 σ1 g1 e1 n1
  refine S9 (fun j=>j (((0+1:Nat):Nat):Int) (some ⟨b7,0,none⟩) 1 true σ1) ?_ ?_
  ·refine l3 rfl ⟨?_,g1⟩
   unfold Tr.deep;rw[d9 (.inr rfl)]
  ·intro j hj
   refine E9 (f0 e1) ?_
   by_cases hk:t.kind=2
   ·exact k9 (by simpa using hk) hj
   ·exact l3 (by simpa using hk) hj
 | succ m ih =>
  intro hm t y σ hs hT K hK
  refine B7 _ hK (cU7 _ _ _ _ _ _ ?_)
  clear hK
  unfold cs4
  refine x0 ?_;intro b7 σ1 g1 e1 n1
  unfold Tr.deep
  refine S9 (fun j => ∀b:Bool,(b=true↔t.kind≠2)->j (((m+1+1:Nat):Nat):Int) (some ⟨b7,0,none⟩) 1 b σ1) ?_ ?_
  ·intro b hb
   by_cases hk:t.kind=2
   case neg =>
    rw[d9 (.inl hk)]
    refine l3 (hb.2 hk) ⟨rfl,g1⟩
   have hbf:b=false:=by
    cases b with
    | false=>rfl
    | true=>exact u9 hk (hb.1 rfl)
   rw[c0 (by rintro (h | h);exact h hk;omega)]
   refine k9 hbf (i6 (A7 (f0 e1) ?_))
   refine u5 ?_
   intro R hR
   have hlen:=U1 t
   have key : ∀ (l:List Tr) (i:Nat) (d:Int) (τ:H),t.kids.drop i=l->1<=d->d<=200->Gr σ τ->R (((m+1+1:Nat):Nat):Int) d ⟨y.base,y.len,y.cap⟩ ((y.len:Nat):Int) (i:Int) τ->True:=fun _ _ _ _ _ _ _ _ _=>trivial
   clear key
   have key : ∀ (l:List Tr) (i:Nat) (d:Int) (τ:H),t.kids.drop i=l->1<=d->d<=200->Gr σ τ->t.kids.foldl (fun d x=>Wk.gr d (1+Tr.deep (m+1) x)) 1=l.foldl (fun d x=>Wk.gr d (1+Tr.deep (m+1) x)) d->R (((m+1+1:Nat):Nat):Int) d y ((y.len:Nat):Int) (i:Int) τ:=by
    intro l
    induction l with
    | nil =>
     intro i d τ hd h1 h2 hg he
     have hge:t.kids.length<=i:=by simpa using hd
     refine hR _ _ _ _ _ _ ?_
     refine k9 (by rw[hs.1];exact J6) ⟨?_,hg⟩
     rw[he];rfl
    | cons x r ihl =>
     intro i d τ hd h1 h2 hg he
     have hx:t.kids[i]? = some x:=by
      have:(t.kids.drop i)[0]? = some x:=by rw[hd];rfl
      simpa using this
     have hlt:i<t.kids.length:=by
      rcases F6 i t.kids.length with h | h
      ·exact h
      ·rw[M8 h]at hd;cases hd
     obtain⟨g,o,z,hb,hrd,hz⟩:=ah9 (hs.gr hg) hx
     refine hR _ _ _ _ _ _ ?_
     refine l3 (by rw[hs.1];exact C8) ?_
     rw[hb]
     refine i6 (l5 ⟨by omega,by rw[hs.1];omega⟩ ?_)
     have hrd':rdA 5 g (o+(i:Int).toNat * 5) τ=some (.agg ⟨O2 x z⟩):=by simpa using hrd
     refine A3 hrd' ?_
     unfold O2
     (refine k0 rfl ?_;try dsimp only)
     refine x0 ?_;intro b29 τ1 g2 e2 n2
     refine w4 e2 I2 ?_;intro τ2 p2
     refine A3 (l7 p2.same) ?_
     (refine k0 rfl ?_;try dsimp only)
     have hg2:Gr τ τ2:=g2.putF p2 n2
     have w1:IntKind.i64.wrap ((((m+1+1:Nat):Nat):Int) - 1)=((m+1:Nat):Int):=by rw[n0 (by omega) (by omega)];omega
     rw[w1]
     refine i7 (ih (by omega) x z (hz.gr hg2) (by have:=W4 hx;omega) (B6 ?_))
     have hdl:=bw8 (m+1) x
     rw[n0 (x:=1+Tr.deep (m+1) x) (by omega) (by omega),n0 (x:=(i:Int)+1) (by omega) (by omega)]
     have h2':t.kids.drop (i+1)=r:=by rw[<-List.drop_drop,hd];rfl
     refine ihl (i+1) _ τ2 h2' ?_ ?_ (hg.trans hg2) ?_
     ·split<;>omega
     ·split<;>omega
     ·rw[he];rfl
   exact key t.kids 0 1 σ1 rfl (by omega) (by omega) g1 rfl
  ·intro j hj
   refine E9 (f0 e1) ?_
   by_cases hk:t.kind=2
   ·refine k9 (by simpa using hk) (hj _ ?_)
    have:((((m+1+1:Nat):Int))==1)=false:=by
     simp only[M9];omega
    rw[this];simp[hk]
   ·exact l3 (by simpa using hk) (hj true (by simp[hk]))
theorem cd7 (t:Tr) (y:Sl) {σ:H} (hs:O1 σ t.kids y) (hT:t.total<=1000000000000000) {K:KH} (hK:K (.int .i64 (t.deep 14)) σ):a8 167 [.agg ⟨O2 t y⟩] K σ:=by
 refine B7 _ hK (dx2 _ _ _ _ _ ?_)
 clear hK
 unfold cN9
 refine x0 ?_;intro b6 σ1 g1 e1 n1
 refine A3 (l7 e1) ?_
 (refine k0 rfl ?_;try dsimp only)
 exact i7 (cd6 13 (by omega) t y (hs.gr g1) hT (B6 ⟨rfl,g1⟩))
theorem aE0 (t:Tr) (y:Sl) {σ:H} (hs:O1 σ t.kids y) (hT:t.total<=1000000000000000) {K:KH} (hK:K (.bool t.tooDeep) σ):a8 105 [.agg ⟨O2 t y⟩] K σ:=by
 refine B7 _ hK (dt2 _ _ _ _ _ ?_)
 clear hK
 unfold cE9
 refine x0 ?_;intro b6 σ1 g1 e1 n1
 refine A3 (l7 e1) ?_
 (refine k0 rfl ?_;try dsimp only)
 exact i7 (cd7 t y (hs.gr g1) hT (B6 ⟨rfl,g1⟩))
theorem C5 {α:Type} {l r:List α} {x:α} {i:Nat} (h:l.drop i=x::r):l[i]? = some x/\i<l.length/\l.drop (i+1)=r:=by
 refine⟨?_,?_,?_⟩
 ·have:(l.drop i)[0]? = some x:=by rw[h];rfl
  simpa using this
 ·rcases F6 i l.length with h' | h'
  ·exact h'
  ·rw[M8 h']at h;cases h
 ·rw[<-List.drop_drop,h];rfl
def Pb (σ:H) (f:Value) (b:Bool):Prop := ∀K:Value->H->Prop,K (.bool b) σ->u7 Tryz.prog f [] K σ
theorem aU8 {σ:H} {g:FuncId} {as_ cs:List Value} {e:Bool} (hg:I3 Tryz.prog g=true) (h:∀K:Value->H->Prop,K (.bool e) σ->a8 g (as_++cs) K σ):Pb σ (.func (.func g) ⟨as_⟩ ⟨cs⟩) e:=by
 intro K hk
 unfold u7
 simp only[hg]
 simpa using h K hk
def bw9 (σ:H):List Value->List Bool->Prop
 | [],[]=>True
 | f::fs,b::bs=>Pb σ f b/\(b=true->bw9 σ fs bs)
 | _,_=>False
def aZ3:List Bool->Bool
 | []=>true
 | b::r=>b&&aZ3 r
theorem cd8:I3 Tryz.prog 211=true:=by kernel_rfl
theorem ct6 {σ:H} {b:Nat} {fs:List Value} {bs:List Bool} {t:TypeId} (hb:σ b=some (.cells ⟨fs⟩ t (0,0))) (h:bw9 σ fs bs) (hn:fs.length<=1000) {K:KH} (hK:∀n:Int,decide (n>=0) = !aZ3 bs->K (.int .i64 n) σ) :
 a8 246 [.slice (some ⟨b,0,none⟩) fs.length fs.length,.func (.func 211) ⟨[]⟩ ⟨[]⟩] K σ:=by
 refine db1 ⟨some ⟨b,0,none⟩,_,_⟩ _ ?_
 unfold cs7
 refine u5 ?_
 intro R hR
 have key : ∀ (gs:List Value) (ds:List Bool) (i:Nat),fs.drop i=gs->bw9 σ gs ds->aZ3 bs=aZ3 ds->R ⟨some ⟨b,0,none⟩,fs.length,fs.length⟩ (.func (.func 211) ⟨[]⟩ ⟨[]⟩) ((fs.length:Nat):Int) (i:Int) σ:=by
  intro gs
  induction gs with
  | nil =>
   intro ds i hd hok he
   have hge:fs.length<=i:=by simpa using hd
   refine hR _ _ _ _ _ ?_
   cases ds with
   | cons d ds=>exact hok.elim
   | nil=>exact k9 (by simp;omega) (hK _ (by rw[he];rfl))
  | cons f gs ih =>
   intro ds i hd hok he
   cases ds with
   | nil=>exact hok.elim
   | cons d ds =>
    obtain⟨hp,hok⟩:=hok
    obtain⟨hf,hlt,hd'⟩:=C5 hd
    refine hR _ _ _ _ _ ?_
    refine l3 (by simpa using hlt) ?_
    refine i6 (l5 ⟨by omega,by show(i:Int)<(fs.length:Int);omega⟩ ?_)
    refine ag2 (f0 (v:=f) hb (by simpa using hf)) ?_
    refine O6 cd8 (dA4 _ ?_)
    unfold cV1
    refine ag3 (hp _ (y7 (y7 ?_)))
    cases d with
    | false =>
     refine l3 rfl (hK _ ?_)
     rw[he];simp[aZ3]
    | true =>
     refine k9 rfl ?_
     rw[n0 (by omega) (by omega)]
     exact ih ds (i+1) hd' (hok rfl) (by rw[he];simp[aZ3])
 exact key fs bs 0 rfl h rfl
theorem cm6 {σ:H} {b:Nat} {fs:List Value} {bs:List Bool} {t:TypeId} (hb:σ b=some (.cells ⟨fs⟩ t (0,0))) (h:bw9 σ fs bs) (hn:fs.length<=1000) {K:KH} (hK:K (.bool (aZ3 bs)) σ) :
 a8 170 [.slice (some ⟨b,0,none⟩) fs.length fs.length] K σ:=by
 refine dx5 ⟨some ⟨b,0,none⟩,_,_⟩ ?_
 unfold cO5
 refine i7 (cU9 ⟨some ⟨b,0,none⟩,_,_⟩ _ ?_)
 unfold cs5
 refine i7 (ct6 hb h hn ?_)
 intro n hn
 refine B6 (y7 ?_)
 rw[hn];simpa using hK
theorem aA5 (a b:ByteArray):E4 a b=ltB a b:=by
 unfold E4 ltB
 rw[ByteArray.toList_eq,ByteArray.toList_eq]
 generalize a.data.toList=x
 generalize b.data.toList=y
 induction x generalizing y with
 | nil=>cases y<;>simp[Op.bytesLess,Wk.leB]
 | cons c r ih =>
  cases y with
  | nil=>simp[Op.bytesLess,Wk.leB]
  | cons d s =>
   simp only[Op.bytesLess,Wk.leB,ih s]
   by_cases h1:c<d
   ·have:Nat.blt c.toNat d.toNat=true:=by rw[Nat.blt_eq];exact h1
    have h2:Nat.blt d.toNat c.toNat=false:=by
     rw[<-Bool.not_eq_true,Nat.blt_eq];have:c.toNat<d.toNat:=h1;omega
    simp[h1,this,h2]
   ·have n1:Nat.blt c.toNat d.toNat=false:=by rw[<-Bool.not_eq_true,Nat.blt_eq];exact h1
    by_cases h2:d<c
    ·have:Nat.blt d.toNat c.toNat=true:=by rw[Nat.blt_eq];exact h2
     have h3:(c==d)=false:=by
      simp only[M9];intro e;subst e;exact h1 h2
     simp[h1,this,h3]
    ·have n2:Nat.blt d.toNat c.toNat=false:=by rw[<-Bool.not_eq_true,Nat.blt_eq];exact h2
     have:c=d:=UInt8.le_antisymm (UInt8.not_lt.1 h2) (UInt8.not_lt.1 h1)
     subst this
     simp[n1]
theorem bE9 (s:ByteArray) {σ:H} {K:KH} (hK:K (.bool (V4 s)) σ):a8 174 [.string s] K σ:=by
 refine dx9 _ ?_
 unfold cP3
 unfold V4 at hK
 simp only[ao3]at hK
 by_cases h1:1<=s.size
 case neg=>exact k9 (by simp;omega) (by simpa[h1]using hK)
 refine l3 (by simp;omega) ?_
 by_cases h2:s.size<=56
 case neg=>exact k9 (by simp;omega) (by simpa[h1,h2]using hK)
 refine l3 (by simp;omega) (i7 (dE8 _ (by omega) _ _ (y7 ?_)))
 simp only[h1,h2,decide_true,C4]at hK
 cases h3:P1 s with
 | true=>rw[h3]at hK;exact k9 rfl hK
 | false =>
  rw[h3]at hK
  refine l3 rfl ?_
  cases h4:B8 s ⟨⟨[46]⟩⟩ with
  | true=>rw[h4]at hK;exact k9 rfl hK
  | false=>rw[h4]at hK;exact l3 rfl hK
theorem bQ5:I3 Tryz.prog 168=true:=by kernel_rfl
theorem bh6:I3 Tryz.prog 169=true:=by kernel_rfl
theorem bQ6:I3 Tryz.prog 171=true:=by kernel_rfl
theorem bQ7:I3 Tryz.prog 172=true:=by kernel_rfl
theorem bQ8:I3 Tryz.prog 173=true:=by kernel_rfl
section
variable {σ : H} {b6 : Nat} {t : Tr} {y : Sl} {ty : TypeId}
theorem bx0 (h6:σ b6=some (.cells ⟨O2 t y⟩ ty (0,0))) (hs:O1 σ t.kids y) {K:KH} (hK:K (.bool t.kids.isEmpty) σ):a8 168 [.pointer (some ⟨b6,0,none⟩)] K σ:=by
 refine dx3 _ ?_
 unfold cO1
 unfold O2 at h6
 refine i6 (A7 (f0 h6) ?_)
 have:((((y.len:Nat):Int):Int)==0)=t.kids.isEmpty:=by
  rw[hs.1];cases t.kids<;>simp;omega
 rw[this];exact hK
theorem bx1 (h6:σ b6=some (.cells ⟨O2 t y⟩ ty (0,0))) {K:KH} (hK:K (.bool (!t.exec)) σ):a8 169 [.pointer (some ⟨b6,0,none⟩)] K σ:=by
 refine dx4 _ ?_
 unfold cO3
 unfold O2 at h6
 exact i6 (aX9 (f0 h6) hK)
theorem cd9 (h6:σ b6=some (.cells ⟨O2 t y⟩ ty (0,0))) {K:KH} (hK:K (.bool (ah4 t.data)) σ):a8 171 [.pointer (some ⟨b6,0,none⟩)] K σ:=by
 refine dx6 _ ?_
 unfold cO7
 unfold O2 at h6
 have hne:sEq t.data ⟨⟨[]⟩⟩=decide (t.data.size<1):=by
  rw[J5,aI2,z8]
  constructor
  ·intro e;rw[e];decide
  ·intro h
   have hl:t.data.data.toList.length=t.data.size:=rfl
   have:t.data.data.toList=[]:=Y3 (by omega)
   show(⟨⟨t.data.data.toList⟩⟩:ByteArray)=_
   rw[this]
 unfold ah4 at hK
 rw[hne]at hK
 refine i6 (y8 (f0 h6) ?_)
 by_cases h1:1<=t.data.size
 case neg=>exact k9 (by simp;omega) (by simpa[show t.data.size<1 by omega]using hK)
 refine l3 (by simp;omega) (i6 (y8 (f0 h6) ?_))
 have h1':decide (t.data.size<1)=false:=by exact J6
 rw[h1']at hK
 by_cases h2:t.data.size<=255
 case neg=>exact k9 (by simp;omega) (by simpa[h2]using hK)
 refine l3 (by simp;omega) (i6 (y8 (f0 h6) (i7 (de1 _ _ _ ?_))))
 intro n hn
 refine B6 ?_
 rw[hn];simpa[h2]using hK
theorem ce0 (h6:σ b6=some (.cells ⟨O2 t y⟩ ty (0,0))) {K:KH} (hK:K (.bool (sEq t.data ⟨⟨[]⟩⟩)) σ):a8 172 [.pointer (some ⟨b6,0,none⟩)] K σ:=by
 refine dx7 _ ?_
 unfold cO9
 unfold O2 at h6
 rw[ao3]at hK
 exact i6 (y8 (f0 h6) hK)
end
theorem bq0 : ∀ (t:Tr) (y:Sl) {σ:H},O1 σ t.kids y->t.total<=1000000000000000 -> ∀ {K:KH},K (.bool t.may) σ->a8 106 [.agg ⟨O2 t y⟩] K σ:=by
 refine Tr.ind (P:=fun t => ∀ (y:Sl) {σ:H},O1 σ t.kids y->t.total<=1000000000000000 -> ∀ {K:KH},K (.bool t.may) σ->a8 106 [.agg ⟨O2 t y⟩] K σ) ?_
 intro t ih y σ hs hT K hK
 refine B7 _ hK (dt3 _ _ _ _ _ ?_)
 clear hK
 unfold cF1
 refine x0 ?_;intro b6 σ1 g1 e1 n1
 have hs1:=hs.gr g1
 have e1':σ1 b6=some (.cells ⟨O2 t y⟩ 75 (0,0)):=e1
 refine E9 (f0 e1) ?_
 have hmay:t.may=if t.kind=1 then t.kids.isEmpty else if t.kind=3 then t.kids.isEmpty&&(!t.exec&&ah4 t.data)else if t.kind=2 then !t.exec&&(sEq t.data ⟨⟨[]⟩⟩&&Tr.mayRow none t.kids)else false:=by
  obtain⟨n,k,e,d,kids⟩:=t
  rw[Tr.may];rfl
 rw[hmay]
 by_cases k1:t.kind=1
 ·rw[d9 k1]
  refine l3 (by simpa using k1) (i7 (bx0 e1' hs1 (y7 ⟨rfl,g1⟩)))
 rw[c0 k1]
 refine k9 (by simpa using k1) ?_
 by_cases k3:t.kind=3
 ·rw[d9 k3]
  refine l3 (by simpa using k3) ?_
  refine x0 ?_;intro b9 σ2 g2 e2 n2
  have e1'':=g2.get e1'
  refine i7 (cm6 (bs:=[t.kids.isEmpty,!t.exec,ah4 t.data]) e2 ⟨aU8 bQ5 fun K hk=>bx0 e1'' (hs1.gr g2) hk,fun _=>⟨aU8 bh6 fun K hk=>bx1 e1'' hk,fun _=>⟨aU8 bQ6 fun K hk=>cd9 e1'' hk,fun _=>trivial⟩⟩⟩ (by simp) (y7 ⟨?_,g1.trans g2⟩))
  simp[aZ3]
 rw[c0 k3]
 refine k9 (by simpa using k3) ?_
 by_cases k2:t.kind=2
 case neg=>rw[c0 k2];exact k9 (by simpa using k2) ⟨rfl,g1⟩
 rw[d9 k2]
 refine l3 (by simpa using k2) ?_
 refine x0 ?_;intro b11 σ2 g2 e2 n2
 have e1'':=g2.get e1'
 have hs2:=hs1.gr g2
 refine i7 (cm6 (bs:=[!t.exec,sEq t.data ⟨⟨[]⟩⟩,Tr.mayRow none t.kids]) e2 ⟨aU8 bh6 fun K hk=>bx1 e1'' hk,fun _=>⟨aU8 bQ7 fun K hk=>ce0 e1'' hk,fun _=>⟨aU8 bQ8 fun K hk => ?_,fun _=>trivial⟩⟩⟩ (by simp) (y7 ⟨by simp[aZ3],g1.trans g2⟩))
 clear e2 n2 g1 e1 n1
 refine B7 _ hk ?_
 clear hk
 refine dx8 _ ?_
 unfold cP1
 have hT1:=U1 t
 unfold O2 at e1''
 refine i6 (A7 (f0 e1'') ?_)
 refine u5 ?_
 intro R hR
 have key : ∀ (l:List Tr) (i:Nat) (τ:H),t.kids.drop i=l->Gr σ2 τ->Tr.mayRow none t.kids=Tr.mayRow (if i=0 then none else(t.kids[i - 1]?).map Tr.name) l->R (some ⟨b6,0,none⟩) y ((y.len:Nat):Int) (i:Int) τ:=by
  intro l
  induction l with
  | nil =>
   intro i τ hd hg he
   have hge:t.kids.length<=i:=by simpa using hd
   refine hR _ _ _ _ _ ?_
   refine k9 (by rw[hs.1];exact J6) ⟨?_,hg⟩
   rw[he];simp[Tr.mayRow]
  | cons x r ihl =>
   intro i τ hd hg he
   obtain⟨hx,hlt,hd'⟩:=C5 hd
   obtain⟨g,o,z,hb,hrd,hz⟩:=ah9 (hs2.gr hg) hx
   refine hR _ _ _ _ _ ?_
   refine l3 (by rw[hs.1];exact C8) ?_
   rw[hb]
   refine i6 (l5 ⟨by omega,by rw[hs.1];omega⟩ ?_)
   have hrd':rdA 5 g (o+(i:Int).toNat * 5) τ=some (.agg ⟨O2 x z⟩):=by simpa using hrd
   refine A3 hrd' ?_
   unfold O2
   (refine k0 rfl ?_;try dsimp only)
   refine x0 ?_;intro b17 τ1 g2 e2 n2
   refine w4 e2 I2 ?_;intro τ2 p2
   have hg2:Gr τ τ2:=g2.putF p2 n2
   have k17:τ2 b17=some (.cells ⟨[.string x.name,.int .i64 x.kind,.bool x.exec,.string x.data,.slice z.base z.len z.cap]⟩ 75 (0,0)):=p2.same
   clear p2 e2
   simp only[Tr.mayRow]at he
   refine S9 (fun j => ∀ (v1 v2 v3 v4 v5 v6 v7 v8 v9 v10 v11 v12 v13 v14 v15 v16 v17:Value) (b:Bool),(b=true->Tr.mayRow none t.kids=false)->(b=false->Tr.mayRow none t.kids=Tr.mayRow (some x.name) r)->j (some ⟨b6,0,none⟩) y ((y.len:Nat):Int) (i:Int) v1 v2 v3 v4 v5 v6 v7 v8 v9 v10 v11 v12 v13 v14 v15 v16 v17 b τ2) ?_ ?_
   ·intro v1 v2 v3 v4 v5 v6 v7 v8 v9 v10 v11 v12 v13 v14 v15 v16 v17 b h1 h2
    cases b with
    | true=>rw[h1 rfl];exact l3 rfl ⟨rfl,hg.trans hg2⟩
    | false =>
     refine k9 rfl ?_
     rw[n0 (by omega) (by omega)]
     refine ihl (i+1) τ2 hd' (hg.trans hg2) ?_
     rw[h2 rfl]
     have:i+1 - 1=i:=by omega
     rw[c0 (by omega),this,hx];rfl
   ·intro j hj
    refine y8 (f0 k17) (i7 (bE9 _ (y7 ?_)))
    cases hmn:V4 x.name with
    | false =>
     rw[hmn]at he
     exact l3 rfl (hj _ _ _ _ _ _ _ _ _ _ _ _ _ _ _ _ _ true (fun _=>by rw[he];rfl) (fun h=>by cases h))
    | true =>
     rw[hmn]at he
     simp only[C4]at he
     refine k9 rfl (A3 (l7 k17) ?_)
     (refine k0 rfl ?_;try dsimp only)
     refine i7 (ih x (F7 hx) z (hz.gr hg2) (by have:=W4 hx;omega) (y7 ?_))
     cases hmx:x.may with
     | false =>
      rw[hmx]at he
      exact l3 rfl (hj _ _ _ _ _ _ _ _ _ _ _ _ _ _ _ _ _ true (fun _=>by rw[he];rfl) (fun h=>by cases h))
     | true =>
      rw[hmx]at he
      simp only[C4]at he
      refine k9 rfl ?_
      cases i with
      | zero =>
       refine k9 (by simp) (hj _ _ _ _ _ _ _ _ _ _ _ _ _ _ _ _ _ false (fun h=>by cases h) (fun _ => ?_))
       rw[he];simp[bL4]
      | succ i =>
       have hi1:i<t.kids.length:=by omega
       obtain⟨pv,hpv⟩ : ∃pv,t.kids[i]? = some pv:=⟨_,B9 hi1⟩
       have:i+1 - 1=i:=by omega
       rw[c0 (by omega),this,hpv]at he
       have he:Tr.mayRow none t.kids=(ltB pv.name x.name&&Tr.mayRow (some x.name) r):=he
       refine l3 (C8 (by omega)) ?_
       have e1q:=(hg.trans hg2).get e1''
       refine i6 (A7 (f0 e1q) ?_)
       obtain⟨g',o',hb',hnm⟩:=aA4 (hs2.gr (hg.trans hg2)) hpv
       show j0 y.base _ τ2
       rw[hb']
       have w1:IntKind.i64.wrap (((i+1:Nat):Int) - 1)=(i:Int):=by rw[n0 (by omega) (by omega)];omega
       rw[w1]
       have hnm':s5 g' (o'+(i:Int).toNat * 5) τ2=some (.string pv.name):=by simpa using hnm
       refine i6 (l5 ⟨by omega,by rw[hs.1];omega⟩ (y8 hnm' (y8 (f0 k17) ?_)))
       refine hj _ _ _ _ _ _ _ _ _ _ _ _ _ _ _ _ _ _ ?_ ?_
       ·intro h
        rw[aA5]at h
        have:ltB pv.name x.name=false:=by simpa using h
        rw[he,this];rfl
       ·intro h
        rw[aA5]at h
        have:ltB pv.name x.name=true:=by simpa using h
        rw[he,this];rfl
 exact key t.kids 0 σ2 rfl (Gr.refl _) rfl
theorem ce1 : ∀ (t:Tr) (y:Sl) {σ:H},O1 σ t.kids y->t.total<=1000000000000000 -> ∀ {K:KH},K (.tuple ⟨[.int .i64 t.size.1,.int .i64 t.size.2]⟩) σ->a8 175 [.agg ⟨O2 t y⟩] K σ:=by
 refine Tr.ind (P:=fun t => ∀ (y:Sl) {σ:H},O1 σ t.kids y->t.total<=1000000000000000 -> ∀ {K:KH},K (.tuple ⟨[.int .i64 t.size.1,.int .i64 t.size.2]⟩) σ->a8 175 [.agg ⟨O2 t y⟩] K σ) ?_
 intro t ih y σ hs hT K hK
 refine B7 _ hK (dy0 _ _ _ _ _ ?_)
 clear hK
 unfold cP5
 refine x0 ?_;intro b6 σ1 g1 e1 n1
 refine y8 (f0 e1) (A7 (f0 e1) ?_)
 have hT1:=U1 t
 have hsz:t.size=Tr.sizeRow t.kids (1,(t.data.size:Int)):=by obtain⟨n,k,e,d,kids⟩:=t;simp only[Tr.size,Tr.kids,Tr.data]
 have htot:1+t.data.size+Tr.totalRow t.kids<=t.total:=by obtain⟨n,k,e,d,kids⟩:=t;simp only[Tr.total,Tr.kids,Tr.data];omega
 refine u5 ?_
 intro R hR
 have key : ∀ (l:List Tr) (i:Nat) (a:Int×Int) (τ:H),t.kids.drop i=l->Gr σ τ->t.size=Tr.sizeRow l a->1<=a.1->0<=a.2->a.1+a.2+Tr.totalRow l<=1000000000000000->R a.1 a.2 y ((y.len:Nat):Int) (i:Int) τ:=by
  intro l
  induction l with
  | nil =>
   intro i a τ hd hg he h1 h2 h3
   have hge:t.kids.length<=i:=by simpa using hd
   refine hR _ _ _ _ _ _ ?_
   refine k9 (by rw[hs.1];exact J6) ⟨?_,hg⟩
   rw[he];rfl
  | cons x r ihl =>
   intro i a τ hd hg he h1 h2 h3
   obtain⟨hx,hlt,hd'⟩:=C5 hd
   obtain⟨g,o,z,hb,hrd,hz⟩:=ah9 (hs.gr hg) hx
   simp only[Tr.totalRow]at h3
   have hxs:=Tr.size_le x
   simp only[Tr.sizeRow]at he
   refine hR _ _ _ _ _ _ ?_
   refine l3 (by rw[hs.1];exact C8) ?_
   refine S9 (fun j => ∀τ2,Gr σ τ2->j (if x.tooDeep=true then a else(a.1+x.size.1,a.2+x.size.2)).1 (if x.tooDeep=true then a else(a.1+x.size.1,a.2+x.size.2)).2 y ((y.len:Nat):Int) (i:Int) τ2) ?_ ?_
   ·intro τ2 hg2
    rw[n0 (x:=(i:Int)+1) (by omega) (by omega)]
    refine ihl (i+1) _ τ2 hd' hg2 he ?_ ?_ ?_
    ·split<;>(try simp only)<;>omega
    ·split<;>(try simp only)<;>omega
    ·split<;>(try simp only)<;>omega
   ·intro j hj
    rw[hb]
    refine i6 (l5 ⟨by omega,by rw[hs.1];omega⟩ ?_)
    have hrd':rdA 5 g (o+(i:Int).toNat * 5) τ=some (.agg ⟨O2 x z⟩):=by simpa using hrd
    refine A3 hrd' ?_
    unfold O2
    (refine k0 rfl ?_;try dsimp only)
    refine x0 ?_;intro b28 τ1 g2 e2 n2
    refine w4 e2 I2 ?_;intro τ2 p2
    have hg2:Gr τ τ2:=g2.putF p2 n2
    refine A3 (l7 p2.same) ?_
    (refine k0 rfl ?_;try dsimp only)
    have hxt:x.total<=1000000000000000:=by have:=W4 hx;omega
    refine i7 (aE0 x z (hz.gr hg2) hxt (y7 ?_))
    cases htd:x.tooDeep with
    | true =>
     have:=hj τ2 (hg.trans hg2)
     simp only[htd,if_true]at this
     exact l3 rfl this
    | false =>
     have hjj:=hj τ2 (hg.trans hg2)
     simp only[htd,F4,if_false]at hjj
     refine k9 rfl (A3 (l7 p2.same) ?_)
     (refine k0 rfl ?_;try dsimp only)
     refine i7 (ih x (F7 hx) z (hz.gr hg2) hxt (aa9 ?_))
     rw[n0 (x:=a.1+x.size.1) (by omega) (by omega),n0 (x:=a.2+x.size.2) (by omega) (by omega)]
     exact hjj
 exact key t.kids 0 (1,(t.data.size:Int)) σ1 rfl g1 hsz (Int.le_refl _) (by show(0:Int)<=t.data.size;omega) (by show(1:Int)+t.data.size+Tr.totalRow t.kids<=1000000000000000;omega)
theorem ce2 (t:Tr) (y:Sl) {σ:H} (hs:O1 σ t.kids y) (hT:t.total<=1000000000000000) {K:KH} (hK:K (.tuple ⟨[.int .i64 t.sizeT.1,.int .i64 t.sizeT.2]⟩) σ):a8 107 [.agg ⟨O2 t y⟩] K σ:=by
 refine B7 _ hK (dt4 _ _ _ _ _ ?_)
 clear hK
 unfold cF3
 refine x0 ?_;intro b6 σ1 g1 e1 n1
 refine A3 (l7 e1) ?_
 (refine k0 rfl ?_;try dsimp only)
 refine i7 (aE0 t y (hs.gr g1) hT (y7 ?_))
 unfold Tr.sizeT
 cases htd:t.tooDeep with
 | true=>exact l3 rfl ⟨rfl,g1⟩
 | false =>
  refine k9 rfl (A3 (l7 e1) ?_)
  (refine k0 rfl ?_;try dsimp only)
  exact i7 (ce1 t y (hs.gr g1) hT (aa9 ⟨rfl,g1⟩))
theorem bx2 (t:Tr) (y:Sl) {σ:H} (hs:O1 σ t.kids y) (hT:t.total<=1000000000000000) {K:KH} (hK:K (.int .i64 t.check) σ):a8 70 [.agg ⟨O2 t y⟩] K σ:=by
 generalize hres:t.check=res at hK
 unfold Tr.check at hres
 refine B7 _ hK (c70 _ _ _ _ _ ?_)
 clear hK
 unfold g70
 refine x0 ?_;intro b6 σ1 g1 e1 n1
 have hs1:=hs.gr g1
 refine A3 (l7 e1) ?_
 (refine k0 rfl ?_;try dsimp only)
 refine i7 (aE0 t y hs1 hT (y7 ?_))
 cases htd:t.tooDeep with
 | true=>rw[htd]at hres;simp only[if_true]at hres;exact l3 rfl ⟨by rw[<-hres],g1⟩
 | false =>
  rw[htd]at hres
  simp only[F4,if_false]at hres
  refine k9 rfl ?_
  refine S9 (fun j => ∀b:Bool,(b=true↔sEq t.name ⟨⟨[]⟩⟩=false\/t.may=false)->j (some ⟨b6,0,none⟩) b σ1) ?_ ?_
  ·intro b hb
   cases b with
   | true=>rw[d9 (hb.1 rfl)]at hres;exact l3 rfl ⟨by rw[<-hres],g1⟩
   | false =>
    rw[c0 (fun h=>by have:=hb.2 h;cases this)]at hres
    refine k9 rfl (i6 (A3 (l7 e1) ?_))
    (refine k0 rfl ?_;try dsimp only)
    refine i7 (ce2 t y hs1 hT (aa9 ?_))
    refine S9 (fun j => ∀b:Bool,(b=true↔t.sizeT.1>2000\/t.sizeT.2>100000)->j b σ1) ?_ ?_
    ·intro b hb
     cases b with
     | true=>rw[d9 (hb.1 rfl)]at hres;exact l3 rfl ⟨by rw[<-hres],g1⟩
     | false=>rw[c0 (fun h=>by have:=hb.2 h;cases this)]at hres;exact k9 rfl ⟨by rw[<-hres],g1⟩
    ·intro j hj
     by_cases h1:t.sizeT.1>2000
     ·exact l3 (by simpa using h1) (hj true (by simp[h1]))
     ·exact k9 (by simpa using h1) (hj _ (by simp[h1]))
  ·intro j hj
   rw[ao3]at hj
   refine y8 (f0 e1) ?_
   cases hn:B8 t.name ⟨⟨[]⟩⟩ with
   | false=>exact l3 rfl (hj true (by simp[hn]))
   | true =>
    refine k9 rfl (A3 (l7 e1) ?_)
    (refine k0 rfl ?_;try dsimp only)
    refine i7 (bq0 t y hs1 hT (y7 (hj _ ?_)))
    rw[hn];cases t.may<;>simp
def Off (τ σ:H) (B:Nat->Prop):Prop:=Gr τ σ /\ ∀b o,τ b=some o -> ¬B b
theorem Off.gr {τ σ σ':H} {B:Nat->Prop} (h:Off τ σ B) (hg:Gr σ σ'):Off τ σ' B:=⟨h.1.trans hg,h.2⟩
theorem Off.get {τ σ:H} {B:Nat->Prop} (h:Off τ σ B) {b:Nat} {o:Obj} (hb:τ b=some o):σ b=some o:=h.1.get hb
theorem Off.sub {τ τ' σ:H} {B:Nat->Prop} (h:Off τ σ B) (hg:Gr τ' τ):Off τ' σ B:=⟨hg.trans h.1,fun b o hb=>h.2 b o (hg.get hb)⟩
theorem bh3.at {σ:H} {x:Sl} {l:List ByteArray} (h:bh3 σ x l) {i:Nat} {s:ByteArray} (hi:l[i]? = some s) : ∃g cur,x.base=some ⟨g,0,none⟩/\σ g=some (.cells ⟨cur⟩ 9 (0,0))/\cur[i]? = some (.string s):=by
 obtain⟨h1,h2 | ⟨g,cur,e1,e2,e3⟩⟩:=h
 ·subst h2;simp at hi
 ·refine⟨g,cur,e1,e2,?_⟩
  have hlt:i<l.length:=by
   rcases F6 i l.length with h | h
   ·exact h
   ·rw[L4 h]at hi;cases hi
  have:(cur.take l.length)[i]? = some (.string s):=by rw[e3];simp[hi]
  rw[List.getElem?_take_of_lt hlt]at this
  exact this
theorem aN1:sizeT Tryz.prog 73=some 1:=by kernel_rfl
theorem aU9:Tryz.prog.underlying 73=some (.slice 75):=by kernel_rfl
theorem aV0 : ∃i z,Tryz.prog.info? 75=some i/\i.zero=some z/\i.size=5/\i.bytes<=100000/\z.cells.size=5:=by
 have h1:((Tryz.prog.info? 75).bind fun i=>i.zero.map fun z=>(i.size,z.cells.size,decide (i.bytes<=100000)))=some (5,5,true):=by kernel_rfl
 cases hi:Tryz.prog.info? 75 with
 | none=>rw[hi]at h1;cases h1
 | some i =>
  rw[hi]at h1
  cases hz:i.zero with
  | none=>simp[hz]at h1
  | some z=>simp[hz]at h1;exact⟨i,z,rfl,hz,h1.1,h1.2.2,h1.2.1⟩
def ad2 (τ:H):List Tr->List (List Value)->Prop
 | [],[]=>True
 | t::ts,r::rows=>aR4 τ t r/\ad2 τ ts rows
 | _,_=>False
theorem ad2.gr {τ τ':H} (hg:Gr τ τ') : ∀ {ts:List Tr} {rows:List (List Value)},ad2 τ ts rows->ad2 τ' ts rows:=by
 intro ts
 induction ts with
 | nil=>intro rows h;cases rows<;>exact h
 | cons t ts ih =>
  intro rows h
  cases rows with
  | nil=>exact h.elim
  | cons r rows=>exact⟨bw7 hg t r h.1,ih h.2⟩
theorem ad2.snoc {τ:H} {t:Tr} {r:List Value} (ht:aR4 τ t r) : ∀ {ts:List Tr} {rows:List (List Value)},ad2 τ ts rows->ad2 τ (ts++[t]) (rows++[r]):=by
 intro ts
 induction ts with
 | nil=>intro rows h;cases rows with
  | nil=>exact⟨ht,trivial⟩
  | cons r rows=>exact h.elim
 | cons t ts ih =>
  intro rows h
  cases rows with
  | nil=>exact h.elim
  | cons r rows=>exact⟨h.1,ih h.2⟩
theorem ad2.len {τ:H} : ∀ {ts:List Tr} {rows:List (List Value)},ad2 τ ts rows->rows.length=ts.length:=by
 intro ts
 induction ts with
 | nil=>intro rows h;cases rows with
  | nil=>rfl
  | cons r rows=>exact h.elim
 | cons t ts ih =>
  intro rows h
  cases rows with
  | nil=>exact h.elim
  | cons r rows=>simp[ih h.2]
theorem bQ9 {τ:H} {rest:List Value} : ∀ {ts:List Tr} {rows:List (List Value)},ad2 τ ts rows->(∀r∈rows,r.length=5)->al8 τ ts (rows.flatten++rest):=by
 intro ts
 induction ts with
 | nil=>intro rows _ _;trivial
 | cons t ts ih =>
  intro rows h hl
  cases rows with
  | nil=>exact h.elim
  | cons r rows =>
   have hr:=hl r (E2 ..)
   simp only[al8,List.flatten_cons,E0]
   refine⟨?_,?_⟩
   ·rw[<-hr,List.take_left];exact h.1
   ·rw[<-hr,List.drop_left];exact ih h.2 fun q hq=>hl q (E3 _ hq)
theorem bh7 {σ τ:H} {rows:List (List Value)} {ts:List Tr} {x:Sl} (h:D8 σ 75 5 rows x) (ht:ad2 τ ts rows) (hg:Gr τ σ) (hn:∀g,x.base=some ⟨g,0,none⟩->τ g=none) :
 ∃τ',Gr τ τ'/\Gr τ' σ/\O1 τ' ts x /\ ∀b,x.base≠some ⟨b,0,none⟩->τ b=none->τ' b=none:=by
 obtain⟨h1,h2,⟨h3,h4,h5⟩ | ⟨g,cur,a1,a2,a3,a4,a5⟩⟩:=h
 ·subst h5
  refine⟨τ,Gr.refl _,hg,⟨by rw[h1,ht.len],?_⟩,fun b _ hb=>hb⟩
  have:=ht.len
  simp at this
  exact .inl (Y3 this.symm)
 ·have hgn:=hn g a1
  have g1:Gr τ (τ.put g (.cells ⟨cur⟩ 75 (0,0))):=Gr.put hgn _
  refine⟨τ.put g (.cells ⟨cur⟩ 75 (0,0)),g1,?_,⟨by rw[h1,ht.len],.inr ⟨g,0,cur,75,(0,0),a1,H.put_same _ _ _,?_⟩⟩,?_⟩
  ·unfold Gr
   intro c oc hc
   by_cases e:c=g
   ·subst e;rw[H.put_same]at hc;cases hc;exact a2
   ·rw[H.put_other _ _ e]at hc;exact hg.get hc
  ·have e1:cur=rows.flatten++cur.drop (x.len * 5):=by rw[<-a5,List.take_append_drop]
   have:=bQ9 (rest:=cur.drop (x.len * 5)) (ht.gr g1) h2
   rw[<-e1]at this
   exact this
  ·intro b hb hτ
   have e:b≠g:=fun e=>hb (by rw[e,a1])
   rw[H.put_other _ _ e];exact hτ
end Go.Proofs.YtgfiobhpipollaaGreatDoor


set_option maxRecDepth 100000
namespace Go.Proofs.YtgfiobhpipollaaGreatDoor
open Go Go.HL Go.Wk Go.ChangeShapes Go.WideShapes Go.ChangeAt Go.RowKit
theorem own:ownKnob Tryz.prog.godebug=none:=by kernel_rfl
theorem ce3:laidOutB Tryz.prog=true:=by kernel_rfl
def bR0:Array Value := #[.int .u8 128,.int .u8 191,.int .u8 160,.int .u8 191,.int .u8 128,.int .u8 159,.int .u8 144,.int .u8 191,.int .u8 128,.int .u8 143,.int .u8 0,.int .u8 0,.int .u8 0,.int .u8 0,.int .u8 0,.int .u8 0,.int .u8 0,.int .u8 0,.int .u8 0,.int .u8 0,.int .u8 0,.int .u8 0,.int .u8 0,.int .u8 0,.int .u8 0,.int .u8 0,.int .u8 0,.int .u8 0,.int .u8 0,.int .u8 0,.int .u8 0,.int .u8 0]
def firstCells:Array Value:=⟨Go.Pinned.utf8FirstZ.map fun(n:Nat) => .int .u8 (n:Int)⟩
def de2 (cs:Array Value):Obj->Obj
 | .cells _ t frozen => .cells cs t frozen
 | o=>o
noncomputable def laidWorld (os:Os):World :=
 { World.holding Tryz.prog os ⟨#[],#[],[]⟩with heap:=((World.holding Tryz.prog os ⟨#[],#[],[]⟩).heap.modify 1 (de2 firstCells)).modify 2 (de2 bR0) }
end Go.Proofs.YtgfiobhpipollaaGreatDoor

set_option maxRecDepth 100000
namespace Go.Proofs.YtgfiobhpipollaaGreatDoor
open Go Go.HL Go.Wk
attribute [local irreducible] j0 w6 l8 A2 l4 A9 w9 U3 V0 R1 M7 V2 C1 y6 app A4 C9 u7 sizeT oW H8 F2 l9 U5 H2 G1 y9 V1 B2 Gr L6
theorem bR1 (x k:Int) {σ:H} {K:KH} (hK:K (.int .u32 (az7 x k)) σ):a8 219 [.int .u32 x,.int .i64 k] K σ:=by
 refine dB1 _ _ ?_
 unfold cW5
 have h0 : ∀a b:Int,0<=A0 .and .u64 a b:=by
  intro a b
  show 0<=IntKind.u64.wrap _
  unfold IntKind.wrap
  simp only[IntKind.signed,H4,F4,if_false]
  exact Int.emod_nonneg _ (by decide)
 have h1 : ∀a:Int,0<=IntKind.u64.wrap a:=by
  intro a
  unfold IntKind.wrap
  simp only[IntKind.signed,H4,F4,if_false]
  exact Int.emod_nonneg _ (by decide)
 exact l5 (h0 _ _) (l5 (h1 _) hK)
def ct7 (σ:H) (l:List Int) (x:Sl):Prop:=x.len=l.length /\ ∃b t fz,x.base=some ⟨b,0,none⟩/\σ b=some (.cells ⟨l.map fun n => .int .i64 n⟩ t fz)
theorem aI8 (x:Int) (l:List Int) (y:Sl) {σ:H} (h:ct7 σ l y) (hl:l.length<=1000) {K:KH} (hK:K (.int .u32 (Y1 x l 0)) σ):a8 218 [.int .u32 x,.slice y.base y.len y.cap] K σ:=by
 refine dB0 _ _ ?_
 unfold cW3
 refine u5 ?_
 intro R hR
 obtain⟨h1,b,t,fz,h2,h3⟩:=h
 have key : ∀ (r:List Int) (i:Nat) (o:Int),l.drop i=r->Y1 x l 0=Y1 x r o->R x o y ((y.len:Nat):Int) (i:Int) σ:=by
  intro r
  induction r with
  | nil =>
   intro i o hd he
   have hge:l.length<=i:=by simpa using hd
   refine hR _ _ _ _ _ _ ?_
   refine k9 (by rw[h1];exact J6) ?_
   rw[he]at hK;exact hK
  | cons n r ih =>
   intro i o hd he
   have hx:l[i]? = some n:=by
    have:(l.drop i)[0]? = some n:=by rw[hd];rfl
    simpa using this
   have hlt:i<l.length:=by
    rcases F6 i l.length with h | h
    ·exact h
    ·rw[M8 h]at hd;cases hd
   have hd':l.drop (i+1)=r:=by rw[<-List.drop_drop,hd];rfl
   refine hR _ _ _ _ _ _ ?_
   refine l3 (by rw[h1];exact C8) ?_
   rw[h2]
   refine i6 (l5 ⟨by omega,by rw[h1];omega⟩ ?_)
   refine E9 (f0 (v := .int .i64 n) h3 (by simp[hx])) ?_
   refine i7 (bR1 _ _ (B6 ?_))
   rw[n0 (x:=(i:Int)+1) (by omega) (by omega)]
   exact ih (i+1) _ hd' he
 exact key l 0 0 rfl rfl
theorem aI9 (x y:Int) {σ:H} {K:KH} (hK:K (.tuple ⟨[.int .u64 (aT4 x y),.int .u64 (be3 x y)]⟩) σ):a8 248 [.int .u64 x,.int .u64 y] K σ:=by
 refine dD4 _ _ ?_
 unfold db5
 exact l5 (by decide) (l5 (by decide) (l5 (by decide) (l5 (by decide) (l5 (by decide) hK))))
theorem bR2:I3 Tryz.prog 249=false:=by kernel_rfl
theorem bR3 : (Tryz.prog.funcs[249]?).map (fun fn => ((fn.name == "runtime.NumGoroutine"), fn.body.isNone, (Extern.findNext fn).isNone)) = some (false, true, true) := by kernel_rfl
def de3:Array Value->Sem Value:=fun args=>do
 let (x, y, c) <- Extern.MathBitsCarry.three "Add64" args
 pure (Extern.MathBitsCarry.pair ((x+y+c) % Extern.MathBitsCarry.m64) ((x+y+c) / Extern.MathBitsCarry.m64))
theorem bR4:(Tryz.prog.funcs[249]?).bind (fun fn=>Extern.find fn)=some de3:=by kernel_rfl
theorem ce4 (x y:Int) {σ:H} {F:Int->Int->H->Prop} (hF:F (be4 x y) (bv0 x y) σ):y6 Tryz.prog (.func (.func 249) ⟨[]⟩ ⟨[]⟩) [.int .u64 x,.int .u64 y,.int .u64 0] (.tup [.sc (.int .u64),.sc (.int .u64)]) F σ:=by
 unfold y6 u7
 simp only[bR2]
 unfold C9
 intro w hw
 have h1:=bR3
 have h2:=bR4
 cases hf:Tryz.prog.funcs[249]? with
 | none=>rw[hf]at h1;cases h1
 | some fn =>
  rw[hf]at h1 h2
  simp only[Option.map_some,Option.some.injEq,Prod.mk.injEq,Option.bind_some]at h1 h2
  have hr:=run_callFunc_extern hf h1.1 h1.2.1 (Option.isNone_iff_eq_none.1 h1.2.2) h2 #[.int .u64 x,.int .u64 y,.int .u64 0] w
  have he:(de3 #[.int .u64 x,.int .u64 y,.int .u64 0]).run Tryz.prog w = .ok (.tuple ⟨[.int .u64 (be4 x y),.int .u64 (bv0 x y)]⟩) w:=rfl
  rw[he]at hr
  have:(Y0 (.func (.func 249) ⟨[]⟩ ⟨[]⟩) [.int .u64 x,.int .u64 y,.int .u64 0]).run Tryz.prog w = .ok (.value (.tuple ⟨[.int .u64 (be4 x y),.int .u64 (bv0 x y)]⟩)) w:=by
   refine Eq.trans ?_ hr
   simp[Y0,Deferred.ofValue,invoke]
  rw[this]
  exact⟨σ,I0.refl hw,aa9 hF⟩
theorem bh8 (x p:Int) {σ:H} {K:KH} (hK:K (.bool (ai7 x p)) σ):a8 216 [.int .u64 x,.int .u64 p] K σ:=by
 refine dA8 _ _ ?_
 unfold cV9
 unfold ai7 at hK
 refine i7 (aI9 _ _ (aa9 ?_))
 refine G8 (fun h => ?_) (fun h=>G8 (fun h' => ?_) (fun h' => ?_))
 ·rw[d9 h]at hK;exact hK
 ·rw[c0 (by rw[h];simp),d9 h']at hK;exact hK
 ·rw[c0 (by rw[h];simp),c0 (by rw[h'];simp)]at hK;exact hK
theorem bF0 (x p:Int) {σ:H} {K:KH} (hK:K (.bool (aF9 x p)) σ):a8 215 [.int .u64 x,.int .u64 p] K σ:=by
 refine dA7 _ _ ?_
 unfold cV7
 unfold aF9 aT5 at hK
 simp only at hK
 refine i7 (aI9 _ _ (aa9 ?_))
 refine i7 (aI9 _ _ (aa9 ?_))
 refine i7 (aI9 _ _ (aa9 ?_))
 refine ce4 _ _ ?_
 refine G8 (fun h => ?_) (fun h=>l5 (by decide) (G8 (fun h' => ?_) (fun h'=>l5 (by decide) (G8 (fun h'' => ?_) (fun h'' => ?_)))))
 ·rw[d9 h]at hK;exact hK
 ·rw[c0 (by rw[h];simp),d9 h']at hK;exact hK
 ·rw[c0 (by rw[h];simp),c0 (by rw[h'];simp),d9 h'']at hK;exact hK
 ·rw[c0 (by rw[h];simp),c0 (by rw[h'];simp),c0 (by rw[h''];simp)]at hK;exact hK
theorem aV1 {ab:Int->Int->Bool} {f:FuncId} (hf:I3 Tryz.prog f=true) (hab:∀ (x p:Int) {σ:H} {K:KH},K (.bool (ab x p)) σ->a8 f [.int .u64 x,.int .u64 p] K σ) (p r:Int) (h:af8 ab p 50 0 68719476736=some r) {σ:H} {K:KH} (hK:K (.int .u32 r) σ):a8 214 [.int .u64 p,.func (.func f) ⟨[]⟩ ⟨[]⟩] K σ:=by
 refine dA6 _ _ ?_
 unfold cV5
 refine u5 ?_
 intro R hR
 have key : ∀ (n:Nat) (low high:Int),af8 ab p n low high=some r->R p (.func (.func f) ⟨[]⟩ ⟨[]⟩) low high σ:=by
  intro n
  induction n with
  | zero=>intro low high h;cases h
  | succ n ih =>
   intro low high h
   refine hR _ _ _ _ _ ?_
   unfold af8 at h
   refine G8 (fun hb => ?_) (fun hb => ?_)
   ·rw[d9 hb]at h
    refine l5 (by decide) (O6 hf (hab _ _ (y7 ?_)))
    refine G8 (fun ha => ?_) (fun ha => ?_)
    ·rw[d9 (by unfold ai8;exact ha)]at h
     exact ih _ _ h
    ·rw[c0 (by unfold ai8;rw[ha];simp)]at h
     exact ih _ _ h
   ·rw[c0 (by rw[hb];simp)]at h
    cases h;exact hK
 exact key 50 _ _ h
theorem bR5:ElT Tryz.prog 224 138 1:=ax7 (by kernel_rfl) (by decide) (by kernel_rfl)
theorem Z1:sizeT Tryz.prog 188=some 1:=by kernel_rfl
theorem al9:sizeT Tryz.prog 194=some 8:=by kernel_rfl
theorem aV2:sizeT Tryz.prog 195=some 64:=by kernel_rfl
def ai0 (l:List Int):List (List Value):=l.map fun x=>[.int .u64 x]
theorem aE1 {σ:H} {l:List Int} {x:Sl} (h:w7 σ 1 (ai0 l) x) {i:Nat} {c:Int} (hi:l[i]? = some c) : ∃g o,x.base=some ⟨g,o,none⟩/\i<x.len/\s5 g (o+i * 1) σ=some (.int .u64 c):=by
 obtain⟨g,o,h1,h2,h3⟩:=h.rdA (i:=i) (r:=[.int .u64 c]) (by unfold ai0;rw[O4,hi];rfl) (by decide)
 have h4:=h3 0 _ rfl
 rw[Nat.add_zero]at h4
 have hlt:i<l.length:=by
  rcases F6 i l.length with h | h
  ·exact h
  ·rw[L4 h]at hi;cases hi
 exact⟨g,o,h1,by rw[h.1];simpa[ai0]using hlt,h4⟩
theorem ap1 (d r:List Int) (x y:Int):(J2 (d++y::r)).take d.length++L5 (Value.cells (.int .u32 x))++(J2 (d++y::r)).drop (d.length+(L5 (Value.cells (.int .u32 x))).length)=J2 (d++[x]++r):=by
 have hc:L5 (Value.cells (.int .u32 x))=[.int .u32 x]:=rfl
 have e:J2 (d++y::r)=J2 d ++ .int .u32 y::J2 r:=by simp[J2]
 have hl:d.length=(J2 d).length:=by simp[J2]
 rw[hc,e,hl,List.take_left,aa5,List.drop_length_add_append]
 simp[J2]
theorem aJ0 {σ:H} {b n:Nat} {l:List Value} {t:TypeId} {fz:Nat×Nat} (h:σ b=some (.cells ⟨l⟩ t fz)) (hn:l.length=n):rdA n b 0 σ=some (.agg ⟨l⟩):=by
 rw[aX8 h (by omega),ad8,H7 (by omega)]
theorem U0 (l:List Int):(J2 l).length=l.length:=by simp[J2]
theorem bx3 (l:List Int) : ∀v∈J2 l,v.oneCell'=true:=by
 intro v hv
 simp only[J2,O5]at hv
 obtain⟨x,_,rfl⟩:=hv;rfl
theorem ap2 (v:Int) : ∀x∈L5 (Value.cells (.int .u32 v)),x.oneCell'=true:=by
 intro x hx
 have:x = .int .u32 v:=by simpa[Value.cells,L5]using hx
 subst this;rfl
theorem ag6 {α:Type} {l r:List α} {x:α} {i:Nat} (h:l.drop i=x::r):l[i]? = some x/\i<l.length/\l.drop (i+1)=r:=by
 refine⟨?_,?_,?_⟩
 ·have:(l.drop i)[0]? = some x:=by rw[h];rfl
  simpa using this
 ·rcases F6 i l.length with h' | h'
  ·exact h'
  ·rw[M8 h']at h;cases h
 ·rw[<-List.drop_drop,h];rfl
theorem ce5:I3 Tryz.prog 215=true:=by kernel_rfl
theorem bF1:I3 Tryz.prog 216=true:=by kernel_rfl
theorem bq1 {pl kl:List Int} {H0:W8} (hp:X7 400 2 []=some pl) (hl:pl.length=64) (hk:U6 aF9 pl=some kl) (hh:U6 ai7 (pl.take 8)=some H0.ints) (hkl:kl.length=64) {σ:H} {K:KH}
 (hK:K (.tuple ⟨[.agg ⟨H0.cells⟩,.agg ⟨J2 kl⟩]⟩) σ):a8 177 [] K σ:=by
 refine B7 _ hK (dy1 ?_)
 clear hK
 unfold cP9
 refine x0 ?_;intro b1 σ1 g1 e1 n1
 refine x0 ?_;intro b2 σ2 g2 e2 n2
 have hne:b1≠b2:=o0 e1 n2
 have e1':=g2.get e1
 have hz1:σ2 b1=some (.cells ⟨J2 (List.replicate 8 0)⟩ 194 (0,0)):=e1'
 have hz2:σ2 b2=some (.cells ⟨J2 (List.replicate 64 0)⟩ 195 (0,0)):=e2
 have n1':=C3 g1 n2
 clear e1 e1' e2
 have g12:=g1.trans g2
 refine u5 ?_
 intro R hR
 have key1 : ∀ (n:Nat) (x:Int) (l:List Int) (pr:Sl) (τ:H),X7 n x l=some pl->E7 σ2 τ 138 1 (ai0 l) pr->R (some ⟨b1,0,none⟩) (some ⟨b2,0,none⟩) pr x τ:=by
  intro n
  induction n with
  | zero=>intro x l pr τ h;cases h
  | succ n ih =>
   intro x l pr τ h hn
   have hlen:pr.len=l.length:=by rw[hn.len];simp[ai0]
   refine hR _ _ _ _ _ ?_
   unfold X7 at h
   by_cases hlt:(l.length:Int)<64
   ·rw[d9 (by simpa using hlt)]at h
    refine l3 (by rw[hlen];simpa using hlt) ?_
    refine S9 (fun j => ∀ (pr':Sl) (l':List Int) (τ':H),E7 σ2 τ' 138 1 (ai0 l') pr'->X7 n (IntKind.u64.wrap (x+1)) l'=some pl->j (some ⟨b1,0,none⟩) (some ⟨b2,0,none⟩) pr' x τ') ?_ ?_
    ·intro pr' l' τ' h1 h2
     exact ih _ _ _ _ h2 h1
    intro j hj
    refine u5 ?_
    intro R2 hR2
    have key2 : ∀ (r:List Int) (i:Nat),l.drop i=r->isP x l=isP x r->R2 (some ⟨b1,0,none⟩) (some ⟨b2,0,none⟩) pr x pr ((pr.len:Nat):Int) (i:Int) τ:=by
     intro r
     induction r with
     | nil =>
      intro i hd he
      have hge:l.length<=i:=by simpa using hd
      refine hR2 _ _ _ _ _ _ _ _ ?_
      refine k9 (by rw[hlen];exact J6) ?_
      rw[he]at h
      refine E7.app1 bR5 hn rfl rfl (by simp[ai0];omega) ?_
      intro y' τ' h1 _ _
      refine hj _ (l++[x]) _ ?_ h
      have:ai0 (l++[x])=ai0 l++[[.int .u64 x]]:=by simp[ai0]
      rw[this];exact h1
     | cons p r ihr =>
      intro i hd he
      obtain⟨hx,hlt2,hd'⟩:=ag6 hd
      obtain⟨g,o,q1,q2,q3⟩:=aE1 hn.at hx
      refine hR2 _ _ _ _ _ _ _ _ ?_
      refine l3 (by rw[hlen];exact C8) ?_
      rw[q1]
      refine i6 (l5 ⟨by omega,by omega⟩ (E9 (by simpa using q3) ?_))
      have he':=he
      simp only[isP]at he'
      by_cases hp0:p≠0
      ·rw[d9 hp0]at he'
       refine l5 hp0 (G8 (fun hm => ?_) (fun hm => ?_))
       ·rw[d9 hm]at he'
        refine hj _ l _ hn ?_
        rw[he']at h;exact h
       ·rw[c0 (by rw[hm];simp)]at he'
        rw[n0 (x:=(i:Int)+1) (by omega) (by omega)]
        exact ihr (i+1) hd' he'
      ·rw[c0 hp0]at he'
       rw[he']at h;cases h
    exact key2 l 0 rfl rfl
   ·rw[c0 (by simpa using hlt)]at h
    cases h
    refine k9 (by rw[hlen];simpa using hlt) ?_
    have ht1:=hn.1.get hz1
    have ht2:=hn.1.get hz2
    have hgb : ∀b o,σ2 b=some o -> ∀g off,pr.base=some ⟨g,off,none⟩->g≠b:=by
     intro b ob hb g off hbase
     obtain⟨_,_,⟨q1,_⟩ | ⟨g',cur,q1,_⟩⟩:=hn.2.1
     ·rw[q1]at hbase;cases hbase
     ·have hg:=hn.2.2 g' q1
      rw[q1]at hbase;injection hbase with hbase;injection hbase with hb1;subst hb1
      exact fun e=>by rw[e,hb]at hg;cases hg
    refine u5 ?_
    intro R3 hR3
    have key3 : ∀ (r:List Int) (i:Nat) (done rest:List Int) (θ:H),pl.drop i=r->done.length=i->U6 aF9 r=some rest->kl=done++rest->θ b2=some (.cells ⟨J2 (done++List.replicate (64 - i) 0)⟩ 195 (0,0))->(∀c o,c≠b2->τ c=some o->θ c=some o)->R3 (some ⟨b1,0,none⟩) (some ⟨b2,0,none⟩) pr pr ((pr.len:Nat):Int) (i:Int) θ:=by
     intro r
     induction r with
     | nil =>
      intro i done rest θ hd hdl hr hkd hb2 hkeep
      have hge:pl.length<=i:=by simpa using hd
      refine hR3 _ _ _ _ _ _ _ ?_
      refine k9 (by rw[hlen];exact J6) ?_
      have hr0:rest=[]:=by unfold U6 at hr;simpa using hr.symm
      subst hr0
      rw[J1]at hkd
      subst hkd
      have hi0:64 - i=0:=by omega
      rw[hi0,List.replicate_zero,J1]at hb2
      refine u5 ?_
      intro R4 hR4
      have key4 : ∀ (r:List Int) (i:Nat) (done rest:List Int) (θ':H),(pl.take 8).drop i=r->done.length=i->U6 ai7 r=some rest->H0.ints=done++rest->θ' b1=some (.cells ⟨J2 (done++List.replicate (8 - i) 0)⟩ 194 (0,0))->(∀c o,c≠b1->θ c=some o->θ' c=some o)->R4 (some ⟨b1,0,none⟩) (some ⟨b2,0,none⟩) pr (i:Int) θ':=by
       intro r
       induction r with
       | nil =>
        intro i done rest θ' hd hdl hr hkd hb1 hkeep2
        have hge:(pl.take 8).length<=i:=by simpa using hd
        have hge8:8<=i:=by rw[F0,hl]at hge;exact hge
        refine hR4 _ _ _ _ _ ?_
        refine k9 (J6 (by omega)) ?_
        have hr0:rest=[]:=by unfold U6 at hr;simpa using hr.symm
        subst hr0
        rw[J1]at hkd
        subst hkd
        have hi0:8 - i=0:=by omega
        rw[hi0,List.replicate_zero,J1]at hb1
        have hb1':θ' b1=some (.cells ⟨H0.cells⟩ 194 (0,0)):=hb1
        have hb2':=hkeep2 b2 _ (Ne.symm hne) hb2
        refine i6 (A3 (l7 hb1') ?_)
        unfold W8.cells
        (refine k0 rfl ?_;try dsimp only)
        refine i6 (ag2 (aJ0 hb2' (by rw[U0,hkl])) ?_)
        refine w4 hb1' al9 ?_
        intro θ1 p1
        have c1:θ1 b1=some (.cells ⟨H0.cells⟩ 194 (0,0)):=p1.same
        have c2:=p1.get (Ne.symm hne) hb2'
        refine F9 (aJ0 c2 (by rw[U0,hkl])) ?_
        refine ar1 c2 (by rw[aV2];show some 64=some (J2 kl).length;rw[U0,hkl]) (by show 0+(J2 kl).length<=_;rw[H6];exact A6 _) (bx3 kl) (.inl (A6 _)) ?_
        intro θ2 p2
        have hset:(J2 kl).take 0++L5 (Value.cells (.agg ⟨J2 kl⟩))++(J2 kl).drop (0+(L5 (Value.cells (.agg ⟨J2 kl⟩))).length)=J2 kl:=by
         show []++J2 kl++(J2 kl).drop (0+(J2 kl).length)=J2 kl
         rw[H6,List.drop_length];simp
        rw[hset]at p2
        have d1:=p2.get hne c1
        have d2:=p2.same
        refine i6 (A3 (l7 d1) ?_)
        unfold W8.cells
        (refine k0 rfl ?_;try dsimp only)
        refine i6 (ag2 (aJ0 d2 (by rw[U0,hkl])) ⟨rfl,?_⟩)
        have q0:Gr σ2 τ:=hn.1
        refine P0 fun c oc hc => ?_
        have w1:c≠b1:=fun e=>by rw[e]at hc;rw[C3 (Gr.refl _) n1]at hc;cases hc
        have w2:c≠b2:=fun e=>by rw[e,n1']at hc;cases hc
        exact p2.get w2 (p1.get w1 (hkeep2 c _ w1 (hkeep c _ w2 (q0.get (g12.get hc)))))
       | cons p r ihr =>
        intro i done rest θ' hd hdl hr hkd hb1 hkeep2
        obtain⟨hx,hlt2,hd'⟩:=ag6 hd
        rw[F0,hl]at hlt2
        have hi8:i<8:=by omega
        have hx':pl[i]? = some p:=by rw[List.getElem?_take_of_lt hi8]at hx;exact hx
        have hrows:w7 θ' 1 (ai0 pl) pr:=hn.at.keep fun g o ob hb hg=>hkeep2 g ob (hgb b1 _ hz1 g o hb) (hkeep g ob (hgb b2 _ hz2 g o hb) hg)
        obtain⟨g,o,q1,q2,q3⟩:=aE1 hrows hx'
        refine hR4 _ _ _ _ _ ?_
        refine l3 (C8 (by omega)) ?_
        rw[q1]
        refine i6 (l5 ⟨by omega,by omega⟩ (E9 (by simpa using q3) ?_))
        unfold U6 at hr
        cases hrt:af8 ai7 p 50 0 68719476736 with
        | none=>rw[hrt]at hr;cases hr
        | some v =>
         cases hrs:U6 ai7 r with
         | none=>rw[hrt,hrs]at hr;cases hr
         | some rest' =>
          rw[hrt,hrs]at hr
          cases hr
          refine i7 (aV1 bF1 bh8 p v hrt (B6 ?_))
          refine i6 (l5 ⟨by omega,by omega⟩ ?_)
          have hrep:List.replicate (8 - i) (0:Int)=0::List.replicate (8 - (i+1)) 0:=by
           rw[show 8 - i=(8 - (i+1))+1 by omega,List.replicate_succ]
          rw[hrep]at hb1
          have hoff:0+((i:Nat):Int).toNat * 1=done.length:=by rw[hdl];simp
          rw[hoff]
          refine ar1 hb1 Z1 (by rw[U0];show done.length+1<=_;simp) (ap2 v) (.inl (A6 _)) ?_
          intro θ1 p1
          rw[ap1]at p1
          rw[n0 (x:=(i:Int)+1) (by omega) (by omega)]
          refine ihr (i+1) (done++[v]) rest' θ1 hd' (by simp[hdl]) hrs (by rw[hkd];simp) p1.same fun c o hc ho=>p1.get hc (hkeep2 c o hc ho)
      exact key4 (pl.take 8) 0 [] H0.ints θ rfl rfl hh rfl (hkeep b1 _ hne ht1) fun _ _ _ h=>h
     | cons p r ihr =>
      intro i done rest θ hd hdl hr hkd hb2 hkeep
      obtain⟨hx,hlt2,hd'⟩:=ag6 hd
      have hrows:w7 θ 1 (ai0 pl) pr:=hn.at.keep fun g o ob hb hg=>hkeep g ob (hgb b2 _ hz2 g o hb) hg
      obtain⟨g,o,q1,q2,q3⟩:=aE1 hrows hx
      refine hR3 _ _ _ _ _ _ _ ?_
      refine l3 (by rw[hlen];exact C8) ?_
      rw[q1]
      refine i6 (l5 ⟨by omega,by omega⟩ (E9 (by simpa using q3) ?_))
      unfold U6 at hr
      cases hrt:af8 aF9 p 50 0 68719476736 with
      | none=>rw[hrt]at hr;cases hr
      | some v =>
       cases hrs:U6 aF9 r with
       | none=>rw[hrt,hrs]at hr;cases hr
       | some rest' =>
        rw[hrt,hrs]at hr
        cases hr
        refine i7 (aV1 ce5 bF0 p v hrt (B6 ?_))
        refine i6 (l5 ⟨by omega,by omega⟩ ?_)
        have hrep:List.replicate (64 - i) (0:Int)=0::List.replicate (64 - (i+1)) 0:=by
         rw[show 64 - i=(64 - (i+1))+1 by omega,List.replicate_succ]
        rw[hrep]at hb2
        have hoff:0+((i:Nat):Int).toNat * 1=done.length:=by rw[hdl];simp
        rw[hoff]
        refine ar1 hb2 Z1 (by rw[U0];show done.length+1<=_;simp) (ap2 v) (.inl (A6 _)) ?_
        intro θ1 p1
        rw[ap1]at p1
        rw[n0 (x:=(i:Int)+1) (by omega) (by omega)]
        refine ihr (i+1) (done++[v]) rest' θ1 hd' (by simp[hdl]) hrs (by rw[hkd];simp) p1.same fun c o hc ho=>p1.get hc (hkeep c o hc ho)
    exact key3 pl 0 [] kl τ rfl rfl hk rfl ht2 fun _ _ _ h=>h
 exact key1 400 2 [] ⟨none,0,0⟩ σ2 hp (E7.nil _ _ _)
theorem aN2 {σ:H} {l:List UInt8} {x:Sl} (h:w7 σ 1 (B1 l) x) {i:Nat} (hi:i<l.length) : ∃g o,x.base=some ⟨g,o,none⟩/\i<x.len/\s5 g (o+i * 1) σ=some (.int .u8 (((l.getD i 0).toNat:Nat):Int)):=by
 have hc:l[i]? = some (l.getD i 0):=by rw[L0,B9 hi];rfl
 obtain⟨g,o,h1,h2,h3⟩:=h.rdA (i:=i) (r:=[.int .u8 (l.getD i 0).toNat]) (by unfold B1;rw[O4,hc];rfl) (by decide)
 have h4:=h3 0 _ rfl
 rw[Nat.add_zero]at h4
 exact⟨g,o,h1,by rw[h.1,D7];exact hi,h4⟩
theorem bF2 {σ:H} {b:Nat} {w z:List Int} {t:TypeId} {fz:Nat×Nat} (h:σ b=some (.cells ⟨J2 (w++z)⟩ t fz)) {k:Nat} (hk:k<w.length):s5 b (0+k * 1) σ=some (.int .u32 (w.getD k 0)):=by
 refine f0 h ?_
 unfold J2
 rw[H6,P4,O4,bc1 hk,L0,B9 hk]
 rfl
theorem aV3 (l:List UInt8) : ∀ (n:Nat) (w:List Int),(aG0 l n w).length=w.length+n:=by
 intro n
 induction n with
 | zero=>intro w;rfl
 | succ n ih=>intro w;unfold aG0;rw[ih];simp;omega
theorem w64 (i d:Nat) (h:d<=i) (hi:i<=64):IntKind.i64.wrap ((i:Int) - (d:Int))=((i - d:Nat):Int):=by
 rw[n0 (by omega) (by omega)];omega
theorem aA6:I3 Tryz.prog 218=true:=by kernel_rfl
theorem bq2 (h:W8) (l:List UInt8) (x:Sl) {kl:List Int} {bk:Nat} {σ:H} {tk:TypeId} {fk:Nat×Nat} (hx:w7 σ 1 (B1 l) x) (hl:l.length=64) (hk:σ bk=some (.cells ⟨J2 kl⟩ tk fk)) (hkl:kl.length=64) {K:KH}
 (hK:K (.agg ⟨(ar7 kl h l).cells⟩) σ):a8 179 [.agg ⟨h.cells⟩,.slice x.base x.len x.cap,.pointer (some ⟨bk,0,none⟩)] K σ:=by
 refine B7 _ hK (dy3 _ _ _ _ _ _ _ _ _ _ ?_)
 clear hK
 unfold cQ3
 refine x0 ?_;intro b11 σ1 g1 e1 n1
 refine x0 ?_;intro b12 σ2 g2 e2 n2
 refine x0 ?_;intro b13 σ3 g3 e3 n3
 have hxl:x.len=64:=by rw[hx.1,D7,hl]
 have ne1:b11≠b12:=o0 e1 n2
 have ne2:b11≠b13:=o0 (g2.get e1) n3
 have ne3:b12≠b13:=o0 e2 n3
 have e1':σ3 b11=some (.cells ⟨h.cells⟩ 194 (0,0)):=g3.get (g2.get e1)
 have e2':=g3.get e2
 have e3':σ3 b13=some (.cells ⟨J2 (List.replicate 64 0)⟩ 195 (0,0)):=e3
 have gA:Gr σ σ3:=(g1.trans g2).trans g3
 have n2':=C3 g1 n2
 have n3':=C3 (g1.trans g2) n3
 clear e1 e2 e3
 generalize hW:aG0 l 64 []=W
 have hWl:W.length=64:=by rw[<-hW,aV3];rfl
 have hkA:=gA.get hk
 refine u5 ?_
 intro R hR
 have key1 : ∀ (n i:Nat) (w:List Int) (θ:H),i+n=64->w.length=i->aG0 l n w=W->θ b13=some (.cells ⟨J2 (w++List.replicate n 0)⟩ 195 (0,0))->(∀c o,c≠b13->σ3 c=some o->θ c=some o) ->
  R x (some ⟨bk,0,none⟩) (some ⟨b11,0,none⟩) (some ⟨b12,0,none⟩) (.func (.func 218) ⟨[]⟩ ⟨[]⟩) (some ⟨b13,0,none⟩) (i:Int) θ:=by
  intro n
  induction n with
  | zero =>
   intro i w θ hin hwl hg hb hkeep
   refine hR _ _ _ _ _ _ _ _ ?_
   refine k9 (J6 (by omega)) ?_
   have hwW:w=W:=hg
   subst hwW
   rw[List.replicate_zero]at hb
   have f1:=hkeep _ _ ne2 e1'
   refine i6 (A3 (l7 f1) ?_)
   unfold W8.cells
   (refine k0 rfl ?_;try dsimp only)
   refine x0 ?_;intro b78 θ1 g78 e78 n78
   refine w4 e78 al9 ?_
   intro θ2 p2
   have ne4:b13≠b78:=o0 hb n78
   have ne5:b11≠b78:=o0 f1 n78
   have f2:=hkeep _ _ ne3 e2'
   have ne6:b12≠b78:=o0 f2 n78
   have hkB:bk≠b13:=fun e=>by rw[e,n3']at hk;cases hk
   have f3:=hkeep _ _ hkB hkA
   have ne7:bk≠b78:=o0 f3 n78
   have v1:=p2.get ne4 (g78.get hb)
   have v2:=p2.get ne5 (g78.get f1)
   have v3:=p2.get ne6 (g78.get f2)
   have v4:=p2.get ne7 (g78.get f3)
   have v5:θ2 b78=some (.cells ⟨h.cells⟩ 194 (0,0)):=p2.same
   have keepA : ∀c o,σ c=some o->θ2 c=some o:=by
    intro c o hc
    have w1:c≠b13:=fun e=>by rw[e,n3']at hc;cases hc
    have hc':=hkeep c _ w1 (gA.get hc)
    have w2:c≠b78:=o0 hc' n78
    exact p2.get w2 (g78.get hc')
   clear p2 e78
   refine u5 ?_
   intro R2 hR2
   have key2 : ∀ (n i:Nat) (v:W8) (θ':H),i+n=64->D0 (kl.drop i) (w.drop i) v=D0 kl w h->θ' b78=some (.cells ⟨v.cells⟩ 194 (0,0))->(∀c o,c≠b78->θ2 c=some o->θ' c=some o) ->
    R2 (some ⟨bk,0,none⟩) (some ⟨b11,0,none⟩) (some ⟨b12,0,none⟩) (.func (.func 218) ⟨[]⟩ ⟨[]⟩) (some ⟨b13,0,none⟩) (some ⟨b78,0,none⟩) (i:Int) θ':=by
    intro n
    induction n with
    | zero =>
     intro i v θ' hin hro hv0 hkp
     refine hR2 _ _ _ _ _ _ _ _ ?_
     refine k9 (J6 (by omega)) ?_
     have hvf:v=D0 kl w h:=by
      rw[<-hro,M8 (by omega)];rfl
     subst hvf
     have hb0:=hkp _ _ ne5 v2
     have hz0:=hkp _ _ ne6 v3
     have kp0 : ∀c o,σ c=some o->θ' c=some o:=fun c o hc=>hkp c o (fun e=>by
      rw[e]at hc
      have w1:b78≠b13:=Ne.symm ne4
      have:=hkeep b78 _ w1 (gA.get hc)
      rw[n78]at this;cases this) (keepA c o hc)
     have hb0:θ' b11=some (.cells ⟨[.int .u32 h.a,.int .u32 h.b,.int .u32 h.c,.int .u32 h.d,.int .u32 h.e,.int .u32 h.f,.int .u32 h.g,.int .u32 h.h]⟩ 194 (0,0)):=hb0
     have hv0:θ' b78=some (.cells ⟨(D0 kl w h).cells⟩ 194 (0,0)):=hv0
     refine u5 ?_
     intro R3 hR3
     show R3 _ _ _ _ _
     refine hR3 _ _ _ _ _ ?_
     refine l3 (by decide) ?_
     refine i6 (l5 (by decide) (E9 (f0 hb0) ?_))
     refine i6 (l5 (by decide) (E9 (f0 hv0) ?_))
     refine i6 (l5 (by decide) ?_)
     refine w4 hb0 Z1 ?_
     intro η0 p0
     have hb1:η0 b11=some (.cells ⟨[.int .u32 (IntKind.u32.wrap (h.a+(D0 kl w h).a)),.int .u32 h.b,.int .u32 h.c,.int .u32 h.d,.int .u32 h.e,.int .u32 h.f,.int .u32 h.g,.int .u32 h.h]⟩ 194 (0,0)):=p0.same
     have hv1:=p0.get (Ne.symm ne5) hv0
     have hz1:=p0.get (Ne.symm ne1) hz0
     have kp1 : ∀c o,σ c=some o->η0 c=some o:=fun c o hc=>p0.get (fun e=>by rw[e,n1]at hc;cases hc) (kp0 c o hc)
     clear p0
     refine hR3 _ _ _ _ _ ?_
     refine l3 (by decide) ?_
     refine i6 (l5 (by decide) (E9 (f0 hb1) ?_))
     refine i6 (l5 (by decide) (E9 (f0 hv1) ?_))
     refine i6 (l5 (by decide) ?_)
     refine w4 hb1 Z1 ?_
     intro η1 p1
     have hb2:η1 b11=some (.cells ⟨[.int .u32 (IntKind.u32.wrap (h.a+(D0 kl w h).a)),.int .u32 (IntKind.u32.wrap (h.b+(D0 kl w h).b)),.int .u32 h.c,.int .u32 h.d,.int .u32 h.e,.int .u32 h.f,.int .u32 h.g,.int .u32 h.h]⟩ 194 (0,0)):=p1.same
     have hv2:=p1.get (Ne.symm ne5) hv1
     have hz2:=p1.get (Ne.symm ne1) hz1
     have kp2 : ∀c o,σ c=some o->η1 c=some o:=fun c o hc=>p1.get (fun e=>by rw[e,n1]at hc;cases hc) (kp1 c o hc)
     clear p1
     refine hR3 _ _ _ _ _ ?_
     refine l3 (by decide) ?_
     refine i6 (l5 (by decide) (E9 (f0 hb2) ?_))
     refine i6 (l5 (by decide) (E9 (f0 hv2) ?_))
     refine i6 (l5 (by decide) ?_)
     refine w4 hb2 Z1 ?_
     intro η2 p2
     have hb3:η2 b11=some (.cells ⟨[.int .u32 (IntKind.u32.wrap (h.a+(D0 kl w h).a)),.int .u32 (IntKind.u32.wrap (h.b+(D0 kl w h).b)),.int .u32 (IntKind.u32.wrap (h.c+(D0 kl w h).c)),.int .u32 h.d,.int .u32 h.e,.int .u32 h.f,.int .u32 h.g,.int .u32 h.h]⟩ 194 (0,0)):=p2.same
     have hv3:=p2.get (Ne.symm ne5) hv2
     have hz3:=p2.get (Ne.symm ne1) hz2
     have kp3 : ∀c o,σ c=some o->η2 c=some o:=fun c o hc=>p2.get (fun e=>by rw[e,n1]at hc;cases hc) (kp2 c o hc)
     clear p2
     refine hR3 _ _ _ _ _ ?_
     refine l3 (by decide) ?_
     refine i6 (l5 (by decide) (E9 (f0 hb3) ?_))
     refine i6 (l5 (by decide) (E9 (f0 hv3) ?_))
     refine i6 (l5 (by decide) ?_)
     refine w4 hb3 Z1 ?_
     intro η3 p3
     have hb4:η3 b11=some (.cells ⟨[.int .u32 (IntKind.u32.wrap (h.a+(D0 kl w h).a)),.int .u32 (IntKind.u32.wrap (h.b+(D0 kl w h).b)),.int .u32 (IntKind.u32.wrap (h.c+(D0 kl w h).c)),.int .u32 (IntKind.u32.wrap (h.d+(D0 kl w h).d)),.int .u32 h.e,.int .u32 h.f,.int .u32 h.g,.int .u32 h.h]⟩ 194 (0,0)):=p3.same
     have hv4:=p3.get (Ne.symm ne5) hv3
     have hz4:=p3.get (Ne.symm ne1) hz3
     have kp4 : ∀c o,σ c=some o->η3 c=some o:=fun c o hc=>p3.get (fun e=>by rw[e,n1]at hc;cases hc) (kp3 c o hc)
     clear p3
     refine hR3 _ _ _ _ _ ?_
     refine l3 (by decide) ?_
     refine i6 (l5 (by decide) (E9 (f0 hb4) ?_))
     refine i6 (l5 (by decide) (E9 (f0 hv4) ?_))
     refine i6 (l5 (by decide) ?_)
     refine w4 hb4 Z1 ?_
     intro η4 p4
     have hb5:η4 b11=some (.cells ⟨[.int .u32 (IntKind.u32.wrap (h.a+(D0 kl w h).a)),.int .u32 (IntKind.u32.wrap (h.b+(D0 kl w h).b)),.int .u32 (IntKind.u32.wrap (h.c+(D0 kl w h).c)),.int .u32 (IntKind.u32.wrap (h.d+(D0 kl w h).d)),.int .u32 (IntKind.u32.wrap (h.e+(D0 kl w h).e)),.int .u32 h.f,.int .u32 h.g,.int .u32 h.h]⟩ 194 (0,0)):=p4.same
     have hv5:=p4.get (Ne.symm ne5) hv4
     have hz5:=p4.get (Ne.symm ne1) hz4
     have kp5 : ∀c o,σ c=some o->η4 c=some o:=fun c o hc=>p4.get (fun e=>by rw[e,n1]at hc;cases hc) (kp4 c o hc)
     clear p4
     refine hR3 _ _ _ _ _ ?_
     refine l3 (by decide) ?_
     refine i6 (l5 (by decide) (E9 (f0 hb5) ?_))
     refine i6 (l5 (by decide) (E9 (f0 hv5) ?_))
     refine i6 (l5 (by decide) ?_)
     refine w4 hb5 Z1 ?_
     intro η5 p5
     have hb6:η5 b11=some (.cells ⟨[.int .u32 (IntKind.u32.wrap (h.a+(D0 kl w h).a)),.int .u32 (IntKind.u32.wrap (h.b+(D0 kl w h).b)),.int .u32 (IntKind.u32.wrap (h.c+(D0 kl w h).c)),.int .u32 (IntKind.u32.wrap (h.d+(D0 kl w h).d)),.int .u32 (IntKind.u32.wrap (h.e+(D0 kl w h).e)),.int .u32 (IntKind.u32.wrap (h.f+(D0 kl w h).f)),.int .u32 h.g,.int .u32 h.h]⟩ 194 (0,0)):=p5.same
     have hv6:=p5.get (Ne.symm ne5) hv5
     have hz6:=p5.get (Ne.symm ne1) hz5
     have kp6 : ∀c o,σ c=some o->η5 c=some o:=fun c o hc=>p5.get (fun e=>by rw[e,n1]at hc;cases hc) (kp5 c o hc)
     clear p5
     refine hR3 _ _ _ _ _ ?_
     refine l3 (by decide) ?_
     refine i6 (l5 (by decide) (E9 (f0 hb6) ?_))
     refine i6 (l5 (by decide) (E9 (f0 hv6) ?_))
     refine i6 (l5 (by decide) ?_)
     refine w4 hb6 Z1 ?_
     intro η6 p6
     have hb7:η6 b11=some (.cells ⟨[.int .u32 (IntKind.u32.wrap (h.a+(D0 kl w h).a)),.int .u32 (IntKind.u32.wrap (h.b+(D0 kl w h).b)),.int .u32 (IntKind.u32.wrap (h.c+(D0 kl w h).c)),.int .u32 (IntKind.u32.wrap (h.d+(D0 kl w h).d)),.int .u32 (IntKind.u32.wrap (h.e+(D0 kl w h).e)),.int .u32 (IntKind.u32.wrap (h.f+(D0 kl w h).f)),.int .u32 (IntKind.u32.wrap (h.g+(D0 kl w h).g)),.int .u32 h.h]⟩ 194 (0,0)):=p6.same
     have hv7:=p6.get (Ne.symm ne5) hv6
     have hz7:=p6.get (Ne.symm ne1) hz6
     have kp7 : ∀c o,σ c=some o->η6 c=some o:=fun c o hc=>p6.get (fun e=>by rw[e,n1]at hc;cases hc) (kp6 c o hc)
     clear p6
     refine hR3 _ _ _ _ _ ?_
     refine l3 (by decide) ?_
     refine i6 (l5 (by decide) (E9 (f0 hb7) ?_))
     refine i6 (l5 (by decide) (E9 (f0 hv7) ?_))
     refine i6 (l5 (by decide) ?_)
     refine w4 hb7 Z1 ?_
     intro η7 p7
     have hb8:η7 b11=some (.cells ⟨[.int .u32 (IntKind.u32.wrap (h.a+(D0 kl w h).a)),.int .u32 (IntKind.u32.wrap (h.b+(D0 kl w h).b)),.int .u32 (IntKind.u32.wrap (h.c+(D0 kl w h).c)),.int .u32 (IntKind.u32.wrap (h.d+(D0 kl w h).d)),.int .u32 (IntKind.u32.wrap (h.e+(D0 kl w h).e)),.int .u32 (IntKind.u32.wrap (h.f+(D0 kl w h).f)),.int .u32 (IntKind.u32.wrap (h.g+(D0 kl w h).g)),.int .u32 (IntKind.u32.wrap (h.h+(D0 kl w h).h))]⟩ 194 (0,0)):=p7.same
     have hv8:=p7.get (Ne.symm ne5) hv7
     have hz8:=p7.get (Ne.symm ne1) hz7
     have kp8 : ∀c o,σ c=some o->η7 c=some o:=fun c o hc=>p7.get (fun e=>by rw[e,n1]at hc;cases hc) (kp7 c o hc)
     clear p7
     refine hR3 _ _ _ _ _ ?_
     refine k9 (by decide) ?_
     refine i6 (A3 (l7 hb8) ?_)
     (refine k0 rfl ?_;try dsimp only)
     refine w4 hz8 al9 ?_
     intro η9 p9
     refine i6 (A3 (l7 p9.same) ?_)
     (refine k0 rfl ?_;try dsimp only)
     refine⟨?_,P0 fun c o hc=>p9.get (fun e=>by rw[e,n2']at hc;cases hc) (kp8 c o hc)⟩
     unfold ar7
     rw[hW];rfl
    | succ n ih2 =>
     intro i v θ' hin hro hv hkp
     refine hR2 _ _ _ _ _ _ _ _ ?_
     refine l3 (C8 (by omega)) ?_
     have hkk:=hkp _ _ ne7 v4
     have hww:=hkp _ _ ne4 v1
     have k_at : ∀ {θ0:H},θ0 bk=some (.cells ⟨J2 kl⟩ tk fk)->s5 bk (0+((i:Nat):Int).toNat * 1) θ0=some (.int .u32 (kl.getD i 0)):=by
      intro θ0 h0
      have:=bF2 (w:=kl) (z:=[]) (k:=i) (by rw[J1];exact h0) (by omega)
      simpa using this
     have wq_at : ∀ {θ0:H},θ0 b13=some (.cells ⟨J2 (w++[])⟩ 195 (0,0))->s5 b13 (0+((i:Nat):Int).toNat * 1) θ0=some (.int .u32 (w.getD i 0)):=by
      intro θ0 h0
      have:=bF2 (k:=i) h0 (by omega)
      simpa using this
     refine i6 (l5 (by decide) (E9 (f0 hv) ?_))
     refine i6 (l5 (by decide) (E9 (f0 hv) ?_))
     refine i6 (l5 (by decide) (E9 (f0 hv) ?_))
     refine i6 (l5 (by decide) (E9 (f0 hv) ?_))
     refine i6 (l5 (by decide) (E9 (f0 hv) ?_))
     refine i6 (l5 (by decide) (E9 (f0 hv) ?_))
     refine i6 (l5 ⟨by omega,by omega⟩ (E9 (k_at hkk) ?_))
     refine i6 (l5 ⟨by omega,by omega⟩ (E9 (wq_at hww) ?_))
     refine x0 ?_;intro b111 ρ1 gr1 er1 nr1
     refine O6 aA6 (aI8 _ [6,11,25] ⟨some ⟨b111,0,none⟩,3,3⟩ ⟨rfl,b111,_,_,rfl,er1⟩ (by decide) (B6 ?_))
     have hv1:=gr1.get hv
     have hk1:=gr1.get hkk
     have hw1:=gr1.get hww
     refine F9 (wq_at hw1) (F9 (k_at hk1) (F9 (f0 hv1) (F9 (f0 hv1) (F9 (f0 hv1) (F9 (f0 hv1) (F9 (f0 hv1) ?_))))))
     refine i6 (l5 (by decide) (E9 (f0 hv1) ?_))
     refine i6 (l5 (by decide) (E9 (f0 hv1) ?_))
     refine i6 (l5 (by decide) (E9 (f0 hv1) ?_))
     refine i6 (l5 (by decide) (E9 (f0 hv1) ?_))
     refine i6 (l5 (by decide) (E9 (f0 hv1) ?_))
     refine i6 (l5 (by decide) (E9 (f0 hv1) ?_))
     refine i6 (l5 (by decide) (E9 (f0 hv1) ?_))
     refine x0 ?_;intro b134 ρ2 gr2 er2 nr2
     refine O6 aA6 (aI8 _ [2,13,22] ⟨some ⟨b134,0,none⟩,3,3⟩ ⟨rfl,b134,_,_,rfl,er2⟩ (by decide) (B6 ?_))
     have hv2:=gr2.get hv1
     refine F9 (f0 hv2) (F9 (f0 hv2) (F9 (f0 hv2) (F9 (f0 hv2) (F9 (f0 hv2) (F9 (f0 hv2) ?_)))))
     refine i6 (l5 (by decide) (E9 (f0 hv2) ?_))
     refine i6 (l5 (by decide) (E9 (f0 hv2) ?_))
     refine i6 (l5 (by decide) (E9 (f0 hv2) ?_))
     refine i6 (l5 (by decide) (E9 (f0 hv2) ?_))
     refine i6 (l5 (by decide) (E9 (f0 hv2) ?_))
     refine i6 (l5 (by decide) (E9 (f0 hv2) ?_))
     refine i6 (l5 (by decide) (E9 (f0 hv2) ?_))
     refine w4 hv2 al9 ?_
     intro ρ3 pr3
     have hv3:ρ3 b78=some (.cells ⟨(aL5 (kl.getD i 0) (w.getD i 0) v).cells⟩ 194 (0,0)):=pr3.same
     rw[n0 (x:=(i:Int)+1) (by omega) (by omega)]
     refine ih2 (i+1) _ ρ3 (by omega) ?_ hv3 fun c o hc ho=>pr3.get hc (gr2.get (gr1.get (hkp c o hc ho)))
     rw[<-hro]
     have d1:kl.drop i=kl.getD i 0::kl.drop (i+1):=by
      rw[ad7 (by omega:i<kl.length),L0,B9 (by omega)];rfl
     have d2:w.drop i=w.getD i 0::w.drop (i+1):=by
      rw[ad7 (by omega:i<w.length),L0,B9 (by omega)];rfl
     rw[d1,d2];rfl
   exact key2 64 0 h θ2 rfl rfl v5 fun _ _ _ h=>h
  | succ n ih =>
   intro i w θ hin hwl hg hb hkeep
   refine hR _ _ _ _ _ _ _ _ ?_
   refine l3 (C8 (by omega)) ?_
   refine S9 (fun j => ∀ (θ':H),θ' b13=some (.cells ⟨J2 ((w++[ar6 l w])++List.replicate n 0)⟩ 195 (0,0))->(∀c o,c≠b13->σ3 c=some o->θ' c=some o) ->
    j x (some ⟨bk,0,none⟩) (some ⟨b11,0,none⟩) (some ⟨b12,0,none⟩) (.func (.func 218) ⟨[]⟩ ⟨[]⟩) (some ⟨b13,0,none⟩) (i:Int) θ') ?_ ?_
   ·intro θ' h1 h2
    have:=ih (i+1) (w++[ar6 l w]) θ' (by omega) (by simp[hwl]) hg h1 h2
    show R _ _ _ _ _ _ _ _
    rw[n0 (x:=(i:Int)+1) (by omega) (by omega)]
    exact this
   intro j hj
   have hb':θ b13=some (.cells ⟨J2 (w++0::List.replicate n 0)⟩ 195 (0,0)):=by rw[List.replicate_succ]at hb;exact hb
   have store : ∀ (v:Int) (θ0:H),v=ar6 l w->θ0 b13=some (.cells ⟨J2 (w++0::List.replicate n 0)⟩ 195 (0,0))->(∀c o,c≠b13->σ3 c=some o->θ0 c=some o) ->
    t8 188 (.pointer (some ⟨b13,0+((i:Nat):Int).toNat * 1,none⟩)) (.int .u32 v) (j x (some ⟨bk,0,none⟩) (some ⟨b11,0,none⟩) (some ⟨b12,0,none⟩) (.func (.func 218) ⟨[]⟩ ⟨[]⟩) (some ⟨b13,0,none⟩) (i:Int)) θ0:=by
    intro v θ0 hv h0 hkp
    have hoff:0+((i:Nat):Int).toNat * 1=w.length:=by rw[hwl];simp
    rw[hoff]
    refine ar1 h0 Z1 (by rw[U0];show w.length+1<=_;simp) (ap2 v) (.inl (A6 _)) ?_
    intro θ1 p1
    rw[ap1,hv]at p1
    exact hj θ1 p1.same fun c o hc ho=>p1.get hc (hkp c o hc ho)
   by_cases h16:i<16
   ·refine l3 (C8 (by omega)) ?_
    have hxT:w7 θ 1 (B1 l) x:=by
     refine hx.keep fun g o ob _ hg => ?_
     have w1:g≠b13:=fun e=>by rw[e,n3']at hg;cases hg
     exact hkeep g _ w1 (gA.get hg)
    obtain⟨g,o,q1,_,q0⟩:=aN2 hxT (i:=4 * i) (by omega)
    obtain⟨g',o',q1',_,r1⟩:=aN2 hxT (i:=4 * i+1) (by omega)
    rw[q1]at q1';injection q1' with q1';injection q1' with ea eb;subst ea;subst eb
    obtain⟨g',o',q1',_,r2⟩:=aN2 hxT (i:=4 * i+2) (by omega)
    rw[q1]at q1';injection q1' with q1';injection q1' with ea eb;subst ea;subst eb
    obtain⟨g',o',q1',_,r3⟩:=aN2 hxT (i:=4 * i+3) (by omega)
    rw[q1]at q1';injection q1' with q1';injection q1' with ea eb;subst ea;subst eb
    have w0:IntKind.i64.wrap (4 * (i:Int))=((4 * i:Nat):Int):=by rw[n0 (by omega) (by omega)];omega
    have w1:IntKind.i64.wrap (((4 * i:Nat):Int)+1)=((4 * i+1:Nat):Int):=by rw[n0 (by omega) (by omega)];omega
    have w2:IntKind.i64.wrap (((4 * i:Nat):Int)+2)=((4 * i+2:Nat):Int):=by rw[n0 (by omega) (by omega)];omega
    have w3:IntKind.i64.wrap (((4 * i:Nat):Int)+3)=((4 * i+3:Nat):Int):=by rw[n0 (by omega) (by omega)];omega
    rw[w0,w1,w2,w3,q1]
    refine i6 (l5 ⟨by omega,by omega⟩ (E9 q0 (l5 (by decide) ?_)))
    refine i6 (l5 ⟨by omega,by omega⟩ (E9 r1 (l5 (by decide) ?_)))
    refine i6 (l5 ⟨by omega,by omega⟩ (E9 r2 (l5 (by decide) ?_)))
    refine i6 (l5 ⟨by omega,by omega⟩ (E9 r3 ?_))
    refine i6 (l5 ⟨by omega,by omega⟩ ?_)
    refine store _ θ ?_ hb' hkeep
    unfold ar6;rw[d9 (by omega),hwl];rfl
   ·refine k9 (J6 (by omega)) ?_
    have t16:=w64 i 16 (by omega) (by omega)
    have t15:=w64 i 15 (by omega) (by omega)
    have t7:=w64 i 7 (by omega) (by omega)
    have t2:=w64 i 2 (by omega) (by omega)
    simp only[Int.cast_ofNat_Int]at t16 t15 t7 t2
    rw[t16,t15,t7,t2]
    have at_ : ∀ {θ0:H} (k:Nat),θ0 b13=some (.cells ⟨J2 (w++0::List.replicate n 0)⟩ 195 (0,0))->k<i->s5 b13 (0+((k:Nat):Int).toNat * 1) θ0=some (.int .u32 (w.getD k 0)):=by
     intro θ0 k h0 hk
     have:=bF2 h0 (k:=k) (by omega)
     simpa using this
    refine i6 (l5 ⟨by omega,by omega⟩ (E9 (at_ _ hb' (by omega)) ?_))
    refine i6 (l5 ⟨by omega,by omega⟩ (E9 (at_ _ hb' (by omega)) ?_))
    refine i6 (l5 ⟨by omega,by omega⟩ (E9 (at_ _ hb' (by omega)) (l5 (by decide) ?_)))
    refine i6 (l5 ⟨by omega,by omega⟩ (E9 (at_ _ hb' (by omega)) ?_))
    refine i6 (l5 ⟨by omega,by omega⟩ (E9 (at_ _ hb' (by omega)) ?_))
    refine i6 (l5 ⟨by omega,by omega⟩ (E9 (at_ _ hb' (by omega)) ?_))
    refine x0 ?_;intro b62 θ1 g62 e62 n62
    refine O6 aA6 (aI8 _ [7,18] ⟨some ⟨b62,0,none⟩,2,2⟩ ⟨rfl,b62,_,_,rfl,e62⟩ (by decide) (B6 ?_))
    have hb1:=g62.get hb'
    refine F9 (at_ _ hb1 (by omega)) (F9 (at_ _ hb1 (by omega)) (F9 (at_ _ hb1 (by omega)) (F9 (at_ _ hb1 (by omega)) (F9 (at_ _ hb1 (by omega)) ?_))))
    refine x0 ?_;intro b64 θ2 g64 e64 n64
    refine O6 aA6 (aI8 _ [17,19] ⟨some ⟨b64,0,none⟩,2,2⟩ ⟨rfl,b64,_,_,rfl,e64⟩ (by decide) (B6 ?_))
    have hb2:=g64.get hb1
    refine F9 (at_ _ hb2 (by omega)) (F9 (at_ _ hb2 (by omega)) (F9 (at_ _ hb2 (by omega)) (F9 (at_ _ hb2 (by omega)) (l5 (by decide) ?_))))
    refine i6 (l5 ⟨by omega,by omega⟩ ?_)
    refine store _ θ2 ?_ hb2 fun c o hc ho=>g64.get (g62.get (hkeep c o hc ho))
    unfold ar6;rw[c0 (by omega)];unfold bL9;rw[hwl]
 exact key1 64 0 [] σ3 rfl rfl hW e3' fun _ _ _ h=>h
theorem aN3:ElT Tryz.prog 36 5 1:=ax7 (by kernel_rfl) (by decide) (by kernel_rfl)
theorem O8:Tryz.prog.underlying 36=some (.slice 5):=by kernel_rfl
theorem ac1:Tryz.prog.underlying 9=some .string:=by kernel_rfl
theorem ad5:Tryz.prog.underlying 5=some (.int .u8):=by kernel_rfl
theorem aN4 (n:Nat):Int.tmod ((n:Nat):Int) 64=((n % 64:Nat):Int):=rfl
theorem u8w (x:Int):0<=IntKind.u8.wrap x/\IntKind.u8.wrap x<256:=by
 unfold IntKind.wrap
 simp only[IntKind.signed,H4,F4,if_false]
 exact⟨Int.emod_nonneg _ (by decide),Int.emod_lt_of_pos _ (by decide)⟩
theorem cm9 {x:Int} (h:0<=x/\x<256):(((UInt8.ofNat x.toNat).toNat:Nat):Int)=x:=by
 have:(UInt8.ofNat x.toNat).toNat=x.toNat:=by
  rw[UInt8.toNat_ofNat']
  exact Nat.mod_eq_of_lt (by omega)
 rw[this];omega
theorem bR6 (n i:Nat):(((aq3 n i).toNat:Nat):Int)=cb1 n i:=cm9 (u8w _)
theorem aZ4 (s:ByteArray) {b:Nat} {tb:TypeId} {yv:Value} {I:List UInt8->H->Prop} {σ:H} (h2:σ b=some (.cells ⟨[.string s]⟩ tb (0,0)))
 (hg:∀r τ τ',I r τ->Gr τ τ'->I r τ')
 (hI:∀r τ (x:Sl) (K:KH),64<=r.length->I r τ->w7 τ 1 (B1 (r.take 64)) x->(∀τ',I (r.drop 64) τ'->(∀c o,τ c=some o->σ c=none->τ' c=some o)->K (.bool true) τ')->u7 Tryz.prog yv [.slice x.base x.len x.cap] K τ)
 (h0:I (aj4 s.data.toList) σ) (hs:s.size<=100000000) {K:KH} (hK:∀τ',I [] τ'->K (.tuple ⟨[]⟩) τ'):a8 217 [yv,.pointer (some ⟨b,0,none⟩)] K σ:=by
 refine dA9 _ _ ?_
 unfold cW1
 have hsl:s.data.toList.length=s.size:=by cases s with | mk d=>simp[ByteArray.size]
 refine i6 (y8 (f0 h2) ?_)
 refine be2 ac1 O8 ad5 s ?_
 intro x6 σ1 g1 hz1 hn1
 have hz:RNz σ σ1 5 1 (B1 s.data.toList) x6:=⟨g1,hz1,hn1⟩
 refine RNz.app1 aN3 hz (r:=[.int .u8 128]) rfl rfl (by rw[D7];omega) ?_
 intro x8 σ2 hz2 _ _
 have e1:B1 s.data.toList++[[.int .u8 128]]=B1 (s.data.toList++[128]):=by rw[ag8];rfl
 rw[e1]at hz2
 clear hz hz1 hn1 e1 g1
 generalize hlL:s.data.toList=L at *
 refine u5 ?_
 intro R hR
 have key1 : ∀ (n k:Nat) (y:Sl) (τ:H),k+n=(119 - L.length % 64) % 64->RNz σ τ 5 1 (B1 (L++128::List.replicate k 0)) y->R yv (some ⟨b,0,none⟩) y τ:=by
  intro n
  induction n with
  | zero =>
   intro k y τ hk hy
   have hlen:y.len=L.length+1+k:=by rw[hy.len,D7];simp;omega
   refine hR _ _ _ _ (l5 (by decide) ?_)
   refine k9 (by rw[aN4,hlen];simp only[bne_eq_false_iff_eq];omega) ?_
   refine u5 ?_
   intro R2 hR2
   have key2 : ∀ (m i:Nat) (y:Sl) (τ:H),i+m=8->RNz σ τ 5 1 (B1 (L++128::List.replicate k 0++(List.range i).map (aq3 L.length))) y->R2 yv (some ⟨b,0,none⟩) y (i:Int) τ:=by
    intro m
    induction m with
    | zero =>
     intro i y τ hi hy
     have hi8:i=8:=by omega
     subst hi8
     refine hR2 _ _ _ _ _ ?_
     refine k9 (by decide) ?_
     have hpad:L++128::List.replicate k 0++(List.range 8).map (aq3 L.length)=aj4 L:=by
      unfold aj4
      rw[<-hk,Nat.add_zero]
      simp[List.range,List.range.loop]
     rw[hpad]at hy
     refine u5 ?_
     intro R3 hR3
     have hplen:(aj4 L).length % 64=0:=by
      rw[<-hpad];simp;omega
     have key3 : ∀ (q:Nat) (r:List UInt8) (z:Sl) (θ:H),r.length=64 * q->I r θ->w7 θ 1 (B1 r) z->z.len<=z.cap->(∀g o,z.base=some ⟨g,o,none⟩->σ g=none)->R3 yv z θ:=by
      intro q
      induction q with
      | zero =>
       intro r z θ hr hi0 hz _ _
       have hr0:r=[]:=Y3 (by omega)
       subst hr0
       refine hR3 _ _ _ ?_
       refine k9 (by rw[hz.1];simp[B1]) (hK _ hi0)
      | succ q ih =>
       intro r z θ hr hi0 hz hcap hfr
       have hzl:z.len=r.length:=by rw[hz.1,D7]
       refine hR3 _ _ _ ?_
       refine l3 (by rw[hzl];simp only[gt_iff_lt,z8];omega) ?_
       refine l5 ⟨B3 (by decide) (by show(64:Int)<=_;omega),H1⟩ ?_
       have h1:=hz.sub hcap (k:=0) (e:=64) (by omega) (by rw[D7];omega) (z.cap - 0)
       have e1:((B1 r).take 64).drop 0=B1 (r.take 64):=by simp[B1,List.map_take]
       rw[e1]at h1
       refine ag3 (hI r θ ⟨F8 z.base 0 z.cap 1,(64:Int).toNat - 0,z.cap - 0⟩ _ (by omega) hi0 h1 ?_)
       intro θ' hi1 hkeep
       refine y7 (k9 rfl (l5 ⟨H1,B3 (by decide) (by show(64:Int)<=_;omega)⟩ ?_))
       have hz':w7 θ' 1 (B1 r) z:=hz.keep fun g o ob hb hg=>hkeep g _ hg (hfr g o hb)
       have h2:=hz'.sub hcap (k:=64) (e:=z.len) (by omega) (by rw[D7];omega) (z.cap - 64)
       have e2:((B1 r).take z.len).drop 64=B1 (r.drop 64):=by
        rw[H7 (by rw[D7];omega)];simp[B1,List.map_drop]
       rw[e2]at h2
       refine ih (r.drop 64) ⟨F8 z.base ((64:Int).toNat) z.cap 1,z.len - (64:Int).toNat,z.cap - (64:Int).toNat⟩ θ' (by rw[M1];omega) hi1 h2 (by show z.len - 64<=z.cap - 64;omega) ?_
       intro g o hb
       have hb:F8 z.base 64 z.cap 1=some ⟨g,o,none⟩:=hb
       unfold F8 at hb
       split at hb
       ·exact hfr g o hb
       ·cases hzb:z.base with
        | none=>rw[hzb]at hb;cases hb
        | some ad =>
         rw[hzb,Option.map_some]at hb
         injection hb with hb
         obtain⟨ab,ao,as_⟩:=ad
         have hab:ab=g:=by
          have:=D9 Addr.block hb
          unfold Addr.add at this
          split at this<;>exact this
         have has:as_=none:=by
          obtain⟨_,q2 | ⟨g',o',_,_,_,q2,_⟩⟩:=hz
          ·have:(B1 r).length=0:=by rw[q2];rfl
           rw[D7]at this
           omega
          ·rw[hzb]at q2;injection q2 with q2;injection q2
         subst hab;subst has
         exact hfr ab ao hzb
     refine key3 ((aj4 L).length / 64) (aj4 L) y τ (by omega) (hg _ _ _ h0 hy.1) hy.at hy.cap ?_
     intro g o hb
     obtain⟨_,_,⟨q1,_⟩ | ⟨g',cur,fz,_,q1,_⟩⟩:=hy.2.1
     ·rw[q1]at hb;cases hb
     ·have hgn:=hy.2.2 g' q1
      rw[q1]at hb;injection hb with hb;injection hb with hb1;subst hb1;exact hgn
    | succ m ih =>
     intro i y τ hi hy
     refine hR2 _ _ _ _ _ ?_
     refine l3 (C8 (by omega)) ?_
     refine i6 (y8 (f0 (hy.1.get h2)) (l5 ?_ ?_))
     ·have w1:IntKind.i64.wrap (7 - (i:Int))=7 - (i:Int):=n0 (by omega) (by omega)
      rw[w1,n0 (by omega) (by omega)];omega
     refine RNz.app1 aN3 hy rfl rfl (by rw[D7];simp;omega) ?_
     intro y' τ' hy' _ _
     rw[n0 (x:=(i:Int)+1) (by omega) (by omega)]
     refine ih (i+1) y' τ' (by omega) ?_
     have e3:B1 (L++128::List.replicate k 0++(List.range (i+1)).map (aq3 L.length))=B1 (L++128::List.replicate k 0++(List.range i).map (aq3 L.length))++[[.int .u8 (cb1 s.size i)]]:=by
      rw[List.range_succ,List.map_append,<- E0,ag8]
      congr 1
      show [[Value.int .u8 (((aq3 L.length i).toNat:Nat):Int)]]=_
      rw[bR6,hsl]
     rw[e3];exact hy'
   refine key2 8 0 y τ rfl ?_
   rw[List.range_zero,List.map_nil,J1];exact hy
  | succ n ih =>
   intro k y τ hk hy
   have hlen:y.len=L.length+1+k:=by rw[hy.len,D7];simp;omega
   refine hR _ _ _ _ (l5 (by decide) ?_)
   refine l3 (by rw[aN4,hlen];simp only[bne_iff_ne,ne_eq];omega) ?_
   refine RNz.app1 aN3 hy (r:=[.int .u8 0]) rfl rfl (by rw[D7];simp;omega) ?_
   intro y' τ' hy' _ _
   refine ih (k+1) y' τ' (by omega) ?_
   have e3:B1 (L++128::List.replicate (k+1) 0)=B1 (L++128::List.replicate k 0)++[[.int .u8 0]]:=by
    rw[List.replicate_succ',<- P5,<- E0,ag8];rfl
   rw[e3];exact hy'
 exact key1 _ 0 x8 σ2 (by rw[H6]) (by simpa using hz2)
theorem bq3:I3 Tryz.prog 217=true:=by kernel_rfl
def u8R (l:List Int):List (List Value):=l.map fun x=>[.int .u8 x]
def cn0 (kl:List Int) (h:W8) (l:List UInt8):W8:=ai9 kl ((aj4 l).length / 64) h (aj4 l)
theorem bR7 (x:Int) : ∀c∈ae2 x,0<=c/\c<256:=by
 intro c hc
 simp only[ae2,A5,List.mem_nil_iff,or_false]at hc
 rcases hc with rfl | rfl | rfl | rfl<;>exact u8w _
theorem bx4 (w:W8):u8R (w.ints.flatMap ae2)=B1 (bM1 w):=by
 unfold u8R B1 bM1
 rw[List.map_map]
 apply List.map_congr_left
 intro c hc
 rw[List.mem_flatMap]at hc
 obtain⟨x,_,hx⟩:=hc
 show [Value.int .u8 c]=[Value.int .u8 (((UInt8.ofNat c.toNat).toNat:Nat):Int)]
 rw[cm9 (bR7 x c hx)]
theorem dE9 (w:W8) {i:Nat} (hi:i<8) (σ:H):rdX 8 w.cells (i:Int) σ=some (.int .u32 (w.ints.getD i 0)):=by
 have:i=0\/i=1\/i=2\/i=3\/i=4\/i=5\/i=6\/i=7:=by omega
 rcases this with rfl | rfl | rfl | rfl | rfl | rfl | rfl | rfl<;>rfl
theorem bx5 (l:List UInt8):(aj4 l).length % 64=0:=by
 unfold aj4;simp;omega
theorem bR8 {pl kl:List Int} {H0:W8} (hp:X7 400 2 []=some pl) (hl:pl.length=64) (hk:U6 aF9 pl=some kl) (hh:U6 ai7 (pl.take 8)=some H0.ints) (hkl:kl.length=64) (s:ByteArray) (hs:s.size<=100000000) {σ:H} {K:KH}
 (hK:K (.string ⟨⟨bM1 (cn0 kl H0 s.data.toList)⟩⟩) σ):a8 118 [.string s] K σ:=by
 refine B7 _ hK (du3 _ ?_)
 clear hK
 unfold cH5
 refine i7 (bq1 hp hl hk hh hkl ?_)
 unfold W8.cells
 (refine k0 rfl ?_;try dsimp only)
 refine x0 ?_;intro b11 σ1 g1 e1 n1
 refine x0 ?_;intro b12 σ2 g2 e2 n2
 have ne:b11≠b12:=o0 e1 n2
 refine w4 (g2.get e1) al9 ?_
 intro σ3 p3
 have c1:σ3 b11=some (.cells ⟨H0.cells⟩ 194 (0,0)):=p3.same
 have c2:=p3.get (Ne.symm ne) e2
 have c2:σ3 b12=some (.cells ⟨J2 (List.replicate 64 0)⟩ 195 (0,0)):=c2
 refine ar1 c2 (by rw[aV2];show some 64=some (J2 kl).length;rw[U0,hkl]) (by show 0+(J2 kl).length<=_;rw[U0,U0,hkl];decide) (bx3 kl) (.inl (A6 _)) ?_
 intro σ4 p4
 have hset:(J2 (List.replicate 64 0)).take 0++L5 (Value.cells (.agg ⟨J2 kl⟩))++(J2 (List.replicate 64 0)).drop (0+(L5 (Value.cells (.agg ⟨J2 kl⟩))).length)=J2 kl:=by
  show []++J2 kl++(J2 (List.replicate 64 0)).drop (0+(J2 kl).length)=J2 kl
  rw[H6,U0,hkl,M8 (by rw[U0];decide)];simp
 rw[hset]at p4
 have d1:=p4.get ne c1
 have d2:=p4.same
 have hA : ∀c o,σ c=some o->σ4 c=some o:=fun c o hc=>p4.get (fun e=>by rw[e,C3 g1 n2]at hc;cases hc) (p3.get (fun e=>by rw[e,n1]at hc;cases hc) (g2.get (g1.get hc)))
 have nA:σ b11=none:=n1
 clear p4 p3 c1 c2 e1 e2 hset
 generalize hW:cn0 kl H0 s.data.toList=W
 refine S9 (fun j => ∀τ:H,τ b11=some (.cells ⟨W.cells⟩ 194 (0,0))->(∀c o,σ c=some o->τ c=some o)->j (some ⟨b11,0,none⟩) τ) ?_ ?_
 ·intro τ hb hkeep
  refine i6 (A3 (l7 hb) ?_)
  unfold W8.cells
  (refine k0 rfl ?_;try dsimp only)
  refine u5 ?_
  intro R hR
  have key : ∀ (n i:Nat) (out:Sl) (θ:H),i+n=8->E7 τ θ 5 1 (u8R ((W.ints.take i).flatMap ae2)) out->R out W.a W.b W.c W.d W.e W.f W.g W.h (i:Int) θ:=by
   intro n
   induction n with
   | zero =>
    intro i out θ hi hn
    have hi8:i=8:=by omega
    subst hi8
    refine hR _ _ _ _ _ _ _ _ _ _ _ ?_
    refine k9 (by decide) ?_
    have e1:W.ints.take 8=W.ints:=rfl
    rw[e1,bx4]at hn
    refine aj3 O8 ad5 ac1 hn.at ?_
    exact⟨rfl,P0 fun c o hc=>hn.1.get (hkeep c o hc)⟩
   | succ n ih =>
    intro i out θ hi hn
    refine hR _ _ _ _ _ _ _ _ _ _ _ ?_
    refine l3 (C8 (by omega)) ?_
    refine E9 (dE9 W (by omega) θ) (l5 (by decide) (l5 (by decide) (l5 (by decide) ?_)))
    refine x0 ?_;intro b37 θ1 g37 e37 n37
    have hbox:w7 θ1 1 (u8R (ae2 (W.ints.getD i 0))) ⟨some ⟨b37,0,none⟩,4,4⟩:=by
     refine⟨rfl,.inr ⟨b37,0,_,_,_,rfl,e37,fun k r hr => ?_⟩⟩
     match k,hr with
     | 0,hr=>cases hr;exact⟨rfl,rfl⟩
     | 1,hr=>cases hr;exact⟨rfl,rfl⟩
     | 2,hr=>cases hr;exact⟨rfl,rfl⟩
     | 3,hr=>cases hr;exact⟨rfl,rfl⟩
     | k+4,hr=>simp[u8R,ae2]at hr
    have hone : ∀r∈u8R (ae2 (W.ints.getD i 0)),∀u∈r,u.oneCell'=true:=by
     intro r hr u hu
     simp only[u8R,O5]at hr
     obtain⟨q,_,rfl⟩:=hr
     simp at hu;subst hu;rfl
    have hlen:(u8R ((W.ints.take i).flatMap ae2)).length<=1000:=by
     have : ∀l:List Int,(l.flatMap ae2).length=4 * l.length:=by
      intro l
      induction l with
      | nil=>rfl
      | cons x r ih=>rw[aa4,s8,ih];simp[ae2];omega
     simp only[u8R,Y4]
     rw[this,F0];omega
    refine E7.apps aN3 (hn.gr g37) hbox hone (by have:(u8R (ae2 (W.ints.getD i 0))).length=4:=rfl;omega) ?_
    intro y' θ2 h2 _ _
    rw[n0 (x:=(i:Int)+1) (by omega) (by omega)]
    refine ih (i+1) y' θ2 (by omega) ?_
    have e2:u8R ((W.ints.take (i+1)).flatMap ae2)=u8R ((W.ints.take i).flatMap ae2)++u8R (ae2 (W.ints.getD i 0)):=by
     have hil:i<W.ints.length:=by show i<8;omega
     rw[List.take_succ_eq_append_getElem hil,aa3]
     unfold u8R
     rw[List.map_append]
     congr 1
     rw[L0,B9 hil]
     simp
    rw[e2];exact h2
  exact key 8 0 ⟨none,0,0⟩ τ rfl (E7.nil _ _ _)
 ·intro j hj
  refine i7 (dy2 _ ?_)
  unfold cQ1
  refine x0 ?_;intro b2 σ5 g5 e5 n5
  refine ar0 (cl5 (cA6 bq3 ?_))
  intro l obj σ6 hl6 hput hlo hY
  have d15:=g5.get d1
  have d25:=g5.get d2
  have nl1:b11≠l:=o0 d15 hl6
  have nl2:b12≠l:=o0 d25 hl6
  have nlc : ∀c o,σ c=some o->c≠l:=fun c o hc=>o0 (g5.get (hA c o hc)) hl6
  have nlb : ∀c o,σ c=some o->c≠b11:=fun c o hc e=>by rw[e,nA]at hc;cases hc
  have e56:=hput.get (o0 e5 hl6) e5
  refine aZ4 s (I:=fun r τ=>τ l=some (obj .ready none)/\τ b12=some (.cells ⟨J2 kl⟩ 195 (0,0))/\(∀c o,σ c=some o->τ c=some o) /\ ∃ (w:W8) (n:Nat),r.length=64 * n/\ai9 kl n w r=W/\τ b11=some (.cells ⟨w.cells⟩ 194 (0,0))) e56 ?_ ?_ ?_ hs ?_
  ·rintro r τ τ' ⟨i1,i2,i3,w,n,h1,h2,h3⟩ hg
   exact⟨hg.get i1,hg.get i2,fun c o hc=>hg.get (i3 c o hc),w,n,h1,h2,hg.get h3⟩
  ·rintro r τ x K' hr ⟨i1,i2,i3,w,n,h1,h2,h3⟩ hx hK'
   refine bu7 (hY _ _ _ ⟨i1,?_⟩)
   show G1 l obj _ τ
   refine cl6 i1 ?_
   intro τ1 p1
   have k1:=p1.get nl1 h3
   have k2:=p1.get nl2 i2
   have hx1:w7 τ1 1 (B1 (r.take 64)) x:=by
    obtain⟨a1,a2 | ⟨g,o,cur,ty,fz,a2,a3,a4⟩⟩:=hx
    ·exact⟨a1,.inl a2⟩
    ·refine⟨a1,.inr ⟨g,o,cur,ty,fz,a2,p1.get (fun e => ?_) a3,a4⟩⟩
     rw[e,i1]at a3
     obtain⟨r0,hr0⟩:=hlo
     rw[hr0]at a3;cases a3
   refine A3 (l7 k1) ?_
   unfold W8.cells
   (refine k0 rfl ?_;try dsimp only)
   refine i7 (bq2 w (r.take 64) x hx1 (by rw[F0];omega) k2 hkl ?_)
   unfold W8.cells
   (refine k0 rfl ?_;try dsimp only)
   refine w4 k1 al9 ?_
   intro τ2 p2
   have m1:τ2 b11=some (.cells ⟨(ar7 kl w (r.take 64)).cells⟩ 194 (0,0)):=p2.same
   refine aY2 (p2.get (Ne.symm nl1) p1.same) ?_
   intro τ3 p3
   refine hK' τ3 ⟨p3.same,p3.get nl2 (p2.get (Ne.symm ne) k2),fun c o hc=>p3.get (nlc c o hc) (p2.get (nlb c o hc) (p1.get (nlc c o hc) (i3 c o hc))),ar7 kl w (r.take 64),n - 1,?_,?_,p3.get nl1 m1⟩ ?_
   ·rw[M1];omega
   ·cases n with
    | zero=>omega
    | succ n=>exact h2
   ·intro c o hc hn
    have w1:c≠l:=fun e=>by rw[e,hput.same]at hn;cases hn
    have w2:c≠b11:=fun e=>by rw[e,hput.get nl1 d15]at hn;cases hn
    exact p3.get w1 (p2.get w2 (p1.get w1 hc))
  ·refine⟨hput.same,hput.get nl2 d25,fun c o hc=>hput.get (nlc c o hc) (g5.get (hA c o hc)),H0,(aj4 s.data.toList).length / 64,?_,hW,hput.get nl1 d15⟩
   have:=bx5 s.data.toList
   omega
  ·rintro τ' ⟨i1,i2,i3,w,n,h1,h2,h3⟩
   refine cl7 i1 (by decide) ?_
   intro τ1 p1
   have hn0:n=0:=by simp at h1;omega
   subst hn0
   have hwW:w=W:=h2
   subst hwW
   exact hj τ1 (p1.get nl1 h3) fun c o hc=>p1.get (nlc c o hc) (i3 c o hc)
end Go.Proofs.YtgfiobhpipollaaGreatDoor

set_option maxRecDepth 100000
namespace Go.Proofs.YtgfiobhpipollaaGreatDoor
open Go Go.HL Go.Wk
theorem de4:I3 Tryz.prog 220=false:=by kernel_rfl
theorem de5 : (Tryz.prog.funcs[220]?).map (fun fn => ((fn.name == "runtime.NumGoroutine"), fn.body.isNone)) = some (false, true) := by kernel_rfl
theorem de6:(Tryz.prog.funcs[220]?).bind (fun fn=>Extern.find fn)=some Extern.AbiNoEscape.same:=by kernel_rfl
theorem de7:(Tryz.prog.funcs[220]?).map (fun fn=>(Extern.findNext fn).isNone)=some true:=by kernel_rfl
theorem bR9 {f : FuncId} {e : Array Value -> Sem Value} {args : List Value} {t : TK} {F : t.Fn (H -> Prop)} {σ : H} (hg : I3 Tryz.prog f = false) (h1 : (Tryz.prog.funcs[f]?).map (fun fn => ((fn.name == "runtime.NumGoroutine"), fn.body.isNone)) = some (false, true))
 (h2:(Tryz.prog.funcs[f]?).bind (fun fn=>Extern.find fn)=some e) (h3:(Tryz.prog.funcs[f]?).map (fun fn=>(Extern.findNext fn).isNone)=some true)
 (h:∀w,σ.le w -> ∃v w' σ',(e ⟨args⟩).run Tryz.prog w = .ok v w'/\I0 σ w σ' w'/\app t F v σ'):y6 Tryz.prog (.func (.func f) ⟨[]⟩ ⟨[]⟩) args t F σ:=by
 unfold y6 u7
 simp only[hg]
 intro w hw
 obtain⟨v,w',σ',hr,hx,ha⟩:=h w hw
 cases hf:Tryz.prog.funcs[f]? with
 | none=>rw[hf]at h1;cases h1
 | some fn =>
  rw[hf]at h1 h2 h3
  simp only[Option.map_some,Option.some.injEq,Prod.mk.injEq,Option.bind_some]at h1 h2 h3
  have hc:=run_callFunc_standIn hf h1.1 h1.2 (Option.isNone_iff_eq_none.1 h3) h2 ⟨args⟩ w
  have:(Y0 (.func (.func f) ⟨[]⟩ ⟨[]⟩) args).run Tryz.prog w = .ok (.value v) w':=by
   simp[Y0,Deferred.ofValue,invoke,hc,hr]
  rw[this]
  exact⟨σ',hx,ha⟩
theorem ce6 {v:Value} {F:Value->H->Prop} {σ:H} (hF:F v σ):y6 Tryz.prog (.func (.func 220) ⟨[]⟩ ⟨[]⟩) [v] kR F σ :=
 bR9 de4 de5 de6 de7 fun w hw=>⟨v,w,σ,Lib.run_noEscape w v,I0.refl hw,ar0 hF⟩
theorem de8:I3 Tryz.prog 277=false:=by kernel_rfl
theorem de9 : (Tryz.prog.funcs[277]?).map (fun fn => ((fn.name == "runtime.NumGoroutine"), fn.body.isNone)) = some (false, true) := by kernel_rfl
theorem df0:(Tryz.prog.funcs[277]?).bind (fun fn=>Extern.find fn)=some (Extern.BytealgMakeNoZero.makeNoZero #[3] #[36]):=by kernel_rfl
theorem df1:(Tryz.prog.funcs[277]?).map (fun fn=>(Extern.findNext fn).isNone)=some true:=by kernel_rfl
theorem av1:Tryz.prog.underlying 36=some (.slice 5):=by kernel_rfl
theorem ce7:Tryz.prog.underlying 9=some .string:=by kernel_rfl
theorem ce8:Tryz.prog.underlying 203=some (.pointer 5):=by kernel_rfl
theorem aZ5:Tryz.prog.underlying 143=some (.pointer 145):=by kernel_rfl
theorem bS0:Tryz.prog.underlying 231=some .unsafePointer:=by kernel_rfl
theorem bS1:Tryz.prog.cellsOf 5=1:=by kernel_rfl
theorem aJ1 : ∃i,Tryz.prog.info? 5=some i/\i.zero=some (.int .u8 0)/\i.size=1/\i.bytes=1:=by
 have h1:(Tryz.prog.info? 5).map (fun i=>(i.zero,i.size,i.bytes))=some (some (.int .u8 0),1,1):=by kernel_rfl
 cases hi:Tryz.prog.info? 5 with
 | none=>rw[hi]at h1;cases h1
 | some i =>
  rw[hi]at h1
  simp only[Option.map_some,Option.some.injEq,Prod.mk.injEq]at h1
  exact⟨i,rfl,h1.1,h1.2.1,h1.2.2⟩
theorem ce9 : ∃i,Tryz.prog.info? 145=some i/\i.size≠0:=by
 have h1:(Tryz.prog.info? 145).map (·.size)=some 2:=by kernel_rfl
 cases hi:Tryz.prog.info? 145 with
 | none=>rw[hi]at h1;cases h1
 | some i =>
  rw[hi]at h1
  simp only[Option.map_some,Option.some.injEq]at h1
  exact⟨i,rfl,by omega⟩
theorem cf0:liesAt Tryz.prog Tryz.prog.depth 145 (2 / Tryz.prog.cellsOf 145) 0 145 1=true:=by kernel_rfl
theorem av2:sizeT Tryz.prog 36=some 1:=by kernel_rfl
theorem cf1:sizeT Tryz.prog 143=some 1:=by kernel_rfl
theorem dF0 {n:Nat} (hn:n<=281474976710656) {F:Sl->H->Prop} {σ:H} (hF:∀g cur σ',σ g=none->σ' g=some (.cells ⟨cur⟩ 5 (0,0))->Gr σ σ'->n<=cur.length->F ⟨some ⟨g,0,none⟩,n,cur.length⟩ σ'):y6 Tryz.prog (.func (.func 277) ⟨[]⟩ ⟨[]⟩) [.int .i64 (n:Int)] kL F σ:=by
 refine bR9 de8 de9 df0 df1 fun w hw => ?_
 obtain⟨⟨cs⟩,hr,h1,_⟩:=Lib.run_makeNoZero (P:=Tryz.prog) w #[3] 36 5 av1 n hn
 obtain⟨hn',he⟩:=I0.alloc (σ:=σ) (w:=w.drew.drew) hw (.cells ⟨cs⟩ 5 (0,0))
 exact⟨_,_,_,hr,⟨he.le,he.size,he.keep,he.own,he.os,he.tape,he.output⟩,Q7 (hF w.heap.size cs _ hn' (H.put_same _ _ _) (Gr.put hn' _) h1)⟩
def Z2 (σ:H) (b:Nat) (l:List UInt8) (D:Nat->Prop):Prop := ∃ (p:Option Addr) (x:Sl),σ b=some (.cells ⟨[.pointer p,.slice x.base x.len x.cap]⟩ 145 (0,0))/\(p=none\/p=some ⟨b,0,none⟩)/\D8 σ 5 1 (B1 l) x/\(∀g,x.base=some ⟨g,0,none⟩->g≠b)/\(x.base≠none->x.cap≠0) /\ ∀c,D c↔(c=b\/x.base=some ⟨c,0,none⟩)
theorem Z2.gr {σ σ':H} {b:Nat} {l:List UInt8} {D:Nat->Prop} (h:Z2 σ b l D) (hg:Gr σ σ'):Z2 σ' b l D:=by
 obtain⟨p,x,h1,h2,h3,h4⟩:=h
 exact⟨p,x,hg.get h1,h2,h3.gr hg,h4⟩
theorem Z2.new {σ:H} {b:Nat} (h:σ b=some (.cells ⟨[.pointer none,.slice none 0 0]⟩ 145 (0,0))):Z2 σ b [] (fun c=>c=b) :=
 ⟨none,⟨none,0,0⟩,h,.inl rfl,D8.nil _ _ _,(fun g h=>by cases h),(fun h=>u9 rfl h),fun c=>⟨fun h => .inl h,fun h=>h.resolve_right (by intro e;cases e)⟩⟩
attribute [local irreducible] j0 w6 l8 A2 l4 A9 w9 U3 V0 R1 M7 V2 C1 y6 app A4 C9 u7 sizeT oW H8 F2 l9 U5 H2 G1 y9 V1 B2 Gr L6
section
variable {σ : H} {b : Nat} {l : List UInt8} {D : Nat -> Prop}
theorem aE2 (h:Z2 σ b l D) {K:KH} (hK:∀σ',Z2 σ' b l D->Sep σ D σ' D->K (.tuple ⟨[]⟩) σ'):a8 180 [.pointer (some ⟨b,0,none⟩)] K σ:=by
 obtain⟨p,x,h1,h2,h3,h4,h5,h6⟩:=id h
 obtain⟨i,hi,hi0⟩:=ce9
 refine dy4 _ ?_
 unfold cQ5
 refine i6 (aH8 (f0 h1) ?_)
 rcases h2 with rfl | rfl
 ·refine l3 rfl ?_
  refine cp2 aZ5 bS0 hi hi0 h1 (by simp) ?_
  refine ce6 (bL1 bS0 aZ5 hi h1 cf0 (i6 ?_))
  refine w4 h1 cf1 ?_;intro σ' hp
  refine hK σ' ⟨some ⟨b,0,none⟩,x,hp.same,.inr rfl,h3.put hp (fun e=>h4 b e rfl),h4,h5,h6⟩ ?_
  intro c o hc hn
  exact⟨hp.get (fun e=>hn ((h6 c).2 (.inl e))) hc,hn⟩
 ·refine k9 rfl (i6 (aH8 (f0 h1) ?_))
  exact cp3 aZ5 hi (k9 rfl (hK σ h (Sep.refl _ _)))
theorem bh9 (hb:Z2 σ b l D) {p:Option Addr} {x x':Sl} {l':List UInt8} {τ:H} (h1:σ b=some (.cells ⟨[.pointer p,.slice x.base x.len x.cap]⟩ 145 (0,0))) (h2:p=none\/p=some ⟨b,0,none⟩) (h4:∀g,x.base=some ⟨g,0,none⟩->g≠b) (h5:x.base≠none->x.cap≠0) (h6:∀c,D c↔(c=b\/x.base=some ⟨c,0,none⟩))
 (hx':D8 τ 5 1 (B1 l') x') (hcap:(x.base≠none->x.cap≠0)->(x'.base≠none->x'.cap≠0)) (hcase:(∃g o,x.base=some ⟨g,0,none⟩/\x'.base=x.base/\L6 σ g o τ)\/(((∃g,x'.base=some ⟨g,0,none⟩/\σ g=none)\/x'.base=none)/\Gr σ τ))
 {F:H->Prop} (hK:∀σ' D',Z2 σ' b l' D'->Sep σ D σ' D'->F σ'):t8 36 (.pointer (some ⟨b,0+1,none⟩)) (.slice x'.base x'.len x'.cap) F τ:=by
 have hbb:D b:=(h6 b).2 (.inl rfl)
 have h1':τ b=some (.cells ⟨[.pointer p,.slice x.base x.len x.cap]⟩ 145 (0,0)):=by
  rcases hcase with⟨g,o,z1,_,hp⟩ | ⟨_,hg⟩
  ·exact hp.get (Ne.symm (h4 g z1)) h1
  ·exact hg.get h1
 have n4 : ∀g,x'.base=some ⟨g,0,none⟩->g≠b:=by
  intro g' e
  rcases hcase with⟨g,o,z1,z2,hp⟩ | ⟨⟨g,y1,y2⟩ | y,hg⟩
  ·exact h4 g' (by rw[<-z2];exact e)
  ·rw[y1]at e
   have:g=g':=by injection e with e;injection e
   subst this
   intro e2
   rw[e2,h1]at y2;cases y2
  ·rw[y]at e;cases e
 have S2 : ∀c o,σ c=some o -> ¬D c->τ c=some o/\x'.base≠some ⟨c,0,none⟩:=by
  intro c o hc hn
  rcases hcase with⟨g,o',z1,z2,hp⟩ | ⟨z,hg⟩
  ·have hcg:c≠g:=fun e=>hn ((h6 c).2 (.inr (by rw[e];exact z1)))
   exact⟨hp.get hcg hc,fun e=>hn ((h6 c).2 (.inr (by rw[<-z2];exact e)))⟩
  ·refine⟨hg.get hc,fun e => ?_⟩
   rcases z with⟨g,y1,y2⟩ | y
   ·rw[y1]at e
    have:g=c:=by injection e with e;injection e
    subst this
    rw[hc]at y2;cases y2
   ·rw[y]at e;cases e
 refine w4 h1' av2 ?_;intro σ3 p3
 refine hK σ3 (fun c=>c=b\/x'.base=some ⟨c,0,none⟩) ⟨p,x',p3.same,h2,hx'.put p3 (fun e=>n4 b e rfl),n4,hcap h5,fun c=>Iff.rfl⟩ ?_
 intro c o hc hn
 obtain⟨q1,q2⟩:=S2 c o hc hn
 have hcb:c≠b:=fun e=>hn ((h6 c).2 (.inl e))
 exact⟨p3.get hcb q1,fun hd=>hd.elim hcb q2⟩
theorem aJ2 (h:Z2 σ b l D) (s:ByteArray) (hl:l.length+s.size<=100000000000) {K:KH} (hK:∀σ' D',Z2 σ' b (l++s.data.toList) D'->Sep σ D σ' D'->K (.tuple ⟨[.int .i64 ((s.size:Nat):Int),.nilIface]⟩) σ'):a8 191 [.pointer (some ⟨b,0,none⟩),.string s] K σ:=by
 refine dz3 _ _ ?_
 unfold cS3
 refine i7 (aE2 h ?_)
 intro σ1 hb1 S1
 refine O9 ?_
 obtain⟨p,x,h1,h2,h3,h4,h5,h6⟩:=id hb1
 refine i6 (A7 (f0 h1) ?_)
 obtain⟨i,i1,i2,i3,i4⟩:=aJ1
 refine bA8 av1 ce7 i1 i2 i3 i4 h3 hl ?_
 intro x' σ2 hx' hcap hcase
 refine i6 ?_
 exact bh9 hb1 h1 h2 h4 h5 h6 hx' hcap hcase fun σ' D' B S=>hK σ' D' B (S1.trans S)
theorem aJ3 (h:Z2 σ b l D) (hl:l.length<=100000000000) {K:KH} (hK:∀σ',(∀c o,σ c=some o -> ¬D c->σ' c=some o)->K (.string ⟨⟨l⟩⟩) σ'):a8 120 [.pointer (some ⟨b,0,none⟩)] K σ:=by
 refine du5 _ ?_
 unfold cH9
 obtain⟨p,x,h1,h2,h3,h4,h5,h6⟩:=id h
 refine i6 (A7 (f0 h1) (i6 (A7 (f0 h1) ?_)))
 refine ca5 h5 (F9 (f0 h1) ?_)
 refine cp1 ce8 bS1 h3 (by omega) ?_ ?_
 ·intro e;rw[e]at hK;exact hK σ (fun c o hc _=>hc)
 ·intro g cur o σ' e hg hp
  refine hK σ' fun c o' hc hn=>hp.get (fun e2=>hn ((h6 c).2 (.inr (by rw[e2];exact e)))) hc
theorem bS2 (hb:σ b=some (.cells ⟨[.pointer none,.slice none 0 0]⟩ 145 (0,0))) {p:Option Addr} {n:Nat} (hn:n<=100000000000) (h0:n≠0) {τ:H} (h1:τ b=some (.cells ⟨[.pointer p,.slice none 0 0]⟩ 145 (0,0))) (h2:p=none\/p=some ⟨b,0,none⟩) {K:KH} (hK:∀σ' D',Z2 σ' b [] D'->Sep τ (fun c=>c=b) σ' D'->K (.tuple ⟨[]⟩) σ'):a8 266 [.pointer (some ⟨b,0,none⟩),.int .i64 (n:Int)] K τ:=by
 refine dD9 _ _ ?_
 unfold dc5
 refine i6 (A7 (f0 h1) (i6 (A7 (f0 h1) ?_)))
 have e:IntKind.i64.wrap (IntKind.i64.wrap (2 * (((0:Nat):Nat):Int))+(n:Int))=(n:Int):=by
  rw[show(2 * (((0:Nat):Nat):Int))=0 from rfl,n0 (x:=0) (by omega) (by omega),n0 (by omega) (by omega)];omega
 show y6 _ _ [.int .i64 (IntKind.i64.wrap (IntKind.i64.wrap (2 * (((0:Nat):Nat):Int))+(n:Int)))] _ _ _
 rw[e]
 refine dF0 (by omega) ?_
 intro g cur σ1 hn1 hg1 hgr hlen
 have h1':=hgr.get h1
 refine F9 (f0 h1') (l5 ⟨B3 (by simp) (by simp),H1⟩ ?_)
 refine i6 (A7 (f0 h1') ?_)
 refine ca6 av1 (by kernel_rfl) ?_
 refine i6 ?_
 have hgb:g≠b:=by intro e;rw[e,h1]at hn1;cases hn1
 refine w4 h1' av2 ?_;intro σ3 p3
 have hbase:F8 (some ⟨g,0,none⟩) 0 cur.length 1=some ⟨g,0,none⟩:=by unfold F8;split<;>rfl
 refine hK σ3 (fun c=>c=b\/c=g) ⟨p,⟨some ⟨g,0,none⟩,0,cur.length⟩,?_,h2,?_,?_,?_,?_⟩ ?_
 ·have:=p3.same
  simp only[hbase]at this
  exact this
 ·exact⟨rfl,by simp[B1],.inr ⟨g,cur,rfl,p3.get hgb hg1,by simp,Nat.zero_le _,by simp[B1]⟩⟩
 ·intro g' e
  have:g=g':=by injection e with e;injection e
  rw[<-this];exact hgb
 ·intro _ ;show cur.length≠0;omega
 ·intro c
  constructor
  ·rintro (h | h)
   ·exact .inl h
   ·exact .inr (by rw[h])
  ·rintro (h | h)
   ·exact .inl h
   ·exact .inr (by injection h with e;injection e with e;exact e.symm)
 ·intro c o hc hn
  refine⟨p3.get hn (hgr.get hc),fun hd=>hd.elim hn ?_⟩
  intro e;rw[e,hn1]at hc;cases hc
theorem bS3 (hb:σ b=some (.cells ⟨[.pointer none,.slice none 0 0]⟩ 145 (0,0))) {n:Nat} (hn:n<=100000000000) {K:KH} (hK:∀σ' D',Z2 σ' b [] D'->Sep σ (fun c=>c=b) σ' D'->K (.tuple ⟨[]⟩) σ'):a8 238 [.pointer (some ⟨b,0,none⟩),.int .i64 (n:Int)] K σ:=by
 refine dC6 _ _ ?_
 unfold cZ7
 refine i7 (aE2 (Z2.new hb) ?_)
 intro σ1 hb1 S1
 refine O9 (k9 (J6 (by omega)) ?_)
 obtain⟨p,x,h1,h2,h3,h4,h5,h6⟩:=id hb1
 have hx:x=⟨none,0,0⟩:=by
  obtain⟨q1,_,⟨q3,q4,_⟩ | ⟨g,cur,q3,_⟩⟩:=h3
  ·cases x;simp only at q1 q3 q4;simp[B1]at q1;subst q1;subst q3;subst q4;rfl
  ·exact u9 ((h6 g).2 (.inr q3)) (h4 g q3)
 subst hx
 refine i6 (A7 (f0 h1) (i6 (A7 (f0 h1) ?_)))
 show l8 (decide (IntKind.i64.wrap ((((0:Nat):Nat):Int) - (((0:Nat):Nat):Int))<(n:Int))) _ _ _
 rw[show IntKind.i64.wrap ((((0:Nat):Nat):Int) - (((0:Nat):Nat):Int))=0 from by decide]
 by_cases h0:n=0
 ·refine k9 (J6 (by omega)) (hK σ1 _ hb1 S1)
 ·refine l3 (C8 (by omega)) (i7 (bS2 hb hn h0 h1 h2 ?_))
  intro σ' D' B S
  exact O9 (hK σ' D' B (S1.trans S))
end
end Go.Proofs.YtgfiobhpipollaaGreatDoor

set_option maxRecDepth 100000
namespace Go.Proofs.YtgfiobhpipollaaGreatDoor
open Go Go.HL Go.Wk
attribute [local irreducible] j0 w6 l8 A2 l4 A9 w9 U3 V0 R1 M7 V2 C1 y6 app A4 C9 u7 sizeT oW H8 F2 l9 U5 H2 G1 y9 V1 B2 Gr L6
theorem bF3 {σ:H} {l:List UInt8} {c:UInt8} {x:Sl} (h:D8 σ 5 1 (B1 (l++[c])) x):x.base≠none->x.cap≠0:=by
 intro _ e
 obtain⟨h1,_,⟨h2,_⟩ | ⟨g,cur,_,_,_,h5,_⟩⟩:=h
 ·contradiction
 ·rw[h1,D7]at h5;simp at h5;omega
section
variable {σ : H} {b : Nat} {l : List UInt8} {D : Nat -> Prop}
theorem aZ6 (h:Z2 σ b l D) (c:UInt8) (hl:l.length<1000000000) {K:KH} (hK:∀σ' D',Z2 σ' b (l++[c]) D'->Sep σ D σ' D'->K .nilIface σ'):a8 119 [.pointer (some ⟨b,0,none⟩),.int .u8 ((c.toNat:Nat):Int)] K σ:=by
 refine du4 _ _ ?_
 unfold cH7
 refine i7 (aE2 h ?_)
 intro σ1 hb1 S1
 refine O9 ?_
 obtain⟨p,x,h1,h2,h3,h4,h5,h6⟩:=id hb1
 refine i6 (A7 (f0 h1) ?_)
 refine x0 ?_;intro b6 σ2 g2 e2 n2
 obtain⟨i,i1,i2,i3,i4⟩:=aJ1
 refine az5 (i:=i) (bytes:=i.bytes) av1 i1 i2 i3 rfl rfl (by decide) (h3.gr g2) e2 rfl (by intro u hu;simp at hu;subst hu;rfl) (by rw[D7];exact hl) (by rw[i4];decide) ?_
 intro x' σ3 hx' hcase
 refine i6 ?_
 have e3:B1 l++[[Value.int .u8 ((c.toNat:Nat):Int)]]=B1 (l++[c]):=by rw[ag8];rfl
 rw[e3]at hx'
 refine bh9 (hb1.gr g2) (g2.get h1) h2 h4 h5 h6 hx' (fun _=>bF3 hx') (hcase.imp id fun⟨g,q1,q2,q3⟩=>⟨.inl ⟨g,q1,q2⟩,q3⟩) fun σ' D' B S=>hK σ' D' B (S1.trans ((Sep.gr g2).trans S))
end
def cf2:KK Int:=⟨.int .u8,.int .u8,fun _ _=>by simp[Instr.sameNow],fun a b h=>by
 have:=eq_of_beq h;subst this;simp[Instr.sameBits],fun a=>by simp,fun a b h=>by rw[eq_of_beq h],rfl⟩
def aN5:Nat->List (Int×Int)
 | 0=>[]
 | n+1=>up (((L2.getD n 0).toNat:Nat):Int) (n:Int) (aN5 n)
theorem bS4 : ∀n,n<256->(lk ((n:Nat):Int) (aN5 32)).isSome=L2.contains (UInt8.ofNat n):=by decide +kernel
theorem cf3 (c:UInt8):(lk (((c.toNat:Nat):Int)) (aN5 32)).isSome=L2.contains c:=by
 have:=bS4 c.toNat (by exact c.toNat_lt)
 rwa [UInt8.ofNat_toNat]at this
theorem cf4:Tryz.prog.underlying 157=some (.map 5 3):=by kernel_rfl
theorem bS5 {σ:H} {K:KH} (hK:∀b σ',Gr σ σ'->I6 σ' b (M6 cf2 (fun n => .int .i64 n) (aN5 32))->K (.map (some b)) σ'):a8 129 [] K σ:=by
 refine dv1 ?_
 unfold cJ3
 refine x0 ?_;intro b σ1 g1 e1 n1
 refine u5 ?_
 intro R hR
 have key : ∀ (n i:Nat) (τ:H),i+n=32->Gr σ τ->I6 τ b (M6 cf2 (fun n => .int .i64 n) (aN5 i))->R (some b) (i:Int) τ:=by
  intro n
  induction n with
  | zero =>
   intro i τ hi hg hm
   have:i=32:=by omega
   subst this
   exact hR _ _ _ (k9 (by decide) (hK b τ hg hm))
  | succ n ih =>
   intro i τ hi hg hm
   have hil:i<L2.length:=by show i<32;omega
   refine hR _ _ _ (l3 (C8 (by omega)) ?_)
   refine M3 (c:=L2.getD i 0) (by omega) ?_ ?_
   ·show L2[((i:Nat):Int).toNat]? = _
    rw[B0,L0,B9 hil];rfl
   refine az4 (kk:=cf2) (f:=fun n:Int => .int .i64 n) cf4 ad5 hm (((L2.getD i 0).toNat:Nat):Int) (i:Int) ?_
   intro o τ' p hm'
   rw[n0 (x:=(i:Int)+1) (by omega) (by omega)]
   exact ih (i+1) τ' (by omega) (hg.putF p n1) hm'
 exact key 32 0 σ1 rfl g1 (I6.new e1)
theorem aZ7 (s:ByteArray):s.data.toList.length=s.size:=by cases s with | mk d=>simp[ByteArray.size]
theorem bS6 (s:ByteArray) (hs:s.size<=100000000) {σ:H} {K:KH} (hK:K (.bool (C0 s.data.toList)) σ):a8 85 [.string s] K σ:=by
 refine B7 _ hK (c85 _ ?_)
 clear hK
 unfold g85
 refine i7 (bS5 ?_)
 intro b σ1 g1 hm
 refine cA0 ?_
 refine u5 ?_
 intro R hR
 have key : ∀ (r:List UInt8) (i:Nat),s.data.toList.drop i=r->s.data.toList.all L2.contains=r.all L2.contains->R s (some b) ((s.size:Nat):Int) (i:Int) σ1:=by
  intro r
  induction r with
  | nil =>
   intro i hd he
   have hge:s.data.toList.length<=i:=by simpa using hd
   rw[aZ7]at hge
   refine hR _ _ _ _ _ (k9 (J6 (by omega)) ⟨?_,g1⟩)
   unfold C0
   rw[he,aZ7]
   simp only[List.all_nil,C4]
   congr 1
   rw[J5]
   simp only[beq_iff_eq]
   omega
  | cons c r ih =>
   intro i hd he
   obtain⟨hx,hlt,hd'⟩:=ag6 hd
   rw[aZ7]at hlt
   refine hR _ _ _ _ _ (l3 (C8 (by omega)) ?_)
   refine M3 (c:=c) (by omega) hx ?_
   refine A3 (ao0 (kk:=cf2) (f:=fun n:Int => .int .i64 n) hm (.int .i64 0) true (((c.toNat:Nat)):Int)) ?_
   rw[cf3]
   have hv : ∃n:Int,((lk (((c.toNat:Nat)):Int) (aN5 32)).map (fun n:Int=>Value.int .i64 n)).getD (.int .i64 0) = .int .i64 n:=by
    cases lk (((c.toNat:Nat)):Int) (aN5 32) with
    | none=>exact⟨0,rfl⟩
    | some n=>exact⟨n,rfl⟩
   obtain⟨n,hn⟩:=hv
   rw[hn]
   refine co7 ?_
   cases hc:L2.contains c with
   | false =>
    refine l3 rfl ⟨?_,g1⟩
    unfold C0
    rw[he];simp only[List.all_cons,hc];rfl
   | true =>
    refine k9 rfl ?_
    rw[n0 (x:=(i:Int)+1) (by omega) (by omega)]
    exact ih (i+1) hd' (by rw[he];simp only[List.all_cons,hc,C4])
 exact key s.data.toList 0 rfl rfl
theorem ct8 (c:UInt8) {σ:H} {K:KH} (hK:K (.bool (decide (97<=c.toNat)&&decide (c.toNat<=122))) σ):a8 112 [.int .u8 ((c.toNat:Nat):Int)] K σ:=by
 refine cr7 _ ?_
 unfold cG3
 refine G8 (fun h => ?_) (fun h => ?_)
 ·have h':97<=c.toNat:=by have:=E6 h;omega
  have e:decide (((c.toNat:Nat):Int)<=122)=decide (c.toNat<=122):=by rw[E1];omega
  rw[e];simpa[h']using hK
 ·have h' : ¬97<=c.toNat:=by have:=J0 h;omega
  simpa[h']using hK
theorem ct9 (c:UInt8) {σ:H} {K:KH} (hK:K (.bool (decide (65<=c.toNat)&&decide (c.toNat<=90))) σ):a8 113 [.int .u8 ((c.toNat:Nat):Int)] K σ:=by
 refine dt8 _ ?_
 unfold cG5
 refine G8 (fun h => ?_) (fun h => ?_)
 ·have h':65<=c.toNat:=by have:=E6 h;omega
  have e:decide (((c.toNat:Nat):Int)<=90)=decide (c.toNat<=90):=by rw[E1];omega
  rw[e];simpa[h']using hK
 ·have h' : ¬65<=c.toNat:=by have:=J0 h;omega
  simpa[h']using hK
theorem cu0 (c:UInt8) {σ:H} {K:KH} (hK:K (.bool (decide (48<=c.toNat)&&decide (c.toNat<=57))) σ):a8 114 [.int .u8 ((c.toNat:Nat):Int)] K σ:=by
 refine dt9 _ ?_
 unfold cG7
 refine G8 (fun h => ?_) (fun h => ?_)
 ·have h':48<=c.toNat:=by have:=E6 h;omega
  have e:decide (((c.toNat:Nat):Int)<=57)=decide (c.toNat<=57):=by rw[E1];omega
  rw[e];simpa[h']using hK
 ·have h' : ¬48<=c.toNat:=by have:=J0 h;omega
  simpa[h']using hK
theorem cu1 (c:UInt8) {σ:H} {K:KH} (hK:K (.bool ([43,45,46,95].contains c)) σ):a8 115 [.int .u8 ((c.toNat:Nat):Int)] K σ:=by
 refine du0 _ ?_
 unfold cG9
 refine i7 (aa1 _ _ (B6 ?_))
 have h1:((c.toNat:Nat):Int).toNat.toUInt8=c:=by rw[B0];exact UInt8.ofNat_toNat
 rw[h1]
 have h2:=aG9 ⟨⟨[43,45,46,95]⟩⟩ c
 rw[ByteArray.toList_eq]at h2
 have h3:decide (firstIdx ⟨⟨[43,45,46,95]⟩⟩ c>=0)=[43,45,46,95].contains c:=by
  have h4:decide (firstIdx ⟨⟨[43,45,46,95]⟩⟩ c>=0) = !decide (firstIdx ⟨⟨[43,45,46,95]⟩⟩ c<0):=by
   rw[<-decide_not,E1];omega
  rw[h4,h2,S6]
  show([43,45,46,95]:List UInt8).any (fun x=>x==c)=_
  rw[List.contains_eq_any_beq]
  congr 1
  funext x
  rw[J5,beq_iff_eq,beq_iff_eq];exact eq_comm
 rw[h3];exact hK
theorem cf5:I3 Tryz.prog 112=true:=by kernel_rfl
theorem cf6:I3 Tryz.prog 113=true:=by kernel_rfl
theorem cf7:I3 Tryz.prog 114=true:=by kernel_rfl
theorem cf8:I3 Tryz.prog 115=true:=by kernel_rfl
def fn0 (f:FuncId):Value := .func (.func f) ⟨[]⟩ ⟨[]⟩
theorem cf9 (c:UInt8) {b:Nat} {t:TypeId} {σ:H} (h:σ b=some (.cells ⟨[fn0 112,fn0 113,fn0 114,fn0 115]⟩ t (0,0))) {K:KH} (hK:K (.bool (X3 c)) σ):a8 117 [.int .u8 ((c.toNat:Nat):Int),.slice (some ⟨b,0,none⟩) 4 4] K σ:=by
 refine du2 _ ⟨some ⟨b,0,none⟩,4,4⟩ ?_
 unfold cH3
 unfold X3 at hK
 refine u5 ?_
 intro R hR
 refine hR _ _ _ _ _ (l3 (by rfl) (i6 (l5 ⟨E6 rfl,E6 rfl⟩ (ag2 (f0 (v:=fn0 112) h (by rfl)) (O6 cf5 (ct8 c (y7 ?_)))))))
 refine G8 (fun h1=>by rw[h1]at hK;exact hK) (fun h1 => ?_)
 rw[h1,Q1]at hK
 refine hR _ _ _ _ _ (l3 (by rfl) (i6 (l5 ⟨E6 rfl,E6 rfl⟩ (ag2 (f0 (v:=fn0 113) h (by rfl)) (O6 cf6 (ct9 c (y7 ?_)))))))
 refine G8 (fun h1=>by rw[h1]at hK;exact hK) (fun h1 => ?_)
 rw[h1,Q1]at hK
 refine hR _ _ _ _ _ (l3 (by rfl) (i6 (l5 ⟨E6 rfl,E6 rfl⟩ (ag2 (f0 (v:=fn0 114) h (by rfl)) (O6 cf7 (cu0 c (y7 ?_)))))))
 refine G8 (fun h1=>by rw[h1]at hK;exact hK) (fun h1 => ?_)
 rw[h1,Q1]at hK
 refine hR _ _ _ _ _ (l3 (by rfl) (i6 (l5 ⟨E6 rfl,E6 rfl⟩ (ag2 (f0 (v:=fn0 115) h (by rfl)) (O6 cf8 (cu1 c (y7 ?_)))))))
 refine G8 (fun h1=>by rw[h1]at hK;exact hK) (fun h1 => ?_)
 rw[h1]at hK
 exact hR _ _ _ _ _ (k9 (by rfl) hK)
theorem am0 (s:ByteArray) {σ:H} {K:KH} (hK:K (.int .i64 (L3 s.data.toList)) σ):a8 73 [.string s] K σ:=by
 refine B7 _ hK (c73 _ ?_)
 clear hK
 unfold g73
 have hsl:=aZ7 s
 by_cases h20:s.size>20
 ·refine l3 (by simp only[gt_iff_lt,z8];omega) ⟨?_,Gr.refl _⟩
  unfold L3;rw[d9 (by rw[hsl];exact h20)]
 refine k9 (by simp only[gt_iff_lt,C2];omega) ?_
 have hN:L3 s.data.toList=if s.data.toList.all X3 && !s.data.toList.isEmpty&&s.data.toList.head? != some 46 then 0 else 2:=by
  unfold L3;rw[c0 (by rw[hsl];exact h20)]
 refine u5 ?_
 intro R hR
 have key : ∀ (r:List UInt8) (i:Nat) (τ:H),s.data.toList.drop i=r->s.data.toList.all X3=r.all X3->Gr σ τ->R s (fn0 112) (fn0 113) (fn0 114) (fn0 115) ((s.size:Nat):Int) (i:Int) τ:=by
  intro r
  induction r with
  | nil =>
   intro i τ hd he hg
   have hge:s.data.toList.length<=i:=by simpa using hd
   rw[hsl]at hge
   refine hR _ _ _ _ _ _ _ _ (k9 (J6 (by omega)) ?_)
   refine S9 (fun j => ∀b:Bool,b=(s.data.toList.isEmpty||s.data.toList.head? == some 46)->j b τ) ?_ ?_
   ·intro b hb
    have e:s.data.toList.all X3=true:=by rw[he];rfl
    rw[hN,e]
    cases hb1:s.data.toList.isEmpty with
    | true=>rw[hb1]at hb;subst hb;exact l3 rfl ⟨rfl,hg⟩
    | false =>
     cases hb2:s.data.toList.head? == some 46 with
     | true=>rw[hb1,hb2]at hb;subst hb;exact l3 rfl ⟨by simp[bne,hb2],hg⟩
     | false=>rw[hb1,hb2]at hb;subst hb;exact k9 rfl ⟨by simp[bne,hb2],hg⟩
   intro j hj
   refine G8 (fun h => ?_) (fun h => ?_)
   ·refine hj true ?_
    have:s=⟨⟨[]⟩⟩:=P8.1 h
    rw[this];rfl
   ·cases hl:s.data.toList with
    | nil =>
     exfalso
     have:s=⟨⟨[]⟩⟩:=by
      show(⟨⟨s.data.toList⟩⟩:ByteArray)=_
      rw[hl]
     rw[this]at h
     have h2:B8 ⟨⟨[]⟩⟩ ⟨⟨[]⟩⟩=true:=P8.2 rfl
     rw[h2]at h;cases h
    | cons c t =>
     refine M3 (c:=c) (by decide) (by rw[hl];rfl) ?_
     refine hj _ ?_
     rw[hl]
     show((((c.toNat:Nat):Int):Int)==46)=(false||(some c==some 46))
     rw[Q1,J5]
     simp only[beq_iff_eq,Option.some.injEq]
     constructor
     ·intro h;exact UInt8.toNat_inj.1 (by show c.toNat=46;omega)
     ·intro h;rw[h];rfl
  | cons c r ih =>
   intro i τ hd he hg
   obtain⟨hx,hlt,hd'⟩:=ag6 hd
   rw[hsl]at hlt
   refine hR _ _ _ _ _ _ _ _ (l3 (C8 (by omega)) ?_)
   refine M3 (c:=c) (by omega) hx ?_
   have one : ∀ (f:FuncId) (g:H->Prop) (τ:H),g τ->F2 (fn0 f) g τ:=by intro f g τ h;unfold F2 fn0;exact h
   refine one _ _ _ (one _ _ _ (one _ _ _ (one _ _ _ ?_)))
   refine x0 ?_;intro b τ1 g1 e1 n1
   refine i7 (cf9 c e1 (y7 ?_))
   cases hc:X3 c with
   | false =>
    refine l3 rfl ⟨?_,hg.trans g1⟩
    rw[hN,he];simp only[List.all_cons,hc];rfl
   | true =>
    refine k9 rfl ?_
    rw[n0 (x:=(i:Int)+1) (by omega) (by omega)]
    exact ih (i+1) τ1 hd' (by rw[he];simp only[List.all_cons,hc,C4]) (hg.trans g1)
 exact key s.data.toList 0 σ rfl rfl (Gr.refl _)
theorem df2 (s:ByteArray) (hs:s.size<=100000000) {σ:H} {K:KH} (hK:K (.string ⟨⟨W9 s.data.toList⟩⟩) σ):a8 118 [.string s] K σ :=
 bR8 be5 aT6 bM2 bM3 ag9 s hs hK
theorem df3 (hv b:Int):L2[(be6 hv b).toNat]? = some (aY4 hv b):=by
 have h:=bM4 hv b
 have hl:(be6 hv b).toNat<L2.length:=by show _<32;omega
 unfold aY4
 rw[L0,B9 hl];rfl
theorem bi0 (s:ByteArray) (hs:s.size<=100000000) {σ:H} {K:KH} (hK:K (.string ⟨⟨ar8 s.data.toList⟩⟩) σ):a8 75 [.string s] K σ:=by
 refine B7 _ hK (c75 _ ?_)
 clear hK
 unfold g75
 refine i7 (df2 s hs (I1 ?_))
 refine x0 ?_;intro b3 σ1 g1 e1 n1
 have hsz:(⟨⟨W9 s.data.toList⟩⟩:ByteArray).size=32:=rfl
 have hmin:(if(20:Int)<(((⟨⟨W9 s.data.toList⟩⟩:ByteArray).size:Nat):Int)then(20:Int)else(((⟨⟨W9 s.data.toList⟩⟩:ByteArray).size:Nat):Int))=20:=by rw[hsz];rfl
 rw[hmin]
 unfold ar8
 generalize hS:W9 s.data.toList=S
 have hSl:S.length=32:=by rw[<-hS];rfl
 refine u5 ?_
 intro R hR
 have key : ∀ (r:List UInt8) (i:Nat) (hv b:Int) (acc:List UInt8) (D:Nat->Prop) (τ:H),(S.take 20).drop i=r->0<=b->b<=4->acc.length<=2 * i->Z2 τ b3 acc D->(∀c o,σ c=some o->τ c=some o /\ ¬D c)->L7 (S.take 20) 0 0=acc++L7 r hv b->R ⟨⟨S⟩⟩ (some ⟨b3,0,none⟩) hv b 20 (i:Int) τ:=by
  intro r
  induction r with
  | nil =>
   intro i hv b acc D τ hd hb0 hb4 hal hb hkeep he
   have hge:(S.take 20).length<=i:=by simpa using hd
   rw[F0,hSl]at hge
   refine hR _ _ _ _ _ _ _ (k9 (J6 (by omega)) ?_)
   by_cases hal2:acc.length<=100000000000
   ·refine i7 (aJ3 hb hal2 ?_)
    intro σ' hk
    refine I1 ⟨?_,P0 fun c o hc=>hk c o (hkeep c o hc).1 (hkeep c o hc).2⟩
    rw[he];unfold L7;rw[J1]
   ·exfalso
    have h1 : ∀ (l:List UInt8) (hv b:Int),(L7 l hv b).length<=2 * l.length:=by
     intro l
     induction l with
     | nil=>intro _ _;exact A6 _
     | cons c r ih =>
      intro hv b
      unfold L7
      have h2:(inP (orH hv c) (b+8)).2.length<=2:=by
       unfold inP
       split
       ·split<;>simp
       ·simp
      have:=ih (bB5 (orH hv c) (inP (orH hv c) (b+8)).1) (inP (orH hv c) (b+8)).1
      rw[s8,y5];omega
    have h2:=h1 (S.take 20) 0 0
    rw[he,s8,F0]at h2
    omega
  | cons c r ih =>
   intro i hv b acc D τ hd hb0 hb4 hal hb hkeep he
   obtain⟨hx,hlt,hd'⟩:=ag6 hd
   rw[F0,hSl]at hlt
   have hx':S[i]? = some c:=by rw[List.getElem?_take_of_lt (by omega)]at hx;exact hx
   refine hR _ _ _ _ _ _ _ (l3 (C8 (by omega)) (l5 (by decide) ?_))
   refine M3 (c:=c) (by omega) hx' ?_
   refine u5 ?_
   intro R2 hR2
   have w8:IntKind.i64.wrap (b+8)=b+8:=n0 (by omega) (by omega)
   rw[w8]
   have step : ∀ (hv' b':Int) (acc':List UInt8) (D':Nat->Prop) (τ':H),5<=b'->b'<=12->acc'.length<=100->Z2 τ' b3 acc' D'->(∀c o,σ c=some o->τ' c=some o /\ ¬D' c) ->
    (∀D2 τ2,Z2 τ2 b3 (acc'++[aY4 hv' (b' - 5)]) D2->(∀c o,σ c=some o->τ2 c=some o /\ ¬D2 c)->R2 ⟨⟨S⟩⟩ (some ⟨b3,0,none⟩) hv' (b' - 5) 20 (i:Int) τ2)->R2 ⟨⟨S⟩⟩ (some ⟨b3,0,none⟩) hv' b' 20 (i:Int) τ':=by
    intro hv' b' acc' D' τ' h5 h12 ha hB hk hn
    have w5:IntKind.i64.wrap (b' - 5)=b' - 5:=n0 (by omega) (by omega)
    refine hR2 _ _ _ _ _ _ _ (l3 (by simp only[ge_iff_le,z8];omega) ?_)
    rw[w5]
    refine l5 (by omega) ?_
    refine M3 (c:=aY4 hv' (b' - 5)) (bM4 hv' (b' - 5)).1 (df3 hv' (b' - 5)) ?_
    refine i7 (aZ6 hB _ (by omega) ?_)
    intro τ2 D2 hB2 S2
    exact ar0 (hn D2 τ2 hB2 fun c o hc=>S2 c o (hk c o hc).1 (hk c o hc).2)
   have fin : ∀ (hv' b':Int) (acc':List UInt8) (D':Nat->Prop) (τ':H),0<=b'->b'<=4->acc'.length<=2 * (i+1)->Z2 τ' b3 acc' D'->(∀c o,σ c=some o->τ' c=some o /\ ¬D' c)->L7 (S.take 20) 0 0=acc'++L7 r (bB5 hv' b') b'->R2 ⟨⟨S⟩⟩ (some ⟨b3,0,none⟩) hv' b' 20 (i:Int) τ':=by
    intro hv' b' acc' D' τ' h0 h4 ha hB hk hl
    refine hR2 _ _ _ _ _ _ _ (k9 (by simp only[ge_iff_le,C2];omega) (l5 (by omega) ?_))
    rw[n0 (x:=(i:Int)+1) (by omega) (by omega)]
    exact ih (i+1) _ _ acc' D' τ' hd' h0 h4 ha hB hk hl
   simp only[L7,inP]at he
   rw[d9 (show b+8>=5 by omega)]at he
   refine step _ (b+8) acc D τ (by omega) (by omega) (by omega) hb hkeep ?_
   intro D2 τ2 hB2 hk2
   by_cases h2:b+8 - 5>=5
   ·rw[d9 h2]at he
    refine step _ (b+8 - 5) _ D2 τ2 (by omega) (by omega) (by simp;omega) hB2 hk2 ?_
    intro D3 τ3 hB3 hk3
    have e10:b+8 - 5 - 5=b+8 - 10:=by omega
    refine fin _ (b+8 - 5 - 5) _ D3 τ3 (by omega) (by omega) (by simp;omega) hB3 hk3 ?_
    rw[he,e10]
    simp[orH]
   ·rw[c0 h2]at he
    refine fin _ (b+8 - 5) _ D2 τ2 (by omega) (by omega) (by simp;omega) hB2 hk2 ?_
    rw[he]
    simp[orH]
 exact key (S.take 20) 0 0 0 [] _ σ1 rfl (by omega) (by omega) (by simp) (Z2.new e1) (fun c o hc=>⟨g1.get hc,fun e=>by rw[e,n1]at hc;cases hc⟩) rfl
theorem bq4 {l:List UInt8} (h:C0 l=true):l.length=32:=by
 unfold C0 at h
 simp only[A8,beq_iff_eq]at h
 exact h.2
theorem aN6 (h n:List UInt8) (hh:h.length<=100000000) (hn:n.length<=100000000) {σ:H} {K:KH} (hK:K (.tuple ⟨[.string ⟨⟨(ak7 h n).1⟩⟩,.int .i64 (ak7 h n).2]⟩) σ):a8 74 [.string ⟨⟨h⟩⟩,.string ⟨⟨n⟩⟩] K σ:=by
 refine c74 _ _ ?_
 unfold g74
 unfold ak7 at hK
 refine i7 (bS6 ⟨⟨h⟩⟩ hh (y7 ?_))
 show l8 (!C0 h) _ _ σ
 cases hi:C0 h with
 | false=>rw[hi]at hK;exact l3 rfl hK
 | true =>
  rw[hi,d9 rfl]at hK
  refine k9 rfl (i7 (am0 _ (B6 ?_)))
  show l8 (L3 n != 0) _ _ σ
  cases hm:L3 n==0 with
  | false=>rw[hm,c0 (by simp)]at hK;exact l3 (by simp[bne,hm]) hK
  | true =>
   rw[hm,d9 rfl]at hK
   refine k9 (by simp[bne,hm]) (l5 ?_ (l5 ?_ ?_))
   ·show h.length+1<=_;omega
   ·show(h++[45]).length+n.length<=_
    rw[s8];simp;omega
   ·have e : (⟨⟨h⟩⟩ ++ (⟨⟨[45]⟩⟩ : ByteArray)) ++ ⟨⟨n⟩⟩ = (⟨⟨h ++ 45 :: n⟩⟩ : ByteArray) := by
     apply O3
     simp[ByteArray.data_append]
    rw[e];exact hK
theorem av3 (p:List UInt8) (hp:p.length<=100000000) {σ:H} {K:KH} (hK:K (.tuple ⟨[.string ⟨⟨(I9 p).1⟩⟩,.string ⟨⟨(I9 p).2.1⟩⟩,.int .i64 (I9 p).2.2]⟩) σ):a8 56 [.string ⟨⟨p⟩⟩] K σ:=by
 refine c56 _ ?_
 unfold g56
 have hps:(⟨⟨p⟩⟩:ByteArray).size=p.length:=rfl
 have e1:(⟨⟨p⟩⟩:ByteArray).extract 0 ((32:Int).toNat)=⟨⟨p.take 32⟩⟩:=by rw[bex];rfl
 have e2:(⟨⟨p⟩⟩:ByteArray).extract ((33:Int).toNat) (⟨⟨p⟩⟩:ByteArray).size=⟨⟨p.drop 33⟩⟩:=bM6 p 33
 refine S9 (fun j=>(∀b:Bool,b = !(decide (p.length>32)&&p.getD 32 0==45)->j ⟨⟨p⟩⟩ b σ)) ?_ ?_
 ·intro b hb
  cases hc:decide (p.length>32)&&p.getD 32 0==45 with
  | false =>
   rw[hc]at hb;subst hb
   refine l3 rfl ?_
   have hs:I9 p=([],[],4):=by unfold I9;rw[hc];rfl
   rw[hs]at hK;exact hK
  | true =>
   rw[hc]at hb;subst hb
   have hlen:p.length>32:=by
    rw[A8]at hc
    exact E6 hc.1
   refine k9 rfl (l5 ⟨B3 (by decide) (by rw[hps];omega),H1⟩ (l5 ⟨H1,B3 (by decide) (by rw[hps];omega)⟩ ?_))
   rw[e1,e2]
   have hs:I9 p=if C0 (p.take 32)&&L3 (p.drop 33)==0 then(p.take 32,p.drop 33,0)else([],[],4):=by
    unfold I9;rw[hc,C4]
   refine S9 (fun j => ∀b:Bool,b = !(C0 (p.take 32)&&L3 (p.drop 33)==0)->j ⟨⟨p.take 32⟩⟩ ⟨⟨p.drop 33⟩⟩ b σ) ?_ ?_
   ·intro b hb
    cases hd:C0 (p.take 32)&&L3 (p.drop 33)==0 with
    | false=>rw[hd]at hb;subst hb;rw[hs,hd]at hK;exact l3 rfl hK
    | true=>rw[hd]at hb;subst hb;rw[hs,hd]at hK;exact k9 rfl hK
   intro j hj
   refine i7 (bS6 ⟨⟨p.take 32⟩⟩ (by show(p.take 32).length<=_;rw[F0];omega) (y7 ?_))
   show l8 (!C0 (p.take 32)) _ _ σ
   cases hi:C0 (p.take 32) with
   | false=>exact l3 rfl (hj true (by rw[hi];rfl))
   | true =>
    refine k9 rfl (i7 (am0 _ (B6 (hj _ ?_))))
    rw[hi,C4];rfl
 intro j hj
 by_cases hl:p.length>32
 ·refine k9 (by rw[hps];exact J6) ?_
  refine M3 (c:=p.getD 32 0) (by decide) (by show p[32]? = _;rw[L0,B9 hl];rfl) ?_
  refine hj _ ?_
  simp only[hl,decide_true,C4]
  rw[J5]
  simp only[bne_iff_ne,ne_eq,Bool.not_eq_true',M9]
  constructor
  ·intro h h2;rw[h2]at h;exact h rfl
  ·intro h h2;exact h (UInt8.toNat_inj.1 (by show _=45;omega))
 ·refine l3 (by rw[hps];exact C8) (hj true ?_)
  simp[hl]
theorem cn1:sizeT Tryz.prog 5=some 1:=by kernel_rfl
theorem bi1:(Tryz.prog.info? 5).map (·.size)=some 1:=by kernel_rfl
theorem ax0 (a b:List UInt8):((⟨⟨a⟩⟩:ByteArray)++⟨⟨b⟩⟩)=⟨⟨a++b⟩⟩:=by
 apply O3;simp[ByteArray.data_append]
def u8V (l:List UInt8):List Value:=l.map fun c => .int .u8 ((c.toNat:Nat):Int)
theorem bi2 (l:List UInt8):(B1 l).flatten=u8V l:=Z0 l
theorem av4 (l:List UInt8):(u8V l).length=l.length:=by simp[u8V]
theorem cg0 (l:List UInt8) : ∀v∈u8V l,v.oneCell'=true:=by
 intro v hv
 simp only[u8V,O5]at hv
 obtain⟨x,_,rfl⟩:=hv;rfl
theorem cu2 (v:Int) : ∀x∈L5 (Value.cells (.int .u8 v)),x.oneCell'=true:=by
 intro x hx
 have:x = .int .u8 v:=by simpa[Value.cells,L5]using hx
 subst this;rfl
theorem cu3 (n:Nat) (acc:List UInt8) (c:UInt8):(u8V (List.replicate (n+1) 0++acc)).take n++[Value.int .u8 ((c.toNat:Nat):Int)]++(u8V (List.replicate (n+1) 0++acc)).drop (n+1)=u8V (List.replicate n 0++c::acc):=by
 unfold u8V
 rw[List.map_append,List.map_replicate,List.take_append_of_le_length (by simp),List.drop_left' (by simp),List.take_replicate,Nat.min_eq_left (by omega)]
 simp
theorem ax1 {σ:H} {g o:Nat} {l:List UInt8} {cur:List Value} {t:TypeId} {fz:Nat×Nat} (h:σ g=some (.cells ⟨cur⟩ t fz)) (hc:(cur.drop o).take l.length=u8V l) {m:Nat}:w7 σ 1 (B1 l) ⟨some ⟨g,o,none⟩,l.length,m⟩:=by
 refine⟨by rw[D7],.inr ⟨g,o,cur,t,fz,rfl,h,fun i r hi => ?_⟩⟩
 unfold B1 at hi
 rw[O4]at hi
 cases hx:l[i]? with
 | none=>rw[hx]at hi;cases hi
 | some c =>
  rw[hx]at hi
  cases hi
  refine⟨rfl,?_⟩
  have hil:i<l.length:=by
   rcases F6 i l.length with h | h
   ·exact h
   ·rw[L4 h]at hx;cases hx
  have h1:((cur.drop o).take l.length)[i]? = some (.int .u8 ((c.toNat:Nat):Int)):=by
   rw[hc];unfold u8V;rw[O4,hx];rfl
  rw[List.getElem?_take_of_lt hil,List.getElem?_drop]at h1
  have hlt:o+i<cur.length:=by
   rcases F6 (o+i) cur.length with h | h
   ·exact h
   ·rw[L4 h]at h1;cases h1
  rw[P4,ad7 hlt]
  rw[B9 hlt]at h1
  rw[Option.some.inj h1];rfl
theorem aA7 (l:List UInt8) (n:Nat) (hn:n<18446744073709551616) (hl:l.length<=1000000000) {σ:H} {K:KH} (hK:K (.string ⟨⟨l++S5 n⟩⟩) σ):a8 108 [.string ⟨⟨l⟩⟩,.int .u64 ((n:Nat):Int)] K σ:=by
 refine B7 _ hK (dt5 _ _ ?_)
 clear hK
 unfold cF5
 have hsz:(⟨⟨l⟩⟩:ByteArray).size=l.length:=rfl
 refine x0 ?_;intro b3 σ1 g1 e1 n1
 have tm : ∀m:Nat,Int.tmod ((m:Nat):Int) 128=((m % 128:Nat):Int):=fun _=>rfl
 have td : ∀m:Nat,Int.tdiv ((m:Nat):Int) 128=((m / 128:Nat):Int):=fun _=>rfl
 refine l5 (by decide) (l5 (by decide) ?_)
 rw[tm,td,aT7 (by omega) (by omega),af3 (by omega) (by omega)]
 refine w4 e1 cn1 ?_
 intro σ2 p2
 refine l5 (by decide) ?_
 have hb0:σ2 b3=some (.cells ⟨u8V (List.replicate 9 0++[UInt8.ofNat (n % 128)])⟩ 191 (0,0)):=by
  have e:(UInt8.ofNat (n % 128)).toNat=n % 128:=by rw[UInt8.toNat_ofNat'];exact Nat.mod_eq_of_lt (by omega)
  have:=p2.same
  have h2:u8V (List.replicate 9 0++[UInt8.ofNat (n % 128)])=[.int .u8 0,.int .u8 0,.int .u8 0,.int .u8 0,.int .u8 0,.int .u8 0,.int .u8 0,.int .u8 0,.int .u8 0,.int .u8 ((n % 128:Nat):Int)]:=by
   show [Value.int .u8 0,.int .u8 0,.int .u8 0,.int .u8 0,.int .u8 0,.int .u8 0,.int .u8 0,.int .u8 0,.int .u8 0,.int .u8 (((UInt8.ofNat (n % 128)).toNat:Nat):Int)]=_
   rw[e]
  rw[h2];exact this
 have hg0:Gr σ σ2:=g1.putF p2 n1
 refine u5 ?_
 intro R hR
 have fin : ∀ (f:Nat) (acc:List UInt8) (τ:H),acc.length+f=10->f<=9->acc=S5 n->Gr σ τ->τ b3=some (.cells ⟨u8V (List.replicate f 0++acc)⟩ 191 (0,0))->R ⟨⟨l⟩⟩ 0 (some ⟨b3,0,none⟩) ((f:Nat):Int) τ:=by
  intro f acc τ ha hf9 hd hg hb
  refine hR _ _ _ _ _ (k9 (by decide) ?_)
  have w1:IntKind.i64.wrap ((IntKind.i64.wrap ((((⟨⟨l⟩⟩:ByteArray).size:Nat):Int)+10)) - (f:Int))=((l.length+acc.length:Nat):Int):=by
   have w0:IntKind.i64.wrap (((l.length:Nat):Int)+10)=((l.length:Nat):Int)+10:=n0 (by omega) (by omega)
   rw[hsz,w0,n0 (by omega) (by omega)];omega
  rw[w1]
  obtain⟨i,i1,i2,i3,i4⟩:=aJ1
  refine cp5 O8 i1 i2 i3 (by rw[i4];decide) rfl rfl (by omega) ?_
  intro g τ1 g1' n1' e1'
  have hb1:=g1'.get hb
  have ne:b3≠g:=o0 hb n1'
  refine bn6 O8 bi1 e1' ⟨⟨l⟩⟩ (by rw[hsz];show l.length<=l.length+acc.length;omega) (by rw[hsz,bc0];omega) ?_
  intro τ2 p2'
  refine l5 ⟨H1,B3 (by omega) (by rw[hsz];show((l.length:Nat):Int)<=((l.length+acc.length:Nat):Int);omega)⟩ ?_
  refine i6 (l5 ⟨H1,B3 (by omega) (by omega)⟩ ?_)
  have hb2:=p2'.get ne hb1
  have s1:F8 (some ⟨g,0,none⟩) ((((⟨⟨l⟩⟩:ByteArray).size:Nat):Int).toNat) (l.length+acc.length) 1=some ⟨g,l.length,none⟩:=by
   unfold F8
   rw[hsz,B0,c0 (by omega),Option.map_some,W0,P4,H6]
  have s2:F8 (some ⟨b3,0,none⟩) ((f:Nat):Int).toNat 10 1=some ⟨b3,f,none⟩:=by
   unfold F8
   rw[B0,c0 (by omega),Option.map_some,W0,P4,H6]
  show R1 _ _ _ _ _ [.slice (F8 (some ⟨g,0,none⟩) _ (l.length+acc.length) 1) _ _,_] _ _ _
  rw[s1,s2]
  have hl2:((List.replicate (l.length+acc.length) (Value.int .u8 0)).take 0++(B1 l).flatten++(List.replicate (l.length+acc.length) (Value.int .u8 0)).drop (0+l.length)).length=l.length+acc.length:=by
   rw[bi2];simp[u8V]
  refine bB7 (n:=10 - f) O8 bi1 p2'.same hb2 ?_ ?_ ?_ (cg0 _) ?_
  ·show 10 - f<=l.length+acc.length - _
   rw[hsz,B0];omega
  ·rw[av4];simp;omega
  ·show l.length+(10 - f)<=((List.replicate (l.length+acc.length) (Value.int .u8 0)).take 0++(B1 l).flatten++(List.replicate (l.length+acc.length) (Value.int .u8 0)).drop (0+l.length)).length
   rw[hl2];omega
  intro τ3 p3'
  have hc:τ3 g=some (.cells ⟨u8V (l++acc)⟩ 5 (0,0)):=by
   have h3:=p3'.same
   rw[h3]
   congr 3
   show((((List.replicate (l.length+acc.length) (Value.int .u8 0)).take 0++(B1 l).flatten++(List.replicate (l.length+acc.length) (Value.int .u8 0)).drop (0+l.length))).take l.length++((u8V (List.replicate f 0++acc)).drop f).take (10 - f))++(((List.replicate (l.length+acc.length) (Value.int .u8 0)).take 0++(B1 l).flatten++(List.replicate (l.length+acc.length) (Value.int .u8 0)).drop (0+l.length))).drop (l.length+(10 - f))=_
   have h4:(u8V (List.replicate f 0++acc)).drop f=u8V acc:=by
    unfold u8V;rw[List.map_append,List.drop_left' (by simp)]
   have h5:10 - f=(u8V acc).length:=by rw[av4];omega
   rw[bi2,h4,h5,V7,List.take_zero,T8]
   rw[List.take_left' (av4 l),M8 (by simp[av4]),J1]
   unfold u8V;rw[List.map_append]
  have hrow:w7 τ3 1 (B1 (l++acc)) ⟨some ⟨g,0,none⟩,l.length+acc.length,l.length+acc.length⟩:=by
   have:=ax1 (o:=0) (l:=l++acc) (m:=l.length+acc.length) hc (by rw[ad8,H7 (by rw[av4];exact A6 _)])
   rw[s8]at this;exact this
  refine aj3 O8 ad5 ac1 hrow ?_
  have gfin:Gr σ τ3:=P0 fun c o hc'=>by
   have w0:=g1'.get (hg.get hc')
   have wn:c≠g:=o0 (hg.get hc') n1'
   exact p3'.get wn (p2'.get wn w0)
  exact⟨by rw[hd],gfin⟩
 have key : ∀ (f m:Nat) (acc:List UInt8) (τ:H),acc.length+f=10->f<=9->m<128 ^ f->ai2 f m acc=S5 n->Gr σ τ->τ b3=some (.cells ⟨u8V (List.replicate f 0++acc)⟩ 191 (0,0))->R ⟨⟨l⟩⟩ ((m:Nat):Int) (some ⟨b3,0,none⟩) ((f:Nat):Int) τ:=by
  intro f
  induction f with
  | zero =>
   intro m acc τ ha hf9 hm hd hg hb
   have:m=0:=by simpa using hm
   subst this
   exact fin 0 acc τ ha hf9 hd hg hb
  | succ f ih =>
   intro m acc τ ha hf9 hm hd hg hb
   unfold ai2 at hd
   by_cases h0:m=0
   ·subst h0
    rw[d9 rfl]at hd
    exact fin (f+1) acc τ ha hf9 hd hg hb
   rw[c0 h0]at hd
   refine hR _ _ _ _ _ (l3 (by simp only[gt_iff_lt,z8];omega) (l5 (by decide) ?_))
   have w1:IntKind.i64.wrap (((f+1:Nat):Int) - 1)=((f:Nat):Int):=by rw[n0 (by omega) (by omega)];omega
   rw[w1,tm,td,aT7 (x:=((m % 128:Nat):Int)) (by omega) (by omega),aT7 (by omega) (by omega)]
   have hm2:m / 128<128 ^ f:=by rw[Nat.div_lt_iff_lt_mul (by decide)];rw[Nat.pow_succ]at hm;exact hm
   have hb64:((m / 128:Nat):Int)<18446744073709551616:=by
    have:128 ^ f<=128 ^ 8:=Nat.pow_le_pow_right (by decide) (by omega)
    have h8:(128:Nat) ^ 8=72057594037927936:=by decide
    omega
   rw[af3 (by omega) hb64]
   refine i6 (l5 ⟨by omega,by omega⟩ ?_)
   have hoff:0+((f:Nat):Int).toNat * 1=f:=by simp
   rw[hoff]
   refine ar1 hb cn1 (by rw[av4];show f+1<=_;simp) (cu2 _) (.inl (A6 _)) ?_
   intro τ1 p1
   have ec:(UInt8.ofNat (m % 128+128)).toNat=m % 128+128:=by rw[UInt8.toNat_ofNat'];exact Nat.mod_eq_of_lt (by omega)
   have hset:(u8V (List.replicate (f+1) 0++acc)).take f++L5 (Value.cells (.int .u8 (((m % 128:Nat):Int)+128)))++(u8V (List.replicate (f+1) 0++acc)).drop (f+(L5 (Value.cells (.int .u8 (((m % 128:Nat):Int)+128)))).length)=u8V (List.replicate f 0++UInt8.ofNat (m % 128+128)::acc):=by
    rw[<-cu3,ec];rfl
   rw[hset]at p1
   refine l5 (by decide) ?_
   exact ih (m / 128) _ τ1 (by rw[y5];omega) (by omega) hm2 hd (hg.putF p1 (C3 (Gr.refl _) n1)) p1.same
 exact key 9 (n / 128) _ σ2 (by rfl) (by decide) (by rw[Nat.div_lt_iff_lt_mul (by decide)];exact Nat.lt_of_lt_of_le hn (by decide)) rfl hg0 hb0
theorem cu4:sizeT Tryz.prog 138=some 1:=by kernel_rfl
theorem ah1 (l t:List UInt8) (hl:l.length<=1000000000) (ht:t.length<=1000000000) {σ:H} {K:KH} (hK:K (.string ⟨⟨l++X0 t⟩⟩) σ):a8 71 [.string ⟨⟨l⟩⟩,.string ⟨⟨t⟩⟩] K σ:=by
 refine c71 _ _ ?_
 unfold g71
 have e:IntKind.u64.wrap ((((⟨⟨t⟩⟩:ByteArray).size:Nat):Int))=((t.length:Nat):Int):=by
  show IntKind.u64.wrap ((t.length:Nat):Int)=_
  exact af3 (by omega) (by omega)
 rw[e]
 refine i7 (aA7 l t.length (by omega) hl (I1 (l5 ?_ ?_)))
 ·show(l++S5 t.length).length+t.length<=_
  have:=U8 t.length
  rw[s8];omega
 ·rw[ax0,E0];exact hK
def ag7 (σ:H) (b G:Nat) (r:I7):Prop := ∃x:Sl,σ b=some (.cells ⟨[.slice x.base x.len x.cap,.bool r.lost]⟩ 149 (0,0))/\w7 σ 1 (B1 r.left) x/\x.len<=x.cap /\ ∀g o s,x.base=some ⟨g,o,s⟩->g=G/\g≠b/\s=none
theorem ag7.keep {σ σ':H} {b G:Nat} {r:I7} (h:ag7 σ b G r) (hk:∀c o,σ c=some o->σ' c=some o):ag7 σ' b G r:=by
 obtain⟨x,h1,h2,h3,h4⟩:=h
 exact⟨x,hk _ _ h1,h2.keep fun g o ob _ hg=>hk g ob hg,h3,h4⟩
theorem ag7.has {σ:H} {b G:Nat} {r:I7} (h:ag7 σ b G r) : ∃o,σ b=some o:=by obtain⟨x,h1,_⟩:=h;exact⟨_,h1⟩
theorem cg1 {x:Sl} {k c n:Nat} {g o:Nat} {s:Option Nat} (h:F8 x.base k c n=some ⟨g,o,s⟩) : ∃o' s',x.base=some ⟨g,o',s'⟩/\(s'=none->s=none):=by
 unfold F8 at h
 split at h
 ·exact⟨o,s,h,id⟩
 ·cases hb:x.base with
  | none=>rw[hb]at h;cases h
  | some a =>
   obtain⟨ab,ao,as_⟩:=a
   rw[hb,Option.map_some]at h
   injection h with h
   unfold Addr.add at h
   split at h
   ·injection h with h1 h2 h3;subst h1;exact⟨ao,as_,rfl,fun e=>by rw[<-h3];exact e⟩
   ·injection h with h1 h2 h3;subst h1;exact⟨ao,as_,rfl,fun _=>h3.symm⟩
theorem cu5 (l:List UInt8) (hl:l.length<=1000000000) {σ:H} {K:KH} (hK:∀b G σ',Gr σ σ'->σ b=none->ag7 σ' b G ⟨l,false⟩->K (.pointer (some ⟨b,0,none⟩)) σ'):a8 80 [.string ⟨⟨l⟩⟩] K σ:=by
 refine c80 _ ?_
 unfold g80
 refine be2 ac1 O8 ad5 _ ?_
 intro x σ1 g1 hx hn
 refine x0 ?_;intro b σ2 g2 e2 n2
 refine hK b (match x.base with | some a=>a.block | none=>0) σ2 (g1.trans g2) (C3 g1 n2) ⟨x,e2,hx.rows.gr g2,?_,?_⟩
 ·obtain⟨h1,_,⟨_,h2,h3⟩ | ⟨g,cur,fz,_,_,_,_,h4,_⟩⟩:=hx
  ·rw[h1,h3];exact Nat.zero_le _
  ·exact h4
 ·intro g o s hb
  obtain⟨_,_,⟨h2,_⟩ | ⟨g',cur,fz,_,h3,h4,_⟩⟩:=hx
  ·rw[h2]at hb;cases hb
  ·rw[h3]at hb;injection hb with hb;injection hb with q1 q2 q3
   subst q1
   exact⟨by rw[h3],fun e=>(by rw[e,n2]at h4;cases h4),q3.symm⟩
theorem cu6 (l:List UInt8) (x:Sl) (hl:l.length<=1000000000) {σ:H} (hx:w7 σ 1 (B1 l) x) {K:KH} (hK:K (.int .i64 ((ak8 l:Nat):Int)) σ):a8 181 [.slice x.base x.len x.cap] K σ:=by
 refine dy5 _ ?_
 unfold cQ7
 have hxl:x.len=l.length:=by rw[hx.1,D7]
 refine u5 ?_
 intro R hR
 have key : ∀ (r:List UInt8) (i:Nat),l.drop i=r->ak8 l=ap8 (l.headD 0).toNat i r->R x x ((x.len:Nat):Int) (i:Int) σ:=by
  intro r
  induction r with
  | nil =>
   intro i hd he
   have hge:l.length<=i:=by simpa using hd
   refine hR _ _ _ _ _ (k9 (by rw[hxl];exact J6) ?_)
   have:ak8 l=0:=he
   rw[this]at hK;exact hK
  | cons c r ih =>
   intro i hd he
   obtain⟨hx1,hlt,hd'⟩:=ag6 hd
   obtain⟨g,o,q1,q2,q3⟩:=aN2 hx hlt
   have hc:l.getD i 0=c:=by rw[L0,hx1];rfl
   rw[hc]at q3
   refine hR _ _ _ _ _ (l3 (by rw[hxl];exact C8) ?_)
   rw[q1]
   refine i6 (l5 ⟨by omega,by omega⟩ (E9 (by simpa using q3) ?_))
   unfold ap8 at he
   refine S9 (fun j => ∀ (b:Bool) (v1 v2:Value),b=ah6 (l.headD 0).toNat i c->j x (i:Int) ((c.toNat:Nat):Int) x ((x.len:Nat):Int) (i:Int) b v1 v2 σ) ?_ ?_
   ·intro b v1 v2 hb
    cases hbad:ah6 (l.headD 0).toNat i c with
    | true =>
     rw[hbad]at hb;subst hb
     rw[hbad,d9 rfl]at he
     rw[he]at hK
     exact l3 rfl hK
    | false =>
     rw[hbad]at hb;subst hb
     rw[hbad,c0 (by simp)]at he
     refine k9 rfl ?_
     rw[n0 (x:=(i:Int)+1) (by omega) (by omega)]
     by_cases h128:c.toNat<128
     ·rw[d9 h128]at he
      rw[he]at hK
      exact l3 (C8 (by omega)) hK
     ·rw[c0 h128]at he
      exact k9 (J6 (by omega)) (ih (i+1) hd' he)
   intro j hj
   have ii : ∀k:Nat,(((i:Nat):Int)==((k:Nat):Int))=(i==k):=by
    intro k;rw[J5,beq_iff_eq,beq_iff_eq];omega
   have i0:(((i:Nat):Int)==0)=(i==0):=ii 0
   have i9:(((i:Nat):Int)==9)=(i==9):=ii 9
   have i10:(((i:Nat):Int)==10)=(i==10):=ii 10
   have cr8:(((c.toNat:Nat):Int)==128)=(c.toNat==128):=by rw[J5,beq_iff_eq,beq_iff_eq];omega
   refine S9 (fun j2 => ∀ (b:Bool) (v1 v2:Value),b=(i==0&&c.toNat==128)->j2 x (i:Int) ((c.toNat:Nat):Int) x ((x.len:Nat):Int) (i:Int) b v1 v2 σ) ?_ ?_
   ·intro b v1 v2 hb
    refine G8 (fun h => ?_) (fun h => ?_)
    ·refine hj _ _ _ ?_
     rw[h]at hb ⊢
     unfold ah6;rw[<-hb];rfl
    refine S9 (fun j3 => ∀ (b3:Bool) (v1 v2 v3 v4 v5 v6:Value),b3=(i==9&&decide ((l.headD 0).toNat>129))->j3 x (i:Int) ((c.toNat:Nat):Int) x ((x.len:Nat):Int) (i:Int) b3 v1 v2 v3 v4 v5 v6 σ) ?_ ?_
    ·intro b3 v1 v2 v3 v4 v5 v6 hb3
     refine G8 (fun h3 => ?_) (fun h3 => ?_)
     ·refine hj _ _ _ ?_
      rw[h3]at hb3 ⊢
      unfold ah6;rw[<-hb,<- hb3,h];rfl
     ·refine hj _ _ _ ?_
      rw[h3]at hb3
      unfold ah6;rw[<-hb,<- hb3,h,i10];rfl
    intro j3 hj3
    refine G8 (fun h9 => ?_) (fun h9 => ?_)
    ·rw[i9]at h9
     have hi9:i=9:=by simpa using h9
     have hl0:0<l.length:=by omega
     obtain⟨g',o',q1',q2',q3'⟩:=aN2 hx hl0
     rw[q1]at q1';injection q1' with q1';injection q1' with ea eb;subst ea;subst eb
     show j0 x.base _ σ
     rw[q1]
     refine i6 (l5 ⟨by decide,by omega⟩ (E9 (by simpa using q3') ?_))
     have hh:l[0]?.getD 0=l.headD 0:=by cases l<;>rfl
     refine hj3 _ _ _ _ _ _ _ ?_
     rw[h9,C4,hh,E1];omega
    ·rw[i9]at h9
     exact hj3 _ _ _ _ _ _ _ (by rw[h9];rfl)
   intro j2 hj2
   refine G8 (fun h0 => ?_) (fun h0 => ?_)
   ·rw[i0]at h0
    exact hj2 _ _ _ (by rw[h0,cr8];rfl)
   ·rw[i0]at h0
    exact hj2 _ _ _ (by rw[h0];rfl)
 exact key l 0 rfl rfl
section
variable {σ : H} {b G : Nat} {r : I7}
theorem bx7 (h:ag7 σ b G r) (hl:r.left.length<=1000000000) {long:Value} {k:Nat} (hk:k<=2000000000) (hlong:∀ (x:Sl) (K':KH),w7 σ 1 (B1 r.left) x->K' (.int .i64 ((k:Nat):Int)) σ->u7 Tryz.prog long [.slice x.base x.len x.cap] K' σ)
 {K:KH} (hK:∀ (y:Sl) σ',ag7 σ' b G (r.take k).2->w7 σ' 1 (B1 (r.take k).1) y->(∀c o,c≠b->σ c=some o->σ' c=some o)->K (.slice y.base y.len y.cap) σ'):a8 123 [.pointer (some ⟨b,0,none⟩),long] K σ:=by
 refine du8 _ _ ?_
 unfold cI5
 obtain⟨x,h1,h2,h3,h4⟩:=id h
 have hxl:x.len=r.left.length:=by rw[h2.1,D7]
 refine k9 rfl (i6 (A7 (f0 h1) (ag3 (hlong x _ h2 (B6 ?_)))))
 refine S9 (fun j => ∀bb:Bool,bb=decide (k=0\/k>r.left.length)->j (some ⟨b,0,none⟩) ((k:Nat):Int) bb σ) ?_ ?_
 ·intro bb hb
  by_cases hc:k=0\/k>r.left.length
  ·have ht:r.take k=([],⟨[],true⟩):=by unfold I7.take;rw[d9 hc]
   rw[ht]at hK
   refine l3 (by rw[hb];simpa using hc) (i6 ?_)
   refine w4 h1 av2 ?_
   intro σ1 p1
   refine i6 (w4 p1.same aI7 ?_)
   intro σ2 p2
   refine hK ⟨none,0,0⟩ σ2 ⟨⟨none,0,0⟩,p2.same,⟨rfl,.inl rfl⟩,A6 _,fun g o s e=>by cases e⟩ ⟨rfl,.inl rfl⟩ fun c o hcb ho=>p2.get hcb (p1.get hcb ho)
  ·have ht:r.take k=(r.left.take k,⟨r.left.drop k,r.lost⟩):=by unfold I7.take;rw[c0 hc]
   rw[ht]at hK
   refine k9 (by rw[hb];simpa using hc) (i6 (A7 (f0 h1) ?_))
   refine l5 ⟨B3 (by omega) (by show((k:Nat):Int)<=((x.cap:Nat):Int);omega),H1⟩ (i6 (A7 (f0 h1) ?_))
   refine l5 ⟨H1,B3 (by omega) (by show((k:Nat):Int)<=((x.len:Nat):Int);omega)⟩ (i6 ?_)
   refine w4 h1 av2 ?_
   intro σ1 p1
   have hx1:w7 σ1 1 (B1 r.left) x:=h2.keep fun g o ob hb hg=>p1.get (h4 g o none hb).2.1 hg
   have s1:=hx1.sub h3 (k:=0) (e:=k) (by omega) (by rw[D7];omega) (x.cap - 0)
   have s2:=hx1.sub h3 (k:=k) (e:=x.len) (by omega) (by rw[D7];omega) (x.cap - k)
   have e1:((B1 r.left).take k).drop 0=B1 (r.left.take k):=by simp[B1,List.map_take]
   have e2:((B1 r.left).take x.len).drop k=B1 (r.left.drop k):=by
    rw[H7 (by rw[D7];omega)];simp[B1,List.map_drop]
   rw[e1]at s1
   rw[e2]at s2
   have ek:((k:Nat):Int).toNat=k:=B0 k
   rw[ek]at p1 ⊢
   refine hK ⟨F8 x.base 0 x.cap 1,k - 0,x.cap - 0⟩ σ1 ⟨⟨F8 x.base k x.cap 1,x.len - k,x.cap - k⟩,p1.same,s2,by show x.len - k<=x.cap - k;omega,?_⟩ s1 fun c o hcb ho=>p1.get hcb ho
   intro g o s hb
   obtain⟨o',s',q1,q2⟩:=cg1 hb
   obtain⟨z0,z1,z2⟩:=h4 g o' s' q1
   exact⟨z0,z1,q2 z2⟩
 intro j hj
 refine G8 (fun h0 => ?_) (fun h0 => ?_)
 ·have h0':k=0:=by have:=E6 h0;omega
  exact hj true (by simp[h0'])
 ·have h0':k≠0:=by have:=J0 h0;omega
  refine i6 (A7 (f0 h1) (hj _ ?_))
  rw[E1,hxl];omega
theorem cg2:I3 Tryz.prog 181=true:=by kernel_rfl
theorem bF4:I3 Tryz.prog 124=true:=by kernel_rfl
theorem aN7 (h:ag7 σ b G r) (hl:r.left.length<=1000000000) {K:KH} (hK:∀σ',ag7 σ' b G r.num.2->(∀c o,c≠b->σ c=some o->σ' c=some o)->K (.int .u64 r.num.1) σ'):a8 122 [.pointer (some ⟨b,0,none⟩)] K σ:=by
 refine du7 _ ?_
 unfold cI3
 refine i7 (bx7 h hl (k:=ak8 r.left) (by have:=cb3 r.left;omega) (fun x K' hx hk => ?_) ?_)
 ·unfold u7
  simp only[cg2]
  exact cu6 r.left x hl hx hk
 intro y σ1 hr1 hy hkeep
 refine Q7 ?_
 have hyl:y.len=(r.take (ak8 r.left)).1.length:=by rw[hy.1,D7]
 have hle:(r.take (ak8 r.left)).1.length<=r.left.length:=by
  unfold I7.take;split
  ·simp
  ·simp;omega
 refine u5 ?_
 intro R hR
 generalize hL:(r.take (ak8 r.left)).1=L at *
 have key : ∀ (q:List UInt8) (i:Nat) (n:Int),L.drop i=q->L.foldl aG1 0=q.foldl aG1 n->R n y ((y.len:Nat):Int) (i:Int) σ1:=by
  intro q
  induction q with
  | nil =>
   intro i n hd he
   have hge:L.length<=i:=by simpa using hd
   refine hR _ _ _ _ _ (k9 (by rw[hyl];exact J6) ?_)
   have:r.num.1=n:=by
    show ak9 (r.take (ak8 r.left)).1=n
    rw[hL];exact he
   rw[<-this]
   exact hK σ1 hr1 hkeep
  | cons c q ih =>
   intro i n hd he
   obtain⟨hx1,hlt,hd'⟩:=ag6 hd
   obtain⟨g,o,q1,q2,q3⟩:=aN2 hy hlt
   have hc:L.getD i 0=c:=by rw[L0,hx1];rfl
   rw[hc]at q3
   refine hR _ _ _ _ _ (l3 (by rw[hyl];exact C8) ?_)
   rw[q1]
   refine i6 (l5 ⟨by omega,by omega⟩ (E9 (by simpa using q3) (l5 (by decide) ?_)))
   rw[n0 (x:=(i:Int)+1) (by omega) (by omega)]
   exact ih (i+1) _ hd' he
 exact key L 0 0 rfl rfl
theorem aJ4 (h:ag7 σ b G r) (hl:r.left.length<=1000000000) {K:KH} (hK:∀σ',ag7 σ' b G r.text.2->(∀c o,c≠b->σ c=some o->σ' c=some o)->K (.string ⟨⟨r.text.1⟩⟩) σ'):a8 82 [.pointer (some ⟨b,0,none⟩)] K σ:=by
 refine c82 _ ?_
 unfold g82
 refine i7 (aN7 h hl ?_)
 intro σ1 hr1 k1
 refine B6 ?_
 refine x0 ?_;intro b3 σ2 g2 e2 n2
 have hr2:=hr1.keep fun c o hc=>g2.get hc
 refine w4 e2 cu4 ?_
 intro σ3 p3
 have nb:b≠b3:=by obtain⟨o,ho⟩:=hr1.has;exact o0 ho n2
 have hr3:ag7 σ3 b G r.num.2:=hr1.keep fun c o hc=>p3.get (o0 hc n2) (g2.get hc)
 have k3 : ∀c o,c≠b->σ c=some o->σ3 c=some o:=fun c o hc ho=>p3.get (o0 (k1 c o hc ho) n2) (g2.get (k1 c o hc ho))
 have c3:σ3 b3=some (.cells ⟨[.int .u64 r.num.1]⟩ 138 (0,0)):=p3.same
 refine E9 (f0 c3) ?_
 have hrng:=ae4 (r.take (ak8 r.left)).1
 have hnl:r.num.2.left.length<=r.left.length:=by
  show(r.take (ak8 r.left)).2.left.length<=_
  unfold I7.take;split
  ·simp
  ·simp
 cases h0:r.num.1==0 with
 | true =>
  have ht:r.text=([],r.num.2):=by unfold I7.text;rw[h0];rfl
  rw[ht]at hK
  exact l3 rfl (hK σ3 hr3 k3)
 | false =>
  have ht:r.text=r.num.2.take (min r.num.1.toNat (r.num.2.left.length+1)):=by unfold I7.text;rw[h0];rfl
  rw[ht]at hK
  refine k9 rfl (i7 (bx7 hr3 (by omega) (k:=min r.num.1.toNat (r.num.2.left.length+1)) (by omega) (fun x K' hx hk => ?_) ?_))
  ·unfold u7
   simp only[bF4]
   refine du9 _ _ ?_
   unfold cI7
   refine i6 (E9 (f0 c3) ?_)
   have hxl:x.len=r.num.2.left.length:=by rw[hx.1,D7]
   have hn:0<=r.num.1/\r.num.1<18446744073709551616:=hrng
   rw[af3 (x:=((x.len:Nat):Int)) (by omega) (by omega),af3 (by omega) (by omega)]
   have e:IntKind.i64.wrap (if((x.len:Nat):Int)+1<r.num.1 then((x.len:Nat):Int)+1 else r.num.1)=((min r.num.1.toNat (r.num.2.left.length+1):Nat):Int):=by
    split
    ·rw[n0 (by omega) (by omega)];omega
    ·rw[n0 (by omega) (by omega)];omega
   rw[e];exact hk
  intro y σ4 hr4 hy k4
  refine Q7 (aj3 O8 ad5 ac1 hy ?_)
  exact hK σ4 hr4 fun c o hc ho=>k4 c o hc (k3 c o hc ho)
theorem cn2 (h:ag7 σ b G r) {K:KH} (hK:K (.bool (!r.lost)) σ):a8 128 [.pointer (some ⟨b,0,none⟩)] K σ:=by
 refine cr8 _ ?_
 unfold cJ1
 obtain⟨x,h1,h2,h3,h4⟩:=h
 exact l3 rfl (i6 (aX9 (f0 h1) hK))
theorem cu7 (h:ag7 σ b G r) {K:KH} (hK:K (.bool (!r.lost&&r.left.isEmpty)) σ):a8 84 [.pointer (some ⟨b,0,none⟩)] K σ:=by
 refine c84 _ ?_
 unfold g84
 refine i7 (cn2 h (y7 ?_))
 obtain⟨x,h1,h2,h3,h4⟩:=h
 cases hlo:r.lost with
 | true=>rw[hlo]at hK;exact k9 rfl hK
 | false =>
  rw[hlo]at hK
  refine l3 rfl (i6 (A7 (f0 h1) ?_))
  have:((((x.len:Nat):Int))==0)=r.left.isEmpty:=by
   rw[h2.1,D7];cases r.left<;>simp;omega
  rw[this];exact hK
end
theorem ag7.own {σ:H} {b G:Nat} {r:I7} (h:ag7 σ b G r) (hne:r.left≠[]):σ G≠none:=by
 obtain⟨x,h1,⟨q1,q2 | ⟨g,o,cu,t,fz',q3,q4,q5⟩⟩,h3,h4⟩:=h
 ·exact u9 (by cases hl:r.left with | nil=>rfl | cons a l=>rw[hl]at q2;cases q2) hne
 ·rw[<- (h4 _ _ _ q3).1,q4];simp
theorem ag7.keepG {σ σ':H} {b G:Nat} {r:I7} (h:ag7 σ b G r) (hb:∀o,σ b=some o->σ' b=some o) (hG:r.left≠[] -> ∀o,σ G=some o->σ' G=some o):ag7 σ' b G r:=by
 obtain⟨x,h1,⟨q1,q2⟩,h3,h4⟩:=h
 refine⟨x,hb _ h1,⟨q1,?_⟩,h3,h4⟩
 by_cases e:r.left=[]
 ·exact .inl (by rw[e];rfl)
 ·obtain q2 | ⟨g,o,cu,t,fz',q3,q4,q5⟩:=q2
  ·exact .inl q2
  ·refine .inr ⟨g,o,cu,t,fz',q3,?_,q5⟩
   rw[(h4 _ _ _ q3).1]at q4 ⊢
   exact hG e _ q4
theorem M0:sizeT Tryz.prog 9=some 1:=by kernel_rfl
def ac2 (σ:H) (b:Nat) (l:List UInt8):Prop:=σ b=some (.cells ⟨[.string ⟨⟨l⟩⟩]⟩ 93 (0,0))
def aa2 (σ:H) (b:Nat) (σ':H):Prop := ∀c o,c≠b->σ c=some o->σ' c=some o
theorem aa2.trans {σ σ' σ'':H} {b:Nat} (h:aa2 σ b σ') (k:aa2 σ' b σ''):aa2 σ b σ'':=fun c o hc ho=>k c o hc (h c o hc ho)
theorem aa2.gr {σ σ':H} {b:Nat} (h:Gr σ σ'):aa2 σ b σ':=fun c o _ ho=>h.get ho
theorem aa2.put {σ σ':H} {b:Nat} {o:Obj} (h:L6 σ b o σ'):aa2 σ b σ':=fun c _ hc ho=>h.get hc ho
theorem bS7 {σ σ':H} {b:Nat} (hb:∀cur ty fz,σ b=some (.cells ⟨cur⟩ ty fz)->cur.length<5) (hk:aa2 σ b σ') : ∀t:Tr,∀cs,aR4 σ t cs->aR4 σ' t cs:=by
 refine Tr.ind ?_
 intro t ih cs h
 rw[ac0]at h ⊢
 obtain⟨x,h1,h2,h3⟩:=h
 refine⟨x,h1,h2,?_⟩
 rcases h3 with h3 | ⟨g,o,cur,ty,fz,h3,h4,h5⟩
 ·exact .inl h3
 ·by_cases hk0:t.kids=[]
  ·exact .inl hk0
  have hgb:g≠b:=by
   intro e
   rw[e]at h4
   have hlt:=hb _ _ _ h4
   cases hks:t.kids with
   | nil=>exact hk0 hks
   | cons z r =>
    rw[hks]at h5
    simp only[al8]at h5
    obtain⟨w,hw,_⟩:=ac0.1 h5.1
    have:=D9 List.length hw
    simp[O2]at this
    omega
  refine .inr ⟨g,o,cur,ty,fz,h3,hk g _ hgb h4,?_⟩
  generalize cur.drop o=cs at h5
  clear h4 h3 h2 h1 hk0 hgb
  generalize t.kids=l at *
  induction l generalizing cs with
  | nil=>trivial
  | cons y r ihr =>
   simp only[al8]at h5 ⊢
   exact⟨ih y (E2 ..) _ h5.1,ihr _ (fun z hz=>ih z (E3 _ hz)) h5.2⟩
theorem aA8 {σ σ':H} {b:Nat} (hb:∀cur ty fz,σ b=some (.cells ⟨cur⟩ ty fz)->cur.length<5) (hk:aa2 σ b σ') {kids:List Tr} {x:Sl} (h:O1 σ kids x):O1 σ' kids x:=by
 have h1:=bS7 hb hk (.mk ⟨⟨[]⟩⟩ 0 false ⟨⟨[]⟩⟩ kids) (O2 (.mk ⟨⟨[]⟩⟩ 0 false ⟨⟨[]⟩⟩ kids) x) (ac0.2 ⟨x,rfl,h⟩)
 obtain⟨x',h2,h3⟩:=ac0.1 h1
 have hx:x'=x:=by
  obtain⟨xb,xl,xc⟩:=x
  obtain⟨xb',xl',xc'⟩:=x'
  simp only[O2,List.cons.injEq,Value.slice.injEq,and_true,true_and]at h2
  obtain⟨q1,q2,q3⟩:=h2
  subst q1;subst q2;subst q3;rfl
 rw[hx]at h3;exact h3
section
variable {σ : H} {b : Nat} {l : List UInt8} {t : Tr} {y : Sl}
theorem bS8 (hc:ac2 σ b l) (hl:l.length<=500000000) (hd:t.data.size<=100000000) {K:KH} (hK:∀σ',ac2 σ' b (l++X0 t.data.data.toList)->aa2 σ b σ'->K (.tuple ⟨[]⟩) σ'):a8 110 [.pointer (some ⟨b,0,none⟩),.agg ⟨O2 t y⟩] K σ:=by
 refine dt7 _ _ _ _ _ _ ?_
 unfold cF9
 refine x0 ?_;intro b7 σ1 g1 e1 n1
 have hc1:=g1.get hc
 refine i6 (y8 (f0 hc1) (y8 (f0 e1) ?_))
 refine i7 (ah1 l t.data.data.toList (by omega) (by rw[dl];omega) (I1 (i6 ?_)))
 refine w4 hc1 M0 ?_
 intro σ2 p2
 exact hK σ2 p2.same ((aa2.gr g1).trans (aa2.put p2))
theorem bS9 (hc:ac2 σ b l) (hl:l.length<=500000000) (hd:t.data.size<=100000000) {K:KH} (hK:∀σ',ac2 σ' b (l++(S5 (if t.exec then 1 else 0)++X0 t.data.data.toList))->aa2 σ b σ'->K (.tuple ⟨[]⟩) σ'):a8 109 [.pointer (some ⟨b,0,none⟩),.agg ⟨O2 t y⟩] K σ:=by
 refine dt6 _ _ _ _ _ _ ?_
 unfold cF7
 refine x0 ?_;intro b7 σ1 g1 e1 n1
 have hc1:=g1.get hc
 refine S9 (fun j=>j (some ⟨b,0,none⟩) (some ⟨b7,0,none⟩) (((if t.exec then 1 else 0:Nat):Nat):Int) σ1) ?_ ?_
 ·refine i6 (y8 (f0 hc1) (i6 (y8 (f0 e1) ?_)))
  refine i7 (aA7 l _ (by split<;>decide) (by omega) (I1 (F9 (f0 e1) ?_)))
  refine i7 (ah1 _ t.data.data.toList (by rw[s8];have:=U8 (if t.exec then 1 else 0);omega) (by rw[dl];omega) (I1 (i6 ?_)))
  refine w4 hc1 M0 ?_
  intro σ2 p2
  refine hK σ2 ?_ ((aa2.gr g1).trans (aa2.put p2))
  have h3:σ2 b=some (.cells ⟨[.string ⟨⟨(l++S5 (if t.exec then 1 else 0))++X0 t.data.data.toList⟩⟩]⟩ 93 (0,0)):=p2.same
  rw[E0]at h3;exact h3
 ·intro j hj
  refine aX9 (f0 e1) ?_
  cases he:t.exec with
  | true=>rw[he]at hj;exact l3 rfl hj
  | false=>rw[he]at hj;exact k9 rfl hj
end
theorem bF5:I3 Tryz.prog 109=true:=by kernel_rfl
theorem bF6:I3 Tryz.prog 110=true:=by kernel_rfl
theorem bT0:I3 Tryz.prog 111=true:=by kernel_rfl
theorem aN8:Tryz.prog.underlying 139=some (.map 3 94):=by kernel_rfl
theorem am1:Tryz.prog.underlying 3=some (.int .i64):=by kernel_rfl
def mfn (b:Nat) (f:FuncId):Value := .func (.func f) ⟨[.pointer (some ⟨b,0,none⟩)]⟩ ⟨[]⟩
theorem aA9 {σ:H} {b:Nat} {l:List UInt8} (hc:ac2 σ b l) : ∀cur ty fz,σ b=some (.cells ⟨cur⟩ ty fz)->cur.length<5:=by
 intro cur ty fz h
 unfold ac2 at hc
 rw[hc]at h
 injection h with h;injection h with h1 h2;injection h1 with h1
 rw[<-h1];exact(by decide:1<5)
theorem bT1 : ∀ (t:Tr) (y:Sl) {σ:H} {b:Nat} {l:List UInt8},ac2 σ b l->O1 σ t.kids y->t.may=true->l.length+(ab4 t).length<=500000000->t.total<=10000000 -> ∀ {K:KH},(∀σ',ac2 σ' b (l++ab4 t)->aa2 σ b σ'->K (.tuple ⟨[]⟩) σ') ->
 a8 72 [.pointer (some ⟨b,0,none⟩),.agg ⟨O2 t y⟩] K σ:=by
 refine Tr.ind (P:=fun t => ∀ (y:Sl) {σ:H} {b:Nat} {l:List UInt8},ac2 σ b l->O1 σ t.kids y->t.may=true->l.length+(ab4 t).length<=500000000->t.total<=10000000 -> ∀ {K:KH},(∀σ',ac2 σ' b (l++ab4 t)->aa2 σ b σ'->K (.tuple ⟨[]⟩) σ')->a8 72 [.pointer (some ⟨b,0,none⟩),.agg ⟨O2 t y⟩] K σ) ?_
 intro t ih y σ b l hc hs hm hl hTT K hK
 have hE:=az8 t
 have hT:=U1 t
 have hdt:t.data.size<=t.total:=by obtain⟨n,k,e,d,kids⟩:=t;simp only[Tr.total,Tr.data];omega
 refine c72 _ _ _ _ _ _ ?_
 unfold g72
 refine x0 ?_;intro b7 σ1 g1 e1 n1
 have hc1:ac2 σ1 b l:=g1.get hc
 have hk0:IntKind.u64.wrap t.kind=((t.kind.toNat:Nat):Int):=by
  rcases al0 hm with h | h | h<;>rw[h]<;>rfl
 refine i6 (y8 (f0 hc1) (E9 (f0 e1) ?_))
 rw[hk0]
 refine i7 (aA7 l t.kind.toNat (by rcases al0 hm with h | h | h<;>rw[h]<;>decide) (by omega) (I1 (i6 ?_)))
 refine w4 hc1 M0 ?_
 intro σ2 p2
 have hc2:ac2 σ2 b (l++S5 t.kind.toNat):=p2.same
 have nb:b7≠b:=Ne.symm (o0 hc n1)
 have e2:=p2.get nb e1
 have k2:aa2 σ b σ2:=(aa2.gr g1).trans (aa2.put p2)
 have hs2:=aA8 (aA9 hc) k2 hs
 refine x0 ?_;intro b15 σ3 g3 e3 n3
 have m0:I6 σ3 b15 (M6 kkI (fun v:Value=>v) []):=I6.new e3
 refine az4 (kk:=kkI) (f:=fun v:Value=>v) aN8 am1 m0 1 (mfn b 109) ?_
 intro o4 σ4 p4 m4
 refine az4 (kk:=kkI) (f:=fun v:Value=>v) aN8 am1 m4 3 (mfn b 110) ?_
 intro o5 σ5 p5 m5
 refine az4 (kk:=kkI) (f:=fun v:Value=>v) aN8 am1 m5 2 (mfn b 111) ?_
 intro o6 σ6 p6 m6
 have nb15:b≠b15:=o0 hc2 n3
 have nb7:b7≠b15:=o0 e2 n3
 have hc6:ac2 σ6 b (l++S5 t.kind.toNat):=p6.get nb15 (p5.get nb15 (p4.get nb15 (g3.get hc2)))
 have e6:=p6.get nb7 (p5.get nb7 (p4.get nb7 (g3.get e2)))
 have g26:Gr σ2 σ6:=P0 fun c o hc=>by
  have w:c≠b15:=o0 hc n3
  exact p6.get w (p5.get w (p4.get w (g3.get hc)))
 have hs6:=hs2.gr g26
 have k6:aa2 σ b σ6:=k2.trans (aa2.gr g26)
 have hpl:=U8 t.kind.toNat
 refine E9 (f0 e6) ?_
 refine A3 (ao0 (kk:=kkI) (f:=fun v:Value=>v) m6 (.nilFunc) false t.kind) ?_
 rw[az8]at hK
 have agg6:rdA 5 b7 0 σ6=some (.agg ⟨O2 t y⟩):=l7 e6
 rcases al0 hm with hk | hk | hk
 ·-- a file
  have hlk:lk t.kind (up (2:Int) (mfn b 111) (up 3 (mfn b 110) (up 1 (mfn b 109) [])))=some (mfn b 109):=by rw[hk];rfl
  rw[hlk]
  refine ar0 (A3 agg6 ?_)
  unfold O2
  (refine k0 rfl ?_;try dsimp only)
  rw[d9 hk]at hK hE
  have hEl:=D9 List.length hE
  simp only[s8]at hEl
  refine O6 bF5 (bS9 (t:=t) (y:=y) hc6 (by rw[s8];omega) (by omega) ?_)
  intro σ7 hc7 k7
  refine O9 (hK σ7 ?_ (k6.trans k7))
  rw[E0]at hc7;exact hc7
 ·have hlk:lk t.kind (up (2:Int) (mfn b 111) (up 3 (mfn b 110) (up 1 (mfn b 109) [])))=some (mfn b 110):=by rw[hk];rfl
  rw[hlk]
  refine ar0 (A3 agg6 ?_)
  unfold O2
  (refine k0 rfl ?_;try dsimp only)
  rw[c0 (by omega),d9 hk]at hK hE
  have hEl:=D9 List.length hE
  simp only[s8]at hEl
  refine O6 bF6 (bS8 (t:=t) (y:=y) hc6 (by rw[s8];omega) (by omega) ?_)
  intro σ7 hc7 k7
  refine O9 (hK σ7 ?_ (k6.trans k7))
  rw[E0]at hc7;exact hc7
 ·have hlk:lk t.kind (up (2:Int) (mfn b 111) (up 3 (mfn b 110) (up 1 (mfn b 109) [])))=some (mfn b 111):=by rw[hk];rfl
  rw[hlk]
  refine ar0 (A3 agg6 ?_)
  unfold O2
  (refine k0 rfl ?_;try dsimp only)
  rw[c0 (by omega),c0 (by omega)]at hK hE
  have hEl:=D9 List.length hE
  simp only[s8]at hEl
  refine O6 bT0 (cr6 _ _ _ _ _ _ ?_)
  unfold cG1
  refine x0 ?_;intro b8 σ7 g7 e7 n7
  have hc7:ac2 σ7 b _:=g7.get hc6
  refine i6 (y8 (f0 hc7) (A7 (f0 e7) ?_))
  have hyl:y.len=t.kids.length:=hs6.1
  have hu:IntKind.u64.wrap ((y.len:Nat):Int)=((t.kids.length:Nat):Int):=by rw[hyl];exact af3 (by omega) (by omega)
  show C1 _ _ [_,.int .u64 (IntKind.u64.wrap ((y.len:Nat):Int))] _ _ _
  rw[hu]
  refine i7 (aA7 _ t.kids.length (by omega) (by rw[s8];omega) (I1 (i6 ?_)))
  refine w4 hc7 M0 ?_
  intro σ8 p8
  have hc8:ac2 σ8 b (l++S5 t.kind.toNat++S5 t.kids.length):=p8.same
  have nb8:b8≠b:=Ne.symm (o0 hc6 n7)
  have e8:=p8.get nb8 e7
  have k68:aa2 σ6 b σ8:=(aa2.gr g7).trans (aa2.put p8)
  have hs8:=aA8 (aA9 hc6) k68 hs6
  refine A7 (f0 e8) ?_
  refine u5 ?_
  intro R hR
  have hlen2:=U8 t.kids.length
  have key : ∀ (r:List Tr) (i:Nat) (acc:List UInt8) (τ:H),t.kids.drop i=r->Q5 t.kids=acc++Q5 r->ac2 τ b (l++S5 t.kind.toNat++S5 t.kids.length++acc)->aa2 σ8 b τ->R (some ⟨b,0,none⟩) y ((y.len:Nat):Int) (i:Int) τ:=by
   intro r
   induction r with
   | nil =>
    intro i acc τ hd he hcl hkp
    have hge:t.kids.length<=i:=by simpa using hd
    refine hR _ _ _ _ _ (k9 (by rw[hyl];exact J6) ?_)
    refine O9 (hK τ ?_ ((k6.trans k68).trans hkp))
    have:Q5 t.kids=acc:=by rw[he];simp[Q5]
    rw[this]
    simp only[E0]at hcl ⊢
    exact hcl
   | cons x r ihr =>
    intro i acc τ hd he hcl hkp
    obtain⟨hx,hlt,hd'⟩:=C5 hd
    have hsτ:=aA8 (aA9 hc8) hkp hs8
    obtain⟨g,o,z,hb,hrd,hz⟩:=ah9 hsτ hx
    have hmem:=F7 hx
    have hxT:=W4 hx
    have htr:Tr.totalRow t.kids+1<=t.total:=by obtain⟨n,k,e,d,kids⟩:=t;simp only[Tr.total,Tr.kids];omega
    refine hR _ _ _ _ _ (l3 (by rw[hyl];exact C8) ?_)
    rw[hb]
    refine i6 (l5 ⟨by omega,by rw[hyl];omega⟩ ?_)
    have hrd':rdA 5 g (o+(i:Int).toNat * 5) τ=some (.agg ⟨O2 x z⟩):=by simpa using hrd
    refine A3 hrd' ?_
    unfold O2
    (refine k0 rfl ?_;try dsimp only)
    refine x0 ?_;intro b28 τ1 g28 e28 n28
    refine w4 e28 I2 ?_
    intro τ2 p28
    have q28:τ2 b28=some (.cells ⟨O2 x z⟩ 75 (0,0)):=p28.same
    have gτ2:Gr τ τ2:=g28.putF p28 n28
    have hc9:ac2 τ2 b _:=gτ2.get hcl
    have nb28:b28≠b:=Ne.symm (o0 hcl n28)
    have hxd:x.name.size<=x.total:=by obtain⟨n,k,e,d,kids⟩:=x;simp only[Tr.total,Tr.name];omega
    have hrl:=D9 List.length he
    rw[Q5]at hrl
    simp only[s8]at hrl
    refine i6 (y8 (f0 hc9) (y8 (f0 q28) ?_))
    refine i7 (ah1 _ x.name.data.toList (by simp only[s8];omega) (by rw[dl];omega) (I1 (i6 ?_)))
    refine w4 hc9 M0 ?_
    intro τ3 p3
    have hc10:ac2 τ3 b (l++S5 t.kind.toNat++S5 t.kids.length++acc++X0 x.name.data.toList):=p3.same
    have q29:=p3.get nb28 q28
    have kτ3:aa2 τ b τ3:=(aa2.gr gτ2).trans (aa2.put p3)
    have hz3:=aA8 (aA9 hcl) kτ3 hz
    refine A3 (l7 q29) ?_
    unfold O2
    (refine k0 rfl ?_;try dsimp only)
    have hpt:=ab5 x.name.data.toList
    rw[dl]at hpt
    have hel:=az9 x
    refine i7 (ih x hmem z hc10 hz3 (bv3 hm hmem) (by simp only[s8];omega) (by omega) ?_)
    intro τ4 hc11 k11
    refine O9 ?_
    rw[n0 (x:=(i:Int)+1) (by omega) (by omega)]
    refine ihr (i+1) (acc++(X0 x.name.data.toList++ab4 x)) τ4 hd' (by rw[he,Q5];simp only[E0]) ?_ ((hkp.trans kτ3).trans k11)
    simp only[E0]at hc11 ⊢
    exact hc11
  exact key t.kids 0 [] σ8 rfl rfl (by rw[J1];exact hc8) (fun _ _ _ h=>h)
theorem aZ8 (t:Tr) (y:Sl) {σ:H} (hs:O1 σ t.kids y) (hT:t.total<=9000000) {K:KH} (hK:K (.tuple ⟨[.string ⟨⟨(D1 t).1⟩⟩,.int .i64 (D1 t).2]⟩) σ):a8 41 [.agg ⟨O2 t y⟩] K σ:=by
 refine B7 _ hK (c41 _ _ _ _ _ ?_)
 clear hK
 unfold g41
 refine x0 ?_;intro b6 σ1 g1 e1 n1
 have hs1:=hs.gr g1
 refine A3 (l7 e1) ?_
 (refine k0 rfl ?_;try dsimp only)
 refine i7 (bx2 t y hs1 (by omega) (B6 ?_))
 unfold D1
 by_cases hc:t.check=0
 case neg =>
  rw[d9 hc]
  exact l3 (by simpa using hc) ⟨rfl,g1⟩
 rw[c0 (by simpa using hc)]
 refine k9 (by simp[hc]) ?_
 refine i7 (ah1 [] J8 (by decide) (by decide) (I1 ?_))
 refine x0 ?_;intro b14 σ2 g2 e2 n2
 have hm:t.may=true:=by
  unfold Tr.check at hc
  split at hc
  ·cases hc
  ·split at hc
   ·cases hc
   ·rename_i h
    cases hmy:t.may with
    | true=>rfl
    | false=>exact u9 (.inr hmy) h
 have hc2:ac2 σ2 b14 (X0 J8):=e2
 refine A3 (l7 (g2.get e1)) ?_
 (refine k0 rfl ?_;try dsimp only)
 have hel:=az9 t
 have hml:(X0 J8).length=11:=by decide +kernel
 refine i7 (bT1 t y hc2 (hs1.gr g2) hm (by omega) (by omega) ?_)
 intro σ3 hc3 k3
 refine O9 (y8 (f0 hc3) ?_)
 have g13:Gr σ σ3:=P0 fun c o hc=>k3 c o (o0 (g1.get hc) n2) (g2.get (g1.get hc))
 by_cases hb:(X0 J8++ab4 t).length>60000
 ·rw[d9 hb]
  exact l3 (by show decide (((((X0 J8++ab4 t).length:Nat):Int))>60000)=true;simp only[gt_iff_lt,z8];omega) ⟨rfl,g13⟩
 ·rw[c0 hb]
  exact k9 (by show decide (((((X0 J8++ab4 t).length:Nat):Int))>60000)=false;simp only[gt_iff_lt,C2];omega) (y8 (f0 hc3) ⟨rfl,g13⟩)
end Go.Proofs.YtgfiobhpipollaaGreatDoor

set_option maxRecDepth 100000
namespace Go.Proofs.YtgfiobhpipollaaGreatDoor
open Go Go.HL
def ap3:List Nat:=[81,83,125,127,133,134,135,136,139,182,186]
def dF1:Ann:=(.q (.q (.q (.q (.q (.q (.seq (some [(2,.p),(3,.p)]) .r (.q .z))))))))
def g53 (s_1:ByteArray) (K X:Value->H->Prop):H->Prop :=
 A9 (.cells ⟨[.string (⟨⟨[]⟩⟩:ByteArray),.int .i64 0,.bool false,.string (⟨⟨[]⟩⟩:ByteArray),.slice none 0 0]⟩ 75 (0,0)) (fun(b2:Nat) =>
  A9 (.cells ⟨[.int .i64 0]⟩ 70 (0,0)) (fun(b3:Nat) =>
   d8 80 [.string s_1] kP (fun(x4:Option Addr) =>
    A9 (.cells ⟨[.pointer x4,.int .i64 0]⟩ 106 (0,0)) (fun(b5:Nat) =>
     l4 (s5 b5 0) kP (fun(x6:Option Addr) =>
      d8 82 [.pointer x6] kS (fun(x7:ByteArray) =>
       D6 81 [.bool (B8 x7 (⟨⟨[119,104,105,115,107,45,116,114,101,101]⟩⟩:ByteArray))] kU (D6 83 [.pointer (some ⟨b5,0,none⟩)] (.one (.agg [.str,(.int .i64),.bool,.str,.slc])) (fun(x22:ByteArray) (x23:Int) (x24:Bool) (x25:ByteArray) (x26:Sl) =>
        t8 75 (.pointer (some ⟨b2,0,none⟩)) (.agg ⟨[.string x22,.int .i64 x23,.bool x24,.string x25,.slice x26.base x26.len x26.cap]⟩) (l4 (rdA 5 b2 0) (.one (.agg [.str,(.int .i64),.bool,.str,.slc])) (fun(x27:ByteArray) (x28:Int) (x29:Bool) (x30:ByteArray) (x31:Sl) =>
         d8 41 [.agg ⟨[.string x27,.int .i64 x28,.bool x29,.string x30,.slice x31.base x31.len x31.cap]⟩] (.tup [.sc .str,.sc (.int .i64)]) (fun(x32:ByteArray) (x33:Int) =>
          w9 (T:=Option Addr->Option Addr->H->Prop) (fun(n_35:Option Addr) (e_36:Option Addr) =>
           j0 n_35 (fun(b37 o38:Nat) =>
            l4 (rdA 5 b37 o38) (.one (.agg [.str,(.int .i64),.bool,.str,.slc])) (fun(x39:ByteArray) (x40:Int) (x41:Bool) (x42:ByteArray) (x43:Sl) =>
             t8 75 (.pointer n_35) (.agg ⟨[.string x39,.int .i64 x40,.bool x41,.string x42,.slice x43.base x43.len x43.cap]⟩) (t8 70 (.pointer e_36) (.int .i64 0) (P9 79 [.pointer (some ⟨b2,0,none⟩),.pointer (some ⟨b3,0,none⟩)] .ret (mdK (j0 n_35 (fun(b44 o45:Nat) =>
              l4 (rdA 5 b44 o45) (.one (.agg [.str,(.int .i64),.bool,.str,.slc])) (fun(r46:ByteArray) (r47:Int) (r48:Bool) (r49:ByteArray) (r50:Sl) =>
               j0 e_36 (fun(b51 o52:Nat) =>
               l4 (s5 b51 o52) kI (fun(r53:Int) =>
               K (.tuple ⟨[.agg ⟨[.string r46,.int .i64 r47,.bool r48,.string r49,.slice r50.base r50.len r50.cap]⟩,.int .i64 r53]⟩)))))) X)))))) (fun j34 =>
           l4 (s5 b5 0) kP (fun(x54:Option Addr) =>
            d8 84 [.pointer x54] kB (fun(x55:Bool) =>
             l8 x55
             (l8 ((x33:Int)==0)
              (D6 81 [.bool (B8 x32 s_1)] kU (j34 (some ⟨b2,0,none⟩) (some ⟨b3,0,none⟩)) (fun(v62:Value)=>P9 79 [.pointer (some ⟨b2,0,none⟩),.pointer (some ⟨b3,0,none⟩)] (.pan v62) (mdK (l4 (rdA 5 b2 0) (.one (.agg [.str,(.int .i64),.bool,.str,.slc])) (fun(r56:ByteArray) (r57:Int) (r58:Bool) (r59:ByteArray) (r60:Sl) =>
               l4 (s5 b3 0) kI (fun(r61:Int) =>
               K (.tuple ⟨[.agg ⟨[.string r56,.int .i64 r57,.bool r58,.string r59,.slice r60.base r60.len r60.cap]⟩,.int .i64 r61]⟩)))) X)))
              (D6 81 [.bool false] kU (j34 (some ⟨b2,0,none⟩) (some ⟨b3,0,none⟩)) (fun(v69:Value)=>P9 79 [.pointer (some ⟨b2,0,none⟩),.pointer (some ⟨b3,0,none⟩)] (.pan v69) (mdK (l4 (rdA 5 b2 0) (.one (.agg [.str,(.int .i64),.bool,.str,.slc])) (fun(r63:ByteArray) (r64:Int) (r65:Bool) (r66:ByteArray) (r67:Sl) =>
               l4 (s5 b3 0) kI (fun(r68:Int) =>
               K (.tuple ⟨[.agg ⟨[.string r63,.int .i64 r64,.bool r65,.string r66,.slice r67.base r67.len r67.cap]⟩,.int .i64 r68]⟩)))) X))))
             (D6 81 [.bool false] kU (j34 (some ⟨b2,0,none⟩) (some ⟨b3,0,none⟩)) (fun(v76:Value)=>P9 79 [.pointer (some ⟨b2,0,none⟩),.pointer (some ⟨b3,0,none⟩)] (.pan v76) (mdK (l4 (rdA 5 b2 0) (.one (.agg [.str,(.int .i64),.bool,.str,.slc])) (fun(r70:ByteArray) (r71:Int) (r72:Bool) (r73:ByteArray) (r74:Sl) =>
              l4 (s5 b3 0) kI (fun(r75:Int) =>
               K (.tuple ⟨[.agg ⟨[.string r70,.int .i64 r71,.bool r72,.string r73,.slice r74.base r74.len r74.cap]⟩,.int .i64 r75]⟩)))) X)))))))))) (fun(v21:Value)=>P9 79 [.pointer (some ⟨b2,0,none⟩),.pointer (some ⟨b3,0,none⟩)] (.pan v21) (mdK (l4 (rdA 5 b2 0) (.one (.agg [.str,(.int .i64),.bool,.str,.slc])) (fun(r15:ByteArray) (r16:Int) (r17:Bool) (r18:ByteArray) (r19:Sl) =>
          l4 (s5 b3 0) kI (fun(r20:Int) =>
           K (.tuple ⟨[.agg ⟨[.string r15,.int .i64 r16,.bool r17,.string r18,.slice r19.base r19.len r19.cap]⟩,.int .i64 r20]⟩)))) X))) (fun(v14:Value)=>P9 79 [.pointer (some ⟨b2,0,none⟩),.pointer (some ⟨b3,0,none⟩)] (.pan v14) (mdK (l4 (rdA 5 b2 0) (.one (.agg [.str,(.int .i64),.bool,.str,.slc])) (fun(r8:ByteArray) (r9:Int) (r10:Bool) (r11:ByteArray) (r12:Sl) =>
         l4 (s5 b3 0) kI (fun(r13:Int) =>
          K (.tuple ⟨[.agg ⟨[.string r8,.int .i64 r9,.bool r10,.string r11,.slice r12.base r12.len r12.cap]⟩,.int .i64 r13]⟩)))) X))))))))
theorem e53 (s_1:ByteArray) (K X:Value->H->Prop):bv6 Tryz.prog tau ap3 Tryz.f53 dF1 [.string s_1] K X=g53 s_1 K X:=by kernel_rfl
theorem c53 (s_1:ByteArray) {K X:Value->H->Prop} {σ:H} (h:g53 s_1 K X σ):M4 53 [.string s_1] K X σ:=as1 mixed Tryz.func53 (by rw[e53];exact h)

def dF3:Ann:=(.q (.q (.cond (.n (.q (.q (.cond .r .z))) .r) .z)))
def g79 (x1:Option Addr) (x2:Option Addr) (m:Md) (K:H->Prop) (X:Value->H->Prop):H->Prop :=
 M7 Tryz.prog (do eqGuard .neq 20 (.tmp 6) (.const (.nilIface)) ((Md.rv m)) (.nilIface);binOp .neq 20 ((Md.rv m)) (.nilIface)) kB (fun(x3:Bool) =>
  l8 x3
  (M7 Tryz.prog (Instr.typeAssert ((Md.rv m)) 20 100 true) (.tup [.agg [],.sc .bool]) (fun(x4:Bool) =>
   A9 (.cells ⟨[]⟩ 100 (0,0)) (fun(b5:Nat) =>
    t8 100 (.pointer (some ⟨b5,0,none⟩)) (.agg ⟨[]⟩) (l8 (!x4)
     (bB8 X ((Md.rv m)))
     (t8 75 (.pointer x1) (.agg ⟨[.string (⟨⟨[]⟩⟩:ByteArray),.int .i64 0,.bool false,.string (⟨⟨[]⟩⟩:ByteArray),.slice none 0 0]⟩) (t8 70 (.pointer x2) (.int .i64 4) (K)))))))
  (K))
theorem e79 (x1:Option Addr) (x2:Option Addr) (m:Md) (K:H->Prop) (X:Value->H->Prop):cb9 Tryz.prog tau Tryz.f79 dF3 [.pointer x1,.pointer x2] m K X=g79 x1 x2 m K X:=by kernel_rfl
theorem c79 (x1:Option Addr) (x2:Option Addr) (m:Md) {K:Md->H->Prop} {σ:H} (h:g79 x1 x2 m (K .ret) (fun _ _=>False) σ):P9 79 [.pointer x1,.pointer x2] m K σ:=aA0 mixed Tryz.func79 (by rw[e79];exact h)

def dF4:Ann:=(.q (.cond .r .z))
def g81 (is_1:Bool) (K X:Value->H->Prop):H->Prop :=
 l8 (!is_1)
 (bB8 X (.iface 100 (.agg ⟨[]⟩)))
 (K (.tuple ⟨[]⟩))
theorem e81 (is_1:Bool) (K X:Value->H->Prop):al1 Tryz.prog tau ap3 Tryz.f81 dF4 [.bool is_1] K X=g81 is_1 K X:=by kernel_rfl
theorem c81 (is_1:Bool) {K X:Value->H->Prop} {σ:H} (h:g81 is_1 K X σ):M4 81 [.bool is_1] K X σ:=L8 mixed Tryz.func81 (by rw[e81];exact h)

def dF6:Ann:=(.q (.q (.q (.q (.q (.q (.q (.q (.q .z)))))))))
def g83 (r_1:Option Addr) (K X:Value->H->Prop):H->Prop :=
 A9 (.cells ⟨[.string (⟨⟨[]⟩⟩:ByteArray),.int .i64 0,.bool false,.string (⟨⟨[]⟩⟩:ByteArray),.slice none 0 0]⟩ 75 (0,0)) (fun(b2:Nat) =>
  j0 r_1 (fun(b3 o4:Nat) =>
   l4 (s5 b3 o4) kP (fun(x5:Option Addr) =>
    d8 122 [.pointer x5] (.one (.sc (.int .u64))) (fun(x6:Int) =>
     D6 81 [.bool (decide ((x6:Int)<=3))] kU (A9 (.cells ⟨[.string (⟨⟨[]⟩⟩:ByteArray),.int .i64 0,.bool false,.string (⟨⟨[]⟩⟩:ByteArray),.slice none 0 0]⟩ 75 (0,0)) (fun(b7:Nat) =>
      t8 75 (.pointer (some ⟨b7,0,none⟩)) (.agg ⟨[.string (⟨⟨[]⟩⟩:ByteArray),.int .i64 (IntKind.i64.wrap x6),.bool false,.string (⟨⟨[]⟩⟩:ByteArray),.slice none 0 0]⟩) (A9 (.map #[] 0) (fun(b8:Nat) =>
       aj0 155 (.map (some b8)) (.int .i64 1) (.func (.func 125) ⟨[.pointer r_1]⟩ ⟨[]⟩) (aj0 155 (.map (some b8)) (.int .i64 3) (.func (.func 126) ⟨[.pointer r_1]⟩ ⟨[]⟩) (aj0 155 (.map (some b8)) (.int .i64 2) (.func (.func 127) ⟨[.pointer r_1]⟩ ⟨[]⟩) (l4 (s5 b7 1) kI (fun (x9 : Int) =>
           l4 (rdM (.int .i64) (.nilFunc) true (some b8) (.int .i64 x9)) (.tup [.sc .raw,.sc .bool]) (fun(x10:Value) (x11:Bool) =>
            D6 81 [.bool x11] kU (bh2 ap3 x10 [.pointer (some ⟨b7,0,none⟩)] kU (j0 r_1 (fun(b12 o13:Nat) =>
             l4 (s5 b12 o13) kP (fun(x14:Option Addr) =>
              d8 128 [.pointer x14] kB (fun(x15:Bool) =>
               D6 81 [.bool x15] kU (l4 (rdA 5 b7 0) (.one (.agg [.str,(.int .i64),.bool,.str,.slc])) (fun(x16:ByteArray) (x17:Int) (x18:Bool) (x19:ByteArray) (x20:Sl) =>
                t8 75 (.pointer (some ⟨b2,0,none⟩)) (.agg ⟨[.string x16,.int .i64 x17,.bool x18,.string x19,.slice x20.base x20.len x20.cap]⟩) (l4 (rdA 5 b2 0) (.one (.agg [.str,(.int .i64),.bool,.str,.slc])) (fun(r21:ByteArray) (r22:Int) (r23:Bool) (r24:ByteArray) (r25:Sl) =>
                K (.agg ⟨[.string r21,.int .i64 r22,.bool r23,.string r24,.slice r25.base r25.len r25.cap]⟩))))) X)))) X) X))))))))) X))))
theorem e83 (r_1:Option Addr) (K X:Value->H->Prop):al1 Tryz.prog tau ap3 Tryz.f83 dF6 [.pointer r_1] K X=g83 r_1 K X:=by kernel_rfl
theorem c83 (r_1:Option Addr) {K X:Value->H->Prop} {σ:H} (h:g83 r_1 K X σ):M4 83 [.pointer r_1] K X σ:=L8 mixed Tryz.func83 (by rw[e83];exact h)

def dF8:Ann:=(.q (.q (.q (.q (.n (.blk (.loop [(0,.s),(2,.p),(3,.p),(4,.p),(5,.sc .map)] (.n (.q (.cond .z .z)) (.blk (.q (.q (.q (.q (.q (.q (.q .r))))))))))) (.q (.q (.q .z))))))))
def g88 (s_1:ByteArray) (K X:Value->H->Prop):H->Prop :=
 A9 (.cells ⟨[.string (⟨⟨[]⟩⟩:ByteArray),.slice none 0 0,.slice none 0 0,.string (⟨⟨[]⟩⟩:ByteArray)]⟩ 113 (0,0)) (fun(b2:Nat) =>
  A9 (.cells ⟨[.nilIface]⟩ 115 (0,0)) (fun(b3:Nat) =>
   A9 (.cells ⟨[.string (⟨⟨[]⟩⟩:ByteArray),.slice none 0 0,.slice none 0 0,.string (⟨⟨[]⟩⟩:ByteArray),.int .i64 0,.string (⟨⟨[]⟩⟩:ByteArray)]⟩ 166 (0,0)) (fun(b4:Nat) =>
    A9 (.map #[] 0) (fun(b5:Nat) =>
     aj0 167 (.map (some b5)) (.string (⟨⟨[100,114,118]⟩⟩:ByteArray)) (.func (.func 133) ⟨[.pointer (some ⟨b4,0,none⟩)]⟩ ⟨[]⟩) (aj0 167 (.map (some b5)) (.string (⟨⟨[105,110]⟩⟩:ByteArray)) (.func (.func 134) ⟨[.pointer (some ⟨b4,0,none⟩)]⟩ ⟨[]⟩) (aj0 167 (.map (some b5)) (.string (⟨⟨[101,110,118]⟩⟩:ByteArray)) (.func (.func 135) ⟨[.pointer (some ⟨b4,0,none⟩)]⟩ ⟨[]⟩) (aj0 167 (.map (some b5)) (.string (⟨⟨[114,117,110]⟩⟩:ByteArray)) (.func (.func 136) ⟨[.pointer (some ⟨b4,0,none⟩)]⟩ ⟨[]⟩) (l9 [.sc .str,.sc .ptr,.sc .ptr,.sc .ptr,.sc .map] (fun(R6:ByteArray->Option Addr->Option Addr->Option Addr->Option Nat->H->Prop)=>(fun(s_7:ByteArray) (d_8:Option Addr) (err_9:Option Addr) (r_10:Option Addr) (says_11:Option Nat) =>
      j0 r_10 (fun(b12 o13:Nat) =>
       l4 (s5 b12 (o13+5)) kS (fun(x14:ByteArray) =>
        l8 (!B8 x14 (⟨⟨[114,117,110]⟩⟩:ByteArray))
        (d8 137 [.string s_7,.string (⟨⟨[10]⟩⟩:ByteArray)] (.tup [.sc .str,.sc .str,.sc .bool]) (fun(x15:ByteArray) (x16:ByteArray) (x17:Bool) =>
         d8 138 [.string x15,.string (⟨⟨[32]⟩⟩:ByteArray)] kL (fun(x18:Sl) =>
          j0 x18.base (fun(b19 o20:Nat) =>
           w6 (0<=(0:Int)/\(0:Int)<((x18.len:Nat):Int))
           (l4 (s5 b19 (o20+(0:Int).toNat * 1)) kS (fun(x21:ByteArray) =>
            l4 (rdM .string (.nilFunc) true says_11 (.string x21)) (.tup [.sc .raw,.sc .bool]) (fun(x22:Value) (x23:Bool) =>
             D6 139 [.pointer r_10,.bool x23,.int .i64 18] kU (bh2 ap3 x22 [.slice x18.base x18.len x18.cap] kU (D6 139 [.pointer r_10,.bool x17,.int .i64 4] kU (j0 x18.base (fun(b54 o55:Nat) =>
              w6 (0<=(0:Int)/\(0:Int)<((x18.len:Nat):Int))
              (l4 (s5 b54 (o55+(0:Int).toNat * 1)) kS (fun(x56:ByteArray) =>
              j0 r_10 (fun(b57 o58:Nat) =>
              t8 9 (.pointer (some ⟨b57,o58+5,none⟩)) (.string x56) (j0 r_10 (fun(b59 o60:Nat) =>
              l4 (s5 b59 (o60+4)) kI (fun(x61:Int) =>
              j0 r_10 (fun(b62 o63:Nat) =>
              t8 3 (.pointer (some ⟨b62,o63+4,none⟩)) (.int .i64 (IntKind.i64.wrap (x61+1))) (R6 x16 d_8 err_9 r_10 says_11)))))))))) (fun(v53:Value)=>P9 132 [.pointer (some ⟨b2,0,none⟩),.pointer (some ⟨b3,0,none⟩)] (.pan v53) (mdK (j0 d_8 (fun(b44 o45:Nat) =>
              l4 (rdA 4 b44 o45) (.one (.agg [.str,.slc,.slc,.str])) (fun(r46:ByteArray) (r47:Sl) (r48:Sl) (r49:ByteArray) =>
              j0 err_9 (fun(b50 o51:Nat) =>
              l4 (s5 b50 o51) kR (fun(r52:Value) =>
              K (.tuple ⟨[.agg ⟨[.string r46,.slice r47.base r47.len r47.cap,.slice r48.base r48.len r48.cap,.string r49]⟩,r52]⟩)))))) X))) (fun(v43:Value)=>P9 132 [.pointer (some ⟨b2,0,none⟩),.pointer (some ⟨b3,0,none⟩)] (.pan v43) (mdK (j0 d_8 (fun(b34 o35:Nat) =>
              l4 (rdA 4 b34 o35) (.one (.agg [.str,.slc,.slc,.str])) (fun(r36:ByteArray) (r37:Sl) (r38:Sl) (r39:ByteArray) =>
              j0 err_9 (fun(b40 o41:Nat) =>
              l4 (s5 b40 o41) kR (fun(r42:Value) =>
              K (.tuple ⟨[.agg ⟨[.string r36,.slice r37.base r37.len r37.cap,.slice r38.base r38.len r38.cap,.string r39]⟩,r42]⟩)))))) X))) (fun(v33:Value)=>P9 132 [.pointer (some ⟨b2,0,none⟩),.pointer (some ⟨b3,0,none⟩)] (.pan v33) (mdK (j0 d_8 (fun(b24 o25:Nat) =>
              l4 (rdA 4 b24 o25) (.one (.agg [.str,.slc,.slc,.str])) (fun(r26:ByteArray) (r27:Sl) (r28:Sl) (r29:ByteArray) =>
              j0 err_9 (fun(b30 o31:Nat) =>
              l4 (s5 b30 o31) kR (fun(r32:Value) =>
              K (.tuple ⟨[.agg ⟨[.string r26,.slice r27.base r27.len r27.cap,.slice r28.base r28.len r28.cap,.string r29]⟩,r32]⟩)))))) X)))))))))
        (D6 139 [.pointer r_10,.bool (decide ((((s_7.size:Nat):Int):Int)<=4000)),.int .i64 3] kU (j0 r_10 (fun(b74 o75:Nat) =>
         t8 9 (.pointer (some ⟨b74,o75+3,none⟩)) (.string s_7) (j0 r_10 (fun(b76 o77:Nat) =>
          l4 (rdA 4 b76 o77) (.one (.agg [.str,.slc,.slc,.str])) (fun(x78:ByteArray) (x79:Sl) (x80:Sl) (x81:ByteArray) =>
           t8 113 (.pointer d_8) (.agg ⟨[.string x78,.slice x79.base x79.len x79.cap,.slice x80.base x80.len x80.cap,.string x81]⟩) (t8 115 (.pointer err_9) (.nilIface) (P9 132 [.pointer (some ⟨b2,0,none⟩),.pointer (some ⟨b3,0,none⟩)] .ret (mdK (j0 d_8 (fun(b82 o83:Nat) =>
            l4 (rdA 4 b82 o83) (.one (.agg [.str,.slc,.slc,.str])) (fun(r84:ByteArray) (r85:Sl) (r86:Sl) (r87:ByteArray) =>
            j0 err_9 (fun(b88 o89:Nat) =>
            l4 (s5 b88 o89) kR (fun(r90:Value) =>
            K (.tuple ⟨[.agg ⟨[.string r84,.slice r85.base r85.len r85.cap,.slice r86.base r86.len r86.cap,.string r87]⟩,r90]⟩)))))) X)))))))) (fun(v73:Value)=>P9 132 [.pointer (some ⟨b2,0,none⟩),.pointer (some ⟨b3,0,none⟩)] (.pan v73) (mdK (j0 d_8 (fun(b64 o65:Nat) =>
          l4 (rdA 4 b64 o65) (.one (.agg [.str,.slc,.slc,.str])) (fun(r66:ByteArray) (r67:Sl) (r68:Sl) (r69:ByteArray) =>
           j0 err_9 (fun(b70 o71:Nat) =>
            l4 (s5 b70 o71) kR (fun(r72:Value) =>
             K (.tuple ⟨[.agg ⟨[.string r66,.slice r67.base r67.len r67.cap,.slice r68.base r68.len r68.cap,.string r69]⟩,r72]⟩)))))) X))))))) (fun(R91:ByteArray->Option Addr->Option Addr->Option Addr->Option Nat->H->Prop)=>R91 s_1 (some ⟨b2,0,none⟩) (some ⟨b3,0,none⟩) (some ⟨b4,0,none⟩) (some b5))))))))))
theorem e88 (s_1:ByteArray) (K X:Value->H->Prop):bv6 Tryz.prog tau ap3 Tryz.f88 dF8 [.string s_1] K X=g88 s_1 K X:=by kernel_rfl
theorem c88 (s_1:ByteArray) {K X:Value->H->Prop} {σ:H} (h:g88 s_1 K X σ):M4 88 [.string s_1] K X σ:=as1 mixed Tryz.func88 (by rw[e88];exact h)

def df4:Ann:=(.q (.q .r))
def cu8 (r_1:Option Addr) (n_2:Option Addr) (K X:Value->H->Prop):H->Prop :=
 j0 r_1 (fun(b3 o4:Nat) =>
  l4 (s5 b3 o4) kP (fun(x5:Option Addr) =>
   d8 122 [.pointer x5] (.one (.sc (.int .u64))) (fun(x6:Int) =>
    D6 81 [.bool (decide ((x6:Int)<=1))] kU (j0 r_1 (fun(b7 o8:Nat) =>
     l4 (s5 b7 o8) kP (fun(x9:Option Addr) =>
      d8 82 [.pointer x9] kS (fun(x10:ByteArray) =>
       j0 n_2 (fun(b11 o12:Nat) =>
        t8 4 (.pointer (some ⟨b11,o12+2,none⟩)) (.bool ((x6:Int)==1)) (j0 n_2 (fun(b13 o14:Nat) =>
         t8 9 (.pointer (some ⟨b13,o14+3,none⟩)) (.string x10) (K (.tuple ⟨[]⟩))))))))) X)))
theorem dG0 (r_1:Option Addr) (n_2:Option Addr) (K X:Value->H->Prop):al1 Tryz.prog tau ap3 Tryz.f125 df4 [.pointer r_1,.pointer n_2] K X=cu8 r_1 n_2 K X:=by kernel_rfl
theorem dG1 (r_1:Option Addr) (n_2:Option Addr) {K X:Value->H->Prop} {σ:H} (h:cu8 r_1 n_2 K X σ):M4 125 [.pointer r_1,.pointer n_2] K X σ:=L8 mixed Tryz.func125 (by rw[dG0];exact h)

def df5:Ann:=(.q (.seq (some [(0,.p),(1,.p),(4,.sc (.int .u64))]) .r (.q (.n (.q (.blk (.loop [(0,.p),(1,.p),(29,.sc (.int .u64)),(30,.sc (.int .u64))] (.q (.n (.cond .z .z) (.seq (some [(0,.p),(1,.p),(29,.sc (.int .u64)),(30,.sc (.int .u64))]) (.blk (.q (.q (.q (.reg2 [0,1,2,3,4,5,6,7,8,10,11] 9 [12] 12 [9] [[],[0],[0,1],[0,1,2],[],(rn 4),[],(rn 7),(rn 8),(rn 9),(rn 8),[0,1,2,3,4,5,6,7,10],[0,1,2,3,4,5,6,7,10,11]]))))) .r)))))) .r))))
def cg3 (r_1:Option Addr) (n_2:Option Addr) (K X:Value->H->Prop):H->Prop :=
 j0 r_1 (fun(b3 o4:Nat) =>
  l4 (s5 b3 o4) kP (fun(x5:Option Addr) =>
   d8 122 [.pointer x5] (.one (.sc (.int .u64))) (fun(x6:Int) =>
    w9 (T:=Option Addr->Option Addr->Int->H->Prop) (fun(r_8:Option Addr) (n_9:Option Addr) (k_10:Int) =>
     j0 r_8 (fun(b11 o12:Nat) =>
      l4 (s5 b11 (o12+1)) kI (fun(x13:Int) =>
       j0 r_8 (fun(b14 o15:Nat) =>
        t8 3 (.pointer (some ⟨b14,o15+1,none⟩)) (.int .i64 (IntKind.i64.wrap (x13+1))) (l9 [.sc .ptr,.sc .ptr,.sc (.int .u64),.sc (.int .u64)] (fun(R16:Option Addr->Option Addr->Int->Int->H->Prop)=>(fun(r_17:Option Addr) (n_18:Option Addr) (x19:Int) (x20:Int) =>
         l8 (decide ((x20:Int)<x19))
         (w9 (T:=Option Addr->Option Addr->Int->Int->H->Prop) (fun(r_22:Option Addr) (n_23:Option Addr) (x24:Int) (x25:Int) =>
          R16 r_22 n_23 x24 (IntKind.u64.wrap (x25+1))) (fun j21 =>
          j0 r_17 (fun(b26 o27:Nat) =>
           l4 (s5 b26 o27) kP (fun(x28:Option Addr) =>
            d8 82 [.pointer x28] kS (fun(x29:ByteArray) =>
             D6 83 [.pointer r_17] (.one (.agg [.str,(.int .i64),.bool,.str,.slc])) (fun(x30:ByteArray) (x31:Int) (x32:Bool) (x33:ByteArray) (x34:Sl) =>
              A9 (.cells ⟨[.string (⟨⟨[]⟩⟩:ByteArray),.int .i64 0,.bool false,.string (⟨⟨[]⟩⟩:ByteArray),.slice none 0 0]⟩ 75 (0,0)) (fun(b35:Nat) =>
               t8 75 (.pointer (some ⟨b35,0,none⟩)) (.agg ⟨[.string x30,.int .i64 x31,.bool x32,.string x33,.slice x34.base x34.len x34.cap]⟩) (t8 9 (.pointer (some ⟨b35,0,none⟩)) (.string x29) (j0 n_18 (fun(b36 o37:Nat) =>
                l4 (s5 b36 (o37+4)) kL (fun(x38:Sl) =>
                l4 (rdA 5 b35 0) (.one (.agg [.str,(.int .i64),.bool,.str,.slc])) (fun(x39:ByteArray) (x40:Int) (x41:Bool) (x42:ByteArray) (x43:Sl) =>
                A9 (.cells ⟨[.string (⟨⟨[]⟩⟩:ByteArray),.int .i64 0,.bool false,.string (⟨⟨[]⟩⟩:ByteArray),.slice none 0 0]⟩ 75 (0,0)) (fun(b44:Nat) =>
                Q4 .append #[73,73] 73 [false,false] [.slice x38.base x38.len x38.cap,.slice (some ⟨b44,0,none⟩) 1 1] kL (fun(x45:Sl) =>
                j0 x45.base (fun(b46 o47:Nat) =>
                w6 (0<=((x38.len:Nat):Int)/\((x38.len:Nat):Int)<((x45.len:Nat):Int))
                (j0 n_18 (fun(b48 o49:Nat) =>
                bu2
                (t8 75 (.pointer (some ⟨b46,o47+(((x38.len:Nat):Int):Int).toNat * 5,none⟩)) (.agg ⟨[.string x39,.int .i64 x40,.bool x41,.string x42,.slice x43.base x43.len x43.cap]⟩) (t8 73 (.pointer (some ⟨b48,o49+4,none⟩)) (.slice x45.base x45.len x45.cap) (j21 r_17 n_18 x19 x20)))
                (t8 73 (.pointer (some ⟨b48,o49+4,none⟩)) (.slice x45.base x45.len x45.cap) (t8 75 (.pointer (some ⟨b46,o47+(((x38.len:Nat):Int):Int).toNat * 5,none⟩)) (.agg ⟨[.string x39,.int .i64 x40,.bool x41,.string x42,.slice x43.base x43.len x43.cap]⟩) (j21 r_17 n_18 x19 x20))))))))))))))) X)))))
         (j0 r_17 (fun(b50 o51:Nat) =>
          l4 (s5 b50 (o51+1)) kI (fun(x52:Int) =>
           j0 r_17 (fun(b53 o54:Nat) =>
            t8 3 (.pointer (some ⟨b53,o54+1,none⟩)) (.int .i64 (IntKind.i64.wrap (x52 - 1))) (K (.tuple ⟨[]⟩)))))))) (fun(R55:Option Addr->Option Addr->Int->Int->H->Prop)=>R55 r_8 n_9 k_10 0)))))) (fun j7 =>
     l8 (decide ((x6:Int)<=2000))
     (j0 r_1 (fun(b56 o57:Nat) =>
      l4 (s5 b56 (o57+1)) kI (fun(x58:Int) =>
       D6 81 [.bool (decide ((x58:Int)<=12))] kU (j7 r_1 n_2 x6) X)))
     (D6 81 [.bool false] kU (j7 r_1 n_2 x6) X)))))
theorem dG2 (r_1:Option Addr) (n_2:Option Addr) (K X:Value->H->Prop):al1 Tryz.prog tau ap3 Tryz.f127 df5 [.pointer r_1,.pointer n_2] K X=cg3 r_1 n_2 K X:=by kernel_rfl
theorem df6 (r_1:Option Addr) (n_2:Option Addr) {K X:Value->H->Prop} {σ:H} (h:cg3 r_1 n_2 K X σ):M4 127 [.pointer r_1,.pointer n_2] K X σ:=L8 mixed Tryz.func127 (by rw[dG2];exact h)

def df7:Ann:=(.q (.q (.cond (.q (.n (.q (.cond .r .z)) .r)) .z)))
def cg4 (x1:Option Addr) (x2:Option Addr) (m:Md) (K:H->Prop) (X:Value->H->Prop):H->Prop :=
 M7 Tryz.prog (do eqGuard .neq 20 (.tmp 6) (.const (.nilIface)) ((Md.rv m)) (.nilIface);binOp .neq 20 ((Md.rv m)) (.nilIface)) kB (fun(x3:Bool) =>
  l8 x3
  (M7 Tryz.prog (Instr.typeAssert ((Md.rv m)) 20 161 true) (.tup [.agg [(.int .i64),(.int .i64)],.sc .bool]) (fun(x4:Int) (x5:Int) (x6:Bool) =>
   A9 (.cells ⟨[.int .i64 0,.int .i64 0]⟩ 161 (0,0)) (fun(b7:Nat) =>
    t8 161 (.pointer (some ⟨b7,0,none⟩)) (.agg ⟨[.int .i64 x4,.int .i64 x5]⟩) (l8 (!x6)
     (bB8 X ((Md.rv m)))
     (t8 113 (.pointer x1) (.agg ⟨[.string (⟨⟨[]⟩⟩:ByteArray),.slice none 0 0,.slice none 0 0,.string (⟨⟨[]⟩⟩:ByteArray)]⟩) (t8 115 (.pointer x2) (.iface 163 (.pointer (some ⟨b7,0,none⟩))) (K)))))))
  (K))
theorem dG3 (x1:Option Addr) (x2:Option Addr) (m:Md) (K:H->Prop) (X:Value->H->Prop):cb9 Tryz.prog tau Tryz.f132 df7 [.pointer x1,.pointer x2] m K X=cg4 x1 x2 m K X:=by kernel_rfl
theorem df8 (x1:Option Addr) (x2:Option Addr) (m:Md) {K:Md->H->Prop} {σ:H} (h:cg4 x1 x2 m (K .ret) (fun _ _=>False) σ):P9 132 [.pointer x1,.pointer x2] m K σ:=aA0 mixed Tryz.func132 (by rw[dG3];exact h)

def df9:Ann:=(.q (.q .r))
def cu9 (r_1:Option Addr) (w_2:Sl) (K X:Value->H->Prop):H->Prop :=
 A9 (.cells ⟨[.string (⟨⟨[]⟩⟩:ByteArray)]⟩ 9 (0,0)) (fun(b3:Nat) =>
  D6 182 [.pointer r_1,.slice w_2.base w_2.len w_2.cap,.int .i64 2,.slice (some ⟨b3,0,none⟩) 1 1] kU (j0 w_2.base (fun(b4 o5:Nat) =>
   w6 (0<=(1:Int)/\(1:Int)<((w_2.len:Nat):Int))
   (l4 (s5 b4 (o5+(1:Int).toNat * 1)) kS (fun(x6:ByteArray) =>
    d8 73 [.string x6] kI (fun(x7:Int) =>
     D6 139 [.pointer r_1,.bool ((x7:Int)==0),.int .i64 4] kU (j0 w_2.base (fun(b8 o9:Nat) =>
      w6 (0<=(1:Int)/\(1:Int)<((w_2.len:Nat):Int))
      (l4 (s5 b8 (o9+(1:Int).toNat * 1)) kS (fun(x10:ByteArray) =>
       j0 r_1 (fun(b11 o12:Nat) =>
        t8 9 (.pointer (some ⟨b11,o12,none⟩)) (.string x10) (K (.tuple ⟨[]⟩))))))) X))))) X)
theorem dG4 (r_1:Option Addr) (w_2:Sl) (K X:Value->H->Prop):al1 Tryz.prog tau ap3 Tryz.f133 df9 [.pointer r_1,.slice w_2.base w_2.len w_2.cap] K X=cu9 r_1 w_2 K X:=by kernel_rfl
theorem dG5 (r_1:Option Addr) (w_2:Sl) {K X:Value->H->Prop} {σ:H} (h:cu9 r_1 w_2 K X σ):M4 133 [.pointer r_1,.slice w_2.base w_2.len w_2.cap] K X σ:=L8 mixed Tryz.func133 (by rw[dG4];exact h)

def dg0:Ann:=(.q (.n (.reg (rn 11) [[],[0],[0,1],[0,1,2],(rn 4),[],[5],[5,6],[5,6,7],(rn 9),(rn 10)]) (.seq (some [(0,.p),(4,.l)]) .r (.q .r))))
def cv0 (r_1:Option Addr) (w_2:Sl) (K X:Value->H->Prop):H->Prop :=
 A9 (.cells ⟨[.string (⟨⟨[100,114,118]⟩⟩:ByteArray),.string (⟨⟨[105,110]⟩⟩:ByteArray)]⟩ 9 (0,0)) (fun(b3:Nat) =>
  D6 182 [.pointer r_1,.slice w_2.base w_2.len w_2.cap,.int .i64 2,.slice (some ⟨b3,0,none⟩) 2 2] kU (j0 r_1 (fun(b4 o5:Nat) =>
   l4 (s5 b4 (o5+1)) kL (fun(x6:Sl) =>
    j0 w_2.base (fun(b7 o8:Nat) =>
     w6 (0<=(1:Int)/\(1:Int)<((w_2.len:Nat):Int))
     (l4 (s5 b7 (o8+(1:Int).toNat * 1)) kS (fun(x9:ByteArray) =>
      A9 (.cells ⟨[.string x9]⟩ 9 (0,0)) (fun(b10:Nat) =>
       Q4 .append #[23,23] 23 [false,false] [.slice x6.base x6.len x6.cap,.slice (some ⟨b10,0,none⟩) 1 1] kL (fun(x11:Sl) =>
        w9 (T:=Option Addr->Sl->H->Prop) (fun(r_13:Option Addr) (l_14:Sl) =>
         D6 139 [.pointer r_13,.bool (decide ((((l_14.len:Nat):Int):Int)<=8)),.int .i64 3] kU (j0 r_13 (fun(b15 o16:Nat) =>
          t8 23 (.pointer (some ⟨b15,o16+1,none⟩)) (.slice l_14.base l_14.len l_14.cap) (K (.tuple ⟨[]⟩)))) X) (fun j12 =>
         j0 w_2.base (fun(b17 o18:Nat) =>
          w6 (0<=(1:Int)/\(1:Int)<((w_2.len:Nat):Int))
          (l4 (s5 b17 (o18+(1:Int).toNat * 1)) kS (fun(x19:ByteArray) =>
           d8 183 [.string x19] kB (fun(x20:Bool) =>
            l8 x20
            (d8 184 [.slice x11.base x11.len x11.cap] kB (fun(x21:Bool) =>
             D6 139 [.pointer r_1,.bool x21,.int .i64 4] kU (j12 r_1 x11) X))
            (D6 139 [.pointer r_1,.bool false,.int .i64 4] kU (j12 r_1 x11) X)))))))))))))) X)
theorem dG6 (r_1:Option Addr) (w_2:Sl) (K X:Value->H->Prop):al1 Tryz.prog tau ap3 Tryz.f134 dg0 [.pointer r_1,.slice w_2.base w_2.len w_2.cap] K X=cv0 r_1 w_2 K X:=by kernel_rfl
theorem dG7 (r_1:Option Addr) (w_2:Sl) {K X:Value->H->Prop} {σ:H} (h:cv0 r_1 w_2 K X σ):M4 134 [.pointer r_1,.slice w_2.base w_2.len w_2.cap] K X σ:=L8 mixed Tryz.func134 (by rw[dG6];exact h)

def dg1:Ann:=(.q (.q (.seq (some [(0,.p),(1,.l),(4,.i)]) (.reg2 (rn 26) 0 [] 0 [] [[],[],[1],[1,2],[1,2,3],[1,2,3,4],[1,2,3,4,5],[1,2,3,4,5,6],[1,2,3,4,5,6,7],[1,2,3,4,5,6,7,8],[1,2,3,4,5,6,7,8,9],[1,2,3,4,5,6,7,8,9,10],[1,2,3,4,5,6,7,8,9,10,11],[1,2,3,4,5,6,7,8,9,10,11,12],[1,2,3,4,5,6,7,8],[1,2,3,4,5,6,7,8,14],[1,2,3,4,5,6,7,8,9,10,11,12,13,14,15],[1,2,3,4,5,6,7,8,9,10,11,12,13,14,15,16],[1,2,3,4,5,6,7,8,9,10,11,12,13,14,15,16,17],[1,2,3,4,5,6,7,8],[1,2,3,4,5,6,7,8,19],[1,2,3,4,5,6,7,8,19,20],[1,2,3,4,5,6,7,8,9,10,11,12,13,14,15,16,17,18,19,20,21],[1,2,3,4,5,6,7,8,9,10,11,12,13,14,15,16,17,18,19,20,21,22],[1,2,3,4,5,6,7,8,9,10,11,12,13,14,15,16,17,18,19,20,21,22,23],(rn 25)]) (.n (.reg2 (rn 11) 0 [] 0 [] [[],[0],[0,1],[],[],[4],[4,5],[3,4,5,6],(rn 8),[],(rn 10)]) (.q (.q (.reg (rn 13) [[],[],[1],[1,2],[1,2,3],[1,2,3,4],[],[6],[1,2,3,4,5,6,7],(rn 9),(rn 10),(rn 11),(rn 12)])))))))
def cv1 (r_1:Option Addr) (w_2:Sl) (K X:Value->H->Prop):H->Prop :=
 A9 (.cells ⟨[.string (⟨⟨[100,114,118]⟩⟩:ByteArray),.string (⟨⟨[105,110]⟩⟩:ByteArray),.string (⟨⟨[101,110,118]⟩⟩:ByteArray)]⟩ 9 (0,0)) (fun(b3:Nat) =>
  D6 182 [.pointer r_1,.slice w_2.base w_2.len w_2.cap,.int .i64 3,.slice (some ⟨b3,0,none⟩) 3 3] kU (j0 r_1 (fun(b4 o5:Nat) =>
   l4 (s5 b4 (o5+2)) kL (fun(x6:Sl) =>
    w9 (T:=Option Addr->Sl->Int->H->Prop) (fun(r_8:Option Addr) (w_9:Sl) (n_10:Int) =>
     j0 w_9.base (fun(b11 o12:Nat) =>
      w6 (0<=(1:Int)/\(1:Int)<((w_9.len:Nat):Int))
      (l4 (s5 b11 (o12+(1:Int).toNat * 1)) kS (fun(x13:ByteArray) =>
       j0 w_9.base (fun(b14 o15:Nat) =>
        w6 (0<=(2:Int)/\(2:Int)<((w_9.len:Nat):Int))
        (l4 (s5 b14 (o15+(2:Int).toNat * 1)) kS (fun(x16:ByteArray) =>
         D6 186 [.pointer r_8,.string x16] kS (fun(x17:ByteArray) =>
          A2 (fun σ=>(s5 b11 (o12+(1:Int).toNat * 1)) σ=some (.string x13))
          (A9 (.cells ⟨[.string (⟨⟨[]⟩⟩:ByteArray),.string (⟨⟨[]⟩⟩:ByteArray)]⟩ 206 (0,0)) (fun(b18:Nat) =>
           t8 206 (.pointer (some ⟨b18,0,none⟩)) (.agg ⟨[.string x13,.string x17]⟩) (l4 (s5 b18 1) kS (fun(x19:ByteArray) =>
            D6 139 [.pointer r_8,.bool (decide ((((x19.size:Nat):Int):Int)<=200)),.int .i64 4] kU (D6 139 [.pointer r_8,.bool (decide ((n_10:Int)<16)),.int .i64 3] kU (j0 r_8 (fun(b20 o21:Nat) =>
             l4 (s5 b20 (o21+2)) kL (fun(x22:Sl) =>
              l4 (rdA 2 b18 0) (.one (.agg [.str,.str])) (fun(x23:ByteArray) (x24:ByteArray) =>
              A9 (.cells ⟨[.string x23,.string x24]⟩ 206 (0,0)) (fun(b25:Nat) =>
              Q4 .append #[111,111] 111 [false,false] [.slice x22.base x22.len x22.cap,.slice (some ⟨b25,0,none⟩) 1 1] kL (fun(x26:Sl) =>
              j0 r_8 (fun(b27 o28:Nat) =>
              t8 111 (.pointer (some ⟨b27,o28+2,none⟩)) (.slice x26.base x26.len x26.cap) (K (.tuple ⟨[]⟩))))))))) X) X))))) X))))))) (fun j7 =>
     j0 w_2.base (fun(b29 o30:Nat) =>
      w6 (0<=(1:Int)/\(1:Int)<((w_2.len:Nat):Int))
      (l4 (s5 b29 (o30+(1:Int).toNat * 1)) kS (fun(x31:ByteArray) =>
       d8 185 [.string x31] kB (fun(x32:Bool) =>
        l8 x32
        (l8 ((((x6.len:Nat):Int):Int)==0)
         (D6 139 [.pointer r_1,.bool true,.int .i64 4] kU (j7 r_1 w_2 ((x6.len:Nat):Int)) X)
         (j0 r_1 (fun(b33 o34:Nat) =>
          l4 (s5 b33 (o34+2)) kL (fun(x35:Sl) =>
           j0 x35.base (fun(b36 o37:Nat) =>
            w6 (0<=IntKind.i64.wrap (((x6.len:Nat):Int) - 1)/\IntKind.i64.wrap (((x6.len:Nat):Int) - 1)<((x35.len:Nat):Int))
            (l4 (s5 b36 (o37+(IntKind.i64.wrap (((x6.len:Nat):Int) - 1):Int).toNat * 2)) kS (fun(x38:ByteArray) =>
             j0 w_2.base (fun(b39 o40:Nat) =>
              w6 (0<=(1:Int)/\(1:Int)<((w_2.len:Nat):Int))
              (l4 (s5 b39 (o40+(1:Int).toNat * 1)) kS (fun(x41:ByteArray) =>
               D6 139 [.pointer r_1,.bool (E4 x38 x41),.int .i64 4] kU (j7 r_1 w_2 ((x6.len:Nat):Int)) X))))))))))
        (D6 139 [.pointer r_1,.bool false,.int .i64 4] kU (j7 r_1 w_2 ((x6.len:Nat):Int)) X))))))))) X)
theorem dG8 (r_1:Option Addr) (w_2:Sl) (K X:Value->H->Prop):al1 Tryz.prog tau ap3 Tryz.f135 dg1 [.pointer r_1,.slice w_2.base w_2.len w_2.cap] K X=cv1 r_1 w_2 K X:=by kernel_rfl
theorem dG9 (r_1:Option Addr) (w_2:Sl) {K X:Value->H->Prop} {σ:H} (h:cv1 r_1 w_2 K X σ):M4 135 [.pointer r_1,.slice w_2.base w_2.len w_2.cap] K X σ:=L8 mixed Tryz.func135 (by rw[dG8];exact h)

def dg2:Ann := .r
def cv2 (r_1:Option Addr) (w_2:Sl) (K X:Value->H->Prop):H->Prop :=
 A9 (.cells ⟨[.string (⟨⟨[100,114,118]⟩⟩:ByteArray),.string (⟨⟨[105,110]⟩⟩:ByteArray),.string (⟨⟨[101,110,118]⟩⟩:ByteArray)]⟩ 9 (0,0)) (fun(b3:Nat) =>
  D6 182 [.pointer r_1,.slice w_2.base w_2.len w_2.cap,.int .i64 1,.slice (some ⟨b3,0,none⟩) 3 3] kU (K (.tuple ⟨[]⟩)) X)
theorem dH0 (r_1:Option Addr) (w_2:Sl) (K X:Value->H->Prop):al1 Tryz.prog tau ap3 Tryz.f136 dg2 [.pointer r_1,.slice w_2.base w_2.len w_2.cap] K X=cv2 r_1 w_2 K X:=by kernel_rfl
theorem dH1 (r_1:Option Addr) (w_2:Sl) {K X:Value->H->Prop} {σ:H} (h:cv2 r_1 w_2 K X σ):M4 136 [.pointer r_1,.slice w_2.base w_2.len w_2.cap] K X σ:=L8 mixed Tryz.func136 (by rw[dH0];exact h)

def dg3:Ann:=(.q (.cond .r .z))
def cv3 (r_1:Option Addr) (is_2:Bool) (e_3:Int) (K X:Value->H->Prop):H->Prop :=
 l8 (!is_2)
 (j0 r_1 (fun(b4 o5:Nat) =>
  l4 (s5 b4 (o5+4)) kI (fun(x6:Int) =>
   bB8 X (.iface 161 (.agg ⟨[.int .i64 e_3,.int .i64 x6]⟩)))))
 (K (.tuple ⟨[]⟩))
theorem dH2 (r_1:Option Addr) (is_2:Bool) (e_3:Int) (K X:Value->H->Prop):al1 Tryz.prog tau ap3 Tryz.f139 dg3 [.pointer r_1,.bool is_2,.int .i64 e_3] K X=cv3 r_1 is_2 e_3 K X:=by kernel_rfl
theorem dH3 (r_1:Option Addr) (is_2:Bool) (e_3:Int) {K X:Value->H->Prop} {σ:H} (h:cv3 r_1 is_2 e_3 K X σ):M4 139 [.pointer r_1,.bool is_2,.int .i64 e_3] K X σ:=L8 mixed Tryz.func139 (by rw[dH2];exact h)

def dg4:Ann := .r
def cv4 (r_1:Option Addr) (w_2:Sl) (n_3:Int) (last_4:Sl) (K X:Value->H->Prop):H->Prop :=
 j0 r_1 (fun(b5 o6:Nat) =>
  l4 (s5 b5 (o6+5)) kS (fun(x7:ByteArray) =>
   d8 221 [.slice last_4.base last_4.len last_4.cap,.string x7] kB (fun(x8:Bool) =>
    l8 x8
    (D6 139 [.pointer r_1,.bool ((((w_2.len:Nat):Int):Int)==n_3),.int .i64 4] kU (K (.tuple ⟨[]⟩)) X)
    (D6 139 [.pointer r_1,.bool false,.int .i64 4] kU (K (.tuple ⟨[]⟩)) X))))
theorem dH4 (r_1:Option Addr) (w_2:Sl) (n_3:Int) (last_4:Sl) (K X:Value->H->Prop):al1 Tryz.prog tau ap3 Tryz.f182 dg4 [.pointer r_1,.slice w_2.base w_2.len w_2.cap,.int .i64 n_3,.slice last_4.base last_4.len last_4.cap] K X=cv4 r_1 w_2 n_3 last_4 K X:=by kernel_rfl
theorem dH5 (r_1:Option Addr) (w_2:Sl) (n_3:Int) (last_4:Sl) {K X:Value->H->Prop} {σ:H} (h:cv4 r_1 w_2 n_3 last_4 K X σ):M4 182 [.pointer r_1,.slice w_2.base w_2.len w_2.cap,.int .i64 n_3,.slice last_4.base last_4.len last_4.cap] K X σ:=L8 mixed Tryz.func182 (by rw[dH4];exact h)

def dg5:Ann:=(.q (.n (.q (.h)) (.seq (some [(1,.s)]) .r (.q (.n (.q (.blk (.loop [(1,.s),(5,.l),(29,.i),(30,.i)] (.q (.n (.cond .z .z) (.n (.blk (.q (.reg (rn 18) [[],[],[],[],[3],[2,3,4],[2,3,4,5],[2,3,4,5,6],[],[],[9],[9,10],[8,9,10,11],[2,3,4,5,6,8,9,10,11,12],[2,3,4,5,6,7,8,9,10,11,12,13],[2,3,4,5,6,7,8,9,10,11,12,13,14],(rn 16),(rn 17)]))) .r)))))) (.q .z))))))
def cv5 (r_1:Option Addr) (s_2:ByteArray) (K X:Value->H->Prop):H->Prop :=
 l8 (B8 s_2 (⟨⟨[45]⟩⟩:ByteArray))
 (K (.string (⟨⟨[]⟩⟩:ByteArray)))
 (w9 (T:=ByteArray->H->Prop) (fun(s_4:ByteArray) =>
  w6 ((2:Int)≠0)
  (M7 Tryz.prog (Instr.makeSlice 36 (.int .i64 (IntKind.i64.wrap (Int.tdiv ((s_4.size:Nat):Int) 2))) (.int .i64 (IntKind.i64.wrap (Int.tdiv ((s_4.size:Nat):Int) 2)))) kL (fun(x5:Sl) =>
   l9 [.sc .str,.sc .slc,.sc (.int .i64),.sc (.int .i64)] (fun(R6:ByteArray->Sl->Int->Int->H->Prop)=>(fun(s_7:ByteArray) (b_8:Sl) (x9:Int) (x10:Int) =>
    l8 (decide ((x10:Int)<x9))
    (B2 s_7 (IntKind.i64.wrap (2 * x10)) (fun(c11:UInt8) =>
     d8 116 [.string (⟨⟨[48,49,50,51,52,53,54,55,56,57,97,98,99,100,101,102]⟩⟩:ByteArray),.int .u8 (c11.toNat:Int)] kI (fun(x12:Int) =>
      w6 (0<=(4:Int))
      (B2 s_7 (IntKind.i64.wrap ((IntKind.i64.wrap (2 * x10))+1)) (fun(c13:UInt8) =>
       d8 116 [.string (⟨⟨[48,49,50,51,52,53,54,55,56,57,97,98,99,100,101,102]⟩⟩:ByteArray),.int .u8 (c13.toNat:Int)] kI (fun(x14:Int) =>
        j0 b_8.base (fun(b15 o16:Nat) =>
         w6 (0<=x10/\x10<((b_8.len:Nat):Int))
         (t8 5 (.pointer (some ⟨b15,o16+x10.toNat * 1,none⟩)) (.int .u8 (IntKind.u8.wrap (A0 .or .i64 (IntKind.i64.wrap (x12 * 2 ^ min (Int.toNat 4) (IntKind.bits .i64))) x14))) (R6 s_7 b_8 x9 (IntKind.i64.wrap (x10+1)))))))))))
    (M7 Tryz.prog (convert 36 9 (.slice b_8.base b_8.len b_8.cap)) kS (fun(x17:ByteArray) =>
     K (.string x17))))) (fun(R18:ByteArray->Sl->Int->Int->H->Prop)=>R18 s_4 x5 ((x5.len:Nat):Int) 0)))) (fun j3 =>
  l8 (!B8 s_2 (⟨⟨[]⟩⟩:ByteArray))
  (w6 ((2:Int)≠0)
   (l8 (((Int.tmod ((s_2.size:Nat):Int) 2):Int)==0)
    (d8 223 [.string s_2,.string (⟨⟨[48,49,50,51,52,53,54,55,56,57,97,98,99,100,101,102]⟩⟩:ByteArray)] kS (fun(x19:ByteArray) =>
     D6 139 [.pointer r_1,.bool (B8 x19 (⟨⟨[]⟩⟩:ByteArray)),.int .i64 4] kU (j3 s_2) X))
    (D6 139 [.pointer r_1,.bool false,.int .i64 4] kU (j3 s_2) X)))
  (D6 139 [.pointer r_1,.bool false,.int .i64 4] kU (j3 s_2) X)))
theorem dH6 (r_1:Option Addr) (s_2:ByteArray) (K X:Value->H->Prop):al1 Tryz.prog tau ap3 Tryz.f186 dg5 [.pointer r_1,.string s_2] K X=cv5 r_1 s_2 K X:=by kernel_rfl
theorem dH7 (r_1:Option Addr) (s_2:ByteArray) {K X:Value->H->Prop} {σ:H} (h:cv5 r_1 s_2 K X σ):M4 186 [.pointer r_1,.string s_2] K X σ:=L8 mixed Tryz.func186 (by rw[dH6];exact h)

end Go.Proofs.YtgfiobhpipollaaGreatDoor

set_option maxRecDepth 100000
namespace Go.Proofs.YtgfiobhpipollaaGreatDoor
open Go Go.HL Go.Wk
attribute [local irreducible] j0 w6 l8 A2 l4 A9 w9 U3 V0 R1 M7 V2 C1 y6 app A4 C9 u7 sizeT oW H8 F2 l9 U5 H2 G1 y9 V1 B2 Gr L6
attribute [local irreducible] ao7 af5 ac5 ar9
def ai1:Value := .iface 100 (.agg ⟨[]⟩)
theorem bT2 (is:Bool) {K X:Value->H->Prop} {σ:H} (hK:is=true->K (.tuple ⟨[]⟩) σ) (hX:is=false->X ai1 σ):M4 81 [.bool is] K X σ:=by
 refine c81 _ ?_
 unfold g81
 exact G8 (fun h=>hX (by simpa using h)) (fun h=>hK (by simpa using h))
theorem Z3 (is:Bool) {F:H->Prop} {X:Value->H->Prop} {σ:H} (hK:is=true->F σ) (hX:is=false->X ai1 σ):D6 81 [.bool is] kU F X σ:=au3 (bT2 is (fun h=>O9 (hK h)) hX)
theorem ag7.skip {σ σ':H} {b G c:Nat} {r:I7} {cur:List Value} {ty:TypeId} {fz:Nat×Nat} (h:ag7 σ b G r) (hc:σ c=some (.cells ⟨cur⟩ ty fz)) (hno:∀v∈cur,∀n,v ≠ .int .u8 n) (hne:c≠b) (hk:∀d o,d≠c->σ d=some o->σ' d=some o):ag7 σ' b G r:=by
 obtain⟨x,h1,h2,h3,h4⟩:=h
 refine⟨x,hk _ _ (Ne.symm hne) h1,?_,h3,h4⟩
 obtain⟨q1,q2 | ⟨g,o,cu,t,fz',q3,q4,q5⟩⟩:=h2
 ·exact⟨q1,.inl q2⟩
 ·by_cases e:r.left=[]
  ·exact⟨q1,.inl (by rw[e];rfl)⟩
  ·refine⟨q1,.inr ⟨g,o,cu,t,fz',q3,hk _ _ ?_ q4,q5⟩⟩
   intro eg
   subst eg
   rw[hc]at q4
   cases q4
   obtain⟨a,l,hl⟩:=List.exists_cons_of_ne_nil e
   have q6:=q5 0 [.int .u8 a.toNat] (by rw[hl];rfl)
   have hm:Value.int .u8 (a.toNat)∈cur:=by
    have h1:Value.int .u8 a.toNat∈(cur.drop (o+0 * 1)).take 1:=by rw[q6.2];simp
    exact List.mem_of_mem_drop (List.mem_of_mem_take h1)
   exact hno _ hm _ rfl
def X5 (σ:H) (br bw G:Nat) (d:Int) (r:I7):Prop:=σ br=some (.cells ⟨[.pointer (some ⟨bw,0,none⟩),.int .i64 d]⟩ 106 (0,0))/\ag7 σ bw G r/\br≠bw
theorem X5.gr {σ σ':H} {br bw G:Nat} {d:Int} {r:I7} (h:X5 σ br bw G d r) (hg:Gr σ σ'):X5 σ' br bw G d r:=⟨hg.get h.1,h.2.1.keep fun _ _ hc=>hg.get hc,h.2.2⟩
theorem X5.deep {σ σ':H} {br bw G:Nat} {d d':Int} {r:I7} (h:X5 σ br bw G d r) (hp:L6 σ br (.cells ⟨[.pointer (some ⟨bw,0,none⟩),.int .i64 d']⟩ 106 (0,0)) σ'):X5 σ' br bw G d' r :=
 ⟨hp.same,h.2.1.skip h.1 (by intro v hv n;simp only[A5,List.mem_nil_iff,or_false]at hv;rcases hv with rfl | rfl<;>(intro e;cases e)) h.2.2 fun _ _ hd ho=>hp.get hd ho,h.2.2⟩
def nd (k:Int) (ex:Bool) (dt:ByteArray) (y:Sl):List Value:=[.string ⟨⟨[]⟩⟩,.int .i64 k,.bool ex,.string dt,.slice y.base y.len y.cap]
theorem dg6 (k:Int) (ex:Bool) (dt:ByteArray) (y:Sl) : ∀v∈nd k ex dt y,∀n,v ≠ .int .u8 n:=by
 intro v hv n
 unfold nd at hv
 simp only[A5,List.mem_nil_iff,or_false]at hv
 rcases hv with rfl | rfl | rfl | rfl | rfl<;>(intro e;cases e)
theorem X5.nd {σ σ':H} {br bw G bn:Nat} {d:Int} {r:I7} {k:Int} {ex:Bool} {dt:ByteArray} {y:Sl} (h:X5 σ br bw G d r) (hn:σ bn=some (.cells ⟨nd k ex dt y⟩ 75 (0,0))) (n1:bn≠br) (n2:bn≠bw) (hk:∀d o,d≠bn->σ d=some o->σ' d=some o):X5 σ' br bw G d r :=
 ⟨hk _ _ n1.symm h.1,h.2.1.skip hn (dg6 k ex dt y) n2 hk,h.2.2⟩
def Kn (a b:Nat) (σ σ':H):Prop := ∀c o,c≠a->c≠b->σ c=some o->σ' c=some o
def Kn3 (a b n:Nat) (σ σ':H):Prop := ∀c o,c≠a->c≠b->c≠n->σ c=some o->σ' c=some o
def slN:Sl:=⟨none,0,0⟩
section
variable {σ : H} {br bw G bn : Nat} {d k : Int} {r : I7} {K X : Value -> H -> Prop}
theorem bT3 (h:X5 σ br bw G d r) (hl:r.left.length<=1000000) (hn:σ bn=some (.cells ⟨nd k false ⟨⟨[]⟩⟩ slN⟩ 75 (0,0))) (n1:bn≠br) (n2:bn≠bw)
 (hX:r.num.1>1 -> ∀σ',Kn3 br bw bn σ σ'->X ai1 σ')
 (hK:¬r.num.1>1 -> ∀σ',X5 σ' br bw G d r.num.2.text.2->σ' bn=some (.cells ⟨nd k (r.num.1==1) ⟨⟨r.num.2.text.1⟩⟩ slN⟩ 75 (0,0))->Kn3 br bw bn σ σ'->K (.tuple ⟨[]⟩) σ') :
 M4 125 [.pointer (some ⟨br,0,none⟩),.pointer (some ⟨bn,0,none⟩)] K X σ:=by
 refine dG1 _ _ ?_
 unfold cu8
 obtain⟨h1,h2,h3⟩:=h
 refine i6 (aH8 (f0 h1) (i7 (aN7 h2 (by omega) ?_)))
 intro σ1 r1 k1
 have hnl:=B5 r
 refine B6 ?_
 refine Z3 _ (fun hm => ?_) (fun hm => ?_)
 ·have a1:=k1 br _ h3 h1
  refine i6 (aH8 (f0 a1) (i7 (aJ4 r1 (by omega) ?_)))
  intro σ2 r2 k2
  have b2:=k2 _ _ n2 (k1 _ _ n2 hn)
  refine I1 (i6 ?_)
  refine w4 b2 aI7 ?_
  intro σ3 p3
  refine i6 (w4 p3.same M0 ?_)
  intro σ4 p4
  have N2:X5 σ2 br bw G d r.num.2.text.2:=⟨k2 _ _ h3 a1,r2,h3⟩
  refine hK (by have:=E6 hm;omega) σ4 (N2.nd b2 n1 n2 fun d o hd ho=>p4.get hd (p3.get hd ho)) p4.same ?_
  exact fun c o _ hb hc ho=>p4.get hc (p3.get hc (k2 _ _ hb (k1 _ _ hb ho)))
 ·exact hX (by have:=J0 hm;omega) σ1 fun c o _ hb _ hc=>k1 c o hb hc
theorem bT4 (h:X5 σ br bw G d r) (hl:r.left.length<=1000000) (hn:σ bn=some (.cells ⟨nd k false ⟨⟨[]⟩⟩ slN⟩ 75 (0,0))) (n1:bn≠br) (n2:bn≠bw)
 (hK:∀σ',X5 σ' br bw G d r.text.2->σ' bn=some (.cells ⟨nd k false ⟨⟨r.text.1⟩⟩ slN⟩ 75 (0,0))->Kn3 br bw bn σ σ'->K (.tuple ⟨[]⟩) σ') :
 a8 126 [.pointer (some ⟨br,0,none⟩),.pointer (some ⟨bn,0,none⟩)] K σ:=by
 refine dv0 _ _ ?_
 unfold cI9
 obtain⟨h1,h2,h3⟩:=h
 refine i6 (aH8 (f0 h1) (i7 (aJ4 h2 (by omega) ?_)))
 intro σ2 r2 k2
 have b2:=k2 _ _ n2 hn
 refine I1 (i6 ?_)
 refine w4 b2 M0 ?_
 intro σ4 p4
 have N2:X5 σ2 br bw G d r.text.2:=⟨k2 _ _ h3 h1,r2,h3⟩
 refine hK σ4 (N2.nd b2 n1 n2 fun d o hd ho=>p4.get hd ho) p4.same ?_
 exact fun c o _ hb hc ho=>p4.get hc (k2 _ _ hb ho)
theorem bT5 (h:X5 σ br bw G 13 r) (hl:r.left.length<=1000000) (hX:∀σ',Kn3 br bw bn σ σ'->X ai1 σ') :
 M4 127 [.pointer (some ⟨br,0,none⟩),.pointer (some ⟨bn,0,none⟩)] K X σ:=by
 refine df6 _ _ ?_
 unfold cg3
 obtain⟨h1,h2,h3⟩:=h
 refine i6 (aH8 (f0 h1) (i7 (aN7 h2 (by omega) ?_)))
 intro σ1 r1 k1
 refine B6 ?_
 have a1:=k1 br _ h3 h1
 have hx:=hX σ1 fun c o _ hb _ hc=>k1 c o hb hc
 refine S9 (fun _=>True) trivial ?_
 intro j _
 refine G8 (fun _ => ?_) (fun _ => ?_)
 ·exact i6 (E9 (f0 a1) (Z3 _ (fun hm=>by cases hm) (fun _=>hx)))
 ·exact Z3 _ (fun hm=>by cases hm) (fun _=>hx)
end
def aZ9 (f:Nat):Prop := ∀ (r:I7) {σ:H} {br bw G:Nat} {d:Int},X5 σ br bw G d r->d+f=13->0<=d->r.left.length<=1000000 -> ∀ {K X:Value->H->Prop},
 (L9 f r=none -> ∀σ',Kn br bw σ σ'->X ai1 σ') ->
 (∀t r',L9 f r=some (t,r') -> ∀y σ' τ',X5 σ' br bw G d r'->Kn br bw σ σ'->Gr τ' σ'->O1 τ' t.kids y->(∀c,σ c≠none->τ' c=none)->K (.agg ⟨O2 t y⟩) σ') ->
 M4 83 [.pointer (some ⟨br,0,none⟩)] K X σ
theorem bi3 {i:Nat} (h:i<1000000000):IntKind.u64.wrap ((i:Int)+1)=((i+1:Nat):Int):=by rw[af3 (by omega) (by omega)];omega
theorem cg5 (f:Nat) (ih:aZ9 f) {σ:H} {br bw G bn:Nat} {d k:Int} {r:I7} {K X:Value->H->Prop} (h:X5 σ br bw G d r) (hd:d+(f+1)=13) (hd0:0<=d) (hl:r.left.length<=1000000) (hn:σ bn=some (.cells ⟨nd k false ⟨⟨[]⟩⟩ slN⟩ 75 (0,0))) (n1:bn≠br) (n2:bn≠bw)
 (hX:(r.num.1>2000\/U2 (L9 f) r.num.1.toNat r.num.2=none) -> ∀σ',Kn3 br bw bn σ σ'->X ai1 σ')
 (hK:¬r.num.1>2000 -> ∀l r',U2 (L9 f) r.num.1.toNat r.num.2=some (l,r') -> ∀y σ' τ',X5 σ' br bw G d r'->σ' bn=some (.cells ⟨nd k false ⟨⟨[]⟩⟩ y⟩ 75 (0,0))->Kn3 br bw bn σ σ'->Gr τ' σ'->O1 τ' l y->(∀c,σ c≠none->τ' c=none)->K (.tuple ⟨[]⟩) σ') :
 M4 127 [.pointer (some ⟨br,0,none⟩),.pointer (some ⟨bn,0,none⟩)] K X σ:=by
 refine df6 _ _ ?_
 unfold cg3
 obtain⟨h1,h2,h3⟩:=h
 refine i6 (aH8 (f0 h1) (i7 (aN7 h2 (by omega) ?_)))
 intro σ1 r1 k1
 refine B6 ?_
 have a1:=k1 br _ h3 h1
 have b1:=k1 bn _ n2 hn
 have hnl:=B5 r
 have hrg:0<=r.num.1:=(ae4 (r.take (ak8 r.left)).1).1
 refine S9 (fun j => ¬r.num.1>2000->j (some ⟨br,0,none⟩) (some ⟨bn,0,none⟩) r.num.1 σ1) ?_ ?_
 ·intro hle
  refine i6 (E9 (f0 a1) (i6 ?_))
  rw[n0 (x:=d+1) (by omega) (by omega)]
  refine w4 a1 bP7 ?_
  intro σ2 p2
  have N1:X5 σ1 br bw G d r.num.2:=⟨a1,r1,h3⟩
  have N2:X5 σ2 br bw G (d+1) r.num.2:=N1.deep p2
  have b2:=p2.get n1 b1
  refine u5 ?_
  intro R hR
  have key : ∀ (q i:Nat) (rr:I7) (ts:List Tr) (σ' ρ:H) (z:Sl) (rows:List (List Value)),i+q=r.num.1.toNat->rows.length=i->X5 σ' br bw G (d+1) rr->rr.left.length<=r.left.length ->
   σ' bn=some (.cells ⟨nd k false ⟨⟨[]⟩⟩ z⟩ 75 (0,0))->D8 σ' 75 5 rows z->ad2 ρ ts rows->Gr ρ σ'->(∀c,σ c≠none->ρ c=none)->(∀g,z.base=some ⟨g,0,none⟩->ρ g=none/\σ g=none)->Kn3 br bw bn σ σ' ->
   U2 (L9 f) r.num.1.toNat r.num.2=(match U2 (L9 f) q rr with | none=>none | some (l,r')=>some (ts++l,r'))->R (some ⟨br,0,none⟩) (some ⟨bn,0,none⟩) r.num.1 (i:Int) σ':=by
   have sbr:σ br≠none:=by rw[h1];simp
   have sbw:σ bw≠none:=by obtain⟨o,ho⟩:=h2.has;rw[ho];simp
   have sbn:σ bn≠none:=by rw[hn];simp
   intro q
   induction q with
   | zero =>
    intro i rr ts σ' ρ z rows hi hlen N hle' hb hown hrt hg hρ hz hkp hkd
    refine hR _ _ _ _ _ (k9 (J6 (by omega)) ?_)
    refine i6 (E9 (f0 N.1) (i6 ?_))
    rw[n0 (x:=d+1 - 1) (by omega) (by omega),show d+1 - 1=d by omega]
    refine w4 N.1 bP7 ?_
    intro σ3 p3
    simp only[U2,J1]at hkd
    have hzne : ∀g,z.base=some ⟨g,0,none⟩->g≠br:=fun g hgz e=>by subst e;exact sbr (hz _ hgz).2
    have hg3:Gr ρ σ3:=hg.putF p3 (hρ _ sbr)
    obtain⟨τ',t1,t2,t3,t4⟩:=bh7 (hown.keep fun g o hgz ho=>p3.get (hzne g hgz) ho) hrt hg3 fun g hgz=>(hz g hgz).1
    refine hK hle ts rr hkd z σ3 τ' (N.deep p3) (p3.get n1 hb) (fun c o c1 c2 c3 ho=>p3.get c1 (hkp c o c1 c2 c3 ho)) t2 t3 fun c hc=>t4 c (fun e=>hc (hz c e).2) (hρ c hc)
   | succ q ihq =>
    intro i rr ts σ' ρ z rows hi hlen N hle' hb hown hrt hg hρ hz hkp hkd
    have htl:=P2 rr
    refine hR _ _ _ _ _ (l3 (C8 (by omega)) (j_d ?_))
    refine i6 (aH8 (f0 N.1) (i7 (aJ4 N.2.1 (by omega) ?_)))
    intro σ3 r3 k3
    refine I1 ?_
    have N3:X5 σ3 br bw G (d+1) rr.text.2:=⟨k3 _ _ h3 N.1,r3,h3⟩
    rw[show U2 (L9 f) (q+1) rr=(match L9 f rr.text.2 with
     | none=>none
     | some (t,r2)=>match U2 (L9 f) q r2 with
      | none=>none
      | some (l,r3)=>some (t.named ⟨⟨rr.text.1⟩⟩::l,r3))from rfl]at hkd
    refine au3 (ih rr.text.2 N3 (by omega) (by omega) (by omega) ?_ ?_)
    ·intro hnone σ4 k4
     rw[hnone]at hkd
     exact hX (.inr hkd) σ4 fun c o c1 c2 c3 ho=>k4 c o c1 c2 (k3 c o c2 (hkp c o c1 c2 c3 ho))
    intro t r4 hsome y σ4 τ4 N4 k4 g4 s4 f4
    have hl4:=bo2 f _ _ _ hsome
    rw[hsome]at hkd
    unfold O2
    (refine k0 rfl ?_;try dsimp only)
    refine x0 ?_;intro b35 σ5 g5 e5 m5
    refine w4 e5 I2 ?_
    intro σ6 p6
    refine w4 p6.same M0 ?_
    intro σ7 p7
    have k13 : ∀c o,c≠br->c≠bw->σ' c=some o->σ4 c=some o:=fun c o c1 c2 ho=>k4 c o c1 c2 (k3 c o c2 ho)
    have g47:Gr σ4 σ7:=((Gr.refl σ4).trans g5).putF p6 m5 |>.putF p7 m5
    have b4:=k13 bn _ n1 n2 hb
    refine i6 (A7 (f0 (g47.get b4)) ?_)
    refine A3 (l7 p7.same) ?_
    (refine k0 rfl ?_;try dsimp only)
    refine x0 ?_;intro b44 σ8 g8 e8 m8
    have g48:Gr σ4 σ8:=g47.trans g8
    have hgb : ∀g,z.base=some ⟨g,0,none⟩->g≠br/\g≠bw/\g≠bn:=fun g hgz=>⟨fun e=>by subst e;exact sbr (hz _ hgz).2,fun e=>by subst e;exact sbw (hz _ hgz).2,fun e=>by subst e;exact sbn (hz _ hgz).2⟩
    have own8:D8 σ8 75 5 rows z:=hown.keep fun g o hgz ho=>g48.get (k13 g o (hgb g hgz).1 (hgb g hgz).2.1 ho)
    obtain⟨inf,zz,i1,i2,i3,i4,i5⟩:=aV0
    have hone0 : ∀u∈[Value.string ⟨⟨[]⟩⟩,.int .i64 0,.bool false,.string ⟨⟨[]⟩⟩,.slice none 0 0],u.oneCell'=true:=by
     intro u hu
     simp only[A5,List.mem_nil_iff,or_false]at hu
     rcases hu with rfl | rfl | rfl | rfl | rfl<;>rfl
    refine az5 aU9 i1 i2 i3 rfl i5 (by decide) own8 e8 rfl hone0 (by omega) i4 ?_
    intro z' σ9 own9 hcase
    obtain⟨g',cur,z1,z2,z3',z4',z5'⟩:=own9.last (by decide)
    have hzl:z.len=rows.length:=hown.1
    rw[z1]
    refine i6 (l5 ⟨by omega,by rw[z4',hzl];omega⟩ (i6 ?_))
    have hofs:0+(((z.len:Nat):Int):Int).toNat * 5=rows.length * 5:=by rw[hzl];omega
    rw[hofs]
    -- blocks of old states are not in ρ,τ4
    have gρ3:Gr ρ σ4:=P0 fun c o hc=>k13 c o (fun e=>by subst e;rw[hρ _ sbr]at hc;cases hc) (fun e=>by subst e;rw[hρ _ sbw]at hc;cases hc) (hg.get hc)
    have hσ3 : ∀c,σ' c≠none->c≠bw->σ3 c≠none:=fun c hc cw=>by
     cases ho:σ' c with
     | none=>exact u9 ho hc
     | some o=>rw[k3 c o cw ho];simp
    have g'ρ:ρ g'=none/\τ4 g'=none/\σ g'=none/\Gr ρ σ9/\Gr τ4 σ9/\(∀c o,c≠g'->σ8 c=some o->σ9 c=some o):=by
     rcases hcase with⟨g,o,hz1,hz2,p9⟩ | ⟨g,hz1,hf9,g9⟩
     ·have hgg:g=g':=by rw[hz2,hz1]at z1;cases z1;rfl
      subst hgg
      obtain⟨q1,q2⟩:=hz g hz1
      have ht4:τ4 g=none:=f4 g (hσ3 g (hown.has hz1) (hgb g hz1).2.1)
      exact⟨q1,ht4,q2,(gρ3.trans g48).putF p9 q1,(g4.trans g48).putF p9 ht4,fun c o hc ho=>p9.get hc ho⟩
     ·have hgg:g=g':=by rw[hz1]at z1;cases z1;rfl
      subst hgg
      have h4n:=C3 g48 hf9
      refine⟨C3 gρ3 h4n,C3 g4 h4n,?_,(gρ3.trans g48).trans g9,(g4.trans g48).trans g9,fun c o _ ho=>g9.get ho⟩
      cases hs:σ g with
      | none=>rfl
      | some o =>
       by_cases e1:g=br
       ·subst e1;rw[N4.1]at h4n;cases h4n
       ·by_cases e2:g=bw
        ·subst e2;obtain⟨o',ho'⟩:=N4.2.1.has;rw[ho']at h4n;cases h4n
        ·by_cases e3:g=bn
         ·subst e3;rw[b4]at h4n;cases h4n
         ·rw[k13 g o e1 e2 (hkp g o e1 e2 e3 hs)]at h4n;cases h4n
    obtain⟨q1,q2,q3,q4,q5,q6⟩:=g'ρ
    have tbn:τ4 bn=none:=f4 _ (hσ3 _ (by rw[hb];simp) n2)
    have gbr:br≠g':=fun e=>by subst e;exact sbr q3
    have gbw:bw≠g':=fun e=>by subst e;exact sbw q3
    have gbn:bn≠g':=fun e=>by subst e;exact sbn q3
    have b9:=q6 bn _ gbn (g48.get b4)
    have hGg:r4.left≠[]->G≠g':=by
     intro hne e
     have hGn:=h2.own (fun e2=>hne (Y3 (by have h0:r.left.length=0:=(by rw[e2];rfl);omega)))
     rw[e]at hGn;exact hGn q3
    have N9:X5 σ9 br bw G (d+1) r4 :=
     ⟨q6 _ _ gbr (g48.get N4.1),(N4.gr g48).2.1.keepG (fun o ho=>q6 _ _ gbw ho) (fun hne o ho=>q6 _ _ (hGg hne) ho),h3⟩
    have hnd:O2 (t.named ⟨⟨rr.text.1⟩⟩) y=[.string ⟨⟨rr.text.1⟩⟩,.int .i64 t.kind,.bool t.exec,.string t.data,.slice y.base y.len y.cap]:=by obtain⟨tn,tkd,tex,td,tks⟩:=t;rfl
    have fin : ∀σA:H,X5 σA br bw G (d+1) r4->σA bn=some (.cells ⟨nd k false ⟨⟨[]⟩⟩ z'⟩ 75 (0,0))->D8 σA 75 5 (rows++[O2 (t.named ⟨⟨rr.text.1⟩⟩) y]) z'->Gr ρ σA->Gr τ4 σA->(∀c o,c≠g'->c≠bn->σ8 c=some o->σA c=some o)->R (some ⟨br,0,none⟩) (some ⟨bn,0,none⟩) r.num.1 (IntKind.u64.wrap ((i:Int)+1)) σA:=by
     intro σA NA bA ownA gA1 gA2 kA
     rw[bi3 (by omega)]
     have hdis : ∀b,ρ b≠none->τ4 b=none:=fun b hb=>by
      cases hr:ρ b with
      | none=>exact u9 hr hb
      | some o=>exact f4 b (hσ3 b (by rw[hg.get hr];simp) fun e=>by subst e;rw[hρ _ sbw]at hr;cases hr)
     refine ihq (i+1) r4 (ts++[t.named ⟨⟨rr.text.1⟩⟩]) σA (ρ.union τ4) z' (rows++[O2 (t.named ⟨⟨rr.text.1⟩⟩) y]) (by omega) (by rw[s8,hlen];rfl) NA (by omega) bA ownA ?_ (bd7 gA1 gA2) ?_ ?_ ?_ ?_
     ·exact(hrt.gr (bu8 _ _)).snoc (ac0.2 ⟨y,rfl,by rw[aM2];exact s4.gr (bd8 hdis)⟩)
     ·intro c hc
      refine ao4 (hρ c hc) ?_
      by_cases e1:c=br
      ·subst e1;exact f4 _ (by rw[N3.1];simp)
      ·by_cases e2:c=bw
       ·subst e2;exact f4 _ (by obtain⟨o,ho⟩:=r3.has;rw[ho];simp)
       ·by_cases e3:c=bn
        ·subst e3;exact f4 _ (hσ3 _ (by rw[hb];simp) e2)
        ·cases ho:σ c with
         | none=>exact u9 ho hc
         | some o=>exact f4 _ (hσ3 _ (by rw[hkp c o e1 e2 e3 ho];simp) e2)
     ·intro g hgz
      rw[z1]at hgz;cases hgz
      exact⟨ao4 q1 q2,q3⟩
     ·intro c o c1 c2 c3 ho
      refine kA c o (fun e=>by subst e;rw[q3]at ho;cases ho) c3 (g48.get (k13 c o c1 c2 (hkp c o c1 c2 c3 ho)))
     ·rw[hkd]
      dsimp only
      cases U2 (L9 f) q r4 with
      | none=>rfl
      | some p=>obtain⟨l,r5⟩:=p;simp
    have hlen5:(O2 (t.named ⟨⟨rr.text.1⟩⟩) y).length=5:=rfl
    have hone1 : ∀u∈L5 (Value.agg ⟨[.string ⟨⟨rr.text.1⟩⟩,.int .i64 t.kind,.bool t.exec,.string t.data,.slice y.base y.len y.cap]⟩).cells,u.oneCell'=true:=by
     intro u hu
     have hu:u∈[Value.string ⟨⟨rr.text.1⟩⟩,.int .i64 t.kind,.bool t.exec,.string t.data,.slice y.base y.len y.cap]:=hu
     simp only[A5,List.mem_nil_iff,or_false]at hu
     rcases hu with rfl | rfl | rfl | rfl | rfl<;>rfl
    refine cp0 ?_ ?_
    ·refine ar1 z2 I2 (show rows.length * 5+5<=cur.length from z3') hone1 (.inl (A6 _)) ?_
     intro σA pA
     have ownA:=z5' (O2 (t.named ⟨⟨rr.text.1⟩⟩) y) σA hlen5 (by rw[hnd];exact pA)
     refine w4 (pA.get gbn b9) aN1 ?_
     intro σB pB
     rw[<-z1]at pB
     have NA:X5 σA br bw G (d+1) r4:=⟨pA.get gbr N9.1,N9.2.1.keepG (fun o ho=>pA.get gbw ho) (fun hne o ho=>pA.get (hGg hne) ho),h3⟩
     exact fin σB (NA.nd (pA.get gbn b9) n1 n2 fun c o hc ho=>pB.get hc ho) pB.same (ownA.put pB (by rw[z1];intro e;cases e;exact gbn rfl)) ((q4.putF pA q1).putF pB (hρ _ sbn)) ((q5.putF pA q2).putF pB tbn) (fun c o c1 c2 ho=>pB.get c2 (pA.get c1 (q6 c o c1 ho)))
    ·refine w4 b9 aN1 ?_
     intro σA pA
     rw[<-z1]at pA
     refine ar1 (pA.get gbn.symm z2) I2 (show rows.length * 5+5<=cur.length from z3') hone1 (.inl (A6 _)) ?_
     intro σB pB
     have NA:X5 σA br bw G (d+1) r4:=N9.nd b9 n1 n2 fun c o hc ho=>pA.get hc ho
     have ownB:D8 σB 75 5 (rows++[O2 (t.named ⟨⟨rr.text.1⟩⟩) y]) z':=by
      have hS:=z5' (O2 (t.named ⟨⟨rr.text.1⟩⟩) y) _ hlen5 (L6.intro σ9 g' _)
      refine hS.keep fun g o hgz ho => ?_
      rw[z1]at hgz;cases hgz
      rw[H.put_same]at ho;cases ho
      rw[hnd];exact pB.same
     exact fin σB ⟨pB.get gbr NA.1,NA.2.1.keepG (fun o ho=>pB.get gbw ho) (fun hne o ho=>pB.get (hGg hne) ho),h3⟩ (pB.get gbn pA.same) ownB ((q4.putF pA (hρ _ sbn)).putF pB q1) ((q5.putF pA tbn).putF pB q2) (fun c o c1 c2 ho=>pB.get c1 (pA.get c2 (q6 c o c1 ho)))
  exact key r.num.1.toNat 0 r.num.2 [] σ2 (fun _=>none) ⟨none,0,0⟩ [] (by omega) rfl N2 (by omega) b2 (D8.nil _ _ _) trivial (ah5 _) (fun _ _=>rfl) (fun g h=>by cases h) (fun c o c1 c2 c3 ho=>p2.get c1 (k1 c o c2 ho)) (by cases U2 (L9 f) r.num.1.toNat r.num.2 with | none=>rfl | some p=>obtain⟨l,r5⟩:=p;rfl)
 intro j hj
 refine G8 (fun hm => ?_) (fun hm => ?_)
 ·refine i6 (E9 (f0 a1) (Z3 _ (fun _=>hj (by have:=E6 hm;omega)) (fun hm => ?_)))
  have:=J0 hm;omega
 ·refine Z3 _ (fun hm=>by cases hm) (fun _=>hX (.inl (by have:=J0 hm;omega)) σ1 fun c o _ c2 _ ho=>k1 c o c2 ho)
theorem aN9:Tryz.prog.underlying 155=some (.map 3 153):=by kernel_rfl
theorem bF7:I3 Tryz.prog 125=true:=by kernel_rfl
theorem bF8:I3 Tryz.prog 126=true:=by kernel_rfl
theorem bi4:I3 Tryz.prog 127=true:=by kernel_rfl
theorem bq5:aG2 125 ap3=true:=by kernel_rfl
theorem bq6:aG2 126 ap3=false:=by kernel_rfl
theorem aV4:aG2 127 ap3=true:=by kernel_rfl
theorem cv6 : ∀f:Nat,aZ9 f:=by
 have step : ∀f:Nat,(∀g,f=g+1->aZ9 g)->aZ9 f:=by
  intro f ih r σ br bw G d h hd hd0 hl K X hX hK
  refine c83 _ ?_
  unfold g83
  refine x0 ?_;intro b2 σ1 g1 e1 m1
  have N1:=h.gr g1
  refine i6 (aH8 (f0 N1.1) (i7 (aN7 N1.2.1 (by omega) ?_)))
  intro σ2 r2 k2
  have hnl:=B5 r
  have hrg:0<=r.num.1:=(ae4 (r.take (ak8 r.left)).1).1
  have n2r:b2≠br:=(o0 h.1 m1).symm
  have n2w:b2≠bw:=by obtain⟨o,ho⟩:=h.2.1.has;exact(o0 ho m1).symm
  refine B6 (Z3 _ (fun hm => ?_) (fun hm => ?_))
  case refine_2 =>
   refine hX ?_ σ2 fun c o c1 c2 ho=>k2 c o c2 (g1.get ho)
   have hm:=J0 hm
   have x1:(r.num.1==1)=false:=by simp;omega
   have x3:(r.num.1==3)=false:=by simp;omega
   have x2:(r.num.1==2)=false:=by simp;omega
   cases f with
   | zero=>simp[L9,x1,x3]
   | succ f=>simp[L9,x1,x3,x2]
  have hm:=E6 hm
  refine x0 ?_;intro b7 σ3 g3 e3 m3
  rw[n0 (x:=r.num.1) (by omega) (by omega)]
  refine w4 e3 I2 ?_
  intro σ4 p4
  have N2:X5 σ2 br bw G d r.num.2:=⟨k2 _ _ h.2.2 N1.1,r2,h.2.2⟩
  have G24:Gr σ2 σ4:=((Gr.refl σ2).trans g3).putF p4 m3
  refine x0 ?_;intro b8 σ5 g5 e5 m5
  have m0:I6 σ5 b8 (M6 kkI (fun v:Value=>v) []):=I6.new e5
  refine az4 (kk:=kkI) (f:=fun v:Value=>v) aN9 am1 m0 1 (mfn br 125) ?_
  intro o6 σ6 p6 m6
  refine az4 (kk:=kkI) (f:=fun v:Value=>v) aN9 am1 m6 3 (mfn br 126) ?_
  intro o7 σ7 p7 m7
  refine az4 (kk:=kkI) (f:=fun v:Value=>v) aN9 am1 m7 2 (mfn br 127) ?_
  intro o8 σ8 p8 m8
  have G48:Gr σ4 σ8:=P0 fun c o hc=>by
   have w:c≠b8:=o0 hc m5
   exact p8.get w (p7.get w (p6.get w (g5.get hc)))
  have G28:Gr σ2 σ8:=G24.trans G48
  have N8:=N2.gr G28
  have c8:σ8 b7=some (.cells ⟨nd r.num.1 false ⟨⟨[]⟩⟩ slN⟩ 75 (0,0)):=G48.get p4.same
  have n7r:b7≠br:=(o0 N2.1 m3).symm
  have n7w:b7≠bw:=by obtain⟨o,ho⟩:=r2.has;exact(o0 ho m3).symm
  have n72:b7≠b2:=(o0 (k2 _ _ n2w e1) m3).symm
  have e8:σ8 b2=some _:=G28.get (k2 _ _ n2w e1)
  have kk : ∀c o,c≠br->c≠bw->σ c=some o->σ8 c=some o/\c≠b7/\c≠b2:=fun c o c1 c2 ho=>⟨G28.get (k2 c o c2 (g1.get ho)),fun e=>(by subst e;rw[k2 _ _ c2 (g1.get ho)]at m3;cases m3),fun e=>(by subst e;rw[ho]at m1;cases m1)⟩
  refine E9 (f0 c8) ?_
  refine A3 (ao0 (kk:=kkI) (f:=fun v:Value=>v) m8 (.nilFunc) true r.num.1) ?_
  -- how it goes on when the node is read
  have fin : ∀ (t:Tr) (r':I7) (y:Sl) (σA τA:H),t.name=⟨⟨[]⟩⟩->X5 σA br bw G d r'->σA b7=some (.cells ⟨O2 t y⟩ 75 (0,0))->Kn3 br bw b7 σ8 σA->Gr τA σA->O1 τA t.kids y->(∀c,σ8 c≠none->τA c=none) ->
   (r'.lost=true->L9 f r=none)->(r'.lost=false->L9 f r=some (t,r')) ->
   j0 (some ⟨br,0,none⟩) (fun(b12 o13:Nat)=>l4 (s5 b12 o13) kP (fun(x14:Option Addr)=>d8 128 [.pointer x14] kB (fun(x15:Bool) =>
    D6 81 [.bool x15] kU (l4 (rdA 5 b7 0) (.one (.agg [.str,(.int .i64),.bool,.str,.slc])) (fun(x16:ByteArray) (x17:Int) (x18:Bool) (x19:ByteArray) (x20:Sl) =>
     t8 75 (.pointer (some ⟨b2,0,none⟩)) (.agg ⟨[.string x16,.int .i64 x17,.bool x18,.string x19,.slice x20.base x20.len x20.cap]⟩) (l4 (rdA 5 b2 0) (.one (.agg [.str,(.int .i64),.bool,.str,.slc])) (fun(r21:ByteArray) (r22:Int) (r23:Bool) (r24:ByteArray) (r25:Sl) =>
      K (.agg ⟨[.string r21,.int .i64 r22,.bool r23,.string r24,.slice r25.base r25.len r25.cap]⟩))))) X))) σA:=by
   intro t r' y σA τA htn NA cA kA gA sA fA hl1 hl2
   have keepA:Kn br bw σ σA:=fun c o c1 c2 ho=>kA c o c1 c2 (kk c o c1 c2 ho).2.1 (kk c o c1 c2 ho).1
   refine i6 (aH8 (f0 NA.1) (i7 (cn2 NA.2.1 (y7 ?_))))
   refine Z3 _ (fun hm => ?_) (fun hm => ?_)
   ·refine A3 (l7 cA) ?_
    unfold O2
    (refine k0 rfl ?_;try dsimp only)
    refine w4 (kA _ _ n2r n2w n72.symm e8) I2 ?_
    intro σB pB
    refine A3 (l7 pB.same) ?_
    (refine k0 rfl ?_;try dsimp only)
    have τb2:τA b2=none:=fA _ (by rw[e8];simp)
    have hlo:r'.lost=false:=by cases hh:r'.lost with | false=>rfl | true=>rw[hh]at hm;cases hm
    have:=hK t r' (hl2 hlo) y σB τA ?_ ?_ (gA.putF pB τb2) sA ?_
    ·unfold O2 at this;exact this
    ·exact X5.nd (k:=0) (ex:=false) (dt:=⟨⟨[]⟩⟩) (y:=slN) NA (kA _ _ n2r n2w n72.symm e8) n2r n2w fun c o hc ho=>pB.get hc ho
    ·exact fun c o c1 c2 ho=>pB.get (kk c o c1 c2 ho).2.2 (keepA c o c1 c2 ho)
    ·intro c hc
     refine fA c ?_
     by_cases e1:c=br
     ·subst e1;rw[N8.1];simp
     ·by_cases e2:c=bw
      ·subst e2;obtain⟨o,ho⟩:=N8.2.1.has;rw[ho];simp
      ·cases ho:σ c with
       | none=>exact u9 ho hc
       | some o=>rw[(kk c o e1 e2 ho).1];simp
   ·refine hX (hl1 ?_) σA keepA
    cases hh:r'.lost with | true=>rfl | false=>rw[hh]at hm;cases hm
  by_cases h1:r.num.1=1
  ·have hlk:lk r.num.1 (up (2:Int) (mfn br 127) (up 3 (mfn br 126) (up 1 (mfn br 125) [])))=some (mfn br 125):=by rw[h1];rfl
   rw[hlk]
   have hP:L9 f r=Z8 r.num.2:=by cases f<;>simp[L9,h1]
   refine k0 rfl ?_
   dsimp only
   refine Z3 _ (fun _ => ?_) (fun hm=>by cases hm)
   refine au4 bq5 bF7 (bT3 N8 (by omega) c8 n7r n7w (fun hb σA kA=>hX (by rw[hP];unfold Z8;rw[d9 hb]) σA fun c o c1 c2 ho=>kA c o c1 c2 (kk c o c1 c2 ho).2.1 (kk c o c1 c2 ho).1) fun hb σA NA cA kA=>O9 ?_)
   refine fin (.mk ⟨⟨[]⟩⟩ 1 (r.num.2.num.1==1) ⟨⟨r.num.2.num.2.text.1⟩⟩ []) r.num.2.num.2.text.2 slN σA (fun _=>none) rfl NA (by rw[h1]at cA;exact cA) kA (ah5 _) ⟨rfl,.inl rfl⟩ (fun _ _=>rfl) (fun hlo => ?_) (fun hlo => ?_)
   ·rw[hP];unfold Z8;rw[c0 hb,d9 hlo]
   ·rw[hP];unfold Z8;rw[c0 hb,c0 (by rw[hlo];simp)]
  by_cases h3:r.num.1=3
  ·have hlk:lk r.num.1 (up (2:Int) (mfn br 127) (up 3 (mfn br 126) (up 1 (mfn br 125) [])))=some (mfn br 126):=by rw[h3];rfl
   rw[hlk]
   have hP:L9 f r=ab6 r.num.2:=by cases f<;>simp[L9,h3]
   refine k0 rfl ?_
   dsimp only
   refine Z3 _ (fun _ => ?_) (fun hm=>by cases hm)
   refine bN2 bq6 bF8 (bT4 N8 (by omega) c8 n7r n7w fun σA NA cA kA=>O9 ?_)
   refine fin (.mk ⟨⟨[]⟩⟩ 3 false ⟨⟨r.num.2.text.1⟩⟩ []) r.num.2.text.2 slN σA (fun _=>none) rfl NA (by rw[h3]at cA;exact cA) kA (ah5 _) ⟨rfl,.inl rfl⟩ (fun _ _=>rfl) (fun hlo => ?_) (fun hlo => ?_)
   ·rw[hP];unfold ab6;rw[d9 hlo]
   ·rw[hP];unfold ab6;rw[c0 (by rw[hlo];simp)]
  by_cases h2:r.num.1=2
  ·have hlk:lk r.num.1 (up (2:Int) (mfn br 127) (up 3 (mfn br 126) (up 1 (mfn br 125) [])))=some (mfn br 127):=by rw[h2];rfl
   rw[hlk]
   refine k0 rfl ?_
   dsimp only
   refine Z3 _ (fun _ => ?_) (fun hm=>by cases hm)
   cases f with
   | zero =>
    have hd13:d=13:=by omega
    subst hd13
    refine au4 aV4 bi4 (bT5 (bn:=b7) N8 (by omega) fun σA kA=>hX (by simp[L9,h2]) σA fun c o c1 c2 ho=>kA c o c1 c2 (kk c o c1 c2 ho).2.1 (kk c o c1 c2 ho).1)
   | succ f =>
    have hP:L9 (f+1) r=al2 (L9 f) r.num.2:=by simp[L9,h2]
    refine au4 aV4 bi4 (cg5 f (ih f rfl) N8 (by omega) hd0 (by omega) c8 n7r n7w (fun hb σA kA=>hX ?_ σA fun c o c1 c2 ho=>kA c o c1 c2 (kk c o c1 c2 ho).2.1 (kk c o c1 c2 ho).1) fun hb l r' hkd y σA τA NA cA kA gA sA fA=>O9 ?_)
    ·rw[hP];unfold al2
     by_cases hb2:r.num.2.num.1>2000
     ·rw[d9 hb2]
     ·rw[c0 hb2]
      rcases hb with hb | hb
      ·exact u9 hb hb2
      ·rw[hb]
    ·refine fin (.mk ⟨⟨[]⟩⟩ 2 false ⟨⟨[]⟩⟩ l) r' y σA τA rfl NA (by rw[h2]at cA;exact cA) kA gA sA fA (fun hlo => ?_) (fun hlo => ?_)
     ·rw[hP];unfold al2;rw[c0 hb,hkd];simp[hlo]
     ·rw[hP];unfold al2;rw[c0 hb,hkd];simp[hlo]
  ·have hlk : lk r.num.1 (up (2 : Int) (mfn br 127) (up 3 (mfn br 126) (up 1 (mfn br 125) []))) = none := by
    have h0:r.num.1=0:=by omega
    rw[h0];rfl
   rw[hlk]
   refine k0 rfl ?_
   dsimp only
   refine Z3 _ (fun hm=>by cases hm) (fun _=>hX ?_ σ8 fun c o c1 c2 ho=>(kk c o c1 c2 ho).1)
   have x1:(r.num.1==1)=false:=by simp;omega
   have x3:(r.num.1==3)=false:=by simp;omega
   have x2:(r.num.1==2)=false:=by simp;omega
   cases f with
   | zero=>simp[L9,x1,x3]
   | succ f=>simp[L9,x1,x3,x2]
 intro f
 induction f with
 | zero=>exact step 0 fun g h=>by cases h
 | succ f ih=>exact step (f+1) fun g h=>by cases h;exact ih
theorem cg6 (x:Nat) (w:World):(do eqGuard .neq 20 (.tmp x) (.const .nilIface) .nilIface .nilIface;binOp .neq 20 .nilIface .nilIface:Sem Value).run Tryz.prog w = .ok (.bool false) w:=by kernel_rfl
theorem bF9 (x y:Operand) (w:World):(do eqGuard .neq 20 x y ai1 .nilIface;binOp .neq 20 ai1 .nilIface:Sem Value).run Tryz.prog w = .ok (.bool true) w:=by kernel_rfl
theorem bT6 (w:World):(Instr.typeAssert ai1 20 100 true).run Tryz.prog w = .ok (.tuple ⟨[.agg ⟨[]⟩,.bool true]⟩) w:=by kernel_rfl
theorem bT7:sizeT Tryz.prog 100=some 0:=by kernel_rfl
theorem aV5:sizeT Tryz.prog 70=some 1:=by kernel_rfl
section
variable {σ : H} {b2 b3 : Nat}
theorem bG0 {K:Md->H->Prop} (hK:K .ret σ):P9 79 [.pointer (some ⟨b2,0,none⟩),.pointer (some ⟨b3,0,none⟩)] .ret K σ:=by
 refine c79 _ _ _ ?_
 unfold g79
 refine as2 (v := .bool false) (fun w=>cg6 _ w) (y7 (k9 rfl hK))
theorem bG1 {K:Md->H->Prop} {l:List Value} {e:Value} (h2:σ b2=some (.cells ⟨l⟩ 75 (0,0))) (hl:l.length=5) (h3:σ b3=some (.cells ⟨[e]⟩ 70 (0,0))) (hne:b3≠b2)
 (hK:∀σ',σ' b2=some (.cells ⟨nd 0 false ⟨⟨[]⟩⟩ slN⟩ 75 (0,0))->σ' b3=some (.cells ⟨[.int .i64 4]⟩ 70 (0,0))->(∀c o,c≠b2->c≠b3->σ c=some o->σ' c=some o)->K .ret σ') :
 P9 79 [.pointer (some ⟨b2,0,none⟩),.pointer (some ⟨b3,0,none⟩)] (.pan ai1) K σ:=by
 refine c79 _ _ _ ?_
 unfold g79
 refine as2 (v := .bool true) (fun w=>bF9 _ _ w) (y7 (l3 rfl ?_))
 refine as2 (fun w=>bT6 w) (k0 rfl ?_)
 dsimp only
 refine x0 ?_;intro b5 σ1 g1 e1 m1
 refine w4 e1 bT7 ?_
 intro σ2 p2
 have g2:Gr σ σ2:=g1.putF p2 m1
 obtain⟨v1,v2,v3,v4,v5,rfl⟩ : ∃v1 v2 v3 v4 v5,l=[v1,v2,v3,v4,v5]:=by
  match l,hl with
  | [v1,v2,v3,v4,v5],_=>exact⟨v1,v2,v3,v4,v5,rfl⟩
 refine k9 rfl (w4 (g2.get h2) I2 ?_)
 intro σ3 p3
 refine w4 (p3.get hne (g2.get h3)) aV5 ?_
 intro σ4 p4
 exact hK σ4 (p4.get hne.symm p3.same) p4.same fun c o c1 c2 ho=>p4.get c2 (p3.get c1 (g2.get ho))
end
theorem K1 (a b:List UInt8):B8 ⟨⟨a⟩⟩ ⟨⟨b⟩⟩=(a==b):=by
 rw[J5,P8,beq_iff_eq]
 exact⟨fun h=>by injection h with h;injection h,fun h=>by rw[h]⟩
theorem ba0 (s:List UInt8) (hs:s.length<=1000000) {σ:H} {K:KH} (hK:∀y σ',Gr σ σ'->O1 σ' (T9 s).1.kids y->K (.tuple ⟨[.agg ⟨O2 (T9 s).1 y⟩,.int .i64 (T9 s).2]⟩) σ'):a8 53 [.string ⟨⟨s⟩⟩] K σ:=by
 refine ac5.ret (X:=fun _ _=>False) (c53 _ ?_)
 unfold g53
 refine x0 ?_;intro b2 σ1 g1 e1 m1
 refine x0 ?_;intro b3 σ2 g2 e2 m2
 have c2:=g2.get e1
 have n32:b3≠b2:=(o0 e1 m2).symm
 refine i7 (cu5 s (by omega) ?_)
 intro b4 G σ3 g3 m4 r3
 refine bu6 (x0 ?_);intro b5 σ4 g4 e4 m5
 have h24:Gr σ2 σ4:=g3.trans g4
 have n54:b5≠b4:=by obtain⟨o,ho⟩:=r3.has;exact(o0 ho m5).symm
 have N4:X5 σ4 b5 b4 G 0 ⟨s,false⟩:=⟨e4,r3.keep fun c o hc=>g4.get hc,n54⟩
 have n25:b2≠b5/\b2≠b4/\b3≠b5/\b3≠b4:=⟨o0 (g3.get c2) m5,o0 c2 m4,o0 (g3.get e2) m5,o0 e2 m4⟩
 have old : ∀c o,σ c=some o->σ4 c=some o/\c≠b2/\c≠b3/\c≠b4/\c≠b5:=fun c o ho=>by
  have q1:=g1.get ho
  have q2:=g2.get q1
  exact⟨h24.get q2,o0 ho m1,o0 q1 m2,o0 q2 m4,o0 (g3.get q2) m5⟩
 have bad:ab7 s=none -> ∀ (σ':H) (l:List Value) (X:Value->H->Prop),σ' b2=some (.cells ⟨l⟩ 75 (0,0))->l.length=5->σ' b3=some (.cells ⟨[.int .i64 0]⟩ 70 (0,0))->Gr σ σ' ->
  P9 79 [.pointer (some ⟨b2, 0, none⟩), .pointer (some ⟨b3, 0, none⟩)] (.pan ai1) (mdK (l4 (rdA 5 b2 0) (.one (.agg [.str, (.int .i64), .bool, .str, .slc])) (fun (r56 : ByteArray) (r57 : Int) (r58 : Bool) (r59 : ByteArray) (r60 : Sl) =>
                  l4 (s5 b3 0) kI (fun(r61:Int) =>
                  K (.tuple ⟨[.agg ⟨[.string r56,.int .i64 r57,.bool r58,.string r59,.slice r60.base r60.len r60.cap]⟩,.int .i64 r61]⟩)))) X) σ':=by
  intro hd σ' l X h2 hl h3 hg
  refine bG1 h2 hl h3 n32 fun σ'' q2 q3 q4 => ?_
  show l4 _ _ _ _
  refine A3 (l7 q2) ?_
  (refine k0 rfl ?_;try dsimp only)
  refine E9 (f0 q3) ?_
  have:=hK slN σ'' (P0 fun c o ho=>q4 c o (old c o ho).2.1 (old c o ho).2.2.1 (hg.get ho)) (by unfold T9;rw[hd];exact⟨rfl,.inl rfl⟩)
  unfold T9 at this
  rw[hd]at this
  exact this
 refine aH8 (f0 e4) (i7 (aJ4 N4.2.1 (by show s.length<=_;omega) ?_))
 intro σ5 r5 k5
 have hd0:ab7 s=if(I7.mk s false).text.1=J8 then match L9 13 (I7.mk s false).text.2 with
  | none=>none
  | some (t,r)=>if !r.lost&&r.left.isEmpty&&((D1 t).2==0&&(D1 t).1==s)then some t else none
  else none:=rfl
 have htl:=P2 ⟨s,false⟩
 have htl:(I7.mk s false).text.2.left.length<=s.length:=htl
 generalize hr5:(I7.mk s false).text=T at *
 have N5:X5 σ5 b5 b4 G 0 T.2:=⟨k5 _ _ n54 N4.1,r5,n54⟩
 have k45:Kn b5 b4 σ4 σ5:=fun c o _ c2 ho=>k5 c o c2 ho
 have d2:=k5 _ _ n25.2.1 (h24.get c2)
 have d3:=k5 _ _ n25.2.2.2 (h24.get e2)
 have gKn : ∀σ',Kn b5 b4 σ5 σ'->Gr σ σ':=fun σ' hk=>P0 fun c o ho=>hk c o (old c o ho).2.2.2.2 (old c o ho).2.2.2.1 (k5 c o (old c o ho).2.2.2.1 (old c o ho).1)
 refine I1 ?_
 rw[K1]
 refine Z3 _ (fun hm => ?_) (fun hm=>bad (by rw[hd0,c0 (by intro e;rw[e]at hm;simp[J8]at hm)]) σ5 _ _ d2 rfl d3 (gKn σ5 fun _ _ _ _ h=>h))
 have hmg:T.1=J8:=by have:=eq_of_beq hm;exact this
 rw[d9 hmg]at hd0
 refine au3 (cv6 13 T.2 N5 (by decide) (by decide) (by omega) ?_ ?_)
 ·intro hnone σ6 k6
  exact bad (by rw[hd0,hnone]) σ6 _ _ (k6 _ _ n25.1 n25.2.1 d2) rfl (k6 _ _ n25.2.2.1 n25.2.2.2 d3) (gKn σ6 k6)
 intro t r' hsome y σ6 τ6 N6 k6 g6 s6 f6
 rw[hsome]at hd0
 dsimp only at hd0
 unfold O2
 (refine k0 rfl ?_;try dsimp only)
 have htot:=aG5 13 _ _ _ hsome
 have G6:=gKn σ6 k6
 have d62:=k6 _ _ n25.1 n25.2.1 d2
 have d63:=k6 _ _ n25.2.2.1 n25.2.2.2 d3
 refine w4 d62 I2 ?_
 intro σ7 p7
 have s7:O1 σ7 t.kids y:=s6.gr (g6.putF p7 (f6 _ (by rw[d2];simp)))
 have c7:σ7 b2=some (.cells ⟨O2 t y⟩ 75 (0,0)):=p7.same
 have N7:X5 σ7 b5 b4 G 0 r':=X5.nd (k:=0) (ex:=false) (dt:=⟨⟨[]⟩⟩) (y:=slN) N6 d62 n25.1 n25.2.1 fun c o hc ho=>p7.get hc ho
 have G7:Gr σ σ7:=G6.putF p7 m1
 have d73:=p7.get n32 d63
 refine A3 (l7 c7) ?_
 unfold O2
 (refine k0 rfl ?_;try dsimp only)
 refine i7 (aZ8 t y s7 (by omega) ?_)
 refine k0 rfl ?_
 dsimp only
 refine S9 (fun j=>ab7 s=some t->j (some ⟨b2,0,none⟩) (some ⟨b3,0,none⟩) σ7) ?_ ?_
 ·intro hdec
  refine i6 (A3 (l7 c7) ?_)
  unfold O2
  (refine k0 rfl ?_;try dsimp only)
  refine w4 c7 I2 ?_
  intro σ8 p8
  refine w4 (p8.get n32 d73) aV5 ?_
  intro σ9 p9
  refine bG0 ?_
  have c9:σ9 b2=some (.cells ⟨O2 t y⟩ 75 (0,0)):=p9.get n32.symm p8.same
  have g69:Gr τ6 σ9:=((g6.putF p7 (f6 _ (by rw[d2];simp))).putF p8 (f6 _ (by rw[d2];simp))).putF p9 (f6 _ (by rw[d3];simp))
  have m3:σ b3=none:=C3 g1 m2
  have:=hK y σ9 ((G7.putF p8 m1).putF p9 m3) (by unfold T9;rw[hdec];exact s6.gr g69)
  unfold T9 at this
  rw[hdec]at this
  show j0 _ _ _
  refine i6 (A3 (l7 c9) ?_)
  unfold O2
  (refine k0 rfl ?_;try dsimp only)
  refine i6 (E9 (f0 p9.same) ?_)
  unfold O2 at this
  exact this
 intro j hj
 refine aH8 (f0 N7.1) (i7 (cu7 N7.2.1 (y7 ?_)))
 refine G8 (fun h1 => ?_) (fun h1 => ?_)
 ·rw[h1,C4]at hd0
  refine G8 (fun h2 => ?_) (fun h2 => ?_)
  ·rw[h2,C4]at hd0
   rw[K1]
   refine Z3 _ (fun hm=>hj (by rw[hd0,hm];rfl)) (fun hm=>bad (by rw[hd0,hm];rfl) σ7 _ _ c7 rfl d73 G7)
  ·rw[h2,H4]at hd0
   exact Z3 _ (fun hm=>by cases hm) (fun hm=>bad (by rw[hd0];rfl) σ7 _ _ c7 rfl d73 G7)
 ·rw[h1,H4]at hd0
  exact Z3 _ (fun hm=>by cases hm) (fun hm=>bad (by rw[hd0];rfl) σ7 _ _ c7 rfl d73 G7)
def U4 (p:B4) (y:Sl):List Value:=[.string p.path,.slice y.base y.len y.cap,.string p.nar,.string p.drv]
def T7 (σ:H):List B4->List (List Value)->Prop
 | [],[]=>True
 | p::ps,r::rs=>(∃y,r=U4 p y/\w7 σ 1 (n9 p.refs) y)/\T7 σ ps rs
 | _,_=>False
def am2 (σ:H) (ps:List B4) (x:Sl):Prop := ∃rows,w7 σ 4 rows x/\T7 σ ps rows
theorem T7.gr {σ σ':H} (hg:Gr σ σ') : ∀ {ps:List B4} {rows:List (List Value)},T7 σ ps rows->T7 σ' ps rows:=by
 intro ps
 induction ps with
 | nil=>intro rows h;cases rows<;>exact h
 | cons p ps ih =>
  intro rows h
  cases rows with
  | nil=>exact h.elim
  | cons r rows=>exact⟨h.1.imp fun y hy=>⟨hy.1,hy.2.gr hg⟩,ih h.2⟩
theorem T7.len {σ:H} : ∀ {ps:List B4} {rows:List (List Value)},T7 σ ps rows->rows.length=ps.length:=by
 intro ps
 induction ps with
 | nil=>intro rows h;cases rows with | nil=>rfl | cons r rows=>exact h.elim
 | cons p ps ih =>
  intro rows h
  cases rows with
  | nil=>exact h.elim
  | cons r rows=>simp[ih h.2]
theorem T7.get {σ:H} : ∀ {ps:List B4} {rows:List (List Value)} {i:Nat} {p:B4},T7 σ ps rows->ps[i]? = some p -> ∃y,rows[i]? = some (U4 p y)/\w7 σ 1 (n9 p.refs) y:=by
 intro ps
 induction ps with
 | nil=>intro rows i p _ h;simp at h
 | cons q ps ih =>
  intro rows i p h hi
  cases rows with
  | nil=>exact h.elim
  | cons r rows =>
   cases i with
   | zero=>simp at hi;subst hi;obtain⟨y,h1,h2⟩:=h.1;exact⟨y,by simp[h1],h2⟩
   | succ i=>simp at hi;simpa using ih h.2 hi
theorem am2.gr {σ σ':H} {ps:List B4} {x:Sl} (h:am2 σ ps x) (hg:Gr σ σ'):am2 σ' ps x:=by
 obtain⟨rows,h1,h2⟩:=h;exact⟨rows,h1.gr hg,h2.gr hg⟩
theorem am2.len {σ:H} {ps:List B4} {x:Sl} (h:am2 σ ps x):x.len=ps.length:=by
 obtain⟨rows,h1,h2⟩:=h;rw[h1.1,h2.len]
theorem am2.get {σ:H} {ps:List B4} {x:Sl} (h:am2 σ ps x) {i:Nat} {p:B4} (hi:ps[i]? = some p) : ∃g o y,x.base=some ⟨g,o,none⟩/\i<x.len/\rdA 4 g (o+i * 4) σ=some (.agg ⟨U4 p y⟩)/\w7 σ 1 (n9 p.refs) y:=by
 have hl:=h.len
 obtain⟨rows,h1,h2⟩:=h
 obtain⟨y,h3,h4⟩:=h2.get hi
 obtain⟨g,o,q1,q2,q3⟩:=h1.rdA h3 (by decide)
 have hlt:i<ps.length:=by
  rcases F6 i ps.length with h | h
  ·exact h
  ·rw[L4 h]at hi;cases hi
 exact⟨g,o,y,q1,by omega,q2,h4⟩
theorem P7 {α:Type} {l r:List α} {i:Nat} {d:α} (h:l.drop i=d::r):l[i]? = some d/\i<l.length/\l.drop (i+1)=r:=by
 have h1:l[i]? = some d:=by rw[<-Nat.add_zero i,<- List.getElem?_drop,h];rfl
 have h2:i<l.length:=by
  rcases F6 i l.length with h | h
  ·exact h
  ·rw[L4 h]at h1;cases h1
 refine⟨h1,h2,?_⟩
 rw[ac6 h1]at h;injection h
section
variable {σ : H} {K : KH}
theorem aE4 {l:List ByteArray} {x:Sl} (hx:w7 σ 1 (n9 l) x) (hn:l.length<=1000000000) (hK:K (.bool (E5 l)) σ):a8 43 [.slice x.base x.len x.cap] K σ:=by
 refine c43 _ ?_
 unfold g43
 have hl:=ac4 hx
 refine u5 ?_
 intro R hR
 have key : ∀ (r:List ByteArray) (i:Nat) (a:ByteArray),l.drop i=a::r->E5 l=E5 (a::r)->R x ((i:Int)+1) σ:=by
  intro r
  induction r with
  | nil =>
   intro i a hd he
   obtain⟨h1,h2,h3⟩:=P7 hd
   have h4:l.length<=i+1:=by simpa using h3
   refine hR _ _ _ (k9 (by rw[hl];exact J6) ?_)
   have:E5 l=true:=by rw[he];rfl
   rw[this]at hK;exact hK
  | cons b r ih =>
   intro i a hd he
   obtain⟨h1,h2,h3⟩:=P7 hd
   obtain⟨h4,h5,h6⟩:=P7 h3
   obtain⟨g,o,q1,q2,q3⟩:=U7 hx h1
   obtain⟨g',o',p1,p2,p3⟩:=U7 hx h4
   rw[q1]at p1;injection p1 with p1;injection p1 with ea eb;subst ea;subst eb
   refine hR _ _ _ (l3 (by rw[hl];exact C8) ?_)
   rw[q1,n0 (x:=(i:Int)+1 - 1) (by omega) (by omega),show(i:Int)+1 - 1=(i:Int)by omega]
   refine i6 (l5 (L1 x.len) (y8 q3 ?_))
   refine i6 (l5 (L1 x.len) (y8 (by rw[show((i:Int)+1).toNat=i+1 by omega];exact p3) ?_))
   cases hb:E4 a b with
   | false =>
    have:E5 l=false:=by rw[he];simp[E5,hb]
    rw[this]at hK
    exact l3 rfl hK
   | true =>
    refine k9 rfl ?_
    rw[n0 (by omega) (by omega)]
    have:=ih (i+1) b h3 (by rw[he];simp[E5,hb])
    rw[show((i+1:Nat):Int)+1=(i:Int)+1+1 by omega]at this
    exact this
 cases hd:l with
 | nil =>
  refine hR _ _ _ (k9 (by rw[hl,hd];rfl) ?_)
  rw[hd]at hK;exact hK
 | cons a r=>exact key r 0 a (by rw[hd];rfl) (by rw[hd])
theorem aO0 (s:ByteArray) (hs:s.size<=1000000) (hK:K (.bool (C6 s)) σ):a8 46 [.string s] K σ:=by
 refine c46 _ ?_
 unfold g46
 obtain⟨⟨s⟩⟩:=s
 refine i7 (av3 s (by have:(⟨⟨s⟩⟩:ByteArray).size=s.length:=rfl;omega) (k0 rfl ?_))
 exact hK
theorem bi5 (s:ByteArray) (hs:s.size<=1000000) (hK:K (.bool (!C6 s)) σ):a8 48 [.string s] K σ:=by
 refine c48 _ ?_
 unfold g48
 exact i7 (aO0 s hs (y7 hK))
def dg7 (ρ:H) (v:Value) (l:List ByteArray) (f:ByteArray->Bool):Prop := ∀s∈l,∀ (σ':H) (K:KH),Gr ρ σ'->K (.bool (f s)) σ'->u7 Tryz.prog v [.string s] K σ'
def dg8 (ρ:H) (v:Value) (l:List B4) (f:B4->Bool):Prop := ∀p∈l,∀ (y:Sl) (σ':H) (K:KH),Gr ρ σ'->w7 σ' 1 (n9 p.refs) y->K (.bool (f p)) σ'->u7 Tryz.prog v [.agg ⟨U4 p y⟩] K σ'
theorem as6 {l:List ByteArray} {x:Sl} {v:Value} {f:ByteArray->Bool} (hx:w7 σ 1 (n9 l) x) (hv:dg7 σ v l f) (hn:l.length<=1000000000) (hK:K (.bool (l.any f)) σ):a8 47 [.slice x.base x.len x.cap,v] K σ:=by
 refine c47 _ _ ?_
 unfold g47
 refine i7 (c78 _ _ ?_)
 unfold g78
 have hl:=ac4 hx
 refine u5 ?_
 intro R hR
 have key : ∀ (r:List ByteArray) (i:Nat),l.drop i=r->l.any f=r.any f->R x v ((x.len:Nat):Int) (i:Int) σ:=by
  intro r
  induction r with
  | nil =>
   intro i hd he
   have h4:l.length<=i:=by simpa using hd
   refine hR _ _ _ _ _ (k9 (by rw[hl];exact J6) (B6 ?_))
   rw[he]at hK;exact hK
  | cons a r ih =>
   intro i hd he
   obtain⟨h1,h2,h3⟩:=P7 hd
   obtain⟨g,o,q1,q2,q3⟩:=U7 hx h1
   refine hR _ _ _ _ _ (l3 (by rw[hl];exact C8) ?_)
   rw[q1]
   refine i6 (l5 (L1 x.len) (y8 q3 ?_))
   refine ag3 (hv a (F7 h1) σ _ (Gr.refl σ) (y7 ?_))
   cases hb:f a with
   | true =>
    refine l3 rfl (B6 ?_)
    have:l.any f=decide ((i:Int)>=0):=by rw[he];simp[hb]
    rw[this]at hK;exact hK
   | false =>
    refine k9 rfl ?_
    rw[C7 (i:=i)]
    exact ih (i+1) h3 (by rw[he];simp[hb])
 exact key l 0 rfl rfl
theorem bT8 {l:List B4} {x:Sl} {v:Value} {f:B4->Bool} (hx:am2 σ l x) (hv:dg8 σ v l f) (hn:l.length<=1000000000) (hK:K (.bool (l.any f)) σ):a8 76 [.slice x.base x.len x.cap,v] K σ:=by
 refine c76 _ _ ?_
 unfold g76
 refine i7 (du6 _ _ ?_)
 unfold cI1
 have hl:=hx.len
 refine u5 ?_
 intro R hR
 have key : ∀ (r:List B4) (i:Nat),l.drop i=r->l.any f=r.any f->R x v ((x.len:Nat):Int) (i:Int) σ:=by
  intro r
  induction r with
  | nil =>
   intro i hd he
   have h4:l.length<=i:=by simpa using hd
   refine hR _ _ _ _ _ (k9 (by rw[hl];exact J6) (B6 ?_))
   rw[he]at hK;exact hK
  | cons a r ih =>
   intro i hd he
   obtain⟨h1,h2,h3⟩:=P7 hd
   obtain⟨g,o,y,q1,q2,q3,q4⟩:=hx.get h1
   refine hR _ _ _ _ _ (l3 (by rw[hl];exact C8) ?_)
   rw[q1]
   refine i6 (l5 (L1 x.len) (A3 q3 ?_))
   unfold U4
   (refine k0 rfl ?_;try dsimp only)
   refine ag3 (hv a (F7 h1) y σ _ (Gr.refl σ) q4 (y7 ?_))
   cases hb:f a with
   | true =>
    refine l3 rfl (B6 ?_)
    have:l.any f=decide ((i:Int)>=0):=by rw[he];simp[hb]
    rw[this]at hK;exact hK
   | false =>
    refine k9 rfl ?_
    rw[C7 (i:=i)]
    exact ih (i+1) h3 (by rw[he];simp[hb])
 exact key l 0 rfl rfl
end
theorem bG2:I3 Tryz.prog 77=true:=by kernel_rfl
theorem ba1:I3 Tryz.prog 45=true:=by kernel_rfl
theorem ba2:I3 Tryz.prog 48=true:=by kernel_rfl
theorem ba3:I3 Tryz.prog 49=true:=by kernel_rfl
theorem aR5:I3 Tryz.prog 50=true:=by kernel_rfl
theorem ba4:I3 Tryz.prog 51=true:=by kernel_rfl
theorem bi6:I3 Tryz.prog 52=true:=by kernel_rfl
theorem W5:sizeT Tryz.prog 38=some 4:=by kernel_rfl
theorem av5:sizeT Tryz.prog 55=some 3:=by kernel_rfl
theorem aO1:ElT Tryz.prog 23 9 1:=ax7 (by kernel_rfl) (by decide) (by kernel_rfl)
theorem cg7:Tryz.prog.underlying 53=some (.map 9 38):=by kernel_rfl
theorem af0:Tryz.prog.underlying 9=some .string:=by kernel_rfl
structure Sm (S:H9):Prop where
 np:S.paths.length<=1000000
 nr:S.roots.length<=1000000
 rt : ∀s∈S.roots,s.size<=1000000
 pa : ∀p∈S.paths,p.path.size<=1000000/\p.nar.size<=1000000/\p.drv.size<=1000000/\p.refs.length<=1000000 /\ ∀s∈p.refs,s.size<=1000000
abbrev bG3:=ByteArray×Sl×ByteArray×ByteArray
def ap4 (q:bG3):Value := .agg ⟨[.string q.1,.slice q.2.1.base q.2.1.len q.2.1.cap,.string q.2.2.1,.string q.2.2.2]⟩
def as7 (σ:H) (S:H9) (x1 x2:Sl) (m:Nat):Prop:=am2 σ S.paths x1/\w7 σ 1 (n9 S.roots) x2 /\ ∃l:List (ByteArray×bG3),I6 σ m (M6 kkS ap4 l) /\ ∀s,(lk s l).isSome=S.is s
theorem as7.gr {σ σ':H} {S:H9} {x1 x2:Sl} {m:Nat} (h:as7 σ S x1 x2 m) (hg:Gr σ σ'):as7 σ' S x1 x2 m:=by
 obtain⟨h1,h2,l,h3,h4⟩:=h
 exact⟨h1.gr hg,h2.gr hg,l,h3.gr hg,h4⟩
def lkV (x1 x2:Sl) (m:Nat):Value := .agg ⟨[.slice x1.base x1.len x1.cap,.slice x2.base x2.len x2.cap,.map (some m)]⟩
section
variable {σ : H} {K : KH} {S : H9} {x1 x2 : Sl} {m : Nat}
theorem aB0 {f:B4->Bool} {v:Value} (h:as7 σ S x1 x2 m) (hz:Sm S) (hv:dg8 σ v S.paths f) (hone:∀ (g:H->Prop) σ,g σ->F2 v g σ) (hone2:v.oneCell'=true) (hK:K (.bool (!(S.paths.any fun p => !f p))) σ):a8 44 [lkV x1 x2 m,v] K σ:=by
 refine B7 _ hK (c44 _ _ _ _ ?_)
 clear hK
 unfold g44
 refine x0 ?_;intro b5 σ1 g1 e1 n1
 refine hone _ _ ?_
 refine x0 ?_;intro b6 σ2 g2 e2 n2
 refine A7 (f0 (g2.get e1)) ?_
 have G2:=g1.trans g2
 refine i7 (bT8 (f:=fun p => !f p) (h.1.gr G2) ?_ (by have:=hz.np;omega) (y7 ⟨rfl,G2⟩))
 intro p hp y σ' K' hg hy hK'
 unfold u7
 simp only[bG2]
 refine B7 _ hK' (c77 _ _ _ _ _ ?_)
 unfold g77
 refine x0 ?_;intro b σ3 g3 e3 n3
 refine i6 (ag2 (f0 (g3.get (hg.get e2))) ?_)
 refine A3 (l7 e3) ?_
 (refine k0 rfl ?_;try dsimp only)
 exact ag3 (hv p hp y σ3 _ ((G2.trans hg).trans g3) (hy.gr g3) (y7 ⟨rfl,g3⟩))
theorem ba5 (s:ByteArray) (h:as7 σ S x1 x2 m) (hK:K (.bool (S.is s)) σ):a8 33 [lkV x1 x2 m,.string s] K σ:=by
 refine B7 _ hK (c33 _ _ _ _ ?_)
 clear hK
 unfold g33
 refine x0 ?_;intro b5 σ1 g1 e1 n1
 obtain⟨h1,h2,l,h3,h4⟩:=h.gr g1
 refine aL1 (f0 e1) ?_
 refine A3 (ao0 (kk:=kkS) h3 _ true s) ?_
 rw[h4]
 obtain⟨q,hq⟩ : ∃q:bG3,((lk s l).map ap4).getD (ap4 (⟨⟨[]⟩⟩,⟨none,0,0⟩,⟨⟨[]⟩⟩,⟨⟨[]⟩⟩))=ap4 q:=by
  cases lk s l with
  | none=>exact⟨_,rfl⟩
  | some q=>exact⟨q,rfl⟩
 show app _ _ (okV true (((lk s l).map ap4).getD (ap4 (⟨⟨[]⟩⟩,⟨none,0,0⟩,⟨⟨[]⟩⟩,⟨⟨[]⟩⟩))) (S.is s)) _
 rw[hq]
 show app _ _ (.tuple ⟨[ap4 q,.bool (S.is s)]⟩) _
 unfold ap4
 refine k0 rfl ?_
 dsimp only
 refine x0 ?_;intro b12 σ2 g2 e2 n2
 refine w4 e2 W5 ?_
 intro σ3 p3
 exact⟨rfl,(g1.trans g2).putF p3 (C3 g1 n2)⟩
theorem aO2 (h1:am2 σ S.paths x1) (h2:w7 σ 1 (n9 S.roots) x2) (hz:Sm S) (hK:∀m σ',Gr σ σ'->as7 σ' S x1 x2 m->K (lkV x1 x2 m) σ'):a8 23 [.agg ⟨[.slice x1.base x1.len x1.cap,.slice x2.base x2.len x2.cap]⟩] K σ:=by
 refine c23 _ _ ?_
 unfold g23
 refine x0 ?_;intro b3 σ1 g1 e1 n1
 refine x0 ?_;intro b4 σ2 g2 e2 n2
 refine A3 (l7 (g2.get e1)) ?_
 (refine k0 rfl ?_;try dsimp only)
 refine x0 ?_;intro b7 σ3 g3 e3 n3
 refine x0 ?_;intro b8 σ4 g4 e4 n4
 refine w4 e4 av5 ?_
 intro σ5 p5
 have g35:Gr σ3 σ5:=g4.putF p5 n4
 have m5:I6 σ5 b7 (M6 kkS ap4 []):=(I6.new e3).gr g35
 have G3:Gr σ σ3:=(g1.trans g2).trans g3
 have G5:Gr σ σ5:=G3.trans g35
 refine A7 (f0 (g35.get (g3.get (g2.get e1)))) ?_
 have n7:σ b7=none:=C3 (g1.trans g2) n3
 have n48:b4≠b8:=o0 (g3.get e2) n4
 have n47:b4≠b7:=o0 e2 n3
 have n87:b8≠b7:=(o0 e3 n4).symm
 have e45:=g35.get (g3.get e2)
 have hl:=h1.len
 have hnp:=hz.np
 refine u5 ?_
 intro R hR
 have key : ∀ (r:List B4) (i:Nat) (τ:H) (l:List (ByteArray×bG3)),S.paths.drop i=r->Gr σ τ->I6 τ b7 (M6 kkS ap4 l)->τ b8=some (.cells ⟨[.slice x1.base x1.len x1.cap,.slice x2.base x2.len x2.cap,.map (some b7)]⟩ 55 (0,0))->τ b4=some (.cells ⟨[.slice none 0 0,.slice none 0 0,.map none]⟩ 55 (0,0)) ->
  (∀s,S.is s=((lk s l).isSome||r.any fun p=>p.path==s))->R (some ⟨b4,0,none⟩) (some ⟨b8,0,none⟩) x1 ((x1.len:Nat):Int) (i:Int) τ:=by
  intro r
  induction r with
  | nil =>
   intro i τ l hd hg hm h8 h4 hs
   have h5:S.paths.length<=i:=by simpa using hd
   refine hR _ _ _ _ _ _ (k9 (by rw[hl];exact J6) ?_)
   refine i6 (A3 (l7 h8) ?_)
   (refine k0 rfl ?_;try dsimp only)
   refine w4 h4 av5 ?_
   intro τ1 p1
   refine i6 (A3 (l7 p1.same) ?_)
   (refine k0 rfl ?_;try dsimp only)
   have gp:Gr σ τ1:=hg.putF p1 (C3 g1 n2)
   exact hK b7 τ1 gp ⟨h1.gr gp,h2.gr gp,l,hm.put p1 n47.symm,fun s=>by rw[hs s];simp⟩
  | cons p r ih =>
   intro i τ l hd hg hm h8 h4 hs
   obtain⟨d1,d2,d3⟩:=P7 hd
   obtain⟨g,o,y,q1,q2,q3,q4⟩:=(h1.gr hg).get d1
   refine hR _ _ _ _ _ _ (l3 (by rw[hl];exact C8) ?_)
   have next : ∀ (τ':H) (l':List (ByteArray×bG3)),Gr σ τ'->I6 τ' b7 (M6 kkS ap4 l')->τ' b8=some (.cells ⟨[.slice x1.base x1.len x1.cap,.slice x2.base x2.len x2.cap,.map (some b7)]⟩ 55 (0,0))->τ' b4=some (.cells ⟨[.slice none 0 0,.slice none 0 0,.map none]⟩ 55 (0,0)) ->
    (∀s,((lk s l').isSome=((lk s l).isSome||p.path==s)))->R (some ⟨b4,0,none⟩) (some ⟨b8,0,none⟩) x1 ((x1.len:Nat):Int) (IntKind.i64.wrap ((i:Int)+1)) τ':=by
    intro τ' l' a1 a2 a3 a4 a5
    rw[C7 (i:=i)]
    exact ih (i+1) τ' l' d3 a1 a2 a3 a4 fun s=>by rw[hs s,a5 s];simp[Bool.or_assoc]
   refine j_d ?_
   rw[q1]
   refine i6 (l5 (L1 x1.len) (A3 q3 ?_))
   unfold U4
   (refine k0 rfl ?_;try dsimp only)
   refine x0 ?_;intro b28 τ1 k1 f1 w1
   refine w4 f1 W5 ?_
   intro τ2 p2
   have K2:Gr τ τ2:=k1.putF p2 w1
   refine i6 (aL1 (f0 (K2.get h8)) (y8 (f0 p2.same) ?_))
   refine A3 (ao0 (kk:=kkS) (hm.gr K2) _ true p.path) ?_
   obtain⟨q,hq⟩ : ∃q:bG3,((lk p.path l).map ap4).getD (ap4 (⟨⟨[]⟩⟩,⟨none,0,0⟩,⟨⟨[]⟩⟩,⟨⟨[]⟩⟩))=ap4 q:=by
    cases lk p.path l with
    | none=>exact⟨_,rfl⟩
    | some q=>exact⟨q,rfl⟩
   show app _ _ (okV true (((lk p.path l).map ap4).getD (ap4 (⟨⟨[]⟩⟩,⟨none,0,0⟩,⟨⟨[]⟩⟩,⟨⟨[]⟩⟩))) (lk p.path l).isSome) _
   rw[hq]
   show app _ _ (.tuple ⟨[ap4 q,.bool (lk p.path l).isSome]⟩) _
   unfold ap4
   refine k0 rfl ?_
   dsimp only
   refine x0 ?_;intro b38 τ3 k3 f3 w3
   refine w4 f3 W5 ?_
   intro τ4 p4
   have K4:Gr τ2 τ4:=k3.putF p4 w3
   have K24:=K2.trans K4
   refine G8 (fun hb => ?_) (fun hb => ?_)
   ·refine i6 (aL1 (f0 (K24.get h8)) (y8 (f0 (K4.get p2.same)) ?_))
    refine A3 (l7 (K4.get p2.same)) ?_
    (refine k0 rfl ?_;try dsimp only)
    refine az4 (kk:=kkS) (f:=ap4) cg7 af0 (hm.gr K24) p.path (p.path,y,p.nar,p.drv) ?_
    intro o5 τ5 p5' m5'
    refine next τ5 _ ((hg.trans K24).putF p5' n7) m5' (p5'.get n87 (K24.get h8)) (p5'.get n47 (K24.get h4)) fun s => ?_
    rw[aL2]
    by_cases hsp:s=p.path
    ·subst hsp;simp
    ·have e1:(s==p.path)=false:=by simpa using hsp
     have e2:(p.path==s)=false:=by simpa using fun e=>hsp e.symm
     rw[e1,e2];simp
   ·refine next τ4 l (hg.trans K24) (hm.gr K24) (K24.get h8) (K24.get h4) fun s => ?_
    by_cases hsp:s=p.path
    ·subst hsp
     have:(lk p.path l).isSome=true:=by simpa using hb
     rw[this];rfl
    ·have e2:(p.path==s)=false:=by simpa using fun e=>hsp e.symm
     rw[e2];simp
 exact key S.paths 0 σ5 [] rfl G5 m5 p5.same e45 (fun s=>by simp[H9.is,lk])
end
theorem aR6:I3 Tryz.prog 54=true:=by kernel_rfl
theorem bi7:I3 Tryz.prog 58=true:=by kernel_rfl
section
variable {σ : H} {K : KH} {S : H9} {x1 x2 : Sl} {m : Nat}
theorem bq7 (h:as7 σ S x1 x2 m) (hz:Sm S) (hK:K (.bool S.formed) σ):a8 24 [lkV x1 x2 m] K σ:=by
 refine B7 _ hK (c24 _ _ _ ?_)
 clear hK
 unfold g24
 refine x0 ?_;intro b4 σ1 g1 e1 n1
 refine A7 (f0 e1) ?_
 have hl:=h.1.len
 have hnp:=hz.np
 refine u5 ?_
 intro R hR
 have key : ∀ (r:List B4) (i:Nat) (τ:H) (acc:List ByteArray) (y:Sl),S.paths.drop i=r->Gr σ τ->E7 σ1 τ 9 1 (n9 acc) y->acc.length=i->S.paths.map (·.path)=acc++r.map (·.path)->R (some ⟨b4,0,none⟩) y x1 ((x1.len:Nat):Int) (i:Int) τ:=by
  intro r
  induction r with
  | nil =>
   intro i τ acc y hd hg hy ha he
   have h5:S.paths.length<=i:=by simpa using hd
   have hal:acc.length<=1000000:=by have:=D9 List.length he;simp at this;omega
   refine hR _ _ _ _ _ _ (k9 (by rw[hl];exact J6) ?_)
   have hp:S.paths.map (·.path)=acc:=by rw[he];simp
   refine i7 (aE4 hy.at (by omega) (y7 ?_))
   unfold H9.formed
   rw[hp]
   cases E5 acc with
   | false=>exact k9 rfl ⟨rfl,hg⟩
   | true =>
    refine l3 rfl (i6 (A3 (l7 (hy.1.get e1)) ?_))
    (refine k0 rfl ?_;try dsimp only)
    refine i7 (aB0 (f:=aq0) (h.gr hg) hz ?_ (fun g σ hg=>by unfold F2;exact hg) rfl (y7 ⟨rfl,hg⟩))
    intro p hp y' σ' K' hg' hy' hK'
    obtain⟨z1,z2,z3,z4,z5⟩:=hz.pa p hp
    unfold u7
    simp only[ba1]
    refine B7 _ hK' (c45 _ _ _ _ ?_)
    unfold g45 aq0
    refine x0 ?_;intro b σ3 g3 e3 n3
    refine y8 (f0 e3) (i7 (aO0 _ z1 (y7 ?_)))
    cases C6 p.path with
    | false=>exact k9 rfl ⟨rfl,g3⟩
    | true =>
     refine l3 rfl (A7 (f0 e3) (i7 (aE4 (hy'.gr g3) (by omega) (y7 ?_))))
     cases E5 p.refs with
     | false=>exact k9 rfl ⟨rfl,g3⟩
     | true =>
      refine l3 rfl (A7 (f0 e3) (i7 (as6 (f:=fun s => !C6 s) (hy'.gr g3) ?_ (by omega) (y7 ⟨rfl,g3⟩))))
      intro s hs σ4 K4 g4 hK4
      unfold u7
      simp only[ba2]
      exact bi5 s (z5 s hs) hK4
  | cons p r ih =>
   intro i τ acc y hd hg hy ha he
   obtain⟨d1,d2,d3⟩:=P7 hd
   obtain⟨g,o,y',q1,q2,q3,q4⟩:=(h.1.gr hg).get d1
   refine hR _ _ _ _ _ _ (l3 (by rw[hl];exact C8) ?_)
   rw[q1]
   refine i6 (l5 (L1 x1.len) (A3 q3 ?_))
   unfold U4
   (refine k0 rfl ?_;try dsimp only)
   refine x0 ?_;intro b18 τ1 k1 f1 w1
   refine w4 f1 W5 ?_
   intro τ2 p2
   have K2:Gr τ τ2:=k1.putF p2 w1
   refine y8 (f0 p2.same) ?_
   refine E7.app1 aO1 (hy.gr K2) (r:=[.string p.path]) rfl rfl (by rw[J7];omega) ?_
   intro y2 τ3 hy2 _ _
   rw[C7 (i:=i)]
   refine ih (i+1) τ3 (acc++[p.path]) y2 d3 (g1.trans hy2.1) ?_ (by simp[ha]) (by rw[he];simp)
   have:n9 (acc++[p.path])=n9 acc++[[.string p.path]]:=by simp[n9]
   rw[this];exact hy2
 exact key S.paths 0 σ1 [] ⟨none,0,0⟩ rfl g1 (E7.nil _ _ _) rfl rfl
theorem aV6 {f:FuncId} {b4:Nat} (hz:Sm S) (e:σ b4=some (.cells ⟨[.slice x1.base x1.len x1.cap,.slice x2.base x2.len x2.cap,.map (some m)]⟩ 55 (0,0))) (h:as7 σ S x1 x2 m) (l:List ByteArray)
 (hf:∀ (s:ByteArray) (σ':H) (K:KH),σ' b4=some (.cells ⟨[.slice x1.base x1.len x1.cap,.slice x2.base x2.len x2.cap,.map (some m)]⟩ 55 (0,0))->as7 σ' S x1 x2 m->K (.bool (!S.is s)) σ'->u7 Tryz.prog (.func (.func f) ⟨[]⟩ ⟨[.pointer (some ⟨b4,0,none⟩)]⟩) [.string s] K σ') :
 dg7 σ (.func (.func f) ⟨[]⟩ ⟨[.pointer (some ⟨b4,0,none⟩)]⟩) l (fun s => !S.is s):=by
 intro s _ σ' K' hg hK'
 exact hf s σ' K' (hg.get e) (h.gr hg) hK'
theorem bq8 (h:as7 σ S x1 x2 m) (hz:Sm S) (hK:K (.bool S.closed) σ):a8 25 [lkV x1 x2 m] K σ:=by
 refine B7 _ hK (c25 _ _ _ ?_)
 clear hK
 unfold g25
 refine x0 ?_;intro b4 σ1 g1 e1 n1
 refine A3 (l7 e1) ?_
 (refine k0 rfl ?_;try dsimp only)
 refine i7 (aB0 (f:=fun p => !(p.refs.any fun r => !S.is r)) (h.gr g1) hz ?_ (fun g σ hg=>by unfold F2;exact hg) rfl (y7 ⟨rfl,g1⟩))
 intro p hp y' σ' K' hg' hy' hK'
 obtain⟨z1,z2,z3,z4,z5⟩:=hz.pa p hp
 unfold u7
 simp only[ba3]
 refine B7 _ hK' (c49 _ _ _ _ _ ?_)
 unfold g49
 refine x0 ?_;intro b σ3 g3 e3 n3
 refine A7 (f0 e3) (i7 (as6 (f:=fun s => !S.is s) (hy'.gr g3) ?_ (by omega) (y7 ⟨rfl,g3⟩)))
 refine aV6 hz (g3.get (hg'.get e1)) (((h.gr g1).gr hg').gr g3) p.refs ?_
 intro s σ4 K4 e4 h4 hK4
 unfold u7
 simp only[aR5]
 refine c50 _ _ ?_
 unfold g50
 refine i6 (A3 (l7 e4) ?_)
 (refine k0 rfl ?_;try dsimp only)
 exact i7 (ba5 s h4 (y7 hK4))
theorem bq9 (h:as7 σ S x1 x2 m) (hz:Sm S) (hK:K (.bool S.rooted) σ):a8 26 [lkV x1 x2 m] K σ:=by
 refine B7 _ hK (c26 _ _ _ ?_)
 clear hK
 unfold g26 H9.rooted
 have hnr:=hz.nr
 refine x0 ?_;intro b4 σ1 g1 e1 n1
 refine A7 (f0 e1) (i7 (aE4 (h.2.1.gr g1) (by omega) (y7 ?_)))
 cases E5 S.roots with
 | false=>exact k9 rfl ⟨rfl,g1⟩
 | true =>
  refine l3 rfl (A7 (f0 e1) (i7 (as6 (f:=fun s => !S.is s) (h.2.1.gr g1) ?_ (by omega) (y7 ⟨rfl,g1⟩))))
  refine aV6 hz e1 (h.gr g1) S.roots ?_
  intro s σ4 K4 e4 h4 hK4
  unfold u7
  simp only[ba4]
  refine c51 _ _ ?_
  unfold g51
  refine i6 (A3 (l7 e4) ?_)
  (refine k0 rfl ?_;try dsimp only)
  exact i7 (ba5 s h4 (y7 hK4))
theorem K0 (s:ByteArray):(⟨⟨s.data.toList⟩⟩:ByteArray)=s:=by obtain⟨⟨l⟩⟩:=s;rfl
theorem ay0 {s:List UInt8} (hs:s.length<=1000000):(T9 s).1.total<=1000001:=by
 unfold T9 ab7
 dsimp only
 split
 ·rename_i t h
  split at h
  ·split at h
   ·cases h
   ·rename_i t' r hn
    split at h
    ·cases h
     have:=aG5 13 _ _ _ hn
     have h2:=P2 ⟨s,false⟩
     have h3:(I7.mk s false).text.2.left.length<=s.length:=h2
     show t.total<=_
     omega
    ·cases h
  ·cases h
 ·show 1+_+_+_<=_
  decide
theorem bG4 (h:as7 σ S x1 x2 m) (hz:Sm S) (hK:K (.bool S.whole) σ):a8 27 [lkV x1 x2 m] K σ:=by
 refine B7 _ hK (c27 _ _ _ ?_)
 clear hK
 unfold g27
 refine x0 ?_;intro b4 σ1 g1 e1 n1
 refine A3 (l7 e1) ?_
 (refine k0 rfl ?_;try dsimp only)
 refine i7 (aB0 (f:=as3) (h.gr g1) hz ?_ (fun g σ hg=>by unfold F2;exact hg) rfl (y7 ⟨rfl,g1⟩))
 intro p hp y' σ' K' hg' hy' hK'
 obtain⟨z1,z2,z3,z4,z5⟩:=hz.pa p hp
 unfold u7
 simp only[bi6]
 refine B7 _ hK' (c52 _ _ _ _ ?_)
 unfold g52 as3
 refine x0 ?_;intro b σ3 g3 e3 n3
 refine y8 (f0 e3) ?_
 have hsz:p.nar.data.toList.length=p.nar.size:=dl _
 have hn:p.nar=⟨⟨p.nar.data.toList⟩⟩:=(K0 _).symm
 rw[hn]
 refine i7 (ba0 p.nar.data.toList (by omega) ?_)
 intro y4 σ4 g4 s4
 refine k0 rfl ?_
 dsimp only
 refine x0 ?_;intro b13 σ5 g5 e5 n5
 refine w4 e5 I2 ?_
 intro σ6 p6
 have g46:Gr σ4 σ6:=g5.putF p6 n5
 have g36:Gr σ3 σ6:=g4.trans g46
 have gg:Gr σ' σ6:=g3.trans g36
 refine G8 (fun hb => ?_) (fun hb => ?_)
 ·rw[d9 hb];exact⟨rfl,gg⟩
 ·rw[c0 (by simp[hb])]
  refine A3 (l7 p6.same) ?_
  (refine k0 rfl ?_;try dsimp only)
  have:=ay0 (s:=p.nar.data.toList) (by omega)
  refine i7 (aZ8 (T9 p.nar.data.toList).1 y4 (s4.gr g46) (by omega) ?_)
  refine k0 rfl ?_
  dsimp only
  refine G8 (fun hb2 => ?_) (fun hb2 => ?_)
  ·rw[hb2,C4]
   refine y8 (f0 (g36.get e3)) ?_
   rw[hn,K1]
   exact⟨rfl,gg⟩
  ·rw[hb2];exact⟨rfl,gg⟩
end
end Go.Proofs.YtgfiobhpipollaaGreatDoor

