/- A part of a proof. -/
import Derived.Test.YtikedigonnlbkaaGreatDoorSbd
import Derived.Shelf.SlIter.Nil
import Derived.Shelf.SortM.Plain
import Derived.Shelf.SortM.SortNone
import Derived.Ground.GgzProg
import Derived.Ground.SlgmProg
import Derived.Test.YtikedigonnlbkaaGreatDoorProg
import Derived.Laws.Runes
import Derived.Test.YtikedigonnlbkaaGreatDoorCards
import Derived.Test.YtikedigonnlbkaaGreatDoorTie
import Derived.WalkKit
import Derived.ProofKit
import Derived.OpenShut
import Derived.Deep.DeepHandedRow
import Derived.Deep.DeepLaidRun
import Derived.Lib.LaidTab
import Derived.Shelf.Strings.SlTrimAscii
import Derived.Shelf.LaysM
import Derived.Ground.NamesProg
import Derived.Stop.IfaceNil
namespace Go.Proofs
open Go.RowKit Go.Maps Go.Sort Go.Shelf
def Tryz.keys160_ren:Go.Shelf.Ren:=⟨fun|7=>160|10=>203|n=>n,fun|23=>143|26=>9|3=>3|28=>113|0=>0|27=>112|33=>56|4=>4|n=>n,fun|n=>n⟩
theorem Tryz.keys160:Go.Proofs.SlLaysZ.n7 Tryz.prog Tryz.keys160_ren:={
 mixed:=by kernel_rfl
 f7:=⟨Tryz.f160.name,by decide,Tryz.func160.trans (congrArg some (by kernel_rfl))⟩
 f10:=⟨Tryz.f203.name,by decide,Tryz.func203.trans (congrArg some (by kernel_rfl))⟩
 t0:=Tryz.underlying0
 a0:=Tryz.isAgg0
 z0:=Tryz.sizeOf0
 v0:=Tryz.zeroValue0
 t4:=Tryz.underlying4
 a4:=Tryz.isAgg4
 z4:=Tryz.sizeOf4
 v4:=Tryz.zeroValue4
 t23:=Tryz.underlying143
 a23:=Tryz.isAgg143
 z23:=Tryz.sizeOf143
 v23:=Tryz.zeroValue143
 t26:=Tryz.underlying9
 a26:=Tryz.isAgg9
 z26:=Tryz.sizeOf9
 v26:=Tryz.zeroValue9
 t27:=Tryz.underlying112
 a27:=Tryz.isAgg112
 z27:=Tryz.sizeOf112
 v27:=Tryz.zeroValue112
 t28:=Tryz.underlying113
 a28:=Tryz.isAgg113
 z28:=Tryz.sizeOf113
 v28:=Tryz.zeroValue113
 t33:=Tryz.underlying56
 a33:=Tryz.isAgg56
 z33:=Tryz.sizeOf56
 v33:=Tryz.zeroValue56}
def Tryz.sorted159_ren:Go.Shelf.Ren:=⟨fun|6=>159|8=>202|9=>90|11=>229|13=>147|12=>146|23=>195|24=>196|14=>186|15=>187|16=>188|17=>189|18=>190|19=>191|20=>192|21=>193|22=>194|25=>216|26=>217|27=>218|28=>219|29=>220|30=>221|31=>236|n=>n,fun|26=>9|28=>113|24=>30|0=>0|3=>3|37=>170|48=>196|50=>198|4=>4|40=>190|39=>189|45=>117|5=>5|9=>9|51=>212|55=>156|57=>229|58=>230|33=>56|n=>n,fun|n=>n⟩
theorem Tryz.sorted159:Go.Proofs.SlLaysZ.n6 Tryz.prog Tryz.sorted159_ren:={
 mixed:=by kernel_rfl
 f6:=⟨Tryz.f159.name,by decide,Tryz.func159.trans (congrArg some (by kernel_rfl))⟩
 f8:=⟨Tryz.f202.name,by decide,Tryz.func202.trans (congrArg some (by kernel_rfl))⟩
 f11:=⟨Tryz.f229.name,by decide,Tryz.func229.trans (congrArg some (by kernel_rfl))⟩
 t0:=Tryz.underlying0
 a0:=Tryz.isAgg0
 z0:=Tryz.sizeOf0
 v0:=Tryz.zeroValue0
 t24:=Tryz.underlying30
 a24:=Tryz.isAgg30
 z24:=Tryz.sizeOf30
 v24:=Tryz.zeroValue30
 t26:=Tryz.underlying9
 a26:=Tryz.isAgg9
 z26:=Tryz.sizeOf9
 v26:=Tryz.zeroValue9
 t28:=Tryz.underlying113
 a28:=Tryz.isAgg113
 z28:=Tryz.sizeOf113
 v28:=Tryz.zeroValue113
 i26:=by kernel_rfl}
def Tryz.sort90_ren:Go.Shelf.Ren:=⟨fun|6=>90|8=>147|9=>146|19=>195|20=>196|21=>186|22=>187|23=>188|24=>189|25=>190|26=>191|27=>192|28=>193|29=>194|36=>216|31=>217|32=>218|37=>219|38=>220|39=>221|41=>236|n=>n,fun|27=>30|29=>9|3=>3|32=>170|26=>30|0=>0|44=>196|46=>198|4=>4|36=>190|35=>189|41=>117|5=>5|9=>9|53=>212|57=>156|63=>229|64=>230|n=>n,fun|n=>n⟩
theorem Tryz.sort90:Go.Proofs.SlLaysM.n6 Tryz.prog Tryz.sort90_ren:={
 mixed:=by kernel_rfl
 f6:=⟨Tryz.f90.name,by decide,Tryz.func90.trans (congrArg some (by kernel_rfl))⟩
 f8:=Tryz.func147.trans (congrArg some (by kernel_rfl))
 f9:=⟨Tryz.f146.name,by decide,Tryz.func146.trans (congrArg some (by kernel_rfl))⟩
 f19:=Tryz.func195.trans (congrArg some (by kernel_rfl))
 f20:=Tryz.func196.trans (congrArg some (by kernel_rfl))
 f21:=⟨Tryz.f186.name,by decide,Tryz.func186.trans (congrArg some (by kernel_rfl))⟩
 f22:=⟨Tryz.f187.name,by decide,Tryz.func187.trans (congrArg some (by kernel_rfl))⟩
 f23:=⟨Tryz.f188.name,by decide,Tryz.func188.trans (congrArg some (by kernel_rfl))⟩
 f24:=⟨Tryz.f189.name,by decide,Tryz.func189.trans (congrArg some (by kernel_rfl))⟩
 f25:=⟨Tryz.f190.name,by decide,Tryz.func190.trans (congrArg some (by kernel_rfl))⟩
 f26:=⟨Tryz.f191.name,by decide,Tryz.func191.trans (congrArg some (by kernel_rfl))⟩
 f27:=⟨Tryz.f192.name,by decide,Tryz.func192.trans (congrArg some (by kernel_rfl))⟩
 f28:=⟨Tryz.f193.name,by decide,Tryz.func193.trans (congrArg some (by kernel_rfl))⟩
 f29:=⟨Tryz.f194.name,by decide,Tryz.func194.trans (congrArg some (by kernel_rfl))⟩
 f31:=Tryz.func217.trans (congrArg some (by kernel_rfl))
 f32:=Tryz.func218.trans (congrArg some (by kernel_rfl))
 f36:=⟨Tryz.f216.name,by decide,Tryz.func216.trans (congrArg some (by kernel_rfl))⟩
 f37:=⟨Tryz.f219.name,by decide,Tryz.func219.trans (congrArg some (by kernel_rfl))⟩
 f38:=⟨Tryz.f220.name,by decide,Tryz.func220.trans (congrArg some (by kernel_rfl))⟩
 f39:=⟨Tryz.f221.name,by decide,Tryz.func221.trans (congrArg some (by kernel_rfl))⟩
 f41:=⟨Tryz.f236.name,by decide,Tryz.func236.trans (congrArg some (by kernel_rfl))⟩
 t0:=Tryz.underlying0
 a0:=Tryz.isAgg0
 z0:=Tryz.sizeOf0
 v0:=Tryz.zeroValue0
 t3:=Tryz.underlying3
 a3:=Tryz.isAgg3
 z3:=Tryz.sizeOf3
 v3:=Tryz.zeroValue3
 t4:=Tryz.underlying4
 a4:=Tryz.isAgg4
 z4:=Tryz.sizeOf4
 v4:=Tryz.zeroValue4
 t5:=Tryz.underlying5
 a5:=Tryz.isAgg5
 z5:=Tryz.sizeOf5
 v5:=Tryz.zeroValue5
 t9:=Tryz.underlying9
 a9:=Tryz.isAgg9
 z9:=Tryz.sizeOf9
 v9:=Tryz.zeroValue9
 t26:=Tryz.underlying30
 a26:=Tryz.isAgg30
 z26:=Tryz.sizeOf30
 v26:=Tryz.zeroValue30
 t27:=Tryz.underlying30
 a27:=Tryz.isAgg30
 z27:=Tryz.sizeOf30
 v27:=Tryz.zeroValue30
 t29:=Tryz.underlying9
 a29:=Tryz.isAgg9
 z29:=Tryz.sizeOf9
 v29:=Tryz.zeroValue9
 t32:=Tryz.underlying170
 a32:=Tryz.isAgg170
 z32:=Tryz.sizeOf170
 v32:=Tryz.zeroValue170
 t35:=Tryz.underlying189
 a35:=Tryz.isAgg189
 z35:=Tryz.sizeOf189
 v35:=Tryz.zeroValue189
 t36:=Tryz.underlying190
 a36:=Tryz.isAgg190
 z36:=Tryz.sizeOf190
 v36:=Tryz.zeroValue190
 t41:=Tryz.underlying117
 a41:=Tryz.isAgg117
 z41:=Tryz.sizeOf117
 v41:=Tryz.zeroValue117
 t44:=Tryz.underlying196
 a44:=Tryz.isAgg196
 z44:=Tryz.sizeOf196
 v44:=Tryz.zeroValue196
 t46:=Tryz.underlying198
 a46:=Tryz.isAgg198
 z46:=Tryz.sizeOf198
 v46:=Tryz.zeroValue198
 t53:=Tryz.underlying212
 a53:=Tryz.isAgg212
 z53:=Tryz.sizeOf212
 v53:=Tryz.zeroValue212
 t57:=Tryz.underlying156
 a57:=Tryz.isAgg156
 z57:=Tryz.sizeOf156
 v57:=Tryz.zeroValue156
 t63:=Tryz.underlying229
 a63:=Tryz.isAgg229
 z63:=Tryz.sizeOf229
 v63:=Tryz.zeroValue229
 t64:=Tryz.underlying230
 a64:=Tryz.isAgg230
 z64:=Tryz.sizeOf230
 v64:=Tryz.zeroValue230}
theorem Tryz.sorts159(m:Nat):AnyZ.SortsIn Tryz.prog Tryz.sorted159_ren Fence.wide m :=
 ⟨fun blk off cap ss W hH hblk hsz=>callsIn_wide.2 (AnyM.slices_Sort_string Tryz.sort90 blk off cap ss W hH hblk hsz),
  fun p cap W=>callsIn_wide.2 (AnyM.slices_Sort_string_none Tryz.sort90 p cap W)⟩
end Go.Proofs

set_option maxRecDepth 100000
namespace Go.Proofs.YtikedigonnlbkaaGreatDoor
open Go Go.HL Go.Wk
section
open Go.RowKit Go.Maps Go.Sort Go.Shelf
theorem aK2{Y:H}{w w':World}(hw:Y.le w)(hb:Below w.heap.size w w'):X7 Y w Y w' :=
 ⟨fun b o h=>(hb.block b (hw.lt h)).trans (hw b o h),hb.size,fun b iw _=>hb.block b iw,fun b o h hn=>by rw[h]at hn;(cases hn),hb.os,hb.tape,hb.output⟩
theorem aW1{Y:H}{w w':World}{g:Nat}{o:Obj}(hw:Y.le w)(hb:Below w.heap.size w w')(hg:w.heap.size<=g)(ho:w'.heap[g]?=some o):X7 Y w (Y.put g o) w':=by
 refine⟨fun b o' h=>?_,hb.size,fun b iw _=>hb.block b iw,fun b o' h hn=>?_,hb.os,hb.tape,hb.output⟩
 ·by_cases e:b=g
  ·subst e;rw[H.put_same]at h;cases h;exact ho
  ·rw[H.put_other _ _ e]at h;exact(hb.block b (hw.lt h)).trans (hw b o' h)
 ·by_cases e:b=g
  ·subst e;exact hg
  ·rw[H.put_other _ _ e]at h;rw[h]at hn;cases hn
def aC6(Y:H)(x:Sl)(l:List d9):Prop:=x.len=l.length/\(l=[]\/∃g cur,x.base=some ⟨g,0,none⟩/\Y g=some (.cells ⟨cur⟩ 9 (0,0))/\cur.take l.length=l.map Value.string)
def az2(l:List d9):List d9:=((l.map fun s=>s.data.toList).mergeSort (fun x y=>decide (x<=y))).map fun x=>⟨⟨x⟩⟩
theorem cd6{Y:H}{b2 e:Nat}{gj:List (d9×Int)}{t:TypeId}(h2:Y b2=some (.c [.map (some e)] t))(hm:Q7 Y e (W0 kkS aS7 gj))(hk:∀s∈C5 gj,s.size<=maxLen)(hn:gj.length*16<=140737488355328){K:KH}
 (hK:∀x Y',Q8 Y Y' 9 1 (u0 (az2 (C5 gj))) x->K (.slice x.base x.len x.cap) Y'):i7 159 [.func (.func 203) ⟨[]⟩ ⟨[.q b2]⟩] K Y:=by
 obtain⟨es,c,he,hl,kn⟩:=hm;intro w hw
 let R:u9->Option (DataW Unit×List MemPlace):=fun _=>some (.nil,[])
 have hsz:es.size=gj.length:=by
  have:=J7 List.length hl;simpa[W0]using this
 have yh:∀x∈es.toList,∃s∈C5 gj,x.key=.s s:=by
  intro x hx;have:(x.key,x.val)∈W0 kkS aS7 gj:=by rw[<-hl];exact K0.2 ⟨x,hx,rfl⟩
  obtain⟨⟨s,v⟩,h1,h3⟩:=K0.1 this;refine⟨s,K0.2 ⟨_,h1,rfl⟩,?_⟩;exact(Prod.mk.inj h3).1.symm
 have Bp:∀x∈es.toList,∀s,x.key=.s s->s.size<=maxLen->Go.WideElems.rd Tryz.prog 9 R x=some (.string s.data.toList,.nil):=by
  intro x _ s hs qx;unfold Go.WideElems.rd keyOf mapKey;rw[hs,P8];simp[qx,R]
 have Bh:w.ownsMap Tryz.prog 9 R e es.size (.map ((es.toList.map (Go.WideElems.rg Tryz.prog 9 R)).foldr DataW.insert [])):=by
  refine⟨es,c,hw e _ he,⟨?_,kn,?_⟩,A7 _,rfl⟩
  ·rw[hsz];unfold maxLen;omega
  ·intro x hx;obtain⟨s,h1,h3⟩:=yh x hx;exact⟨_,Bp x hx s h3 (hk s h1)⟩
 have vq:Maps.size (.map ((es.toList.map (Go.WideElems.rg Tryz.prog 9 R)).foldr DataW.insert []))=gj.length:=by
  rw[Maps.size_eq,(Go.WideShapes.sorted_perm _).length_eq];simp[hsz]
 have Fj:(strKeys (.map ((es.toList.map (Go.WideElems.rg Tryz.prog 9 R)).foldr DataW.insert []))).Perm ((C5 gj).map fun s=>s.data.toList):=by
  have h1:(strKeys (.map ((es.toList.map (Go.WideElems.rg Tryz.prog 9 R)).foldr DataW.insert []))).Perm ((es.toList.map (Go.WideElems.rg Tryz.prog 9 R)).map fun p=>strOf p.1):=(Go.WideShapes.sorted_perm _).map _;have h3:((es.toList.map (Go.WideElems.rg Tryz.prog 9 R)).map fun p=>strOf p.1)=(C5 gj).map fun s=>s.data.toList:=by
   have h4:es.toList.map (fun e=>e.key)=(C5 gj).map Value.string:=by
    have:=J7 (List.map Prod.fst) hl;simp only[List.map_map,W0]at this;rw[C5,List.map_map];exact this
   have h5:((es.toList.map (Go.WideElems.rg Tryz.prog 9 R)).map fun p=>strOf p.1)=(es.toList.map (fun e=>e.key)).map fun v=>(match v with|.s s=>s.data.toList|_=>[]):=by
    rw[List.map_map,List.map_map];refine List.map_congr_left ?_;intro x hx;obtain⟨s,h1,h3⟩:=yh x hx;simp only[Function.comp];rw[h3,Go.WideElems.rg_of (Bp x hx s h3 (hk s h1))]
    rfl
   rw[h5,h4,List.map_map]
   rfl
  rw[<-h3];exact h1
 have qy:w.cell? ⟨b2,0,none⟩=some (.map (some e)):=by simp[World.cell?,hw b2 _ h2]
 have Bq:=AnyZ.keys_gives (ρ:=Tryz.keys160_ren) {Tryz.keys160 with} Fence.wide 2 trivial rfl (by omega) b2 e es.size (.map ((es.toList.map (Go.WideElems.rg Tryz.prog 9 R)).foldr DataW.insert [])) (R:=R) w (hw.lt h2) qy Bh;have rk:=AnyZ.sorted_in Tryz.sorted159 Fence.wide 5 trivial trivial trivial trivial rfl (by omega) (Tryz.sorts159 _) (enters_of Tryz.func90 (by kernel_rfl) rfl) 203 #[.q b2] trivial (enters_of Tryz.func203 (by kernel_rfl) rfl) _ _ (by rw[vq];unfold maxLen;omega) (by rw[vq];exact hn) w Bq;refine callsIn_wide.2 ((callsIn_wide.1 rk).mono ?_)
 rintro en w' ⟨v,ss,rfl,hS,ki,qd,sq⟩
 have hsrt:ss.mergeSort (fun x y=>decide (x<=y))=((C5 gj).map fun s=>s.data.toList).mergeSort (fun x y=>decide (x<=y)):=mergeSort_of_perm (hS.trans Fj);have Fk:(ss.mergeSort (fun x y=>decide (x<=y))).map encStr=(az2 (C5 gj)).map Value.string:=by
  rw[hsrt];unfold az2;rw[List.map_map];rfl
 have ib:ss.length=(az2 (C5 gj)).length:=by
  have:=J7 List.length Fk;simpa using this
 have vw:∀l:List d9,(u0 l).flatten=l.map Value.string:=by
  intro l
  induction l with
  |nil=>rfl
  |cons a r ih =>
   have ih:(r.map fun s=>[Value.string s]).flatten=r.map Value.string:=ih;simp[u0,ih]
 have kj:∀l:List d9,∀r∈u0 l,r.length=1:=by
  intro l r hr;obtain⟨s,_,rfl⟩:=K0.1 hr;rfl
 obtain⟨_,⟨rfl,hz⟩|⟨g,cap,cur,rfl,hbg,Br,hnc,_,pe,vx⟩⟩:=ki
 ·have:az2 (C5 gj)=[]:=by apply ai0;rw[<-ib,hz]
  rw[this]at hK;exact⟨_,rfl,Y,aK2 hw sq,hK ⟨none,0,0⟩ Y (Q8.nil _ _ _)⟩
 ·have hng : Y g = none := by
   cases hg:Y g with
   |none=>rfl
   |some o=>have:=hw.lt hg;omega
  refine⟨_,rfl,Y.put g (.cells cur 9 (0,0)),aW1 hw sq hbg Br,hK ⟨some ⟨g,0,none⟩,ss.length,cap⟩ _ ⟨Gr.put hng _,⟨by show ss.length=_;rw[ib];simp[u0],kj _,.inr ⟨g,cur.toList,rfl,H.put_same _ _ _,by rw[Array.length_toList];exact pe,hnc,?_⟩⟩,fun g' hg'=>by cases hg';exact hng⟩⟩;rw[vw,<- Fk];simpa using vx
theorem bf8{Y:H}{b2:Nat}{t:TypeId}(h2:Y b2=some (.c [.map none] t)){K:KH}
 (hK:K (.slice none 0 0) Y):i7 159 [.func (.func 203) ⟨[]⟩ ⟨[.q b2]⟩] K Y:=by
 intro w hw;have qy:w.cell? ⟨b2,0,none⟩=some (.map none):=by simp[World.cell?,hw b2 _ h2]
 have Bq:=AnyZ.keys_gives_nil (ρ:=Tryz.keys160_ren) {Tryz.keys160 with} Fence.wide 2 trivial rfl b2 w (hw.lt h2) qy;have rk:=AnyZ.sorted_in Tryz.sorted159 Fence.wide 5 trivial trivial trivial trivial rfl (by omega) (Tryz.sorts159 _) (enters_of Tryz.func90 (by kernel_rfl) rfl) 203 #[.q b2] trivial (enters_of Tryz.func203 (by kernel_rfl) rfl) _ 0 (Nat.zero_le _) (by omega) w Bq;refine callsIn_wide.2 ((callsIn_wide.1 rk).mono ?_)
 rintro en w' ⟨v,ss,rfl,hS,ki,qd,sq⟩
 have:v=.slice none 0 0:=qd.2 hS;subst this;exact⟨_,rfl,Y,aK2 hw sq,hK⟩
theorem bo8(l:List d9):az2 l=E7 l:=by unfold az2 E7;rw[bk2]
attribute [local irreducible] i9 E3 A0 I9 l8 H0 C0 stW muW biW W7 imW J0 G8 app E2 J1 D3 E6 oW P0 J5 C9 rfW N5 M9 D5 exW I2 Gr P1
theorem cz9(m:Option Nat){Y:H}{K:KH}(hK:∀b Y',Gr Y Y'->Y' b=some (.c [.map m] 143)->K (.func (.func 203) ⟨[]⟩ ⟨[.q b]⟩) Y'):i7 160 [.map m] K Y:=by
 refine du8 _ ?_;unfold cR7;refine A5 ?_;intro b Y' hg hb _;exact hK b Y' hg hb
theorem cd7{Y:H}{x:Sl}{l:List d9}(h:E0 Y 9 1 (u0 l) x):aC6 Y x l:=by
 have vw:∀l:List d9,(u0 l).flatten=l.map Value.string:=by
  intro l
  induction l with
  |nil=>rfl
  |cons a r ih =>
   have ih:(r.map fun s=>[Value.string s]).flatten=r.map Value.string:=ih;simp[u0,ih]
 obtain⟨h1,h2,⟨_,_,h3⟩|⟨g,cur,a1,a2,a3,a4,a5⟩⟩:=h
 ·have:l=[]:=by simpa[u0]using h3
  exact⟨by rw[h1];simp[u0],.inl this⟩
 ·have hl:x.len=l.length:=by rw[h1];simp[u0]
  refine⟨hl,.inr ⟨g,cur,a1,a2,?_⟩⟩;rw[vw,ao9,hl]at a5;exact a5
theorem bo9{Y:H}{bt:Nat}{A:AT}{B:Nat->Prop}(hA:W8 Y bt A B)(gh:Int)(hk:∀n,A.get gh=some n->(∀s∈C5 n.gj,s.size<=1000)/\n.gj.length<=1099511627776){K:KH}
 (hK:∀x Y',Q8 Y Y' 9 1 (u0 (AT.gd A gh)) x->K (.slice x.base x.len x.cap) Y'):i7 112 [.q bt,.i gh] K Y:=by
 obtain⟨T,hT,hO,rfl,hB⟩:=hA;refine cx9 _ _ ?_;unfold cJ7;refine l5 (aS8 hT gh (am7 ?_));unfold AT.gd at hK;simp only[<-bo8]at hK;rw[Q3]at hK hk;cases hn:T.get gh with
 |none =>
  rw[hn]at hK;exact l9 rfl (hK ⟨none,0,0⟩ Y (Q8.nil _ _ _))
 |some n =>
  rw[hn]at hK hk;obtain⟨sy,jc⟩:=hk _ rfl;have hN:=hT.get hn;have cN:=hN.cells;unfold Nd.cells at cN;refine l7 rfl ?_
  (repeat (first|refine zz ?_|(refine A5 ?_;intro _ _ _ _ _)|(refine z6 ?_;intro _ _)|(refine l6 rfl ?_;try dsimp only)))
  refine l5 (cz9 _ ?_);intro b2 Y1 g1 e1;refine ae4 ?_;cases he:n.eb with
  |none =>
   rw[he]at e1;refine l5 (bf8 e1 ?_);refine ak0 ?_;have:az2 (C5 n.abs.gj)=[]:=by
    have:n.abs.gj=[]:=hN.none he;simp[az2,C5,this]
   refine hK ⟨none,0,0⟩ Y1 ?_;show Q8 Y Y1 9 1 (u0 (az2 (C5 n.abs.gj))) ⟨none,0,0⟩;rw[this];exact Q8.nil' g1 _ _
  |some e =>
   rw[he]at e1;refine l5 (cd6 e1 ((hN.gj e he).gr g1) (fun s hs=>?_) ?_ ?_)
   ·have:=sy s hs;unfold maxLen;omega
   ·have:n.gj.length<=1099511627776:=jc;omega
   ·intro x Y2 hx;refine ak0 ?_;exact hK x Y2 (hx.since g1)
theorem aO7{Y:H}{bt:Nat}{A:AT}{B:Nat->Prop}(hA:W8 Y bt A B)(gh:Int)(hk:∀n,A.get gh=some n->(∀s∈C5 n.gj,s.size<=1000)/\n.gj.length<=1099511627776){K:KH}
 (hK:∀x Y',Gr Y Y'->aC6 Y' x (AT.gd A gh)->K (.slice x.base x.len x.cap) Y'):i7 112 [.q bt,.i gh] K Y :=
 bo9 hA gh hk fun x Y' h=>hK x Y' h.1 (cd7 h.2.1)
end
section
attribute [local irreducible] i9 E3 A0 I9 l8 H0 C0 stW muW biW W7 imW J0 G8 app E2 J1 D3 E6 oW P0 J5 C9 rfW N5 M9 D5 exW I2 Gr P1
def sl0:d9:=(bs [47,0])
theorem ba5{s:d9}{i:Nat}{c:J3}{g:J3->H->Prop}{Y:H}(h:s[i]?=some c)(hg:g c Y):I2 s (i:Int) g Y:=by
 unfold I2;rw[d8 (by omega)];have:((i:Int)).toNat=i:=by omega
 rw[this,h];exact hg
theorem bp0(r:Int){Y:H}{K:KH}(hK:K (.bool (Utf8.valid r)) Y):i7 237 [.int .i32 r] K Y:=by
 refine dy5 _ ?_;unfold cZ9;refine K5 (fun j=>∀x:Bool,x=decide (0<=r/\r<55296)->j r x Y) ?_ ?_
 ·intro x hx;by_cases h:0<=r/\r<55296
  ·refine l9 (by simp[hx,h]) ?_;have:Utf8.valid r=true:=by simp[Utf8.valid,h]
   rw[this]at hK;exact hK
  ·refine l7 (by simp[hx,h]) ?_;refine K5 (fun j=>∀y:Bool,y=Utf8.valid r->j y Y) ?_ ?_
   ·intro y hy;cases hv:Utf8.valid r with
    |true=>rw[hv]at hK hy;exact l9 hy hK
    |false=>rw[hv]at hK hy;exact l7 hy hK
   ·intro j hj;by_cases h2:57343<r
    ·refine l9 (by simpa using h2) (hj _ ?_);by_cases h3:r<=1114111
     ·have:Utf8.valid r=true:=by simp[Utf8.valid,h3];omega
      rw[this];simpa using h3
     ·have:Utf8.valid r=false:=by simp[Utf8.valid];omega
      rw[this];simpa using h3
    ·refine l7 (by simpa using h2) (hj _ ?_);have:Utf8.valid r=false:=by simp[Utf8.valid];omega
     rw[this]
 ·intro j hj;by_cases h:0<=r
  ·exact l9 (by simpa using h) (hj _ (by simp[h]))
  ·exact l7 (by simpa using h) (hj _ (by simp[h]))
theorem cn6:Tryz.prog.underlying 21=some (.int .i32):=by kernel_rfl
theorem cA0(r:Int){F:d9->H->Prop}{Y:H}(h:F (Utf8.encode r) Y):W7 Tryz.prog (convert 21 9 (.int .i32 r)) kS F Y:=by
 unfold W7 J1;intro w hw;have:=run_convert_int_string (P:=Tryz.prog) w 21 9 .i32 r (by rw[cn6];rfl) P8;simp only[ar8,Sem.run_bind,this,Result.andThen_ok,Sem.run_pure];exact⟨Y,X7.refl hw,ab2 h⟩
theorem cd8:∀n:Fin 128,decide (firstIdx sl0 (IntKind.u8.wrap ((n.val:Nat):Int)).toNat.toUInt8>=0)=(((n.val:Nat):Int)==47||((n.val:Nat):Int)==0):=by decide
theorem bp1(r:Int){Y:H}{K:KH}(hK:∀n:Int,(decide (n>=0)=(r==47||r==0))->K (.i n) Y):i7 223 [.s sl0,.int .i32 r] K Y:=by
 refine E2.drop (K':=fun v Y'=>∃n:Int,v=.i n/\decide (n>=0)=(r==47||r==0)/\Gr Y Y') ?_ (fun v Y' ⟨n,hv,hn,hg⟩=>⟨Y,hg,hv ▸ hK n hn⟩);refine dy0 _ _ ?_;unfold cY9;refine K5 (fun j=>∀x:Bool,x=decide (0<=r/\r<128)->j sl0 r x Y) ?_ ?_
 case refine_2 =>
  intro j hj;by_cases h:0<=r
  ·exact l9 (by simpa using h) (hj _ (by simp[h]))
  ·exact l7 (by simpa using h) (hj _ (by simp[h]))
 intro x hx;by_cases h:0<=r/\r<128
 ·refine l9 (by simp[hx,h]) ?_;refine l5 (ar3 _ _ (C4 ⟨_,rfl,?_,Gr.refl _⟩));obtain⟨n,rfl⟩:∃n:Nat,r=n:=⟨r.toNat,by omega⟩;exact cd8 ⟨n,by omega⟩
 refine l7 (by simp[hx,h]) ?_;have kg:(r==47||r==0)=false:=by simp;omega
 have qp:decide ((-1:Int)>=0)=(r==47||r==0):=by rw[kg];decide
 by_cases h5:r=65533
 ·refine l9 (by simpa using h5) ?_;refine aX5 P8 sl0 ?_;intro b Y1 g1 e1 n1;refine H9 ?_;intro R hR;have k2 : ∀Y',Gr Y Y'->Y' b=some (.stringIter sl0 2)->R (gp b) Y':=by
   intro Y' hg hb;refine hR _ _ (ax2 hb (fun _=>⟨_,rfl,qp,hg⟩) (fun iw=>m7 iw (by decide)))
  have k1:∀Y',Gr Y Y'->Y' b=some (.stringIter sl0 1)->R (gp b) Y':=by
   intro Y' hg hb;refine hR _ _ (ax2 hb (fun iw=>m7 (by decide) iw) (fun _ Y2 hp=>?_));refine l7 (by decide) ?_;exact k2 Y2 (hg.putF hp n1) hp.same
  refine hR _ _ (ax2 e1 (fun iw=>m7 (by decide) iw) (fun _ Y2 hp=>?_));refine l7 (by decide) ?_;exact k1 Y2 (g1.putF hp n1) hp.same
 refine l7 (by simpa using h5) ?_;refine l5 (bp0 r (H2 ?_));cases hv:Utf8.valid r with
 |false=>exact l9 rfl ⟨_,rfl,qp,Gr.refl _⟩
 |true =>
  refine l7 rfl (cA0 r ?_);have h128:128<=r:=by
   simp[Utf8.valid]at hv;omega
  obtain⟨f1,f2,f3⟩:=encode_facts r hv h128;have hl:IntKind.i64.wrap (((Utf8.encode r).size:Int)-1)=(((Utf8.encode r).size-1:Nat):Int):=by
   rw[D7 (by omega) (by omega)];omega
  rw[hl];refine H9 ?_;intro R hR;refine hR _ _ _ _ _ ?_;by_cases h2:(Utf8.encode r).size=2
  ·refine l9 (by rw[h2];decide) ?_;refine K5 (fun _=>True) trivial ?_;intro j _;have hf:=f3 (by omega);have gx:(Utf8.encode r)[(Utf8.encode r).size-1]?=some ((Utf8.encode r)[(Utf8.encode r).size-1]'(by omega)):=by simp
   have nh:sl0[(Utf8.encode r).size-1]?=some 0:=by rw[h2];decide
   refine ba5 nh (ba5 gx ?_);refine l9 (by simp;omega) ?_;refine D0 ?_ ?_
   ·simp only[h2];exact⟨trivial,by unfold E1;decide⟩
   refine ba5 gx ?_;refine l5 (ar3 _ _ (C4 ?_));have he:sl0.extract (IntKind.i64.wrap ((((Utf8.encode r).size-1:Nat):Int)+1)).toNat sl0.size=gq:=by simp only[h2];decide
   rw[he];exact l9 rfl ⟨_,rfl,qp,Gr.refl _⟩
  ·have hs2:sl0.size=2:=rfl;refine l7 (by rw[hs2];simp;omega) ⟨_,rfl,qp,Gr.refl _⟩
theorem cd9(s:d9)(i:Nat)(hi:i<s.size):1<=(Utf8.decode s i).2/\i+(Utf8.decode s i).2<=s.size /\
 ((((Utf8.decode s i).1:Nat):Int)==47||(((Utf8.decode s i).1:Nat):Int)==0)=((s.toList.drop i).take (Utf8.decode s i).2).any fun c=>c==47||c==0:=by
 have gx:∀k,i+k<s.size->s.toList[i+k]?=some (s.get! (i+k)):=by
  intro k hk;rw[ByteArray.toList_eq];have:s.get! (i+k)=s.data[i+k]'hk:=by
   show s.data[i+k]! = _;exact getElem!_pos s.data (i+k) hk
  rw[this];simp[hk]
 have ib:s.toList.length=s.size:=by rw[ByteArray.toList_eq];simp
 have taken:∀w,i+w<=s.size->(s.toList.drop i).take w=(List.range w).map fun k=>s.get! (i+k):=by
  intro w hw;apply List.ext_getElem?;intro k;by_cases hk:k<w
  ·rw[List.getElem?_take,d8 hk,List.getElem?_drop,gx k (by omega)];simp[hk]
  ·rw[List.getElem?_take,d7 hk];simp[hk]
 have hbig:∀k,128<=(s.get! (i+k)).toNat->((s.get! (i+k))==47||(s.get! (i+k))==0)=false:=by
  intro k hk;cases hc:((s.get! (i+k))==47||(s.get! (i+k))==0) with
  |false=>rfl
  |true =>
   simp only[Bool.or_eq_true,beq_iff_eq]at hc;rcases hc with hc|hc<;>(rw[hc]at hk;exact m7 hk (by decide))
 have iq:∀w,i+w<=s.size->(∀k,k<w->128<=(s.get! (i+k)).toNat)->((s.toList.drop i).take w).any (fun c=>c==47||c==0)=false:=by
  intro w hw hk;rw[taken w hw,List.any_map,List.any_eq_false];intro k hkm;have:=hbig k (hk k (List.mem_range.1 hkm));simp only[Function.comp];rw[this];simp
 have pu:∀k,(decide (i+k<s.size)&&(s.get! (i+k)).toNat/64==2)=true->i+k<s.size/\128<=(s.get! (i+k)).toNat:=by
  intro k h;simp only[J4,I6,beq_iff_eq]at h;exact⟨h.1,by omega⟩
 unfold Utf8.decode;simp only;by_cases h0:(s.get! (i+0)).toNat<128
 ·rw[d8 h0];refine⟨by simp,by simp;omega,?_⟩;simp only;rw[taken 1 (by omega)];simp only[List.range_one,H5,List.map_nil,List.any_cons,List.any_nil,U0];have e1:((((s.get! (i+0)).toNat:Nat):Int)==47)=(s.get! (i+0)==47):=by
   rw[Q9];simp only[beq_iff_eq];constructor
   ·intro h;apply UInt8.toNat_inj.1;show(s.get! (i+0)).toNat=47;omega
   ·intro h;rw[h];rfl
  have e2:((((s.get! (i+0)).toNat:Nat):Int)==0)=(s.get! (i+0)==0):=by
   rw[Q9];simp only[beq_iff_eq];constructor
   ·intro h;apply UInt8.toNat_inj.1;show(s.get! (i+0)).toNat=0;omega
   ·intro h;rw[h];rfl
  rw[e1,e2]
 rw[d7 h0];have zy:128<=(s.get! (i+0)).toNat:=by omega
 have one:∀c:Nat,128<=c->1<=((c,1):Nat×Nat).2/\i+((c,1):Nat×Nat).2<=s.size/\((((((c,1):Nat×Nat).1:Nat):Int)==47||((((c,1):Nat×Nat).1:Nat):Int)==0)=((s.toList.drop i).take ((c,1):Nat×Nat).2).any fun c=>c==47||c==0):=by
  intro c hc;refine⟨by simp,by simp;omega,?_⟩;rw[iq 1 (by omega) (fun k hk=>by cases (show k=0 by omega);exact zy)];simp;omega
 have many:∀c w:Nat,128<=c->1<=w->i+w<=s.size->(∀k,k<w->128<=(s.get! (i+k)).toNat)->1<=((c,w):Nat×Nat).2/\i+((c,w):Nat×Nat).2<=s.size/\((((((c,w):Nat×Nat).1:Nat):Int)==47||((((c,w):Nat×Nat).1:Nat):Int)==0)=((s.toList.drop i).take ((c,w):Nat×Nat).2).any fun c=>c==47||c==0):=by
  intro c w hc mu hw hk;refine⟨mu,hw,?_⟩;rw[iq w hw hk];simp;omega
 split
 ·rename_i h1;simp only[J4]at h1;have c1:=pu 1 (by simpa using h1.2);split
  ·rename_i h2
   exact many _ 2 h2 (by omega) (by omega) (fun k hk=>by
    rcases(by omega:k=0\/k=1)with e|e<;>subst e
    ·exact zy
    ·exact c1.2)
  ·exact one _ (by decide)
 ·split
  ·rename_i h1;simp only[J4]at h1;have c1:=pu 1 (by simpa using h1.1.2);have c2:=pu 2 (by simpa using h1.2);split
   ·rename_i h2;simp only[J4,I6]at h2
    exact many _ 3 (by omega) (by omega) (by omega) (fun k hk=>by
     rcases(by omega:k=0\/k=1\/k=2)with e|e|e<;>subst e
     ·exact zy
     ·exact c1.2
     ·exact c2.2)
   ·exact one _ (by decide)
  ·split
   ·rename_i h1;simp only[J4]at h1;have c1:=pu 1 (by simpa using h1.1.1.2);have c2:=pu 2 (by simpa using h1.1.2);have c3:=pu 3 (by simpa using h1.2);split
    ·rename_i h2;simp only[J4,I6]at h2
     exact many _ 4 (by omega) (by omega) (by omega) (fun k hk=>by
      rcases(by omega:k=0\/k=1\/k=2\/k=3)with e|e|e|e<;>subst e
      ·exact zy
      ·exact c1.2
      ·exact c2.2
      ·exact c3.2)
    ·exact one _ (by decide)
   ·exact one _ (by decide)
theorem cA1{v:u9}{x:Bool}{F:u9->Bool->H->Prop}{Y:H}(h2:F v x Y):HL.app (.tup [.sc .raw,.sc .bool]) F (.t [v,.bool x]) Y:=by
 unfold HL.app;exact h2
def ce0:List u9:=(List.range 256).map fun i=>.bool (i==47||i==0)
theorem ce1:E6 Tryz.prog 173=some 256:=by kernel_rfl
theorem bO8{Y:H}{K:KH}(hK:K (.t [.agg ⟨ce0⟩,.bool true]) Y):i7 150 [.s sl0] K Y:=by
 refine aa7 _ hK (du4 _ ?_);unfold cQ7;refine A5 ?_;intro b Y1 g1 e1 n1;refine H9 ?_;intro R hR;refine hR _ _ _ _ (l9 (by decide) (ba5 (i:=0) (c:=47) (by decide) (l7 (by decide) (j0 (D0 (by decide) ?_)))));refine C1 e1 aA6 ?_;intro Y2 p2;refine hR _ _ _ _ (l9 (by decide) (ba5 (i:=1) (c:=0) (by decide) (l7 (by decide) (j0 (D0 (by decide) ?_)))));refine C1 p2.same aA6 ?_;intro Y3 p3;have e3:Y3 b=some (.cells ⟨ce0⟩ 173 (0,0)):=by rw[p3.same];rfl
 have g3:Gr Y Y3:=(g1.putF p2 n1).putF p3 n1;refine hR _ _ _ _ (l7 (by decide) (j0 ?_));refine bK3 (D4 e3) ?_;refine C1 e3 ce1 ?_;intro Y4 p4;have e4:Y4 b=some (.cells ⟨ce0⟩ 173 (0,0)):=by rw[p4.same];rfl
 refine j0 (bK3 (D4 e4) ?_);exact⟨rfl,g3.putF p4 n1⟩
theorem bA7(s:d9)(hs:s.size<=1000000){Y:H}{K:KH}(hK:∀n:Int,decide (n>=0)=X6 s->K (.i n) Y):i7 204 [.s s,.s sl0] K Y:=by
 refine E2.drop (K':=fun v Y'=>∃n:Int,v=.i n/\decide (n>=0)=X6 s/\Gr Y Y') ?_ (fun v Y' ⟨n,hv,hn,hg⟩=>⟨Y,hg,hv ▸ hK n hn⟩);refine dx1 _ _ ?_;unfold cX1;refine l7 (by rw[C3,ByteArray.toList_eq,ByteArray.toList_eq];rfl) (l7 (by decide) ?_);refine K5 (fun j=>∀Y',Gr Y Y'->j s sl0 Y') ?_ ?_
 ·intro Y0 g0;refine aX5 P8 s ?_;intro b Y1 g1 e1 n1;refine H9 ?_;intro R hR;have key : ∀k i Y',s.size - i<=k->i<=s.size->Gr Y0 Y'->Y' b=some (.stringIter s i)->((s.toList.take i).any fun c=>c==47||c==0)=false->R sl0 (gp b) Y':=by
   intro k
   induction k with
   |zero =>
    intro i Y' hk hi hg hb hf;refine hR _ _ _ (ax2 hb (fun _=>⟨_,rfl,?_,g0.trans hg⟩) (fun iw=>by omega));have:s.toList.take i=s.toList:=by rw[Q1];rw[ByteArray.toList_eq];simp;omega
    rw[this]at hf;unfold X6;rw[<-ByteArray.toList_eq];rw[hf];decide
   |succ k ih =>
    intro i Y' hk hi hg hb hf;refine hR _ _ _ (ax2 hb (fun iw=>⟨_,rfl,?_,g0.trans hg⟩) (fun iw Y2 hp=>?_))
    ·have:s.toList.take i=s.toList:=by rw[Q1];rw[ByteArray.toList_eq];simp;omega
     rw[this]at hf;unfold X6;rw[<-ByteArray.toList_eq];rw[hf];decide
    ·obtain⟨d1,d2,d3⟩:=cd9 s i iw;have ir:Gr Y0 Y2:=hg.putF hp n1;refine l5 (bp1 _ ?_);intro n hn;refine C4 ?_;cases hc:((((Utf8.decode s i).1:Nat):Int)==47||(((Utf8.decode s i).1:Nat):Int)==0) with
     |true =>
      rw[hc]at hn d3;refine l9 hn ⟨_,rfl,?_,g0.trans ir⟩;have hb:X6 s=true:=by
       unfold X6;rw[<-ByteArray.toList_eq];obtain⟨c,h1,h2⟩:=List.any_eq_true.1 d3.symm;exact List.any_eq_true.2 ⟨c,List.mem_of_mem_drop (List.mem_of_mem_take h1),h2⟩
      rw[hb];simp
     |false =>
      rw[hc]at hn d3;refine l7 hn ?_;refine ih (i+(Utf8.decode s i).2) Y2 (by omega) d2 ir hp.same ?_;rw[List.take_add,List.any_append,hf,<- d3];rfl
  exact key _ 0 Y1 (A7 _) (by omega) g1 e1 rfl
 ·intro j hj;refine l5 ?_;refine dy2 _ ?_;unfold cZ3;refine H2 ?_;by_cases h8:8<s.size
  ·refine l9 (by simp;omega) ?_;refine l5 (bO8 ?_);refine cA1 ?_;refine A5 ?_;intro b Y1 g1 e1 n1;refine C1 e1 ce1 ?_;intro Y2 p2;have e2:Y2 b=some (.cells ⟨ce0⟩ 173 (0,0)):=by rw[p2.same];rfl
   have g2:Gr Y Y2:=g1.putF p2 n1;refine l9 rfl ?_;refine H9 ?_;intro R hR;have ib:s.toList.length=s.size:=by rw[ByteArray.toList_eq];simp
   have key:∀k i:Nat,s.size-i<=k->i<=s.size->((s.toList.take i).any fun c=>c==47||c==0)=false->R s (gp b) (i:Int) Y2:=by
    intro k
    induction k with
    |zero =>
     intro i hk hi hf;refine hR _ _ _ _ (l7 (by simp;omega) ⟨_,rfl,?_,g2⟩);have:s.toList.take i=s.toList:=by rw[Q1];omega
     rw[this]at hf;unfold X6;rw[<-ByteArray.toList_eq];rw[hf];decide
    |succ k ih =>
     intro i hk hi hf;by_cases iw:i<s.size
     ·refine hR _ _ _ _ (l9 (by simp;omega) ?_);have gx:s[i]?=some s[i]:=by simp[iw]
      refine ba5 gx ?_;refine l5 ?_;refine dw9 _ _ ?_;unfold cW7;have Fl:(s[i]).toNat<256:=UInt8.toNat_lt _;refine j0 (D0 ⟨by omega,by omega⟩ ?_);refine an2 (x:=(s[i].toNat==47||s[i].toNat==0)) (f0 e2 ?_) (H2 ?_)
      ·have:(0+(((s[i]).toNat:Int)).toNat*1)=(s[i]).toNat:=by omega
       rw[this];simp[ce0,Fl]
      ·have hc : (s[i].toNat == 47 || s[i].toNat == 0) = (s[i] == 47 || s[i] == 0) := by
        have q:∀n:J3,(s[i].toNat==n.toNat)=(s[i]==n):=by
         intro n;rw[Q9];simp only[beq_iff_eq];exact UInt8.toNat_inj
        have q1:=q 47;have q2:=q 0;rw[<-q1,<- q2];rfl
       rw[hc];have hli:s.toList[i]?=some s[i]:=by
        rw[ByteArray.toList_eq];simp[iw,ByteArray.getElem_eq_getElem_data]
       cases hv:(s[i]==47||s[i]==0) with
       |true =>
        refine l9 rfl ⟨_,rfl,?_,g2⟩;have hb:X6 s=true:=by
         unfold X6;rw[<-ByteArray.toList_eq];exact List.any_eq_true.2 ⟨s[i],K7 hli,hv⟩
        rw[hb];simp
       |false =>
        refine l7 rfl ?_;rw[D7 (by omega) (by omega)];refine ih (i+1) (by omega) (by omega) ?_;rw[R1,List.any_append,hf,hli];simpa using hv
     ·refine hR _ _ _ _ (l7 (by simp;omega) ⟨_,rfl,?_,g2⟩);have:s.toList.take i=s.toList:=by rw[Q1];omega
      rw[this]at hf;unfold X6;rw[<-ByteArray.toList_eq];rw[hf];decide
   exact key _ 0 (A7 _) (by omega) rfl
  ·exact l7 (by simp;omega) (hj Y (Gr.refl _))
theorem cA2:cd1:=by
 intro s hs Y K hK;refine dv1 _ _ ?_;unfold cS3;refine l5 (bA7 s hs ?_);intro n hn;refine C4 ?_;rw[hn];exact hK
theorem aT3(s:d9)(c:J3){Y:H}{K:KH}(hK:K (.i (firstIdx s c)) Y):i7 133 [.s s,.int .u8 (c.toNat:Int)] K Y:=by
 refine cN9 _ _ ?_;unfold cy0;refine cs9 s _ ?_;have:((c.toNat:Int)).toNat.toUInt8=c:=by simp
 rw[this];exact hK
theorem aW2(c:J3):firstIdx ⟨⟨[c]⟩⟩ c=0:=by
 rcases ai7 ⟨⟨[c]⟩⟩ c with⟨_,h⟩|⟨i,h,h2,_⟩
 ·simp at h
 ·have:i<1:=h2;omega
theorem bp2(s:d9)(c:J3){Y:H}{K:KH}(hK:K (.i (firstIdx s c)) Y):cy7 s ⟨⟨[c]⟩⟩ K Y:=by
 unfold cy7;refine K5 (fun j=>∀b:Bool,(b=true->s=⟨⟨[c]⟩⟩)->j s ⟨⟨[c]⟩⟩ (((⟨⟨[c]⟩⟩:d9).size:Nat):Int) b Y) ?_ ?_
 ·intro b hb;cases b with
  |true =>
   refine l9 rfl ?_;have:=hb rfl;subst this;rw[aW2]at hK;exact hK
  |false =>
   refine l7 rfl (l9 rfl (X9 (c:=c) (by decide) rfl ?_));exact l5 (aT3 s c (C4 hK))
 ·intro j hj;refine l7 rfl (hj _ ?_);intro h;exact(Z3.1 h).symm
theorem bp3(s:d9)(c:J3){Y:H}{K:KH}(hK:K (.i (firstIdx s c)) Y):i7 245 [.s s,.s ⟨⟨[c]⟩⟩] K Y:=by
 refine dy7 _ _ ?_;unfold da3;exact l5 (dy8 _ _ (bp2 s c (C4 hK)))
section
variable {ι:Type}
theorem ce2{c:J3}{y:u9}{b5 b4 b6:Nat}{t5 t4 t6:TypeId}{D:Nat->Prop}{I:List d9->H->Prop}{S:H->Prop}(C:Cl Tryz.prog y D (fun(a:d9) args _=>args=[.s a]) I S)(d4:D b4)(d5:D b5)(d6:D b6)(n45:b5≠b4)(n46:b6≠b4){K:KH}(Bs:∀Y',I [] Y'->K (.t []) Y')(je:∀Y',S Y'->K (.t []) Y')
 {Y:H} {s:d9} (h5:Y b5=some (.c [.s ⟨⟨[c]⟩⟩] t5)) (h4:Y b4=some (.c [.s s] t4)) (h6:Y b6=some (.c [.i 0] t6)) (hs:s.size<=1000000000) (hI:I (aq8 c s) Y) :
 i7 244 [y,.q b5,.q b4,.q b6] K Y:=by
 refine dy6 _ _ _ _ ?_;unfold da1
 (repeat (first|refine zz ?_|(refine A5 ?_;intro _ _ _ _ _)|(refine z6 ?_;intro _ _)|(refine l6 rfl ?_;try dsimp only)))
 refine l7 rfl ?_;refine H9 ?_;intro R hR;have key:∀ (n:Nat) (s:d9) (Y:H),s.size<=n->s.size<=1000000000->Y b5=some (.c [.s ⟨⟨[c]⟩⟩] t5)->Y b4=some (.c [.s s] t4)->Y b6=some (.c [.i 0] t6)->I (aq8 c s) Y ->
  R y (gp b5) (gp b4) (gp b6) Y:=by
  intro n
  induction n with
  |zero =>
   intro s Y hn hs h5 h4 h6 hI;refine hR _ _ _ _ _ ?_
   (repeat (first|refine zz ?_|(refine A5 ?_;intro _ _ _ _ _)|(refine z6 ?_;intro _ _)|(refine l6 rfl ?_;try dsimp only)))
   refine l5 (bp3 s c (C4 ?_));by_cases hi:firstIdx s c<0
   ·refine l9 (by simpa using hi) ?_
    (repeat (first|refine zz ?_|(refine A5 ?_;intro _ _ _ _ _)|(refine z6 ?_;intro _ _)|(refine l6 rfl ?_;try dsimp only)))
    rw[aE9 hi]at hI;refine al1 (C.call s [] _ Y _ hI rfl ?_ ?_)
    ·intro Y' h _;exact H2 (Bs Y' h)
    ·intro Y' h _;exact H2 (je Y' h)
   ·have:=(aF0 (c:=c) (s:=s) (by omega)).1;omega
  |succ n ih =>
   intro s Y hn hs h5 h4 h6 hI;refine hR _ _ _ _ _ ?_
   (repeat (first|refine zz ?_|(refine A5 ?_;intro _ _ _ _ _)|(refine z6 ?_;intro _ _)|(refine l6 rfl ?_;try dsimp only)))
   refine l5 (bp3 s c (C4 ?_));by_cases hi:firstIdx s c<0
   ·refine l9 (by simpa using hi) ?_
    (repeat (first|refine zz ?_|(refine A5 ?_;intro _ _ _ _ _)|(refine z6 ?_;intro _ _)|(refine l6 rfl ?_;try dsimp only)))
    rw[aE9 hi]at hI;refine al1 (C.call s [] _ Y _ hI rfl ?_ ?_)
    ·intro Y' h _;exact H2 (Bs Y' h)
    ·intro Y' h _;exact H2 (je Y' h)
   ·obtain⟨iw,hp⟩:=aF0 (c:=c) (s:=s) (by omega);rw[hp]at hI;refine l7 (by simpa using hi) ?_
    (repeat (first|refine zz ?_|(refine A5 ?_;intro _ _ _ _ _)|(refine z6 ?_;intro _ _)|(refine l6 rfl ?_;try dsimp only)))
    have w0:IntKind.i64.wrap (firstIdx s c+0)=firstIdx s c:=by rw[D7 (by omega) (by omega)];omega
    have w1:IntKind.i64.wrap (firstIdx s c+(((⟨⟨[c]⟩⟩:d9).size:Nat):Int))=firstIdx s c+1:=by
     show IntKind.i64.wrap (firstIdx s c+1)=_;rw[D7 (by omega) (by omega)]
    rw[w0];refine D0 ⟨J2 (by omega) (by omega),M8⟩ ?_;refine al1 (C.call _ _ _ Y _ hI rfl ?_ ?_)
    ·intro Y' h ho;refine H2 (l7 rfl ?_);have Fm:=ho _ _ d5 h5;have h4':=ho _ _ d4 h4;have Db:=ho _ _ d6 h6
     (repeat (first|refine zz ?_|(refine A5 ?_;intro _ _ _ _ _)|(refine z6 ?_;intro _ _)|(refine l6 rfl ?_;try dsimp only)))
     rw[w1];refine D0 ⟨M8,J2 (by omega) (by omega)⟩ ?_
     (repeat (first|refine zz ?_|(refine A5 ?_;intro _ _ _ _ _)|(refine z6 ?_;intro _ _)|(refine l6 rfl ?_;try dsimp only)))
     rename_i Y2 p2;have e1:(firstIdx s c+1).toNat=(firstIdx s c).toNat+1:=by omega
     rw[e1]at p2;have hsz:(s.extract ((firstIdx s c).toNat+1) s.size).size=s.size-((firstIdx s c).toNat+1):=by rw[ByteArray.size_extract];omega
     refine ih _ Y2 (by rw[hsz];omega) (by rw[hsz];omega) (p2.get n45 Fm) p2.same (p2.get n46 Db) (C.put _ _ _ _ _ h d4 p2)
    ·intro Y' h _;exact H2 (l9 rfl (je Y' h))
 exact key s.size s Y (A7 _) hs h5 h4 h6 hI
end
theorem bA8(s sep:d9){Y:H}{K:KH}(hK:∀b4 b5 b6 Y',Gr Y Y'->Y b4=none->Y b5=none->Y b6=none->b5≠b4->b6≠b4->Y' b4=some (.c [.s s] 9)->Y' b5=some (.c [.s sep] 9)->Y' b6=some (.c [.i 0] 3)->K (.func (.func 244) ⟨[]⟩ ⟨[.q b5,.q b4,.q b6]⟩) Y') :
 i7 207 [.s s,.s sep] K Y:=by
 refine dx4 _ _ ?_;unfold cX7;refine l5 (dy3 _ _ _ ?_);unfold cZ5;refine A5 ?_;intro b4 Y1 g1 e1 n1;refine A5 ?_;intro b5 Y2 g2 e2 n2;refine A5 ?_;intro b6 Y3 g3 e3 n3;refine ae4 ?_;exact hK b4 b5 b6 Y3 (by repeat (first|exact Gr.refl _|assumption|refine Gr.trans ?_ ‹_›|refine Gr.putF ?_ ‹_› (A9 ?_ ‹_›))) n1 (A9 g1 n2) (A9 (g1.trans g2) n3) (H6 n2 (by repeat (first|exact io ‹_›|exact mS ‹_›|refine gS ‹_› ?_|refine pS ‹_› ?_))).symm (H6 n3 (by repeat (first|exact io ‹_›|exact mS ‹_›|refine gS ‹_› ?_|refine pS ‹_› ?_))).symm (by exact gA) (by exact gA) (by exact gA)
theorem bO9:Z0 Tryz.prog 244=true:=by kernel_rfl
theorem bP0:Z0 Tryz.prog 206=true:=by kernel_rfl
theorem cn7(gc:d9){Y:H}{K:KH}(hK:∀b2 Y',Gr Y Y'->Y b2=none->Y' b2=some (.c [.s gc] 9)->K (.func (.func 206) ⟨[]⟩ ⟨[.q b2]⟩) Y'):i7 171 [.s gc] K Y:=by
 refine dv9 _ ?_;unfold cT9;refine A5 ?_;intro b2 Y1 g1 e1 n1;exact hK b2 Y1 g1 n1 e1
def aK3(Y:H)(b4 b5:Nat):Option d9->Prop
 |none=>Y b5=some (.c [.bool false] 4)/\∃x,Y b4=some (.c [.s x] 9)
 |some a=>Y b5=some (.c [.bool true] 4)/\Y b4=some (.c [.s a] 9)
def ct0:Option d9->List d9
 |none=>[]
 |some a=>[a]
theorem aK3.keep{Y Y':H}{b4 b5:Nat}{p:Option d9}(h:aK3 Y b4 b5 p)(h4:∀o,Y b4=some o->Y' b4=some o)(h5:∀o,Y b5=some o->Y' b5=some o):aK3 Y' b4 b5 p:=by
 cases p with
 |none=>obtain⟨h1,x,h2⟩:=h;exact⟨h5 _ h1,x,h4 _ h2⟩
 |some a=>exact⟨h5 _ h.1,h4 _ h.2⟩
theorem bP1(a:d9):S8 a=!(C3 a gq||C3 a (bs [46])):=by unfold S8;rw[I5,I5];simp
theorem ce3{Y:H}{fy:Fn}{ay cy:Array u9}{b2:Nat}{gc:d9}{t:TypeId}(h2:Y b2=some (.c [.s gc] t))(hs:gc.size<=1000000000){K:KH}
 (hC:∀D:Nat->Prop,(∀b,D b->Y b=none)->∃I S,Cl Tryz.prog (.func fy ay cy) D (fun(a:d9×Bool) args _=>args=[.s a.1,.bool a.2]) I S/\(∀Y',Gr Y Y'->(∀b,D b->(Y' b).isSome=true)->I (aF1 (N1 gc)) Y')/\(∀Y',I [] Y'->K (.t []) Y')/\(∀Y',S Y'->K (.t []) Y')) :
 i7 206 [.func fy ay cy,.q b2] K Y:=by
 refine dx3 _ _ ?_;unfold cX5;refine an0 ?_;refine A5 ?_;intro b3 Y1 g1 e1 n1;refine A5 ?_;intro b4 Y2 g2 e2 n2;refine A5 ?_;intro b5 Y3 g3 e3 n3;have n43:b4≠b3:=(H6 n2 (by repeat (first|exact io ‹_›|exact mS ‹_›|refine gS ‹_› ?_|refine pS ‹_› ?_))).symm;have n53:b5≠b3:=(H6 n3 (by repeat (first|exact io ‹_›|exact mS ‹_›|refine gS ‹_› ?_|refine pS ‹_› ?_))).symm;have n54:b5≠b4:=(H6 n3 (by repeat (first|exact io ‹_›|exact mS ‹_›|refine gS ‹_› ?_|refine pS ‹_› ?_))).symm;have f4:Y b4=none:=A9 g1 n2;have f5:Y b5=none:=A9 (g1.trans g2) n3;have iz:Lng Y Y3:=⟨by repeat (first|exact Gr.refl _|assumption|refine Gr.trans ?_ ‹_›|refine Gr.putF ?_ ‹_› (A9 ?_ ‹_›))⟩;have k2:=iz.gr.get h2
 (refine C1 (by exact gA) szA ?_;intro _ _)
 rename_i Y4 p4
 (refine C1 (by exact gA) szA ?_;intro _ _)
 rename_i Y5 p5;have pv:Lng Y Y5:=⟨(iz.gr.putF p4 f4).putF p5 f5⟩;have k5:Y5 b5=some (.c [.bool false] 4):=p5.same;have k4:Y5 b4=some (.c [.s gq] 9):=p5.get n54.symm p4.same;have k3:Y5 b3=some (.c [.func fy ay cy] 124):=p5.get n53.symm (p4.get n43.symm (by exact gA));have k2q:=pv.gr.get h2;clear p4 p5 e2 e3 k2 iz;refine K5 (fun j=>∀ (I:List (d9×Bool)->H->Prop) (S:H->Prop) (D:Nat->Prop),Cl Tryz.prog (.func fy ay cy) D (fun(a:d9×Bool) args _=>args=[.s a.1,.bool a.2]) I S->(∀Y',I [] Y'->K (.t []) Y')->(∀Y',S Y'->K (.t []) Y')->∀Y' p,Y' b3=some (.c [.func fy ay cy] 124)->aK3 Y' b4 b5 p->I (aF1 (ct0 p)) Y'->j (gp b3) (gp b4) (gp b5) Y') ?_ ?_
 ·intro I S D C Bs je Y' p h3 hp hI;cases p with
  |none =>
   obtain⟨h5,x,h4⟩:=hp
   (repeat (first|refine zz ?_|(refine A5 ?_;intro _ _ _ _ _)|(refine z6 ?_;intro _ _)|(refine l6 rfl ?_;try dsimp only)))
   exact l7 rfl (Bs Y' hI)
  |some a =>
   obtain⟨h5,h4⟩:=hp
   (repeat (first|refine zz ?_|(refine A5 ?_;intro _ _ _ _ _)|(refine z6 ?_;intro _ _)|(refine l6 rfl ?_;try dsimp only)))
   refine l9 rfl ?_
   (repeat (first|refine zz ?_|(refine A5 ?_;intro _ _ _ _ _)|(refine z6 ?_;intro _ _)|(refine l6 rfl ?_;try dsimp only)))
   refine al1 (C.call (a,true) [] _ Y' _ hI rfl ?_ ?_)
   ·intro Y'' h _;exact H2 (Bs Y'' h)
   ·intro Y'' h _;exact H2 (je Y'' h)
 ·intro j hj
  (repeat (first|refine zz ?_|(refine A5 ?_;intro _ _ _ _ _)|(refine z6 ?_;intro _ _)|(refine l6 rfl ?_;try dsimp only)))
  refine l5 (bA8 _ _ ?_);intro q4 q5 q6 Y6 g6 m4 m5 m6 nq1 nq2 u4 u5 u6;refine ae4 (bW3 ?_);refine cv8 bO9 ?_;intro l obj Y7 nl pl nk hY;have pw:Gr Y Y6:=pv.gr.trans g6;have fl:Y l=none:=A9 pw nl;have Dg:Gr Y Y7:=pw.putF pl fl;have ql4:q4≠l:=H6 nl (A8 u4);have ql5:q5≠l:=H6 nl (A8 u5);have ql6:q6≠l:=H6 nl (A8 u6);have bl3:b3≠l:=H6 nl (A8 (g6.get k3));have bl4:b4≠l:=H6 nl (A8 (g6.get k4));have bl5:b5≠l:=H6 nl (A8 (g6.get k5));have q43:b3≠q4:=H6 m4 (A8 k3);have q44:b4≠q4:=H6 m4 (A8 k4);have q45:b5≠q4:=H6 m4 (A8 k5);have q53:b3≠q5:=H6 m5 (A8 k3);have q54:b4≠q5:=H6 m5 (A8 k4);have q55:b5≠q5:=H6 m5 (A8 k5);have q63:b3≠q6:=H6 m6 (A8 k3);have q64:b4≠q6:=H6 m6 (A8 k4);have q65:b5≠q6:=H6 m6 (A8 k5);obtain⟨I,S,C,hI0,Bs,je⟩:=hC (fun b=>Y b=none/\(Y7 b).isSome=true) (fun b h=>h.1);have v4:=pl.get ql4 u4;have v5:=pl.get ql5 u5;have v6:=pl.get ql6 u6;have w3:=pl.get bl3 (g6.get k3);have w4:=pl.get bl4 (g6.get k4);have w5:=pl.get bl5 (g6.get k5);have d3:Y b3=none/\(Y7 b3).isSome=true:=⟨n1,A8 w3⟩;have d4:Y b4=none/\(Y7 b4).isSome=true:=⟨f4,A8 w4⟩;have d5:Y b5=none/\(Y7 b5).isSome=true:=⟨f5,A8 w5⟩;have dl:Y l=none/\(Y7 l).isSome=true:=⟨fl,A8 pl.same⟩
  have dq4:Y q4=none/\(Y7 q4).isSome=true:=⟨A9 pv.gr m4,A8 v4⟩;have dq5:Y q5=none/\(Y7 q5).isSome=true:=⟨A9 pv.gr m5,A8 v5⟩;have dq6:Y q6=none/\(Y7 q6).isSome=true:=⟨A9 pv.gr m6,A8 v6⟩
  let D':Nat->Prop:=fun b=>b=q4\/b=q5\/b=q6
  have qs:∀b,D' b->b≠b3/\b≠b4/\b≠b5/\b≠l/\(Y b=none/\(Y7 b).isSome=true):=by
   rintro b (rfl|rfl|rfl)
   ·exact⟨q43.symm,q44.symm,q45.symm,ql4,dq4⟩
   ·exact⟨q53.symm,q54.symm,q55.symm,ql5,dq5⟩
   ·exact⟨q63.symm,q64.symm,q65.symm,ql6,dq6⟩
  let I':List d9->H->Prop:=fun r Y'=>∃p,I (aF1 (ct0 p++r.filter S8)) Y'/\Y' b3=some (.c [.func fy ay cy] 124)/\aK3 Y' b4 b5 p/\Y' l=some (obj .ready none)
  let S':H->Prop:=fun Y'=>S Y'/\Y' l=some (obj .done (some .ret))
  have C':Cl Tryz.prog (yv l) D' (fun(a:d9) args _=>args=[.s a]) I' S':=by
   refine⟨?_,?_,?_,?_,?_⟩
   ·rintro r V b o V' ⟨p,h1,h3,hp,h5⟩ hb ng
    obtain⟨a1,a2,a3,a4,a5⟩:=qs b hb;exact⟨p,C.put _ _ _ _ _ h1 a5 ng,ng.get a1.symm h3,hp.keep (fun _ h=>ng.get a2.symm h) (fun _ h=>ng.get a3.symm h),ng.get a4.symm h5⟩
   ·rintro V b o V' ⟨h1,h5⟩ hb ng
    obtain⟨a1,a2,a3,a4,a5⟩:=qs b hb;exact⟨C.putS _ _ _ _ h1 a5 ng,ng.get a4.symm h5⟩
   ·rintro r V V' ⟨p,h1,h3,hp,h5⟩ hg
    exact⟨p,C.gr _ _ _ h1 hg,hg.get h3,hp.keep (fun _ h=>hg.get h) (fun _ h=>hg.get h),hg.get h5⟩
   ·rintro V V' ⟨h1,h5⟩ hg
    exact⟨C.grS _ _ h1 hg,hg.get h5⟩
   ·rintro a r args V K' ⟨p,h1,h3,hp,h5⟩ rfl hT hF
    refine bd6 (hY _ _ _ ⟨h5,?_⟩);show M9 l obj _ V;refine bW4 h5 ?_;intro V1 pb;have i1:=C.put _ _ _ _ _ h1 dl pb;have x3:=pb.get bl3 h3;have xp:aK3 V1 b4 b5 p:=hp.keep (fun _ h=>pb.get bl4 h) (fun _ h=>pb.get bl5 h);have xl:V1 l=some (obj .busy none):=pb.same;have own1:ap0 D' V V1:=(ap0.refl D' V).put pb (fun h=>(qs l h).2.2.2.1 rfl);refine K5 (fun j=>∀t:Bool,(t=!S8 a)->j (gp b3) (gp b4) (gp b5) a t V1) ?_ ?_
    ·intro t ht;cases jb:S8 a with
     |false =>
      rw[jb]at ht;subst ht;refine l9 rfl (au9 xl ?_);intro V2 pr;refine hT V2 ⟨p,?_,pr.get bl3 x3,xp.keep (fun _ h=>pr.get bl4 h) (fun _ h=>pr.get bl5 h),pr.same⟩ (own1.put pr (fun h=>(qs l h).2.2.2.1 rfl));have:=C.put _ _ _ _ _ i1 dl pr;simpa[List.filter_cons,jb]using this
     |true =>
      rw[jb]at ht;subst ht;refine l7 rfl ?_;refine K5 (fun j=>(∀V2 x,I (aF1 (a::r.filter S8)) V2->ap0 D' V V2->V2 b3=some (.c [.func fy ay cy] 124)->V2 b4=some (.c [.s x] 9)->(∃u,V2 b5=some (.c [.bool u] 4))->V2 l=some (obj .busy none)->j (gp b4) (gp b5) a false V2)/\(∀V2,S V2->ap0 D' V V2->V2 l=some (obj .busy none)->j (gp b4) (gp b5) a true V2)) ?_ ?_
      ·refine⟨?_,?_⟩
       ·intro V2 x j1 j2 j3 j4 ⟨u,j5⟩ j6;refine l7 rfl ?_
        (refine C1 (by exact gA) szA ?_;intro _ _)
        rename_i V3 r3;have j5':=r3.get n54 j5
        (refine C1 (by exact gA) szA ?_;intro _ _)
        rename_i V4 r4;have j6':V4 l=some (obj .busy none):=r4.get bl5.symm (r3.get bl4.symm j6);refine au9 j6' ?_;intro V5 r5;refine hT V5 ⟨some a,C.put _ _ _ _ _ (C.put _ _ _ _ _ (C.put _ _ _ _ _ j1 d4 r3) d5 r4) dl r5,r5.get bl3 (r4.get n53.symm (r3.get n43.symm j3)),⟨r5.get bl5 r4.same,r5.get bl4 (r4.get n54.symm r3.same)⟩,r5.same⟩ (((j2.put r3 (fun h=>(qs b4 h).2.1 rfl)).put r4 (fun h=>(qs b5 h).2.2.1 rfl)).put r5 (fun h=>(qs l h).2.2.2.1 rfl))
       ·intro V2 j1 j2 j6;refine l9 rfl (au9 j6 ?_);intro V3 r3;exact hF V3 ⟨C.putS _ _ _ _ j1 dl r3,r3.same⟩ (j2.put r3 (fun h=>(qs l h).2.2.2.1 rfl))
      ·rintro j ⟨uu,lx⟩
       simp only[List.filter_cons,jb,if_true]at i1;cases p with
       |none =>
        obtain⟨y5,x,y4⟩:=xp
        (repeat (first|refine zz ?_|(refine A5 ?_;intro _ _ _ _ _)|(refine z6 ?_;intro _ _)|(refine l6 rfl ?_;try dsimp only)))
        exact l7 rfl (uu V1 x i1 own1 x3 y4 ⟨_,y5⟩ xl)
       |some a0 =>
        obtain⟨y5,y4⟩:=xp
        (repeat (first|refine zz ?_|(refine A5 ?_;intro _ _ _ _ _)|(refine z6 ?_;intro _ _)|(refine l6 rfl ?_;try dsimp only)))
        refine l9 rfl ?_
        (repeat (first|refine zz ?_|(refine A5 ?_;intro _ _ _ _ _)|(refine z6 ?_;intro _ _)|(refine l6 rfl ?_;try dsimp only)))
        refine al1 (C.call (a0,false) _ _ V1 _ i1 rfl ?_ ?_)
        ·intro V2 z1 z2;exact H2 (uu V2 a0 z1 (own1.trans fun b o hb h=>z2 b o (qs b hb).2.2.2.2 h) (z2 _ _ d3 x3) (z2 _ _ d4 y4) ⟨_,z2 _ _ d5 y5⟩ (z2 _ _ dl xl))
        ·intro V2 z1 z2;exact H2 (lx V2 z1 (own1.trans fun b o hb h=>z2 b o (qs b hb).2.2.2.2 h) (z2 _ _ dl xl))
    ·intro j hj;have e:=bP1 a;cases h1:C3 a gq with
     |true=>exact l9 rfl (hj true (by rw[e,h1];rfl))
     |false=>exact l7 rfl (hj _ (by rw[e,h1];simp))
  refine ce2 (c:=47) C' (.inl rfl) (.inr (.inl rfl)) (.inr (.inr rfl)) nq1 nq2 ?_ ?_ v5 v4 v6 hs ?_
  ·rintro V ⟨p,h1,h3,hp,h5⟩
   refine bW5 h5 (by intro h;cases h) ?_;intro V1 pr;simp only[List.filter_nil,ac3]at h1;exact hj I S _ C Bs je V1 p (pr.get bl3 h3) (hp.keep (fun _ h=>pr.get bl4 h) (fun _ h=>pr.get bl5 h)) (C.put _ _ _ _ _ h1 dl pr)
  ·rintro V ⟨h1,h5⟩
   refine bW6 h5 (by intro h;cases h) ?_;intro V1 pr;exact je V1 (C.putS _ _ _ _ h1 dl pr)
  ·refine⟨none,?_,w3,⟨w5,_,w4⟩,pl.same⟩;have:=hI0 Y7 Dg (fun b h=>h.2);rw[bK9]at this;exact this
def J8(Y:H)(bf:Nat)(A:AT)(B:Nat->Prop):Prop:=∃bt B0,Y bf=some (.c [.q bt] 71)/\W8 Y bt A B0/\¬B0 bf/\∀b,B b↔(B0 b\/b=bf)
section
variable {Y Y':H} {bf:Nat} {A:AT} {B:Nat->Prop} {b:Nat} {o:Obj}
theorem J8.gr(h:J8 Y bf A B)(hg:Gr Y Y'):J8 Y' bf A B:=by
 obtain⟨bt,B0,h1,h2,h3,h4⟩:=h;exact⟨bt,B0,hg.get h1,h2.gr hg,h3,h4⟩
theorem J8.put(h:J8 Y bf A B)(hp:P1 Y b o Y')(hn:¬B b):J8 Y' bf A B:=by
 obtain⟨bt,B0,h1,h2,h3,h4⟩:=h;exact⟨bt,B0,hp.get (fun e=>hn ((h4 b).2 (.inr e.symm))) h1,h2.put hp (fun e=>hn ((h4 b).2 (.inl e))),h3,h4⟩
theorem J8.has(h:J8 Y bf A B)(hb:B b):∃o,Y b=some o:=by
 obtain⟨bt,B0,h1,h2,h3,h4⟩:=h;rcases(h4 b).1 hb with e|e
 ·exact h2.some e
 ·subst e;exact⟨_,h1⟩
theorem J8.fresh(h:J8 Y bf A B)(hb:Y b=none):¬B b:=by
 intro hB;obtain⟨o,ho⟩:=h.has hB;rw[hb]at ho;cases ho
end
def inV(n:IN):List u9:=[.i n.kind,.i n.mode,.s n.data,.i n.links]
section
variable {Y:H} {bt:Nat} {A:AT} {B:Nat->Prop}
theorem bf9(h:W8 Y bt A B)(i:Int){K:KH}(hK:K (.t [.agg ⟨inV (A.gf i)⟩,.bool (A.get i).isSome]) Y):i7 61 [.q bt,.i i] K Y:=by
 obtain⟨T,h1,h2,rfl,h4⟩:=h;refine cy9 h1 i ?_;have e1:T.node i=inV (T.abs.gf i):=by
  unfold Tb.node AT.gf;rw[Q3];cases T.get i<;>rfl
 have e2:(T.abs.get i).isSome=(T.get i).isSome:=by rw[Q3];cases T.get i<;>rfl
 rw[e1,<- e2];exact hK
theorem bA9(h:W8 Y bt A B)(d:Int)(s:d9){K:KH}(hK:K (.t [.i ((A.find d s).getD 0),.bool (A.find d s).isSome]) Y):i7 165 [.q bt,.i d,.s s] K Y:=by
 obtain⟨T,h1,h2,rfl,h4⟩:=h;rw[ag4]at hK;exact aJ9 h1 d s hK
theorem cn8(h:W8 Y bt A B)(d:Int){K:KH}(hK:K (.i (A.upOf d)) Y):i7 114 [.q bt,.i d] K Y:=by
 obtain⟨T,h1,h2,rfl,h4⟩:=h;rw[cz0]at hK;exact dy9 h1 d hK
theorem cA3(h:W8 Y bt A B){K:KH}(hK:K (.g [.i A.ui,.i A.ub]) Y):i7 46 [.q bt] K Y:=by
 obtain⟨T,h1,h2,rfl,h4⟩:=h;exact cm8 h1 hK
end
theorem bp4(A:AT)(i:Int):(A.gf i).kind=A.kind i:=by unfold AT.gf AT.kind;cases A.get i<;>rfl
theorem bp5(A:AT)(i:Int):(A.gf i).data=A.data i:=by unfold AT.gf AT.data;cases A.get i<;>rfl
section
variable {Y:H} {bf:Nat} {A:AT} {B:Nat->Prop}
theorem bg0(h:J8 Y bf A B){K:KH}(hK:K (.bool false) Y):i7 45 [.q bf] K Y:=by
 obtain⟨bt,B0,h1,h2,h3,h4⟩:=h;refine c45 _ ?_;unfold g45;refine l7 rfl ?_
 (repeat (first|refine zz ?_|(refine A5 ?_;intro _ _ _ _ _)|(refine z6 ?_;intro _ _)|(refine l6 rfl ?_;try dsimp only)))
 exact hK
theorem ap9(h:J8 Y bf A B)(i:Int){K:KH}(hK:K (.i (A.kind i)) Y):i7 127 [.q bf,.i i] K Y:=by
 obtain⟨bt,B0,h1,h2,h3,h4⟩:=h;refine aa7 _ hK (ds6 _ _ ?_);unfold cM7
 (repeat (first|refine zz ?_|(refine A5 ?_;intro _ _ _ _ _)|(refine z6 ?_;intro _ _)|(refine l6 rfl ?_;try dsimp only)))
 refine l5 (bf9 h2 i ?_);unfold inV;rw[bp4]
 (repeat (first|refine zz ?_|(refine A5 ?_;intro _ _ _ _ _)|(refine z6 ?_;intro _ _)|(refine l6 rfl ?_;try dsimp only)))
 exact⟨rfl,by repeat (first|exact Gr.refl _|assumption|refine Gr.trans ?_ ‹_›|refine Gr.putF ?_ ‹_› (A9 ?_ ‹_›))⟩
theorem cA4(h:J8 Y bf A B){K:KH}(hK:K (.g [.i A.ui,.i A.ub]) Y):i7 8 [.q bf] K Y:=by
 refine aa7 _ hK (c8 _ ?_);unfold g8;refine A5 ?_;intro b2 Y1 g1 e1 n1;refine l5 (bg0 (h.gr g1) (H2 (l7 rfl ?_)));obtain⟨bt,B0,h1,h2,h3,h4⟩:=h
 (repeat (first|refine zz ?_|(refine A5 ?_;intro _ _ _ _ _)|(refine z6 ?_;intro _ _)|(refine l6 rfl ?_;try dsimp only)))
 refine l5 (cA3 (h2.gr g1) ?_)
 (repeat (first|refine zz ?_|(refine A5 ?_;intro _ _ _ _ _)|(refine z6 ?_;intro _ _)|(refine l6 rfl ?_;try dsimp only)))
 exact⟨rfl,by repeat (first|exact Gr.refl _|assumption|refine Gr.trans ?_ ‹_›|refine Gr.putF ?_ ‹_› (A9 ?_ ‹_›))⟩
end
theorem da5(gc:d9){Y:H}{K:KH}(hK:K (.i (ab1 gc)) Y):i7 170 [.s gc] K Y:=by
 refine dv8 _ ?_;unfold cT7;unfold ab1 at hK;rw[I5]at hK;cases h1:C3 gc gq with
 |true=>rw[h1]at hK;exact l9 rfl hK
 |false =>
  rw[h1]at hK;refine l7 rfl ?_;by_cases h2:gc.size>255
  ·refine l9 (by simp;omega) ?_;simpa[h2]using hK
  ·refine l7 (by simp;omega) (l5 (cd5 _ _ _ ?_));intro n hn;refine C4 ?_;simp only[h2,if_false,D2]at hK;cases h3:W6 gc with
   |true =>
    rw[h3]at hn hK;exact l9 (by simp at hn⊢;omega) hK
   |false =>
    rw[h3]at hn hK;exact l7 (by simp at hn⊢;omega) hK
def plC(p:Pl):List u9:=[.i p.gh,.s p.gu,.i p.gf,.bool p.there]
theorem ag5:E6 Tryz.prog 89=some 4:=by kernel_rfl
theorem aH0:E6 Tryz.prog 45=some 1:=by kernel_rfl
theorem ah7{gc:d9}(h:ab1 gc=0):gc.size<=255/\∃c r,gc.data.toList=c::r:=by
 unfold ab1 at h;cases h1:E8 gc gq with
 |true=>rw[h1]at h;simp at h
 |false =>
  rw[h1]at h;by_cases h2:gc.size>255
  ·simp[h2]at h
  ·refine⟨by omega,?_⟩;cases hl:gc.data.toList with
   |nil =>
    exfalso
    have:E8 gc gq=true:=by unfold E8;rw[hl];rfl
    rw[h1]at this;cases this
   |cons c r=>exact⟨c,r,rfl⟩
theorem bB0{gd:List d9}{a:d9×Bool}{r:List (d9×Bool)}(h:a::r=aF1 gd):∃n rest,gd=n::rest/\a=(n,rest.isEmpty)/\r=aF1 rest:=by
 cases gd with
 |nil=>cases h
 |cons n rest=>simp only[aF1,List.cons.injEq]at h;exact⟨n,rest,rfl,h.1,h.2⟩
theorem aN2{s:d9}{c d:J3}{r:List J3}(h:s.data.toList=d::r):C8 c s=(d==c):=by unfold C8;rw[h]
theorem bH4(c d:J3):(((c.toNat:Int):Int)==(d.toNat:Int))=(c==d):=by
 cases h:(c==d) with
 |true=>have:=eq_of_beq h;subst this;simp
 |false =>
  have:c≠d:=by simpa using h
  simp only[X0];intro e;exact this (UInt8.toNat_inj.1 (by omega))
structure am5(Y:H)(bf bh b6 b7 b8 b9 b10:Nat)(A:AT)(B:Nat->Prop)(gi:Bool)(V:H):Prop where
 fs:J8 V bf A B
 k6:V b6=some (.c [.q bf] 24)
 k7:V b7=some (.c [.bool gi] 4)
 k8:V b8=some (.c [.q bh] 156)
 k9:V b9=some (.c [.i 0,.s gq,.i 0,.bool false] 89)
 k10:V b10=some (.c [.i 0] 45)
 keep:∀b o,b≠bh->Y b=some o->V b=some o
section
variable {Y V V':H} {bf bh b6 b7 b8 b9 b10:Nat} {A:AT} {B:Nat->Prop} {gi:Bool} {b:Nat} {o:Obj}
theorem am5.gr(h:am5 Y bf bh b6 b7 b8 b9 b10 A B gi V)(hg:Gr V V'):am5 Y bf bh b6 b7 b8 b9 b10 A B gi V' :=
 ⟨h.fs.gr hg,hg.get h.k6,hg.get h.k7,hg.get h.k8,hg.get h.k9,hg.get h.k10,fun b o h1 h2=>hg.get (h.keep b o h1 h2)⟩
theorem am5.put(h:am5 Y bf bh b6 b7 b8 b9 b10 A B gi V)(hp:P1 V b o V')(n:b≠b6/\b≠b7/\b≠b8/\b≠b9/\b≠b10)(hB:¬B b)(hs:b≠bh->Y b=none):am5 Y bf bh b6 b7 b8 b9 b10 A B gi V' :=
 ⟨h.fs.put hp hB,hp.get n.1.symm h.k6,hp.get n.2.1.symm h.k7,hp.get n.2.2.1.symm h.k8,hp.get n.2.2.2.1.symm h.k9,hp.get n.2.2.2.2.symm h.k10,fun c oc h1 h2=>hp.get (fun e=>by subst e;rw[hs h1]at h2;cases h2) (h.keep c oc h1 h2)⟩
end
theorem aT4{Y V:H}{bh:Nat}{o:Obj}(h1:V bh=some o)(h2:∀b o,b≠bh->Y b=some o->V b=some o):Gr (Y.put bh o) V:=by
 unfold Gr;intro b ob hb;by_cases e:b=bh
 ·subst e;rw[H.put_same]at hb;cases hb;exact h1
 ·rw[H.put_other _ _ e]at hb;exact h2 b ob e hb
set_option maxHeartbeats 1000000 in
theorem ce4{A:AT}:∀ (f:Nat) {Y:H} {bf:Nat} {B:Nat->Prop} (_:J8 Y bf A B) (at_:Int) (gc:d9) (gi:Bool) {bh:Nat} {h:Int} (_:Y bh=some (.c [.i h] 3)) (_:¬B bh) (_:0<=h) (_:h<f) (_:h<=100) {K:KH}
 (_:∀Y',P1 Y bh (.c [.i (A.walk f at_ gc gi h).2.2] 3) Y'->K (.t [.agg ⟨plC (A.walk f at_ gc gi h).2.1⟩,.i (A.walk f at_ gc gi h).1]) Y'),
 i7 126 [.q bf,.i at_,.s gc,.bool gi,.q bh] K Y:=by
 intro f
 induction f with
 |zero=>intro Y bf B hF at_ gc gi bh h hh hb h0 h1;omega
 |succ f ihf =>
  intro Y bf B hF at_ gc gi bh h hh hb h0 h1 h100 K hK;refine E2.pureP ?_ hK;clear hK;refine ds5 _ _ _ _ _ ?_;unfold cM5;refine A5 ?_;intro b6 Y1 g1 e1 n1;refine A5 ?_;intro b7 Y2 g2 e2 n2;refine A5 ?_;intro b8 Y3 g3 e3 n3;refine A5 ?_;intro b9 Y4 g4 e4 n4;refine A5 ?_;intro b10 Y5 g5 e5 n5;have pv:Lng Y Y5:=⟨by repeat (first|exact Gr.refl _|assumption|refine Gr.trans ?_ ‹_›|refine Gr.putF ?_ ‹_› (A9 ?_ ‹_›))⟩;refine l5 (da5 gc (C4 ?_));have Fo:Y.put bh (.c [.i h] 3)=Y:=by
   funext k
   by_cases e:k=bh
   ·subst e;rw[H.put_same,hh]
   ·rw[H.put_other _ _ e]
  rw[AT.walk];by_cases hm:ab1 gc=0
  case neg =>
   rw[d8 hm];refine l9 (by simpa using hm) ?_
   (refine C1 (by exact gA) szA ?_;intro _ _)
   rename_i Y6 p6;have n910:b10≠b9:=(H6 n5 (by repeat (first|exact io ‹_›|exact mS ‹_›|refine gS ‹_› ?_|refine pS ‹_› ?_))).symm;have e5':=p6.get n910 e5
   (refine C1 (by exact gA) szA ?_;intro _ _)
   rename_i Y7 p7;have e9:=p7.get n910.symm p6.same;have e10:=p7.same;refine N8 (D4 e9) ?_;show _ 
   (refine l6 rfl ?_;try dsimp only)
   refine D1 (f0 e10) ?_;refine⟨rfl,?_⟩;rw[Fo];exact(pv.gr.putF p6 (A9 (by repeat (first|exact Gr.refl _|assumption|refine Gr.trans ?_ ‹_›|refine Gr.putF ?_ ‹_› (A9 ?_ ‹_›))) n4)).putF p7 (A9 (by repeat (first|exact Gr.refl _|assumption|refine Gr.trans ?_ ‹_›|refine Gr.putF ?_ ‹_› (A9 ?_ ‹_›))) n5)
  rw[d7 (by simpa using hm)];refine l7 (by simpa using hm) ?_;obtain⟨hsz,c,cr,hl⟩:=ah7 hm;have qk:((c.toNat:Int)==47)=(c==47):=bH4 c 47;have k6:Y5 b6=some (.c [.q bf] 24):=by exact gA
  have k7:Y5 b7=some (.c [.bool gi] 4):=by exact gA
  have k8:Y5 b8=some (.c [.q bh] 156):=by exact gA
  have k9:Y5 b9=some (.c [.i 0,.s gq,.i 0,.bool false] 89):=by exact gA
  have k10:Y5 b10=some (.c [.i 0] 45):=by exact gA
  have f6:Y b6=none:=n1;have f7:Y b7=none:=A9 (by repeat (first|exact Gr.refl _|assumption|refine Gr.trans ?_ ‹_›|refine Gr.putF ?_ ‹_› (A9 ?_ ‹_›))) n2;have f8:Y b8=none:=A9 (by repeat (first|exact Gr.refl _|assumption|refine Gr.trans ?_ ‹_›|refine Gr.putF ?_ ‹_› (A9 ?_ ‹_›))) n3;have f9:Y b9=none:=A9 (by repeat (first|exact Gr.refl _|assumption|refine Gr.trans ?_ ‹_›|refine Gr.putF ?_ ‹_› (A9 ?_ ‹_›))) n4;have f10:Y b10=none:=A9 (by repeat (first|exact Gr.refl _|assumption|refine Gr.trans ?_ ‹_›|refine Gr.putF ?_ ‹_› (A9 ?_ ‹_›))) n5;have Bt:(Y bh).isSome=true:=A8 hh;have h6:bh≠b6:=H6 f6 Bt;have h7:bh≠b7:=H6 f7 Bt;have h8:bh≠b8:=H6 f8 Bt;have h9:bh≠b9:=H6 f9 Bt;have oj:bh≠b10:=H6 f10 Bt;have n910:b10≠b9:=(H6 n5 (by repeat (first|exact io ‹_›|exact mS ‹_›|refine gS ‹_› ?_|refine pS ‹_› ?_))).symm;clear e1 e2 e3 e4 e5 g1 g2 g3 g4 g5 n1 n2 n3 n4 n5;have vy:am5 Y bf bh b6 b7 b8 b9 b10 A B gi Y5:=⟨hF.gr pv.gr,k6,k7,k8,k9,k10,fun b o _ hb=>pv.gr.get hb⟩;have hh5:=pv.gr.get hh;refine K5 (fun j=>∀a:Int,a=(if C8 47 gc then 1 else at_)->j a gc (gp b6) (gp b7) (gp b8) (gp b9) (gp b10) Y5) ?_ ?_
  case refine_2 =>
   intro j hj;refine X9 (c:=c) (by decide) (by rw[hl];rfl) ?_;rw[qk];rw[aN2 hl]at hj;cases hc:(c==47) with
   |true =>
    obtain⟨bt,B0,q1,q2,q3,q4⟩:=hF;have q1':=pv.gr.get q1;refine l9 rfl ?_
    (repeat (first|refine zz ?_|(refine A5 ?_;intro _ _ _ _ _)|(refine z6 ?_;intro _ _)|(refine l6 rfl ?_;try dsimp only)))
    exact l5 (aS9 _ (C4 (hj 1 (by rw[hc];rfl))))
   |false=>exact l7 rfl (hj at_ (by rw[hc];rfl))
  intro a ha;rw[<-ha];refine A5 ?_;intro b25 Y6 g6 e6 n6;have f25:Y b25=none:=A9 pv.gr n6;have m25:b25≠b6/\b25≠b7/\b25≠b8/\b25≠b9/\b25≠b10:=⟨(H6 n6 (A8 k6)).symm,(H6 n6 (A8 k7)).symm,(H6 n6 (A8 k8)).symm,(H6 n6 (A8 k9)).symm,(H6 n6 (A8 k10)).symm⟩;have h25:bh≠b25:=H6 f25 Bt;have B25:¬B b25:=hF.fresh f25
  (refine C1 (by exact gA) szA ?_;intro _ _)
  rename_i Y7 p7;have vz:am5 Y bf bh b6 b7 b8 b9 b10 A B gi Y7:=(vy.gr g6).put p7 m25 B25 (fun _=>f25);have hh7:=p7.get h25 (g6.get hh5);have e25:Y7 b25=some (.cells ⟨plC ⟨a,gq,a,true⟩⟩ 89 (0,0)):=p7.same;clear p7 e6;generalize gv:A.steps (fun d s h'=>A.walk f d s true h') gi (N1 gc) ⟨a,gq,a,true⟩ h=res;refine K5 (fun j=>∀V p h',res=(0,p,h')->am5 Y bf bh b6 b7 b8 b9 b10 A B gi V->V b25=some (.cells ⟨plC p⟩ 89 (0,0))->V bh=some (.c [.i h'] 3)->j (gp b9) (gp b10) (gp b25) V) ?_ ?_
  ·intro V p h' hr hbs ep eh;unfold plC at ep;have y9:=hbs.k9;have y10:=hbs.k10;refine j0 ?_;refine N8 (D4 ep) ?_
   (refine l6 rfl ?_;try dsimp only)
   (refine C1 (by exact gA) szA ?_;intro _ _)
   rename_i V1 r1;have y10':=r1.get n910 y10
   (refine C1 (by exact gA) szA ?_;intro _ _)
   rename_i V2 r2;have z9:=r2.get n910.symm r1.same;have z10:=r2.same;refine j0 (N8 (D4 z9) ?_)
   (refine l6 rfl ?_;try dsimp only)
   refine j0 (D1 (f0 z10) ?_);rw[hr];refine⟨rfl,aT4 (r2.get oj (r1.get h9 eh)) (fun b o hn hb=>r2.get ?_ (r1.get ?_ (hbs.keep b o hn hb)))⟩
   ·intro e;subst e;rw[f10]at hb;cases hb
   ·intro e;subst e;rw[f9]at hb;cases hb
  intro j26 tj;refine l5 (cn7 gc ?_);intro b2 Y8 g8 n8 e8;refine ae4 (bW3 ?_);refine cv8 bP0 ?_;intro l obj Y9 nl pl nk hY;have ky:=vz.gr g8;have fl:Y l=none:=by
   cases hx:Y l with
   |none=>rfl
   |some o =>
    exfalso
    by_cases e:l=bh
    ·subst e;have:=g8.get hh7;rw[nl]at this;cases this
    ·have:=ky.keep l o e hx;rw[nl]at this;cases this
  have ml:l≠b6/\l≠b7/\l≠b8/\l≠b9/\l≠b10:=⟨(H6 nl (A8 ky.k6)).symm,(H6 nl (A8 ky.k7)).symm,(H6 nl (A8 ky.k8)).symm,(H6 nl (A8 ky.k9)).symm,(H6 nl (A8 ky.k10)).symm⟩;have mr:bh≠l:=H6 fl Bt;have Bl:¬B l:=hF.fresh fl;have l25:b25≠l:=H6 nl (A8 (g8.get e25));have lb2:b2≠l:=H6 nl (A8 e8);have kz:=ky.put pl ml Bl (fun _=>fl);have hh9:=pl.get mr (g8.get hh7);have e25':=pl.get l25 (g8.get e25);refine ce3 (pl.get lb2 e8) (by omega) ?_;intro D hD;have qs:∀b,D b->(b≠b6/\b≠b7/\b≠b8/\b≠b9/\b≠b10)/\b≠b25/\b≠l/\b≠bh/\¬B b/\Y b=none:=by
   intro b hb;have hn:=hD b hb;have fb:Y b=none:=by
    cases hx:Y b with
    |none=>rfl
    |some o =>
     exfalso
     by_cases e:b=bh
     ·subst e;rw[hn]at hh9;cases hh9
     ·have:=kz.keep b o e hx;rw[hn]at this;cases this
   exact⟨⟨(H6 hn (A8 kz.k6)).symm,(H6 hn (A8 kz.k7)).symm,(H6 hn (A8 kz.k8)).symm,(H6 hn (A8 kz.k9)).symm,(H6 hn (A8 kz.k10)).symm⟩,(H6 hn (A8 e25')).symm,(H6 hn (A8 pl.same)).symm,(H6 hn (A8 hh9)).symm,hF.fresh fb,fb⟩
  let I:List (d9×Bool)->H->Prop:=fun r V=>∃gd p h',r=aF1 gd/\A.steps (fun d s h'=>A.walk f d s true h') gi gd p h'=res/\0<=h'/\h'<=h/\am5 Y bf bh b6 b7 b8 b9 b10 A B gi V/\V b25=some (.cells ⟨plC p⟩ 89 (0,0))/\V bh=some (.c [.i h'] 3)/\V l=some (obj .ready none)/\∀b,D b->(V b).isSome=true
  let S:H->Prop:=fun V=>∃e h',res=(e,Pl.z,h')/\V b9=some (.cells ⟨plC Pl.z⟩ 89 (0,0))/\V b10=some (.c [.i e] 45)/\V bh=some (.c [.i h'] 3)/\V l=some (obj .done (some .ret))/\∀b o,b≠bh->Y b=some o->V b=some o
  refine⟨I,S,⟨?_,?_,?_,?_,?_⟩,?_,?_,?_⟩
  ·rintro r V b o V' ⟨gd,p,h',y1,y2,y3,y4,y5,y6,y7,y8,y9⟩ hb hp
   obtain⟨a1,a2,a3,a4,a5,a6⟩:=qs b hb;exact⟨gd,p,h',y1,y2,y3,y4,y5.put hp a1 a5 (fun _=>a6),hp.get a2.symm y6,hp.get a4.symm y7,hp.get a3.symm y8,fun c hc=>hp.isSome (y9 c hc)⟩
  ·rintro V b o V' ⟨e,h',y1,y2,y3,y4,y5,y6⟩ hb hp
   obtain⟨a1,a2,a3,a4,a5,a6⟩:=qs b hb;exact⟨e,h',y1,hp.get a1.2.2.2.1.symm y2,hp.get a1.2.2.2.2.symm y3,hp.get a4.symm y4,hp.get a3.symm y5,fun c oc h1 h2=>hp.get (fun e=>by subst e;rw[a6]at h2;cases h2) (y6 c oc h1 h2)⟩
  ·rintro r V V' ⟨gd,p,h',y1,y2,y3,y4,y5,y6,y7,y8,y9⟩ hg
   exact⟨gd,p,h',y1,y2,y3,y4,y5.gr hg,hg.get y6,hg.get y7,hg.get y8,fun c hc=>hg.isSome (y9 c hc)⟩
  ·rintro V V' ⟨e,h',y1,y2,y3,y4,y5,y6⟩ hg
   exact⟨e,h',y1,hg.get y2,hg.get y3,hg.get y4,hg.get y5,fun c oc h1 h2=>hg.get (y6 c oc h1 h2)⟩
  ·rintro it r args V K' ⟨gd,p,h',y1,y2,y3,y4,y5,y6,y7,y8,y9⟩ rfl hT hFa
   obtain⟨nm,rest,rfl,rfl,rfl⟩:=bB0 y1;refine bd6 (hY _ _ _ ⟨y8,?_⟩);show M9 l obj _ V;refine bW4 y8 ?_;intro V1 pb;have z5:=y5.put pb ml Bl (fun _=>fl);have z6:=pb.get l25 y6;have z7:=pb.get mr y7;have z8:V1 l=some (obj .busy none):=pb.same;have nDl:¬D l:=fun hd=>(qs l hd).2.2.1 rfl;have nD25:¬D b25:=fun hd=>(qs b25 hd).2.1 rfl;have nDh:¬D bh:=fun hd=>(qs bh hd).2.2.2.1 rfl;have nD9:¬D b9:=fun hd=>(qs b9 hd).1.2.2.2.1 rfl;have nD10:¬D b10:=fun hd=>(qs b10 hd).1.2.2.2.2 rfl;have own1:ap0 D V V1:=(ap0.refl D V).put pb nDl;clear y5 y6 y7 y8 y1 pb kz ky vz vy;have om:∀V2 (e h2:Int),am5 Y bf bh b6 b7 b8 b9 b10 A B gi V2->V2 bh=some (.c [.i h2] 3)->V2 l=some (obj .busy none)->res=(e,Pl.z,h2)->ap0 D V V2 ->
    A3 89 (.q b9) (.g [.i 0,.s gq,.i 0,.bool false]) (A3 45 (.q b10) (.i e) (D5 l obj K' (some .ret) false .done)) V2:=by
    intro V2 e h2 q1 q2 q3 q4 q5;have v9:=q1.k9;have v10:=q1.k10
    (refine C1 (by exact gA) szA ?_;intro _ _)
    rename_i V3 r3;have v10':=r3.get n910 v10
    (refine C1 (by exact gA) szA ?_;intro _ _)
    rename_i V4 r4;refine au9 (r4.get ml.2.2.2.2 (r3.get ml.2.2.2.1 q3)) ?_;intro V5 r5;refine hFa V5 ⟨e,h2,q4,r5.get ml.2.2.2.1.symm (r4.get n910.symm r3.same),r5.get ml.2.2.2.2.symm r4.same,r5.get mr (r4.get oj (r3.get h9 q2)),r5.same,fun b o hn hb=>r5.get ?_ (r4.get ?_ (r3.get ?_ (q1.keep b o hn hb)))⟩ (((q5.put r3 nD9).put r4 nD10).put r5 nDl)
    ·intro e;subst e;rw[fl]at hb;cases hb
    ·intro e;subst e;rw[f10]at hb;cases hb
    ·intro e;subst e;rw[f9]at hb;cases hb
   have pz:∀V2 (q:Pl) (h2:Int),am5 Y bf bh b6 b7 b8 b9 b10 A B gi V2->V2 b25=some (.cells ⟨plC q⟩ 89 (0,0))->V2 bh=some (.c [.i h2] 3)->V2 l=some (obj .busy none)->A.steps (fun d s h'=>A.walk f d s true h') gi rest q h2=res->0<=h2->h2<=h->ap0 D V V2->D5 l obj K' none true .ready V2:=by
    intro V2 q h2 q1 q2 q3 q4 q5 q6 q7 q8;refine au9 q4 ?_;intro V3 r3;exact hT V3 ⟨rest,q,h2,rfl,q5,q6,q7,q1.put r3 ml Bl (fun _=>fl),r3.get l25 q2,r3.get mr q3,r3.same,fun c hc=>r3.isSome (by obtain⟨o,ho⟩:=Option.isSome_iff_exists.1 (y9 c hc);exact A8 (q8 c o hc ho))⟩ (q8.put r3 nDl)
   clear hT hFa;unfold plC at z6;refine an2 (f0 z6) ?_;cases ht:p.there with
   |false =>
    rw[ap1 ht]at y2;exact l9 rfl (om V1 5 h' z5 z7 z8 y2.symm own1)
   |true =>
    rw[ht]at z6;refine l7 rfl (j0 (E9 (f0 z5.k6) ?_));refine D1 (f0 z6) ?_;refine l5 (ap9 z5.fs _ (C4 ?_));by_cases h2:A.kind p.gf=2
    case neg =>
     rw[ai8 ht h2]at y2;exact l9 (by simpa using h2) (om V1 8 h' z5 z7 z8 y2.symm own1)
    refine l7 (by simpa using h2) ?_;obtain⟨bt,B0,t1,t2,t3,t4⟩:=z5.fs;cases h3:C3 nm (bs [46,46]) with
    |true =>
     rw[ax8 ht h2 (by rw[I5];exact h3)]at y2;refine l9 rfl (j0 (E9 (f0 z5.k6) (j0 (E9 (f0 t1) (D1 (f0 z6) ?_)))));refine l5 (cn8 t2 _ (C4 ?_))
     (refine C1 (by exact gA) szA ?_;intro _ _)
     rename_i V2 r2;exact pz V2 ⟨A.upOf p.gf,gq,A.upOf p.gf,true⟩ h' (z5.put r2 m25 B25 (fun _=>f25)) r2.same (r2.get h25 z7) (r2.get l25.symm z8) y2 y3 y4 (own1.put r2 nD25)
    |false =>
     have Fp:E8 nm (bs [46,46])=false:=by rw[I5];exact h3
     refine l7 rfl ?_;by_cases h4:nm.size>56
     ·rw[ap2 ht h2 Fp h4]at y2;exact l9 (by simp;omega) (om V1 3 h' z5 z7 z8 y2.symm own1)
     refine l7 (by simp;omega) (D1 (f0 z6) ?_)
     (refine C1 (by exact gA) szA ?_;intro _ _)
     rename_i V2 r2;have u5:=z5.put r2 m25 B25 (fun _=>f25);have u7:=r2.get h25 z7;have u8:=r2.get l25.symm z8;have own2:=own1.put r2 nD25;obtain⟨bt,B0,t1,t2,t3,t4⟩:=u5.fs;refine j0 (E9 (f0 u5.k6) (j0 (E9 (f0 t1) (D1 (f0 r2.same) ?_))));refine l5 (bA9 t2 _ _ (am4 ?_));have u6:=r2.same
     (refine C1 (by exact gA) szA ?_;intro _ _)
     rename_i V3 r3;have u6':=r3.same
     (refine C1 (by exact gA) szA ?_;intro _ _)
     rename_i V4 r4;have v5:=(u5.put r3 m25 B25 (fun _=>f25)).put r4 m25 B25 (fun _=>f25);have v7:=r4.get h25 (r3.get h25 u7);have v8:=r4.get l25.symm (r3.get l25.symm u8);have own4:=(own2.put r3 nD25).put r4 nD25;have v6:V4 b25=some (.cells ⟨plC ⟨p.gf,nm,(A.find p.gf nm).getD 0,(A.find p.gf nm).isSome⟩⟩ 89 (0,0)):=r4.same;clear u5 u7 u8 u6 u6' own2 r2 r3 r4 z5 z7 z8 own1 t1 t2 t3 t4;refine K5 (fun j=>((A.find p.gf nm).isSome=false\/(rest.isEmpty && !gi)=true\/A.kind ((A.find p.gf nm).getD 0)≠3->j (gp b6) (gp b8) (gp b9) (gp b10) (gp b25) true V4)/\(¬ ((A.find p.gf nm).isSome=false\/(rest.isEmpty && !gi)=true\/A.kind ((A.find p.gf nm).getD 0)≠3)->j (gp b6) (gp b8) (gp b9) (gp b10) (gp b25) false V4)) ?_ ?_
     ·refine⟨fun h5=>?_,fun h5=>?_⟩
      ·rw[ab5 ht h2 Fp h4 h5]at y2;exact l9 rfl (pz V4 _ h' v5 v6 v7 v8 y2 y3 y4 own4)
      ·refine l7 rfl (j0 (E9 (f0 v5.k8) (j0 (D1 (f0 v7) (j0 ?_)))))
       (refine C1 (by exact gA) szA ?_;intro _ _)
       rename_i V5 r5;have w1:IntKind.i64.wrap (h'-1)=h'-1:=D7 (by omega) (by omega);rw[w1]at r5;have w5:=v5.put r5 ⟨h6,h7,h8,h9,oj⟩ hb (fun e=>m7 rfl e);have w7:V5 bh=some (.c [.i (h'-1)] 3):=r5.same;have w8:=r5.get mr.symm v8;have w6:=r5.get h25.symm v6;have own5:=own4.put r5 nDh;refine j0 (E9 (f0 w5.k8) (j0 (D1 (f0 w7) ?_)));by_cases hz:h'-1<0
       ·rw[ap3 ht h2 Fp h4 h5 hz]at y2;exact l9 (by simpa using hz) (om V5 9 (h'-1) w5 w7 w8 y2.symm own5)
       refine l7 (by simpa using hz) ?_;obtain⟨bt,B0,t1,t2,t3,t4⟩:=w5.fs;refine j0 (E9 (f0 w5.k6) (j0 (E9 (f0 t1) (j0 (D1 (f0 w6) ?_)))));refine l5 (bf9 t2 _ ?_);unfold inV
       (refine l6 rfl ?_;try dsimp only)
       refine A5 ?_;intro b110 V6 g6' e110 n110;have n110':Y b110=none:=by
        cases hx:Y b110 with
        |none=>rfl
        |some o =>
         exfalso
         by_cases e:b110=bh
         ·subst e;rw[n110]at w7;cases w7
         ·have:=w5.keep b110 o e hx;rw[n110]at this;cases this
       (refine C1 (by exact gA) szA ?_;intro _ _)
       rename_i V7 r7;have mm:b110≠b6/\b110≠b7/\b110≠b8/\b110≠b9/\b110≠b10:=⟨(H6 n110 (A8 w5.k6)).symm,(H6 n110 (A8 w5.k7)).symm,(H6 n110 (A8 w5.k8)).symm,(H6 n110 (A8 w5.k9)).symm,(H6 n110 (A8 w5.k10)).symm⟩;have q5:=(w5.gr g6').put r7 mm (hF.fresh n110') (fun _=>n110');have m25':b25≠b110:=H6 n110 (A8 w6);have mh:bh≠b110:=H6 n110 (A8 w7);have mL:l≠b110:=H6 n110 (A8 w8);have q6:=r7.get m25' (g6'.get w6);have q7:=r7.get mh (g6'.get w7);have q8:=r7.get mL (g6'.get w8);have nD110:¬D b110:=by
        intro hd;obtain⟨o,ho⟩:=Option.isSome_iff_exists.1 (y9 _ hd);have:=own5 _ _ hd ho;rw[n110]at this;cases this
       have own7:=(own5.trans (ap0.gr g6')).put r7 nD110;have q110:V7 b110=some (.c [.i (A.gf ((A.find p.gf nm).getD 0)).kind,.i (A.gf ((A.find p.gf nm).getD 0)).mode,.s (A.gf ((A.find p.gf nm).getD 0)).data,.i (A.gf ((A.find p.gf nm).getD 0)).links] 80):=r7.same;unfold plC at q6;refine j0 (E9 (f0 q5.k6) (j0 (D1 (f0 q6) (C6 (f0 q110) (j0 (E9 (f0 q5.k8) ?_))))));rw[bp5];have hw:=aX6 A f p.gf (A.data ((A.find p.gf nm).getD 0)) true (h'-1) (by omega);refine l5 (ihf q5.fs _ _ _ q7 hb (by omega) (by omega) (by omega) ?_);intro V8 r8;have x5:=q5.put r8 ⟨h6,h7,h8,h9,oj⟩ hb (fun e=>m7 rfl e);have x6:=r8.get h25.symm q6;have x7:=r8.same;have x8:=r8.get mr.symm q8;have own8:=own7.put r8 nDh;clear q5 q6 q7 q8 own7 r8 r7 w5 w6 w7 w8 v5 v6 v7 v8 q110;unfold plC
       (refine l6 rfl ?_;try dsimp only)
       refine A5 ?_;intro b126 V9 g9 e126 n126
       (refine C1 (by exact gA) szA ?_;intro _ _)
       rename_i V10 r10;have n126':Y b126=none:=by
        cases hx:Y b126 with
        |none=>rfl
        |some o =>
         exfalso
         by_cases e:b126=bh
         ·subst e;rw[n126]at x7;cases x7
         ·have:=x5.keep b126 o e hx;rw[n126]at this;cases this
       have mm':b126≠b6/\b126≠b7/\b126≠b8/\b126≠b9/\b126≠b10:=⟨(H6 n126 (A8 x5.k6)).symm,(H6 n126 (A8 x5.k7)).symm,(H6 n126 (A8 x5.k8)).symm,(H6 n126 (A8 x5.k9)).symm,(H6 n126 (A8 x5.k10)).symm⟩;have nD126:¬D b126:=by
        intro hd;obtain⟨o,ho⟩:=Option.isSome_iff_exists.1 (y9 _ hd);have:=own8 _ _ hd ho;rw[n126]at this;cases this
       have a5:=(x5.gr g9).put r10 mm' (hF.fresh n126') (fun _=>n126');have a6:=r10.get (H6 n126 (A8 x6)) (g9.get x6);have a7:=r10.get (H6 n126 (A8 x7)) (g9.get x7);have a8:=r10.get (H6 n126 (A8 x8)) (g9.get x8);have own10:=(own8.trans (ap0.gr g9)).put r10 nD126;by_cases he:(A.walk f p.gf (A.data ((A.find p.gf nm).getD 0)) true (h'-1)).1=0
       ·rw[ap4 ht h2 Fp h4 h5 hz he]at y2;refine l7 (by simpa using he) ?_;refine N8 (D4 r10.same) ?_
        (refine l6 rfl ?_;try dsimp only)
        (refine C1 (by exact gA) szA ?_;intro _ _)
        rename_i V11 r11;exact pz V11 _ _ (a5.put r11 m25 B25 (fun _=>f25)) r11.same (r11.get h25 a7) (r11.get l25.symm a8) y2 (hw.2.2 he) (Int.le_trans hw.2.1 (by omega)) (own10.put r11 nD25)
       ·rw[as8 ht h2 Fp h4 h5 hz he]at y2;exact l9 (by simpa using he) (om V10 _ _ a5 a7 a8 y2.symm own10)
     ·rintro j ⟨uu,lx⟩
      unfold plC at v6;refine an2 (f0 v6) ?_;cases tv:(A.find p.gf nm).isSome with
      |false=>exact l9 rfl (uu (.inl tv))
      |true =>
       have lv:∀t:Bool,t=(A.kind ((A.find p.gf nm).getD 0) != 3)->(rest.isEmpty && !gi)=false->j (gp b6) (gp b8) (gp b9) (gp b10) (gp b25) t V4:=by
        intro t ht' sd;by_cases hk:A.kind ((A.find p.gf nm).getD 0)=3
        ·have:t=false:=by rw[ht'];simpa using hk
         subst this;refine lx ?_
         rintro (h|h|h)
         ·rw[tv]at h;cases h
         ·rw[sd]at h;cases h
         ·exact h hk
        ·have:t=true:=by rw[ht'];simpa using hk
         subst this;exact uu (.inr (.inr hk))
       refine l7 rfl ?_;cases Bu:rest.isEmpty with
       |true =>
        refine l9 rfl (j0 (an2 (f0 v5.k7) ?_));cases gi with
        |false=>exact l9 rfl (uu (.inr (.inl (by rw[Bu];rfl))))
        |true =>
         refine l7 rfl (j0 (E9 (f0 v5.k6) (D1 (f0 v6) ?_)));exact l5 (ap9 v5.fs _ (C4 (lv _ rfl (by rw[Bu];rfl))))
       |false =>
        refine l7 rfl (j0 (E9 (f0 v5.k6) (D1 (f0 v6) ?_)));exact l5 (ap9 v5.fs _ (C4 (lv _ rfl (by rw[Bu];rfl))))
  ·intro V hg hDs;exact⟨N1 gc,_,h,rfl,gv,h0,Int.le_refl _,kz.gr hg,hg.get e25',hg.get hh9,hg.get pl.same,hDs⟩
  ·rintro V ⟨gd,p,h',y1,y2,y3,y4,y5,y6,y7,y8,y9⟩
   cases gd with
   |cons x xs=>cases y1
   |nil =>
    refine bW5 y8 (by intro h;cases h) ?_;intro V1 r1;simp only[AT.steps]at y2;exact tj V1 p h' y2.symm (y5.put r1 ml Bl (fun _=>fl)) (r1.get l25 y6) (r1.get mr y7)
  ·rintro V ⟨e,h',y1,y2,y3,y4,y5,y6⟩
   refine bW6 y5 (by intro h;cases h) ?_;intro V1 r1;have z9:=r1.get ml.2.2.2.1.symm y2;have z10:=r1.get ml.2.2.2.2.symm y3;unfold plC at z9;refine j0 (N8 (D4 z9) ?_)
   (refine l6 rfl ?_;try dsimp only)
   refine j0 (D1 (f0 z10) ?_);rw[y1];refine⟨rfl,aT4 (r1.get mr y4) (fun b o hn hb=>r1.get ?_ (y6 b o hn hb))⟩;intro e;subst e;rw[fl]at hb;cases hb
theorem az3(s p:d9){Y:H}{K:KH}(hK:K (.bool (p.data.toList.isPrefixOf s.data.toList)) Y):i7 125 [.s s,.s p] K Y:=by
 have vk:s.data.toList.length=s.size:=rfl;have Dh:p.data.toList.length=p.size:=rfl;refine ds4 _ _ ?_;unfold cM3;refine l5 (dv7 _ _ ?_);unfold cT5;by_cases h:p.size<=s.size
 ·refine l9 (by simp;omega) (D0 ⟨J2 (by omega) (by omega),M8⟩ (H2 ?_));have e:C3 (s.extract 0 (((p.size:Nat):Int).toNat)) p=p.data.toList.isPrefixOf s.data.toList:=by
   unfold C3;rw[ByteArray.toList_eq,ByteArray.toList_eq,aa8];simp only[P5,ac4];rw[Q9,beq_iff_eq,List.isPrefixOf_iff_prefix,List.prefix_iff_eq_take,Dh];exact eq_comm
  rw[e];exact hK
 ·refine l7 (by simp;omega) (H2 ?_);have e:p.data.toList.isPrefixOf s.data.toList=false:=by
   rw[<-Bool.not_eq_true,List.isPrefixOf_iff_prefix];intro hp;have:=hp.length_le;omega
  rw[e]at hK;exact hK
theorem aN3(s:d9)(c:J3):([c].isPrefixOf s.data.toList)=C8 c s:=by
 unfold C8;cases s.data.toList with
 |nil=>rfl
 |cons x r => 
  simp only[List.isPrefixOf];rw[Bool.and_true];exact BEq.comm
theorem cn9{s:d9}(h:E8 s gq=false):∃c r,s.data.toList=c::r:=by
 cases hl:s.data.toList with
 | nil => exfalso; have : E8 s gq = true := by unfold E8; rw [hl]; rfl
          rw[h]at this;cases this
 |cons c r=>exact⟨c,r,rfl⟩
theorem aq0{A:AT}{Y:H}{bf:Nat}{B:Nat->Prop}(hF:J8 Y bf A B)(gb gc:d9)(gi:Bool){K:KH}
 (hK:K (.t [.agg ⟨plC (A.locate gb gc gi).2⟩,.i (A.locate gb gc gi).1]) Y) :
 i7 60 [.q bf,.s gb,.s gc,.bool gi] K Y:=by
 generalize gv:A.locate gb gc gi=res at hK;refine aa7 _ hK (c60 _ _ _ _ ?_);clear hK;unfold g60;refine A5 ?_;intro b5 Y1 g1 e1 n1;have xt:=hF.gr g1;refine l5 (bg0 xt (H2 (l7 rfl ?_)));obtain⟨bt,B0,q1,q2,q3,q4⟩:=id hF;have q1':=g1.get q1
 (repeat (first|refine zz ?_|(refine A5 ?_;intro _ _ _ _ _)|(refine z6 ?_;intro _ _)|(refine l6 rfl ?_;try dsimp only)))
 refine l5 (aS9 _ (C4 ?_));refine A5 ?_;intro b15 Y2 g2 e2 n2;have f15:Y b15=none:=A9 g1 n2;have n515:b5≠b15:=H6 n2 (A8 e1)
 (refine C1 (by exact gA) szA ?_;intro _ _)
 rename_i Y3 p3;have yw:=(xt.gr g2).put p3 (hF.fresh f15);have iz:Lng Y Y3:=⟨(g1.trans g2).putF p3 f15⟩;have k5:=p3.get n515 (g2.get e1);have k15:Y3 b15=some (.c [.i 8] 3):=p3.same;clear p3 e1 e2;have om:∀ (e:Int) Y4,Gr Y Y4->Y4 b5=some (.c [.i 0,.s gq,.i 0,.bool false] 89)->res=(e,Pl.z) ->
  A3 89 (.q b5) (.g [.i 0,.s gq,.i 0,.bool false]) (l8 (rdA 4 b5 0) (.one (.agg [(.int .i64),.str,(.int .i64),.bool])) (fun(r16:Int) (r17:d9) (r18:Int) (r19:Bool) =>
   (fun u Y'=>u=(.t [.agg ⟨plC res.2⟩,.i res.1]:u9)/\Gr Y Y') (.t [.g [.i r16,.s r17,.i r18,.bool r19],.i e]))) Y4:=by
  intro e Y4 hg h5 he
  (refine C1 (by exact gA) szA ?_;intro _ _)
  rename_i Y5 p5;refine N8 (D4 p5.same) ?_
  (refine l6 rfl ?_;try dsimp only)
  rw[he];exact⟨rfl,hg.putF p5 n1⟩
 unfold AT.locate at gv;cases he:E8 gc gq with
 |true =>
  rw[he]at gv;refine l9 (by rw[<-I5];exact he) ?_;exact om 5 Y3 iz.gr k5 gv.symm
 |false =>
  rw[he]at gv;refine l7 (by rw[<-I5];exact he) ?_;obtain⟨c,cr,hl⟩:=cn9 he;have qk:((c.toNat:Int)==47)=(c==47):=bH4 c 47;have hhd:=aN2 (c:=47) hl;simp only[D2,if_false]at gv;refine K5 (fun j=>∀a Y4,Gr Y Y4->J8 Y4 bf A B->Y4 b5=some (.c [.i 0,.s gq,.i 0,.bool false] 89)->Y4 b15=some (.c [.i 8] 3)->res=((A.walk 10 a gc gi 8).1,(A.walk 10 a gc gi 8).2.1)->j (gp bf) gc gi (gp b5) a (gp b15) Y4) ?_ ?_
  ·intro a Y4 hg h1 h5 Ab heq;refine l5 (ce4 10 h1 a gc gi Ab (hF.fresh f15) (by decide) (by decide) (by decide) ?_);intro Y5 p5;have Fm:=p5.get n515 h5;unfold plC
   (refine l6 rfl ?_;try dsimp only)
   (refine C1 (by exact gA) szA ?_;intro _ _)
   rename_i Y6 p6;refine j0 (N8 (D4 p6.same) ?_)
   (refine l6 rfl ?_;try dsimp only)
   rw[heq];exact⟨rfl,(hg.putF p5 f15).putF p6 n1⟩
  ·intro j hj;refine X9 (c:=c) (by decide) (by rw[hl];rfl) ?_;have Fq:((c.toNat:Int) != 47)=!(c==47):=by rw[bne,qk]
   rw[Fq];cases hc:(c==47) with
   |true =>
    refine l7 rfl (hj 1 Y3 iz.gr yw k5 k15 ?_);rw[hhd,hc]at gv;exact gv.symm
   |false =>
    rw[hhd,hc]at gv;simp only[D2,if_false]at gv;refine l9 rfl (l5 (az3 _ _ (H2 ?_)));show A0 (!([47].isPrefixOf gb.data.toList)) _ _ _;rw[aN3];cases hcw:C8 47 gb with
    |false =>
     rw[hcw]at gv;exact l9 rfl (om 5 Y3 iz.gr k5 gv.symm)
    |true =>
     rw[hcw]at gv;simp only[Bool.true_eq_false,if_false]at gv;refine l7 rfl (l5 (ce4 10 yw 1 gb true k15 (hF.fresh f15) (by decide) (by decide) (by decide) ?_));intro Y5 p5;have Fm:=p5.get n515 k5;have hF5:=yw.put p5 (hF.fresh f15);have pv:Lng Y Y5:=⟨iz.gr.putF p5 f15⟩;have k15':=p5.same;clear p5;generalize hw:A.walk 10 1 gb true 8=w at *;obtain⟨we,wp,wh⟩:=w;unfold plC;simp only at *
     (refine l6 rfl ?_;try dsimp only)
     refine A5 ?_;intro b49 Y6 g6 e6 n6;have f49:Y b49=none:=A9 pv.gr n6;have n549:b5≠b49:=H6 n6 (A8 Fm);have n1549:b15≠b49:=H6 n6 (A8 k15')
     (refine C1 (by exact gA) szA ?_;intro _ _)
     rename_i Y7 p7;have h7:=p7.get n549 (g6.get Fm);have hF7:=(hF5.gr g6).put p7 (hF.fresh f49);have Dg:Lng Y Y7:=⟨(pv.gr.trans g6).putF p7 f49⟩;have k7:=p7.get n1549 (g6.get k15');by_cases Bv:we=0
     case neg =>
      rw[d8 Bv]at gv;exact l9 (by simpa using Bv) (om we Y7 Dg.gr h7 gv.symm)
     subst Bv;simp only[ne_eq,not_true_eq_false,if_false]at gv;refine l7 rfl (an2 (f0 p7.same) ?_);cases mg:wp.there with
     |false =>
      rw[mg]at gv;exact l9 rfl (om 5 Y7 Dg.gr h7 gv.symm)
     |true =>
      rw[mg]at gv;simp only[Bool.true_eq_false,if_false]at gv;refine l7 rfl (D1 (f0 p7.same) (l5 (ap9 hF7 _ (C4 ?_))));by_cases hk:A.kind wp.gf=2
      case neg =>
       rw[d8 hk]at gv;exact l9 (by simpa using hk) (om 8 Y7 Dg.gr h7 gv.symm)
      refine l7 (by simpa using hk) (D1 (f0 p7.same) ?_)
      (refine C1 (by exact gA) szA ?_;intro _ _)
      rename_i Y8 p8;refine hj wp.gf Y8 (Dg.gr.putF p8 f15) (hF7.put p8 (hF.fresh f15)) (p8.get n515 h7) p8.same ?_;rw[d7 (by simpa using hk)]at gv;exact gv.symm
theorem J8.lift{Y Y':H}{bf bt:Nat}{A':AT}{B B0 B0':Nat->Prop}(q1:Y bf=some (.c [.q bt] 71))(q3:¬B0 bf)(q4:∀b,B b↔(B0 b\/b=bf))(hT:W8 Y' bt A' B0')(hS:H1 Y B0 Y' B0'):∃B',J8 Y' bf A' B'/\H1 Y B Y' B':=by
 obtain⟨h1,h2⟩:=hS bf _ q1 q3;refine⟨fun b=>B0' b\/b=bf,⟨bt,B0',h1,hT,h2,fun _=>Iff.rfl⟩,?_⟩;intro b o hb hn;have n0:¬B0 b:=fun h=>hn ((q4 b).2 (.inl h));have nf:b≠bf:=fun h=>hn ((q4 b).2 (.inr h));obtain⟨k1,k2⟩:=hS b o hb n0;refine⟨k1,?_⟩
 rintro (h|h)
 ·exact k2 h
 ·exact nf h
section
variable {Y:H} {bf:Nat} {A:AT} {B:Nat->Prop}
theorem bg1(hF:J8 Y bf A B)(gb gc:d9)(gi:Bool)(f:u9){K:KH}
 (h1:(A.with_ gb gc gi).1≠0->∀Y',Gr Y Y'->K (.i (A.with_ gb gc gi).1) Y')
 (h2:(A.with_ gb gc gi).1=0->∀Y',Gr Y Y'->G8 Tryz.prog f [.i (A.with_ gb gc gi).2.1,.agg ⟨inV (A.with_ gb gc gi).2.2⟩] kI (fun x=>K (.i x)) Y') :
 i7 64 [.q bf,.s gb,.s gc,.bool gi,f] K Y:=by
 generalize gv:A.with_ gb gc gi=res at h1 h2;unfold AT.with_ at gv;refine c64 _ _ _ _ _ ?_;unfold g64;refine l5 (aq0 hF gb gc gi ?_);generalize A.locate gb gc gi=r at gv;obtain⟨re,rp⟩:=r;simp only at gv;unfold plC
 (refine l6 rfl ?_;try dsimp only)
 refine A5 ?_;intro b11 Y1 g1 e1 n1
 (refine C1 (by exact gA) szA ?_;intro _ _)
 rename_i Y2 p2;have ir:Lng Y Y2:=⟨g1.putF p2 n1⟩;have pk:=(hF.gr g1).put p2 (hF.fresh n1);have k11:=p2.same;clear p2;by_cases he:re=0
 case neg =>
  rw[d8 he]at gv;subst gv;exact l9 (by simpa using he) (h1 he Y2 ir.gr)
 subst he;simp only[ne_eq,not_true_eq_false,if_false]at gv;refine l7 rfl ?_;obtain⟨bt,B0,q1,q2,q3,q4⟩:=id pk
 (repeat (first|refine zz ?_|(refine A5 ?_;intro _ _ _ _ _)|(refine z6 ?_;intro _ _)|(refine l6 rfl ?_;try dsimp only)))
 refine l5 (bf9 q2 _ ?_);unfold inV
 (refine l6 rfl ?_;try dsimp only)
 refine A5 ?_;intro b21 Y3 g3 e3 n3;have n1121:b11≠b21:=H6 n3 (A8 k11)
 (refine C1 (by exact gA) szA ?_;intro _ _)
 rename_i Y4 p4;have lm:Lng Y Y4:=⟨(ir.gr.trans g3).putF p4 (A9 ir.gr n3)⟩;have k11':=p4.get n1121 (g3.get k11);have k21:=p4.same;clear p4 g3 e3;refine K5 (fun j=>∀t:Bool,((t=true/\res=(5,0,IN.z))\/(t=false/\res=(0,rp.gf,A.gf rp.gf)))->j f (gp b11) (gp b21) t Y4) ?_ ?_
 ·rintro t (⟨rfl,hr⟩|⟨rfl,hr⟩)
  ·subst hr;exact l9 rfl (h1 (by decide) Y4 lm.gr)
  ·subst hr;refine l7 rfl (j0 (D1 (f0 k11') (j0 (N8 (D4 k21) ?_))));have:=h2 rfl Y4 lm.gr;unfold inV at this
   (refine l6 rfl ?_;try dsimp only)
   exact this
 ·intro j hj;refine an2 (f0 k11') ?_;cases mg:rp.there with
  |false =>
   rw[mg]at gv;exact l9 rfl (hj true (.inl ⟨rfl,gv.symm⟩))
  |true =>
   rw[mg]at gv;simp only[Bool.true_eq_false,if_false]at gv;refine l7 rfl (hj _ ?_);cases hg:A.get rp.gf with
   |none=>rw[hg]at gv;exact .inl ⟨rfl,gv.symm⟩
   |some n =>
    rw[hg]at gv;refine .inr ⟨rfl,?_⟩;rw[<-gv];unfold AT.gf;rw[hg];rfl
theorem ce5{gb gc:d9}{gi:Bool}(h:(A.with_ gb gc gi).1≠0):(A.with_ gb gc gi).2.2=IN.z:=by
 unfold AT.with_ at h⊢;simp only at h⊢;split at h
 ·rename_i h1;rw[d8 h1]
 ·rename_i h1;rw[d7 h1];split at h
  ·rename_i h2;rw[d8 h2]
  ·rename_i h2;rw[d7 h2];split at h
   ·rfl
   ·exact m7 rfl h
theorem bP2:Z0 Tryz.prog 109=true:=by kernel_rfl
theorem bP3:Z0 Tryz.prog 215=true:=by kernel_rfl
theorem bP4:Z0 Tryz.prog 111=true:=by kernel_rfl
theorem bB1:Z0 Tryz.prog 65=true:=by kernel_rfl
theorem bB2:Z0 Tryz.prog 54=true:=by kernel_rfl
theorem bg2:Z0 Tryz.prog 69=true:=by kernel_rfl
theorem bB3(hF:J8 Y bf A B)(gb gc:d9)(gi:Bool){K:KH}
 (hK:K (.t [.agg ⟨inV (A.stat gb gc gi).2⟩,.i (A.stat gb gc gi).1]) Y) :
 i7 47 [.q bf,.s gb,.s gc,.bool gi] K Y:=by
 refine aa7 _ hK (c47 _ _ _ _ ?_);clear hK;unfold g47;unfold AT.stat
 simp only;refine A5 ?_;intro b5 Y1 g1 e1 n1;refine l5 (bg1 (hF.gr g1) gb gc gi _ ?_ ?_)
 ·intro he Y2 g2;refine C4 ?_;rw[ce5 he];have k5:=g2.get e1;refine N8 (D4 k5) ?_
  (refine l6 rfl ?_;try dsimp only)
  (refine C1 (by exact gA) szA ?_;intro _ _)
  rename_i Y3 p3;refine N8 (D4 p3.same) ?_
  (refine l6 rfl ?_;try dsimp only)
  exact⟨rfl,(g1.trans g2).putF p3 n1⟩
 ·intro he Y2 g2;rw[he];generalize (A.with_ gb gc gi).2.2=n;have k5:=g2.get e1;unfold inV;refine ar9 bP2 (dq8 _ _ _ _ _ _ ?_);unfold cJ1;refine A5 ?_;intro b7 Y3 g3 e3 n3;refine N8 (D4 e3) ?_
  (refine l6 rfl ?_;try dsimp only)
  have k5':=g3.get k5
  (refine C1 (by exact gA) szA ?_;intro _ _)
  rename_i Y4 p4;refine C4 (C4 ?_);refine N8 (D4 p4.same) ?_
  (refine l6 rfl ?_;try dsimp only)
  have k:=p4.same
  (refine C1 (by exact gA) szA ?_;intro _ _)
  rename_i Y5 p5;refine N8 (D4 p5.same) ?_
  (refine l6 rfl ?_;try dsimp only)
  exact⟨rfl,((((g1.trans g2).trans g3).putF p4 n1).putF p5 n1)⟩
theorem cA5(hF:J8 Y bf A B)(gb gc:d9){K:KH}
 (hK:K (.t [.s (A.read gb gc).2,.i (A.read gb gc).1]) Y) :
 i7 183 [.q bf,.s gb,.s gc] K Y:=by
 refine aa7 _ hK (dw6 _ _ _ ?_);clear hK;unfold cW1;unfold AT.read;simp only;refine A5 ?_;intro b4 Y1 g1 e1 n1
 have fin:∀Y2 (e:Int) (s:d9),Lng Y Y2->Y2 b4=some (.c [.s s] 9)->(l8 (m8 b4 0) kS (fun(x6:d9) =>
  A3 9 (.q b4) (.s x6) (l8 (m8 b4 0) kS (fun(r7:d9) =>
   (fun u Y'=>u=(.t [.s s,.i e]:u9)/\Gr Y Y') (.t [.s r7,.i e]))))) Y2:=by
  intro Y2 e s hg k;refine C6 (f0 k) ?_
  (refine C1 (by exact gA) szA ?_;intro _ _)
  rename_i Y3 p3;refine C6 (f0 p3.same) ?_;exact⟨rfl,hg.gr.putF p3 n1⟩
 refine l5 (bg1 (hF.gr g1) gb gc true _ ?_ ?_)
 ·intro he Y2 g2;refine C4 ?_;rw[d8 he];exact fin Y2 _ _ ⟨g1.trans g2⟩ (g2.get e1)
 ·intro he Y2 g2;rw[he];simp only[ne_eq,not_true_eq_false,if_false];generalize (A.with_ gb gc true).2.2=n;have k4:=g2.get e1;unfold inV;refine ar9 bP3 (dx9 _ _ _ _ _ _ ?_);unfold cY7;refine A5 ?_;intro b7 Y3 g3 e3 n3;refine D1 (f0 e3) ?_;by_cases hk:n.kind=2
  ·rw[d8 hk];refine l9 (by simpa using hk) (C4 (C4 ?_));exact fin Y3 _ _ ⟨(g1.trans g2).trans g3⟩ (g3.get k4)
  ·rw[d7 hk];refine l7 (by simpa using hk) (C6 (f0 e3) ?_);have k4':=g3.get k4
   (refine C1 (by exact gA) szA ?_;intro _ _)
   rename_i Y4 p4;refine C4 (C4 ?_);exact fin Y4 _ _ ⟨((g1.trans g2).trans g3).putF p4 n1⟩ p4.same
theorem al4:E6 Tryz.prog 30=some 1:=by kernel_rfl
theorem aN4{s:d9}(h:S3 s=0):s.size<=56:=by
 unfold S3 at h;by_cases hl:s.size>56
 ·rw[d8 hl]at h;cases h
 ·omega
theorem az4{N:Nat}(hI:Inv A)(hB:Bd N A)(hN:N<=1000000000000)(gh:Int):∀n,A.get gh=some n->(∀s∈C5 n.gj,s.size<=1000)/\n.gj.length<=1099511627776:=by
 intro n hn;refine⟨fun s hs=>?_,by have:=hB.gj gh n hn;omega⟩;cases hl:lk s n.gj with
 |none=>exact m7 hs (M4.1 hl)
 |some j=>have:=aN4 (hI.ent gh n s j hn hl).1;omega
theorem aC6.gr{Y Y':H}{x:Sl}{l:List d9}(h:aC6 Y x l)(hg:Gr Y Y'):aC6 Y' x l:=by
 obtain⟨h1,h2⟩:=h;refine⟨h1,?_⟩;rcases h2 with h2|⟨g,cur,e1,e2,e3⟩
 ·exact .inl h2
 ·exact .inr ⟨g,cur,e1,hg.get e2,e3⟩
theorem aC6.put{Y Y':H}{x:Sl}{l:List d9}{b:Nat}{o:Obj}{cs:List u9}{t:TypeId}{fz:Nat×Nat}(h:aC6 Y x l)(hp:P1 Y b o Y')(hb:Y b=some (.cells ⟨cs⟩ t fz))(ht:t≠9):aC6 Y' x l:=by
 obtain⟨h1,h2⟩:=h;refine⟨h1,?_⟩;rcases h2 with h2|⟨g,cur,e1,e2,e3⟩
 ·exact .inl h2
 ·refine .inr ⟨g,cur,e1,hp.get ?_ e2,e3⟩;intro e;subst e;rw[hb]at e2;cases e2;exact ht rfl
theorem aO8{N:Nat}(hI:Inv A)(hB:Bd N A)(hN:N<=1000000000000)(hF:J8 Y bf A B)(gb gc:d9){K:KH}
 (hK:∀x Y',Q8 Y Y' 9 1 (u0 (A.listF gb gc).2) x->K (.t [.slice x.base x.len x.cap,.i (A.listF gb gc).1]) Y') :
 i7 49 [.q bf,.s gb,.s gc] K Y:=by
 refine c49 _ _ _ ?_;unfold g49;unfold AT.listF at hK;simp only at hK;refine A5 ?_;intro b4 Y1 g1 e1 n1;refine A5 ?_;intro b5 Y2 g2 e2 n2;have f5:Y b5=none:=A9 g1 n2
 (repeat (first|refine zz ?_|(refine A5 ?_;intro _ _ _ _ _)|(refine z6 ?_;intro _ _)|(refine l6 rfl ?_;try dsimp only)))
 have nb:∀ {V:H} {x:Sl} {l:List d9} {cs:List u9} {t:TypeId} {fz:Nat×Nat},E0 V 9 1 (u0 l) x->V b5=some (.cells ⟨cs⟩ t fz)->t≠9->x.base≠some ⟨b5,0,none⟩:=by
  intro V x l cs t fz h hb ht e;obtain⟨_,_,⟨q,_⟩|⟨g,cur,q1,q2,_⟩⟩:=h
  ·rw[q]at e;cases e
  ·rw[q1]at e;cases e;rw[hb]at q2;cases q2;exact ht rfl
 have fin : ∀ Y3 (e : Int) (x : Sl) (l : List d9), Lng Y Y3 -> Y3 b5 = some (.c [.slice x.base x.len x.cap] 30) -> Q8 Y Y3 9 1 (u0 l) x -> (∀ x Y', Q8 Y Y' 9 1 (u0 l) x -> K (.t [.slice x.base x.len x.cap, .i e]) Y') -> (l8 (m8 b5 0) kL (fun (x8 : Sl) =>
      A3 30 (.q b5) (.slice x8.base x8.len x8.cap) (l8 (m8 b5 0) kL (fun(r9:Sl) =>
       K (.t [.slice r9.base r9.len r9.cap,.i e]))))) Y3:=by
  intro Y3 e x l hg k hs hk;refine U6 (f0 k) ?_;refine C1 k al4 ?_;intro Y4 p4;refine U6 (f0 p4.same) ?_;exact hk x Y4 (hs.putF p4 f5 (nb hs.2.1 k (by decide)))
 refine l5 (bg1 ((hF.gr g1).gr g2) gb gc true _ ?_ ?_)
 ·intro he Y3 g3;refine C4 ?_;rw[d8 he]at hK;exact fin Y3 _ ⟨none,0,0⟩ [] ⟨(g1.trans g2).trans g3⟩ (g3.get e2) (Q8.nil' ((g1.trans g2).trans g3) _ _) hK
 ·intro he Y3 g3;rw[he]at hK;simp only[ne_eq,not_true_eq_false,if_false]at hK;have k5:=g3.get e2;have k4:=(g2.trans g3).get e1;unfold inV;refine ar9 bP4 (cx8 _ _ _ _ _ _ _ ?_);unfold cJ5;refine A5 ?_;intro b8 Y4 g4 e4 n4;refine D1 (f0 e4) ?_;by_cases hk:(A.with_ gb gc true).2.2.kind=2
  case neg =>
   rw[d8 hk]at hK;refine l9 (by simpa using hk) (C4 (C4 ?_));exact fin Y4 _ ⟨none,0,0⟩ [] ⟨((g1.trans g2).trans g3).trans g4⟩ (g4.get k5) (Q8.nil' (((g1.trans g2).trans g3).trans g4) _ _) hK
  rw[d7 (by simpa using hk)]at hK;refine l7 (by simpa using hk) ?_;obtain⟨bt,B0,q1,q2,q3,q4⟩:=id hF;have lm:Lng Y Y4:=⟨((g1.trans g2).trans g3).trans g4⟩;refine j0 (E9 (f0 (g4.get k4)) (j0 (E9 (f0 (lm.gr.get q1)) ?_)));refine l5 (bo9 (q2.gr lm.gr) _ (az4 hI hB hN _) ?_);intro x Y5 hx;have g5:=hx.1;refine ak0 ?_;have k5':=(g4.trans g5).get k5;refine C1 k5' al4 ?_;intro Y6 p6;refine C4 (C4 ?_);exact fin Y6 0 x _ ⟨(lm.gr.trans g5).putF p6 f5⟩ p6.same ((hx.since lm.gr).putF p6 f5 (nb hx.2.1 k5' (by decide))) hK
end
theorem ct1(qi qb:Int){Y:H}{K:KH}(hN:X8 qi qb=false->K (.p none) Y)
 (hK:X8 qi qb=true->∀bf Y' B',J8 Y' bf (ax1 qi qb) B'->Gr Y Y'->(∀b,B' b->Y b=none)->K (.q bf) Y') :
 i7 12 [.g [.i qi,.i qb]] K Y:=by
 refine E2.drop (K':=fun v Y'=>(X8 qi qb=false/\v=.p none/\Gr Y Y')\/(X8 qi qb=true/\K v Y')) ?_ ?_
 case refine_2 =>
  rintro v Y' (⟨h1,h2,h3⟩|⟨h1,h2⟩)
  ·exact⟨Y,h3,h2 ▸ hN h1⟩
  ·exact⟨Y',Gr.refl _,h2⟩
 refine c12 _ _ ?_;unfold g12;refine A5 ?_;intro b3 Y1 g1 e1 n1;refine N8 (D4 e1) ?_
 (refine l6 rfl ?_;try dsimp only)
 refine l5 (cz4 qi qb ?_ ?_)
 ·intro h;exact am7 (l9 rfl (.inl ⟨h,rfl,g1⟩))
 ·intro h bt Y2 B' hbt hT g2 ke;refine am7 (l7 rfl ?_);refine A5 ?_;intro b7 Y3 g3 e3 n3;refine .inr ⟨h,hK h b7 Y3 (fun b=>B' b\/b=b7) ⟨bt,B',e3,hT.gr g3,hT.fresh n3,fun _=>Iff.rfl⟩ ((g1.trans g2).trans g3) ?_⟩
  rintro b (hb|rfl)
  ·exact A9 g1 (ke b hb)
  ·exact A9 (g1.trans g2) n3
section
variable {Y:H} {bf:Nat} {A:AT} {B:Nat->Prop}
theorem ce6(hF:J8 Y bf A B){gh d:Int}{f:Nat}(hd:A.deep f gh=some d)(hf:f<=1000){K:KH}(hK:K (.i d) Y):i7 55 [.q bf,.i gh] K Y:=by
 obtain⟨bt,B0,q1,q2,q3,q4⟩:=id hF;refine c55 _ _ ?_;unfold g55;refine H9 ?_;intro R hR;have key:∀ (f:Nat) (gh d n:Int),A.deep f gh=some d->1<=n->n+f<=2000->K (.i (n+d-1)) Y->R (gp bf) gh n Y:=by
  intro f
  induction f with
  |zero=>intro gh d n h;cases h
  |succ f ih =>
   intro gh d n h h1 h2 hk;refine hR _ _ _ _ ?_
   (repeat (first|refine zz ?_|(refine A5 ?_;intro _ _ _ _ _)|(refine z6 ?_;intro _ _)|(refine l6 rfl ?_;try dsimp only)))
   refine l5 (aS9 _ (C4 ?_));unfold AT.deep at h;by_cases e:gh=1
   ·rw[d8 e]at h;cases h;refine l7 (by simpa using e) ?_;have:n+1-1=n:=by omega
    rw[this]at hk;exact hk
   ·rw[d7 e]at h;refine l9 (by simpa using e) ?_
    (repeat (first|refine zz ?_|(refine A5 ?_;intro _ _ _ _ _)|(refine z6 ?_;intro _ _)|(refine l6 rfl ?_;try dsimp only)))
    refine l5 (cn8 q2 _ (C4 ?_));cases hx:A.deep f (A.upOf gh) with
    |none=>rw[hx]at h;cases h
    |some x =>
     rw[hx]at h;simp only[Option.map_some,Option.some.injEq]at h;subst h;rw[D7 (by omega) (by omega)];refine ih _ x (n+1) hx (by omega) (by omega) ?_;have:n+1+x-1=n+(x+1)-1:=by omega
     rw[this];exact hk
 refine key f gh d 1 hd (by omega) (by omega) ?_;have:1+d-1=d:=by omega
 rw[this];exact hK
theorem bH5(hF:J8 Y bf A B)(gb gc:d9)(f:u9){K:KH}
 (h1:(A.freshP gb gc).1≠0->∀Y',Gr Y Y'->K (.i (A.freshP gb gc).1) Y')
 (h2:(A.freshP gb gc).1=0->∀Y',Gr Y Y'->G8 Tryz.prog f [.agg ⟨plC (A.freshP gb gc).2⟩] kI (fun x=>K (.i x)) Y') :
 i7 53 [.q bf,.s gb,.s gc,f] K Y:=by
 generalize gv:A.freshP gb gc=res at h1 h2;unfold AT.freshP at gv;refine c53 _ _ _ _ ?_;unfold g53;refine l5 (aq0 hF gb gc false ?_);generalize A.locate gb gc false=r at gv;obtain⟨re,rp⟩:=r;simp only at gv;unfold plC
 (refine l6 rfl ?_;try dsimp only)
 refine A5 ?_;intro b10 Y1 g1 e1 n1
 (refine C1 (by exact gA) szA ?_;intro _ _)
 rename_i Y2 p2;have ir:Lng Y Y2:=⟨g1.putF p2 n1⟩;have k:=p2.same;by_cases he:re=0
 case neg =>
  rw[d8 he]at gv;subst gv;exact l9 (by simpa using he) (h1 he Y2 ir.gr)
 subst he;simp only[ne_eq,not_true_eq_false,if_false]at gv;refine l7 rfl (an2 (f0 k) ?_);cases mg:rp.there with
 |true =>
  rw[mg]at gv;simp only[if_true]at gv;subst gv;exact l9 rfl (h1 (by decide) Y2 ir.gr)
 |false =>
  rw[mg]at gv;simp only[D2,if_false]at gv;subst gv;refine l7 rfl (N8 (D4 k) ?_);have:=h2 rfl Y2 ir.gr;unfold plC at this
  (refine l6 rfl ?_;try dsimp only)
  exact this
theorem bP5(hI:Inv A){gb gc:d9}(h:(A.freshP gb gc).1=0):ab6 A (A.freshP gb gc).2/\(A.freshP gb gc).2.there=false:=by
 unfold AT.freshP at h⊢;simp only at h⊢;by_cases he:(A.locate gb gc false).1=0
 case neg=>rw[d8 he]at h;exact m7 h he
 rw[d7 (by simpa using he)]at h⊢;cases ht:(A.locate gb gc false).2.there with
 |true=>rw[ht]at h;simp at h
 |false=>exact⟨K4 hI _ _ _ he,ht⟩
theorem bB4{N:Nat}(hI:Inv A)(hB:Bd N A)(hN:N<=1000000000000){bt:Nat}{B0:Nat->Prop}(q1:Y bf=some (.c [.q bt] 71))(q2:W8 Y bt A B0)(q3:¬B0 bf)(q4:∀b,B b↔(B0 b\/b=bf))(gh:Int)(gu:d9)(kind mode:Int)(data:d9){K:KH}
 (hK:∀Y' B',J8 Y' bf (A.makeR gh gu kind mode data).2.2 B'->H1 Y B Y' B'->K (.t [.i (A.makeR gh gu kind mode data).1,.i (A.makeR gh gu kind mode data).2.1]) Y') :
 i7 56 [.q bt,.i gh,.s gu,.i kind,.i mode,.s data] K Y:=by
 refine cz1 cd5 cA2 q2 gh gu kind mode data ?_ ?_
 ·have:=hB.last;have:=hI.last_pos;rw[av9 (by omega) (by omega)];exact hI.fresh (by omega)
 ·intro Y' B' hT hS;obtain⟨B1,h1,h2⟩:=J8.lift q1 q3 q4 hT hS;exact hK Y' B1 h1 h2
theorem bg3{N:Nat}(hI:Inv A)(hB:Bd N A)(hN:N<=1000000000000)(hF:J8 Y bf A B)(gb gc:d9){K:KH}
 (hK:∀Y' B',J8 Y' bf (A.mkdirF gb gc).2 B'->H1 Y B Y' B'->K (.i (A.mkdirF gb gc).1) Y') :
 i7 14 [.q bf,.s gb,.s gc] K Y:=by
 refine c14 _ _ _ ?_;unfold g14;unfold AT.mkdirF at hK;simp only at hK;refine A5 ?_;intro b4 Y1 g1 e1 n1
 (repeat (first|refine zz ?_|(refine A5 ?_;intro _ _ _ _ _)|(refine z6 ?_;intro _ _)|(refine l6 rfl ?_;try dsimp only)))
 refine l5 (bH5 (hF.gr g1) gb gc _ ?_ ?_)
 ·intro he Y2 g2;refine C4 ?_;rw[d8 he]at hK;exact hK Y2 B ((hF.gr g1).gr g2) (H1.gr (g1.trans g2))
 ·intro he Y2 g2;rw[d7 (by simpa using he)]at hK;obtain⟨⟨hd,hp⟩,ht⟩:=bP5 hI he;generalize (A.freshP gb gc).2=p at *;unfold plC;refine ar9 bB2 (c54 _ _ _ _ _ ?_);unfold g54;refine A5 ?_;intro b6 Y3 g3 e3 n3;have iz:Lng Y Y3:=⟨(g1.trans g2).trans g3⟩;have k4:=(g2.trans g3).get e1;have yw:=hF.gr iz.gr;refine j0 (E9 (f0 k4) (D1 (f0 e3) ?_));obtain⟨d,pg,_,tk,sw⟩:=hI.deep13 hd;rw[pg]at hK;simp only[Option.getD_some]at hK;refine l5 (ce6 yw pg (by decide) (C4 ?_));by_cases se:d>=12
  ·rw[d8 se]at hK;exact l9 (by simpa using se) (C4 (C4 (hK Y3 B yw (H1.gr iz.gr))))
  ·rw[d7 se]at hK;obtain⟨bt,B0,q1,q2,q3,q4⟩:=id yw;refine l7 (by simpa using se) (j0 (E9 (f0 k4) (j0 (E9 (f0 q1) (D1 (f0 e3) (C6 (f0 e3) ?_))))));refine l5 (bB4 hI hB hN q1 q2 q3 q4 _ _ _ _ _ ?_);intro Y4 B4 xu hS;exact bv4 (C4 (C4 (hK Y4 B4 xu (hS.of_gr iz.gr))))
theorem aK4{N:Nat}(hI:Inv A)(hB:Bd N A)(hN:N<=1000000000000)(hF:J8 Y bf A B)(gb target gc:d9){K:KH}
 (hK:∀Y' B',J8 Y' bf (A.symlinkF gb target gc).2 B'->H1 Y B Y' B'->K (.i (A.symlinkF gb target gc).1) Y') :
 i7 20 [.q bf,.s gb,.s target,.s gc] K Y:=by
 refine c20 _ _ _ _ ?_;unfold g20;unfold AT.symlinkF at hK;simp only at hK;refine A5 ?_;intro b5 Y1 g1 e1 n1;refine A5 ?_;intro b6 Y2 g2 e2 n2;have ir:Lng Y Y2:=⟨g1.trans g2⟩;have pk:=hF.gr ir.gr
 (repeat (first|refine zz ?_|(refine A5 ?_;intro _ _ _ _ _)|(refine z6 ?_;intro _ _)|(refine l6 rfl ?_;try dsimp only)))
 refine l5 (bg0 pk (H2 (l7 rfl ?_)));refine K5 (fun j=>∀t:Bool,t=!Z9 target->j gb gc (gp b5) (gp b6) t Y2) ?_ ?_
 ·intro t ht;cases hl:Z9 target with
  |false =>
   rw[hl]at ht hK;subst ht;exact l9 rfl (hK Y2 B pk (H1.gr ir.gr))
  |true =>
   rw[hl]at ht hK;subst ht;simp only[Bool.true_eq_false,if_false]at hK;refine l7 rfl ?_
   (repeat (first|refine zz ?_|(refine A5 ?_;intro _ _ _ _ _)|(refine z6 ?_;intro _ _)|(refine l6 rfl ?_;try dsimp only)))
   refine l5 (bH5 pk gb gc _ ?_ ?_)
   ·intro he Y3 g3;refine C4 ?_;rw[d8 he]at hK;exact hK Y3 B (pk.gr g3) (H1.gr (ir.gr.trans g3))
   ·intro he Y3 g3;rw[d7 (by simpa using he)]at hK;generalize (A.freshP gb gc).2=p at *;unfold plC;refine ar9 bg2 (c69 _ _ _ _ _ _ ?_);unfold g69;refine A5 ?_;intro b7 Y4 g4 e4 n4;have lm:Lng Y Y4:=⟨(ir.gr.trans g3).trans g4⟩;have k5:=((g2.trans g3).trans g4).get e1;have k6:=(g3.trans g4).get e2;obtain⟨bt,B0,q1,q2,q3,q4⟩:=hF.gr lm.gr;refine j0 (E9 (f0 k5) (j0 (E9 (f0 q1) (D1 (f0 e4) (C6 (f0 e4) (j0 (C6 (f0 k6) ?_)))))));refine l5 (bB4 hI hB hN q1 q2 q3 q4 _ _ _ _ _ ?_);intro Y5 B5 hF5 hS;exact bv4 (C4 (C4 (hK Y5 B5 hF5 (hS.of_gr lm.gr))))
 ·intro j hj;unfold Z9 at hj;rw[I5]at hj;refine C6 (f0 e2) ?_;cases h1:C3 target gq with
  |true=>rw[h1]at hj;exact l9 rfl (hj true rfl)
  |false =>
   rw[h1]at hj;refine l7 rfl (C6 (f0 e2) ?_);by_cases h2:target.size<=255
   ·refine l7 (by simp;omega) (C6 (f0 e2) (l5 (cd5 _ _ _ ?_)));intro n hn;refine C4 (hj _ ?_);have:decide (n>=0)=!decide (n<0):=by by_cases h:n<0<;>simp[h]<;>omega
    rw[this,hn];simp[h2]
   ·exact l9 (by simp;omega) (hj true (by simp[h2]))
theorem bg4{N:Nat}(hI:Inv A)(hB:Bd N A)(hN:N<=1000000000000)(hF:J8 Y bf A B)(gb gc data:d9)(more:Bool)(hd:data.size<=1000000000000000){K:KH}
 (hK:∀Y' B',J8 Y' bf (A.writeF gb gc data more).2 B'->H1 Y B Y' B'->K (.i (A.writeF gb gc data more).1) Y') :
 i7 16 [.q bf,.s gb,.s gc,.s data,.bool more] K Y:=by
 refine c16 _ _ _ _ _ ?_;unfold g16;unfold AT.writeF at hK;simp only at hK;refine l5 (aq0 hF gb gc true ?_);generalize A.locate gb gc true=r at hK;obtain⟨re,p⟩:=r;simp only at hK;unfold plC
 (refine l6 rfl ?_;try dsimp only)
 refine A5 ?_;intro b11 Y1 g1 e1 n1
 (refine C1 (by exact gA) szA ?_;intro _ _)
 rename_i Y2 p2;have ir:Lng Y Y2:=⟨g1.putF p2 n1⟩;have pk:=hF.gr ir.gr;have k:=p2.same;clear p2;by_cases he:re=0
 case neg =>
  rw[d8 he]at hK;exact l9 (by simpa using he) (hK Y2 B pk (H1.gr ir.gr))
 subst he;simp only[ne_eq,not_true_eq_false,if_false]at hK;refine l7 rfl (an2 (f0 k) ?_);obtain⟨bt,B0,q1,q2,q3,q4⟩:=id pk;cases mg:p.there with
 |false =>
  rw[mg]at hK;simp only[if_true]at hK;refine l9 rfl (j0 (E9 (f0 q1) (D1 (f0 k) (C6 (f0 k) ?_))));refine l5 (bB4 hI hB hN q1 q2 q3 q4 _ _ _ _ _ ?_);intro Y3 B3 yw hS;exact bv4 (hK Y3 B3 yw (hS.of_gr ir.gr))
 |true =>
  rw[mg]at hK;simp only[Bool.true_eq_false,if_false]at hK;refine l7 rfl (j0 (E9 (f0 q1) (D1 (f0 k) ?_)));refine l5 (bf9 q2 _ ?_);unfold inV
  (refine l6 rfl ?_;try dsimp only)
  refine A5 ?_;intro b29 Y3 g3 e3 n3;have n1129:b11≠b29:=H6 n3 (A8 k)
  (refine C1 (by exact gA) szA ?_;intro _ _)
  rename_i Y4 p4;have lm:Lng Y Y4:=⟨(ir.gr.trans g3).putF p4 (A9 ir.gr n3)⟩;have k':=p4.get n1129 (g3.get k);have k29:=p4.same;clear p4;refine D1 (f0 k29) ?_;rw[bp4];by_cases jc:A.kind p.gf=2
  ·rw[d8 jc]at hK;exact l9 (by simpa using jc) (hK Y4 B (hF.gr lm.gr) (H1.gr lm.gr))
  ·rw[d7 jc]at hK;refine l7 (by simpa using jc) ?_;obtain⟨bt,B0,q1,q2,q3,q4⟩:=hF.gr lm.gr;refine K5 (fun j=>j (gp bf) (if more then A.data p.gf++data else data) (gp b11) Y4) ?_ ?_
   ·refine j0 (E9 (f0 q1) (j0 (D1 (f0 k') ?_)));refine l5 (cd3 q2 _ _ ?_);intro Y5 B5 hT hS;obtain⟨B6,h1,h2⟩:=J8.lift q1 q3 q4 hT hS;exact C4 (hK Y5 B6 h1 (h2.of_gr lm.gr))
   ·intro j hj;cases more with
    |false=>exact l7 rfl hj
    |true =>
     refine l9 rfl (C6 (f0 k29) ?_);rw[bp5];refine D0 ?_ hj;have hsz:(A.data p.gf).size<=1073741824:=by
      unfold AT.data;cases hg:A.get p.gf with
      |none=>decide
      |some n =>
       have h1:=hI.size_le hg;have h2:=hI.bq;show n.data.size<=_;omega
     show(A.data p.gf).size+data.size<=_;omega
theorem bg5(hF:J8 Y bf A B)(gb gc:d9)(mode:Int){K:KH}
 (hK:∀Y' B',J8 Y' bf (A.chmodF gb gc mode).2 B'->H1 Y B Y' B'->K (.i (A.chmodF gb gc mode).1) Y') :
 i7 18 [.q bf,.s gb,.s gc,.i mode] K Y:=by
 refine c18 _ _ _ _ ?_;unfold g18;unfold AT.chmodF at hK;simp only at hK;refine A5 ?_;intro b5 Y1 g1 e1 n1;refine A5 ?_;intro b6 Y2 g2 e2 n2;have ir:Lng Y Y2:=⟨g1.trans g2⟩;have pk:=hF.gr ir.gr
 (repeat (first|refine zz ?_|(refine A5 ?_;intro _ _ _ _ _)|(refine z6 ?_;intro _ _)|(refine l6 rfl ?_;try dsimp only)))
 refine l5 (bg0 pk (H2 (l7 rfl ?_)));refine K5 (fun j=>∀t:Bool,(t=true↔mode<0\/mode>511)->j gb gc (gp b5) (gp b6) t Y2) ?_ ?_
 ·intro t ht;cases t with
  |true =>
   rw[d8 (ht.1 rfl)]at hK;exact l9 rfl (hK Y2 B pk (H1.gr ir.gr))
  |false =>
   rw[d7 (fun h=>by have:=ht.2 h;cases this)]at hK;refine l7 rfl ?_
   (repeat (first|refine zz ?_|(refine A5 ?_;intro _ _ _ _ _)|(refine z6 ?_;intro _ _)|(refine l6 rfl ?_;try dsimp only)))
   refine l5 (bg1 pk gb gc true _ ?_ ?_)
   ·intro he Y3 g3;refine C4 ?_;rw[d8 he]at hK;exact hK Y3 B (pk.gr g3) (H1.gr (ir.gr.trans g3))
   ·intro he Y3 g3;rw[d7 (by simpa using he)]at hK;unfold inV;refine ar9 bB1 (c65 _ _ _ _ _ _ _ ?_);unfold g65;refine A5 ?_;intro b7 Y4 g4 e4 n4;have lm:Lng Y Y4:=⟨(ir.gr.trans g3).trans g4⟩;have k5:=((g2.trans g3).trans g4).get e1;have k6:=(g3.trans g4).get e2;obtain⟨bt,B0,q1,q2,q3,q4⟩:=hF.gr lm.gr;refine j0 (E9 (f0 k5) (j0 (E9 (f0 q1) (j0 (D1 (f0 k6) ?_)))));refine l5 (cd4 q2 _ _ ?_);intro Y5 B5 hT hS;obtain⟨B6,h1,h2⟩:=J8.lift q1 q3 q4 hT hS;exact C4 (C4 (C4 (hK Y5 B6 h1 (h2.of_gr lm.gr))))
 ·intro j hj;refine D1 (f0 e2) ?_;by_cases h1:mode<0
  ·exact l9 (by simpa using h1) (hj true (by simp[h1]))
  ·exact l7 (by simpa using h1) (D1 (f0 e2) (hj _ (by simp[h1])))
theorem aT5{N:Nat}(hI:Inv A)(hB:Bd N A)(hN:N<=1000000000000)(hF:J8 Y bf A B)(gb gc:d9){K:KH}
 (hK:∀Y' B',J8 Y' bf (A.removeF gb gc).2 B'->H1 Y B Y' B'->K (.i (A.removeF gb gc).1) Y') :
 i7 77 [.q bf,.s gb,.s gc] K Y:=by
 refine c77 _ _ _ ?_;unfold g77;unfold AT.removeF at hK;simp only at hK;refine l5 (aq0 hF gb gc false ?_);generalize A.locate gb gc false=r at hK;obtain⟨re,p⟩:=r;simp only at hK;unfold plC
 (refine l6 rfl ?_;try dsimp only)
 refine A5 ?_;intro b9 Y1 g1 e1 n1
 (refine C1 (by exact gA) szA ?_;intro _ _)
 rename_i Y2 p2;have ir:Lng Y Y2:=⟨g1.putF p2 n1⟩;have pk:=hF.gr ir.gr;have k:=p2.same;clear p2;by_cases he:re=0
 case neg =>
  rw[d8 he]at hK;exact l9 (by simpa using he) (hK Y2 B pk (H1.gr ir.gr))
 subst he;simp only[ne_eq,not_true_eq_false,if_false]at hK;refine l7 rfl (an2 (f0 k) ?_);obtain⟨bt,B0,q1,q2,q3,q4⟩:=id pk;cases mg:p.there with
 |false=>rw[mg]at hK;exact l9 rfl (hK Y2 B pk (H1.gr ir.gr))
 |true =>
  rw[mg]at hK;simp only[Bool.true_eq_false,if_false]at hK;refine l7 rfl (C6 (f0 k) ?_);rw[I5]at hK;cases hn:C3 p.gu gq with
  |true=>rw[hn]at hK;exact l9 rfl (hK Y2 B pk (H1.gr ir.gr))
  |false =>
   rw[hn]at hK;simp only[D2,if_false]at hK;refine l7 rfl (j0 (E9 (f0 q1) (D1 (f0 k) ?_)));refine l5 (aO7 q2 _ (az4 hI hB hN _) ?_);intro x Y3 g3 hx;refine ak0 ?_;have ib:x.len=(A.gd p.gf).length:=hx.1;have iz:Lng Y Y3:=⟨ir.gr.trans g3⟩;have k':=g3.get k;by_cases hl:(A.gd p.gf).length>0
   ·rw[d8 hl]at hK;exact l9 (by rw[ib];exact M7) (hK Y3 B (hF.gr iz.gr) (H1.gr iz.gr))
   ·rw[d7 hl]at hK;obtain⟨bt,B0,q1,q2,q3,q4⟩:=hF.gr iz.gr;refine l7 (by rw[ib];exact W4) (j0 (E9 (f0 q1) (D1 (f0 k') (C6 (f0 k') ?_))));refine l5 (bo6 q2 _ _ ?_ hI.nodup ?_)
    ·intro j hj;obtain⟨_,_,_,_,_,m,hm,_⟩:=hI.find hj;rw[hm];rfl
    ·intro Y4 B4 hT hS;obtain⟨B6,h1,h2⟩:=J8.lift q1 q3 q4 hT hS;exact C4 (hK Y4 B6 h1 (h2.of_gr iz.gr))
theorem ce7(hF:J8 Y bf A B)(gb gk tq:d9){K:KH}
 (hK:K (.t [.agg ⟨plC (A.both gb gk tq).2.1⟩,.agg ⟨plC (A.both gb gk tq).2.2⟩,.i (A.both gb gk tq).1]) Y) :
 i7 138 [.q bf,.s gb,.s gk,.s tq] K Y:=by
 generalize gv:A.both gb gk tq=res at hK;unfold AT.both at gv;refine aa7 _ hK (dt5 _ _ _ _ ?_);clear hK;unfold cO9;refine A5 ?_;intro b5 Y1 g1 e1 n1;refine A5 ?_;intro b6 Y2 g2 e2 n2;have n56:b5≠b6:=H6 n2 (A8 e1);have f6:Y b6=none:=A9 g1 n2;have ir:Lng Y Y2:=⟨g1.trans g2⟩;have k5:=g2.get e1;refine K5 (fun j=>∀V p q e,res=(e,p,q)->V b5=some (.cells ⟨plC p⟩ 89 (0,0))->V b6=some (.cells ⟨plC q⟩ 89 (0,0))->Gr Y V->j (gp b5) (gp b6) e V) ?_ ?_
 ·intro V p q e hr h5 h6 hg;unfold plC at h5 h6;refine j0 (N8 (D4 h5) ?_)
  (refine l6 rfl ?_;try dsimp only)
  refine j0 (N8 (D4 h6) ?_)
  (refine l6 rfl ?_;try dsimp only)
  refine C1 h5 ag5 ?_;intro V1 r1;have Db:=r1.get n56.symm h6;refine aa6 (D4 Db) ?_;refine C1 Db ag5 ?_;intro V2 r2;refine j0 (N8 (D4 (r2.get n56 r1.same)) ?_)
  (refine l6 rfl ?_;try dsimp only)
  refine j0 (N8 (D4 r2.same) ?_)
  (refine l6 rfl ?_;try dsimp only)
  rw[hr];exact⟨rfl,(hg.putF r1 n1).putF r2 f6⟩
 ·intro j hj;refine l5 (aq0 (hF.gr ir.gr) gb gk false ?_);generalize A.locate gb gk false=r at gv;obtain⟨re,p⟩:=r;simp only at gv;unfold plC
  (refine l6 rfl ?_;try dsimp only)
  refine C1 k5 ag5 ?_;intro Y3 p3;have k6:=p3.get n56.symm e2;have iz:Lng Y Y3:=⟨ir.gr.putF p3 n1⟩;by_cases he:re=0
  ·subst he;simp only[ne_eq,not_true_eq_false,if_false]at gv;refine l9 rfl ?_;refine l5 (aq0 (hF.gr iz.gr) gb tq false ?_);generalize A.locate gb tq false=r at gv;obtain⟨qe,q⟩:=r;simp only at gv;unfold plC
   (refine l6 rfl ?_;try dsimp only)
   refine C1 k6 ag5 ?_;intro Y4 p4;exact hj Y4 p q qe gv.symm (p4.get n56 p3.same) p4.same (iz.gr.putF p4 f6)
  ·rw[d8 he]at gv;refine l7 (by simpa using he) ?_;exact hj Y3 p Pl.z re gv.symm p3.same k6 iz.gr
theorem cA6(hF:J8 Y bf A B)(gb gk tq:d9){K:KH}
 (hK:∀Y' B',J8 Y' bf (A.hardF gb gk tq).2 B'->H1 Y B Y' B'->K (.i (A.hardF gb gk tq).1) Y') :
 i7 82 [.q bf,.s gb,.s gk,.s tq] K Y:=by
 refine c82 _ _ _ _ ?_;unfold g82;unfold AT.hardF at hK;simp only at hK;refine l5 (ce7 hF gb gk tq ?_);generalize A.both gb gk tq=r at hK;obtain⟨re,p,q⟩:=r;simp only at hK;unfold plC
 (refine l6 rfl ?_;try dsimp only)
 refine A5 ?_;intro b14 Y1 g1 e1 n1;refine A5 ?_;intro b15 Y2 g2 e2 n2;have n1415:b14≠b15:=H6 n2 (A8 e1);have k14:=g2.get e1;refine C1 k14 ag5 ?_;intro Y3 p3;have k15:=p3.get n1415.symm e2;refine C1 k15 ag5 ?_;intro Y4 p4;have lm:Lng Y Y4:=⟨((g1.trans g2).putF p3 n1).putF p4 (A9 g1 n2)⟩;have Bw:=p4.get n1415 p3.same;have Ab:=p4.same;have xu:=hF.gr lm.gr;clear p3 p4;by_cases he:re=0
 case neg =>
  rw[d8 he]at hK;exact l9 (by simpa using he) (hK Y4 B xu (H1.gr lm.gr))
 subst he;simp only[ne_eq,not_true_eq_false,if_false]at hK;refine l7 rfl (an2 (f0 Bw) ?_);cases mg:p.there with
 |false=>rw[mg]at hK;exact l9 rfl (hK Y4 B xu (H1.gr lm.gr))
 |true =>
  rw[mg]at hK;simp only[Bool.true_eq_false,if_false]at hK;refine l7 rfl (D1 (f0 Bw) (l5 (ap9 xu _ (C4 ?_))));by_cases h2:A.kind p.gf=2
  ·rw[d8 h2]at hK;exact l9 (by simpa using h2) (hK Y4 B xu (H1.gr lm.gr))
  rw[d7 h2]at hK;refine l7 (by simpa using h2) (D1 (f0 Bw) (l5 (ap9 xu _ (C4 ?_))));by_cases h3:A.kind p.gf=3
  ·rw[d8 h3]at hK;exact l9 (by simpa using h3) (hK Y4 B xu (H1.gr lm.gr))
  rw[d7 h3]at hK;refine l7 (by simpa using h3) (an2 (f0 Ab) ?_);cases hq:q.there with
  |true=>rw[hq]at hK;exact l9 rfl (hK Y4 B xu (H1.gr lm.gr))
  |false =>
   rw[hq]at hK;simp only[D2,if_false]at hK;obtain⟨bt,B0,q1,q2,q3,q4⟩:=id xu;refine l7 rfl (j0 (E9 (f0 q1) (D1 (f0 Ab) (C6 (f0 Ab) (D1 (f0 Bw) ?_)))));refine l5 (cz2 cA2 q2 _ _ _ ?_);intro Y5 B5 hT hS;obtain⟨B6,h1,h2⟩:=J8.lift q1 q3 q4 hT hS;exact C4 (hK Y5 B6 h1 (h2.of_gr lm.gr))
end
mutual
def bB5(Y:H):Tr->List u9->Prop
 |.mk n k e d gn,cs=>∃x:Sl,cs=[.s n,.i k,.bool e,.s d,.slice x.base x.len x.cap]/\x.len=gn.length/\(gn=[]\/∃g o cur t fz,x.base=some ⟨g,o,none⟩/\Y g=some (.cells ⟨cur⟩ t fz)/\aT6 Y gn (cur.drop o))
def aT6(Y:H):List Tr->List u9->Prop
 | [],_=>True
 |t::r,cs=>bB5 Y t (cs.take 5)/\aT6 Y r (cs.drop 5)
end
def bB6(Y:H)(gn:List Tr)(x:Sl):Prop:=x.len=gn.length/\(gn=[]\/∃g o cur t fz,x.base=some ⟨g,o,none⟩/\Y g=some (.cells ⟨cur⟩ t fz)/\aT6 Y gn (cur.drop o))
def trC(t:Tr)(x:Sl):List u9:=[.s t.gu,.i t.kind,.bool t.exec,.s t.data,.slice x.base x.len x.cap]
theorem ce8{Y:H}{t:Tr}{cs:List u9}:bB5 Y t cs ↔ ∃x,cs=trC t x/\bB6 Y t.gn x:=by
 obtain⟨n,k,e,d,gn⟩:=t;simp only[bB5,trC,bB6,Tr.gu,Tr.kind,Tr.exec,Tr.data,Tr.gn]
theorem bH6{Y Y':H}(hg:Gr Y Y'):∀t:Tr,∀cs,bB5 Y t cs->bB5 Y' t cs:=by
 refine Tr.ind ?_;intro t ih cs h;rw[ce8]at h⊢;obtain⟨x,h1,h2,h3⟩:=h;refine⟨x,h1,h2,?_⟩;rcases h3 with h3|⟨g,o,cur,ty,fz,h3,h4,h5⟩
 ·exact .inl h3
 ·refine .inr ⟨g,o,cur,ty,fz,h3,hg.get h4,?_⟩;generalize cur.drop o=cs at h5;clear h4 h3 h2 h1;generalize t.gn=l at *
  induction l generalizing cs with
  |nil=>trivial
  |cons y r ihr =>
   simp only[aT6]at h5⊢;exact⟨ih y (H7 ..) _ h5.1,ihr _ (fun z hz=>ih z (E4 _ hz)) h5.2⟩
theorem ce9{Y Y':H}(hg:Gr Y Y'):∀ {l:List Tr} {cs:List u9},aT6 Y l cs->aT6 Y' l cs:=by
 intro l
 induction l with
 |nil=>intro _ _;trivial
 |cons y r ih=>intro cs h;simp only[aT6]at h⊢;exact⟨bH6 hg y _ h.1,ih h.2⟩
theorem bB6.gr{Y Y':H}{gn:List Tr}{x:Sl}(h:bB6 Y gn x)(hg:Gr Y Y'):bB6 Y' gn x:=by
 obtain⟨h1,h2|⟨g,o,cur,ty,fz,h3,h4,h5⟩⟩:=h
 ·exact⟨h1,.inl h2⟩
 ·exact⟨h1,.inr ⟨g,o,cur,ty,fz,h3,hg.get h4,ce9 hg h5⟩⟩
theorem bB6.nil{Y:H}{b:m9}{c:Nat}:bB6 Y [] ⟨b,0,c⟩:=⟨rfl,.inl rfl⟩
theorem aH1{α:Type}{l r:List α}{x:α}{i:Nat}(h:l.drop i=x::r):l[i]?=some x/\i<l.length/\l.drop (i+1)=r:=by
 refine⟨?_,?_,?_⟩
 ·have:(l.drop i)[0]?=some x:=by rw[h];rfl
  simpa using this
 ·rcases U8 i l.length with h'|h'
  ·exact h'
  ·rw[M3 h']at h;cases h
 ·rw[<-List.drop_drop,h];rfl
theorem aT7(a b:d9):aC4 a b=ltB a b:=by
 unfold aC4 ltB;rw[ByteArray.toList_eq,ByteArray.toList_eq];generalize a.data.toList=x;generalize b.data.toList=y
 induction x generalizing y with
 |nil=>cases y<;>simp[Op.bytesLess,Wk.leB]
 |cons c r ih =>
  cases y with
  |nil=>simp[Op.bytesLess,Wk.leB]
  |cons d s =>
   simp only[Op.bytesLess,Wk.leB,ih s];by_cases h1:c<d
   ·have:Nat.blt c.toNat d.toNat=true:=by rw[Nat.blt_eq];exact h1
    have h2:Nat.blt d.toNat c.toNat=false:=by
     rw[<-Bool.not_eq_true,Nat.blt_eq];have:c.toNat<d.toNat:=h1;omega
    simp[h1,this,h2]
   ·have n1:Nat.blt c.toNat d.toNat=false:=by rw[<-Bool.not_eq_true,Nat.blt_eq];exact h1
    by_cases h2:d<c
    ·have:Nat.blt d.toNat c.toNat=true:=by rw[Nat.blt_eq];exact h2
     have h3:(c==d)=false:=by
      simp only[X0];intro e;subst e;exact h1 h2
     simp[h1,this,h3]
    ·have n2:Nat.blt d.toNat c.toNat=false:=by rw[<-Bool.not_eq_true,Nat.blt_eq];exact h2
     have:c=d:=UInt8.le_antisymm (UInt8.not_lt.1 h2) (UInt8.not_lt.1 h1);subst this;simp[n1]
section
variable {Y:H} {b6:Nat} {t:Tr} {y:Sl} {ty:TypeId}
end
def Off(V Y:H)(B:Nat->Prop):Prop:=Gr V Y/\∀b o,V b=some o->¬B b
theorem Off.sep{V Y Y':H}{B B':Nat->Prop}(h:Off V Y B)(hs:H1 Y B Y' B'):Off V Y' B':=by
 obtain⟨h1,h2⟩:=h;refine⟨?_,fun b o hb=>(hs b o (h1.get hb) (h2 b o hb)).2⟩;unfold Gr;intro b o hb;exact(hs b o (h1.get hb) (h2 b o hb)).1
theorem Off.gr{V Y Y':H}{B:Nat->Prop}(h:Off V Y B)(hg:Gr Y Y'):Off V Y' B:=⟨h.1.trans hg,h.2⟩
theorem Off.get{V Y:H}{B:Nat->Prop}(h:Off V Y B){b:Nat}{o:Obj}(hb:V b=some o):Y b=some o:=h.1.get hb
theorem Off.sub{V V' Y:H}{B:Nat->Prop}(h:Off V Y B)(hg:Gr V' V):Off V' Y B:=⟨hg.trans h.1,fun b o hb=>h.2 b o (hg.get hb)⟩
theorem Off.put{V Y Y':H}{B:Nat->Prop}{b:Nat}{o:Obj}(h:Off V Y B)(hp:P1 Y b o Y')(hn:V b=none):Off V Y' B:=⟨h.1.putF hp hn,h.2⟩
theorem Off.add{V Y:H}{B:Nat->Prop}{b:Nat}{o:Obj}(h:Off V Y B)(hb:Y b=some o)(hn:¬B b):Off (V.put b o) Y B:=by
 refine⟨?_,?_⟩
 ·unfold Gr;intro c oc hc;by_cases e:c=b
  ·subst e;rw[H.put_same]at hc;cases hc;exact hb
  ·rw[H.put_other _ _ e]at hc;exact h.1.get hc
 ·intro c oc hc;by_cases e:c=b
  ·subst e;exact hn
  ·rw[H.put_other _ _ e]at hc;exact h.2 c oc hc
theorem aC6.at{Y:H}{x:Sl}{l:List d9}(h:aC6 Y x l){i:Nat}{s:d9}(hi:l[i]?=some s):∃g cur,x.base=some ⟨g,0,none⟩/\Y g=some (.cells ⟨cur⟩ 9 (0,0))/\cur[i]?=some (.s s):=by
 obtain⟨h1,h2|⟨g,cur,e1,e2,e3⟩⟩:=h
 ·subst h2;simp at hi
 ·refine⟨g,cur,e1,e2,?_⟩;have iw:i<l.length:=by
   rcases U8 i l.length with h|h
   ·exact h
   ·rw[aa4 h]at hi;cases hi
  have:(cur.take l.length)[i]?=some (.s s):=by rw[e3];simp[hi]
  rw[List.getElem?_take_of_lt iw]at this;exact this
theorem aA9{A:AT}{d:Int}{N:Nat}(hB:Bd N A):(A.gd d).length<=N:=by
 unfold AT.gd;cases hn:A.get d with
 |none=>simp
 |some n =>
  have:=hB.gj d n hn;simp only[E7,Q0];rw[(ae5 _).length_eq];simp[C5];omega
theorem aK5{A:AT}(hI:Inv A){d:Int}{s:d9}(h:s∈A.gd d):∃j,A.find d s=some j:=by
 unfold AT.gd at h;cases hn:A.get d with
 |none=>rw[hn]at h;simp at h
 |some n =>
  rw[hn]at h;simp only[E7,K0]at h;obtain⟨l,hl,rfl⟩:=h;have:=(ae5 _).mem_iff.1 hl;obtain⟨k,hk,rfl⟩:=K0.1 this;show ∃j,A.find d k=some j;unfold AT.find;rw[hn];cases lq:lk k n.gj with
  |some j=>exact⟨j,lq⟩
  |none=>exact m7 hk (M4.1 lq)
theorem aD6{A:AT}(hI:Inv A){d:Int}{s:d9}(h:s∈A.gd d):s.size<=56:=by
 obtain⟨j,hj⟩:=aK5 hI h;obtain⟨n,hn,_,hl,_⟩:=hI.find hj;exact aN4 (hI.ent d n s j hn hl).1
theorem bB7{A:AT}{N:Nat}{Y:H}{bf:Nat}{B:Nat->Prop}(hI:Inv A)(hB:Bd N A)(hN:N<=1000000000000)(hF:J8 Y bf A B)(gb gc:d9){K:KH}
 (hK:K (.t [.s (A.realF gb gc).2,.i (A.realF gb gc).1]) Y) :
 i7 184 [.q bf,.s gb,.s gc] K Y:=by
 generalize gv:A.realF gb gc=res at hK;unfold AT.realF at gv;refine aa7 _ hK (dw7 _ _ _ ?_);clear hK;unfold cW3;refine l5 (aq0 hF gb gc true ?_);have jf:=K4 hI gb gc true;generalize A.locate gb gc true=r at gv jf;obtain⟨re,p⟩:=r;simp only at gv jf;unfold plC
 (refine l6 rfl ?_;try dsimp only)
 refine A5 ?_;intro b9 Y1 g1 e1 n1;refine C1 e1 ag5 ?_;intro Y2 p2;have ir:Lng Y Y2:=⟨g1.putF p2 n1⟩;have pk:=hF.gr ir.gr;have k:=p2.same;clear p2;by_cases he:re=0
 case neg =>
  rw[d8 he]at gv;exact l9 (by simpa using he) ⟨by rw[<-gv],ir.gr⟩
 subst he;simp only[ne_eq,not_true_eq_false,if_false]at gv;refine l7 rfl (an2 (f0 k) ?_);have jf:=jf rfl;cases mg:p.there with
 |false=>rw[mg]at gv;exact l9 rfl ⟨by rw[<-gv];rfl,ir.gr⟩
 |true =>
  rw[mg]at gv;simp only[Bool.true_eq_false,if_false]at gv;refine l7 rfl (D1 (f0 k) ?_);refine K5 (fun j=>∀ (out:d9) (gh:Int),A.isDir gh->out.size<=100->res=(0,if E8 (A.realUp 13 gh out) gq then (bs [47]) else A.realUp 13 gh out)->j (gp bf) out gh Y2) ?_ ?_
  ·intro out gh im hos hr;refine H9 ?_;intro R hR;have key : ∀ (f:Nat) (gh:Int) (out:d9) (V:H),A.isDir gh->(A.deep f gh).isSome=true->out.size+f * (60 * N)<=1000000000000000->Gr Y V->res=(0,if E8 (A.realUp f gh out) gq then (bs [47]) else A.realUp f gh out)->R (gp bf) out gh V:=by
    intro f
    induction f with
    |zero=>intro gh out V _ hd;simp[AT.deep]at hd
    |succ f ihf =>
     intro gh out V im hd hsz hg hr;have hFt:=hF.gr hg;obtain⟨bt,B0,q1,q2,q3,q4⟩:=id hFt;refine hR _ _ _ _ ?_;refine j0 (E9 (f0 q1) (l5 (aS9 _ (C4 ?_))));unfold AT.realUp at hr;by_cases tk:gh=1
     ·rw[d8 tk]at hr;refine l7 (by simpa using tk) ?_;refine K5 (fun j=>j (if E8 out gq then (bs [47]) else out) V) ⟨by rw[hr],hg⟩ ?_;intro j hj;rw[I5]at hj;cases xv:C3 out gq with
      |true=>rw[xv]at hj;exact l9 rfl hj
      |false=>rw[xv]at hj;exact l7 rfl hj
     rw[d7 tk]at hr;refine l9 (by simpa using tk) (j0 (E9 (f0 q1) (l5 (cn8 q2 _ (C4 ?_)))));refine j0 (E9 (f0 q1) (l5 (aO7 q2 _ (az4 hI hB hN _) ?_)));intro x V1 g1' hx;refine ak0 ?_;have yx:(A.deep f (A.upOf gh)).isSome=true:=by
      unfold AT.deep at hd;rw[d7 tk]at hd;cases hq:A.deep f (A.upOf gh) with
      |none=>rw[hq]at hd;cases hd
      |some _=>rfl
     have qm:=aA9 (d:=A.upOf gh) hB;refine H9 ?_;intro R2 mo;have key2:∀ (l:List d9) (i:Nat) (out:d9),(A.gd (A.upOf gh)).drop i=l->out.size+l.length*60+f*(60*N)<=1000000000000000->res=(0,if E8 (A.realUp f (A.upOf gh) (l.foldl (fun o n=>if(A.find (A.upOf gh) n).getD 0=gh then((bs [47])++n)++o else o) out)) gq then (bs [47]) else A.realUp f (A.upOf gh) (l.foldl (fun o n=>if(A.find (A.upOf gh) n).getD 0=gh then((bs [47])++n)++o else o) out))->R2 (gp bf) out gh (A.upOf gh) x ((x.len:Nat):Int) (i:Int) V1:=by
      intro l
      induction l with
      |nil =>
       intro i out ku tm sd;have um:(A.gd (A.upOf gh)).length<=i:=by simpa using ku
       refine mo _ _ _ _ _ _ _ _ ?_;refine l7 (by rw[hx.1];exact W4) ?_;exact ihf _ _ V1 (hI.isDir_up im) yx (by simp only[ao8]at tm;omega) (hg.trans g1') sd
      |cons s r ihl =>
       intro i out ku tm sd;obtain⟨hs,iw,Bx⟩:=aH1 ku;obtain⟨g,cur,hb,hc,hcv⟩:=hx.at hs;have hss:=aD6 hI (K7 hs);simp only[H4]at tm;refine mo _ _ _ _ _ _ _ _ ?_;refine l9 (by rw[hx.1];exact M7) ?_;refine K5 (fun j=>j (gp bf) (if(A.find (A.upOf gh) s).getD 0=gh then((bs [47])++s)++out else out) gh (A.upOf gh) x ((x.len:Nat):Int) (i:Int) V1) ?_ ?_
       ·rw[D7 (x:=(i:Int)+1) (by omega) (by omega)];refine ihl (i+1) _ Bx ?_ sd;split
        ·simp only[D8];have:((bs [47]):d9).size=1:=rfl;omega
        ·omega
       ·intro j hj;rw[hb];refine j0 (D0 ⟨by omega,by rw[hx.1];omega⟩ (C6 (f0 hc (by simpa using hcv)) ?_));obtain⟨bt,B0,q1,q2,q3,q4⟩:=hF.gr (hg.trans g1');refine j0 (E9 (f0 q1) (l5 (bA9 q2 _ _ (am4 ?_))));have h1:((bs [47]):d9).size=1:=rfl;by_cases hf:(A.find (A.upOf gh) s).getD 0=gh
        ·rw[d8 hf]at hj;refine l9 (by simpa using hf) (D0 (by omega) (D0 (by rw[D8];omega) hj))
        ·rw[d7 hf]at hj;exact l7 (by simpa using hf) hj
     refine key2 (A.gd (A.upOf gh)) 0 out rfl ?_ hr;have hm:(f+1)*(60*N)=f*(60*N)+60*N:=by rw[K9,Nat.one_mul]
     omega
   obtain⟨d,pg,_⟩:=hI.deep13 im;exact key 13 gh out Y2 im (by rw[pg];rfl) (by omega) ir.gr hr
  ·intro j hj;refine D1 (f0 k) (l5 (ap9 pk _ (C4 ?_)));by_cases hk:A.kind p.gf=2
   ·have By:(if A.kind p.gf≠2 then A.realUp 13 p.gh ((bs [47])++p.gu)else A.realUp 13 p.gf gq)=A.realUp 13 p.gf gq:=d7 (by simpa using hk);rw[By]at gv;refine l7 (by simpa using hk) (hj gq p.gf (ai9 hk) (by decide) gv.symm)
   ·have By:(if A.kind p.gf≠2 then A.realUp 13 p.gh ((bs [47])++p.gu)else A.realUp 13 p.gf gq)=A.realUp 13 p.gh ((bs [47])++p.gu):=d8 hk;rw[By]at gv;obtain⟨hd,gw⟩:=jf;have il:p.gu.size<=56:=by
     rcases gw with⟨h1,_⟩|⟨_,_,h,_⟩
     ·rw[h1];decide
     ·exact h
    have h1:((bs [47]):d9).size=1:=rfl;refine l9 (by simpa using hk) (C6 (f0 k) (D0 (by show _+p.gu.size<=_;omega) (D1 (f0 k) ?_)));exact hj _ p.gh hd (by rw[D8];show _+p.gu.size<=_;omega) gv.symm
def av7(V:H):List Tr->List (List u9)->Prop
 | [],[]=>True
 |t::ts,r::rows=>bB5 V t r/\av7 V ts rows
 |_,_=>False
theorem av7.gr{V V':H}(hg:Gr V V'):∀ {ts:List Tr} {rows:List (List u9)},av7 V ts rows->av7 V' ts rows:=by
 intro ts
 induction ts with
 |nil=>intro rows h;cases rows<;>exact h
 |cons t ts ih =>
  intro rows h;cases rows with
  |nil=>exact h.elim
  |cons r rows=>exact⟨bH6 hg t r h.1,ih h.2⟩
theorem av7.snoc{V:H}{t:Tr}{r:List u9}(ht:bB5 V t r):∀ {ts:List Tr} {rows:List (List u9)},av7 V ts rows->av7 V (ts++[t]) (rows++[r]):=by
 intro ts
 induction ts with
 |nil=>intro rows h;cases rows with
  |nil=>exact⟨ht,trivial⟩
  |cons r rows=>exact h.elim
 |cons t ts ih =>
  intro rows h;cases rows with
  |nil=>exact h.elim
  |cons r rows=>exact⟨h.1,ih h.2⟩
theorem av7.len{V:H}:∀ {ts:List Tr} {rows:List (List u9)},av7 V ts rows->rows.length=ts.length:=by
 intro ts
 induction ts with
 |nil=>intro rows h;cases rows with
  |nil=>rfl
  |cons r rows=>exact h.elim
 |cons t ts ih =>
  intro rows h;cases rows with
  |nil=>exact h.elim
  |cons r rows=>simp[ih h.2]
end
section
open Go.ChangeShapes Go.WideShapes Go.ChangeAt Go.RowKit
theorem own:ownKnob Tryz.prog.godebug=none:=by kernel_rfl
theorem co0:laidOutB Tryz.prog=true:=by kernel_rfl
def cf0:Array u9 := #[.int .u8 128,.int .u8 191,.int .u8 160,.int .u8 191,.int .u8 128,.int .u8 159,.int .u8 144,.int .u8 191,.int .u8 128,.int .u8 143,.int .u8 0,.int .u8 0,.int .u8 0,.int .u8 0,.int .u8 0,.int .u8 0,.int .u8 0,.int .u8 0,.int .u8 0,.int .u8 0,.int .u8 0,.int .u8 0,.int .u8 0,.int .u8 0,.int .u8 0,.int .u8 0,.int .u8 0,.int .u8 0,.int .u8 0,.int .u8 0,.int .u8 0,.int .u8 0]
def firstCells:Array u9:=⟨Go.Pinned.utf8FirstZ.map fun(n:Nat)=>.int .u8 (n:Int)⟩
def dz0:List Int:=[0,1,28,2,29,14,24,3,30,22,20,15,25,17,4,8,31,27,13,23,21,19,16,7,26,12,18,6,11,5,10,9]
def cA7(k:IntKind)(l:List Int):Array u9:=⟨l.map fun n=>.int k n⟩
def bB8(cs:Array u9):Obj->Obj
 |.cells _ t frozen=>.cells cs t frozen
 |o=>o
def da6(l:List J3):Obj:=.cells #[.string ⟨⟨l⟩⟩] 243 (0,0)
def da7(b:Nat):Array u9 := #[.iface 241 (.pointer (some ⟨b,0,none⟩))]
noncomputable def laidWorld (os:Os):World :=
 let w:=World.holding Tryz.prog os ⟨#[da6 [118,97,108,117,101,32,111,117,116,32,111,102,32,114,97,110,103,101],da6 [105,110,118,97,108,105,100,32,115,121,110,116,97,120]],#[],[]⟩
 {w with heap:=(((((((w.heap.modify 3 (bB8 firstCells)).modify 4 (bB8 cf0)).modify 5 (bB8 (cA7 .u64 Lib.pow10Tab))).modify 1 (bB8 (da7 (Tryz.prog.globals.size+6)))).modify 2 (bB8 (da7 (Tryz.prog.globals.size+5)))).modify 6 (bB8 (cA7 .u8 dz0))).modify 7 (bB8 (cA7 .u8 cF5)))}
end
section
attribute [local irreducible] i9 E3 A0 I9 l8 H0 C0 stW muW biW W7 imW J0 G8 app E2 J1 D3 E6 oW P0 J5 C9 rfW N5 M9 D5 exW I2 Gr P1
theorem aB0(A:AT):∀ (f:Nat) (i:Int),0<=A.levels f i/\A.levels f i<=f:=by
 intro f
 induction f with
 |zero=>intro i;simp[AT.levels]
 |succ f ih =>
  intro i;unfold AT.levels;by_cases hk:A.kind i≠2
  ·rw[d8 hk];omega
  rw[d7 hk];have key:∀ (l:List d9) (n:Int),0<=n->n<=f->0<=l.foldl (fun n s=>let x:=AT.levels A f ((A.find i s).getD 0);if x>n then x else n) n/\l.foldl (fun n s=>let x:=AT.levels A f ((A.find i s).getD 0);if x>n then x else n) n<=f:=by
   intro l
   induction l with
   |nil=>intro n h1 h2;exact⟨h1,h2⟩
   |cons s r ihl =>
    intro n h1 h2;simp only[H3];have:=ih ((A.find i s).getD 0);refine ihl _ ?_ ?_<;>(split<;>omega)
  have:=key (A.gd i) 0 (by omega) (by omega);omega
section
variable {Y:H} {bf:Nat} {A:AT} {B:Nat->Prop}
theorem bP6{N:Nat}(hI:Inv A)(hB:Bd N A)(hN:N<=1000000000000)(hF:J8 Y bf A B):∀ (f:Nat) (i:Int),f<=100->(∀d,A.isDir i->A.deep 12 i=some d->13<=f+d)->∀ {V:H},Gr Y V->∀ {K:KH},(∀V',Gr V V'->K (.i (A.levels f i)) V')->i7 181 [.q bf,.i i] K V:=by
 intro f
 induction f with
 |zero =>
  intro i _ hd V hg K hK;refine cV7 _ _ ?_;unfold cy6;refine l5 (ap9 (hF.gr hg) i (C4 ?_));have hk:A.kind i≠2:=by
   intro hk;have im:=ai9 hk;obtain⟨d,se⟩:=hI.deep i im;have:=hd d im se;have:=aa0 se;omega
  exact l9 (by simpa using hk) (hK V (Gr.refl _))
 |succ f ih =>
  intro i hf hd V hg K hK;have ju:=aB0 A f;refine cV7 _ _ ?_;unfold cy6;refine l5 (ap9 (hF.gr hg) i (C4 ?_));unfold AT.levels at hK;by_cases hk:A.kind i≠2
  ·rw[d8 hk]at hK;exact l9 (by simpa using hk) (hK V (Gr.refl _))
  rw[d7 hk]at hK;have jc:A.kind i=2:=by simpa using hk
  have im:=ai9 jc;obtain⟨di,Fr⟩:=hI.deep i im;refine l7 (by simpa using jc) ?_;obtain⟨bt,B0,q1,q2,q3,q4⟩:=id (hF.gr hg);refine j0 (E9 (f0 q1) ?_);refine l5 (aO7 q2 _ (az4 hI hB hN _) ?_);intro x V1 g1 hx;refine ak0 (H9 ?_);intro R hR;have ib:=hx.1;have qm:=aA9 (A:=A) (d:=i) hB;have key:∀ (l:List d9) (k:Nat) (n:Int) (V2:H),(A.gd i).drop k=l->0<=n->n<=f->Gr V1 V2->(A.gd i).foldl (fun n s=>let x:=AT.levels A f ((A.find i s).getD 0);if x>n then x else n) 0=l.foldl (fun n s=>let x:=AT.levels A f ((A.find i s).getD 0);if x>n then x else n) n->R (gp bf) i n x ((x.len:Nat):Int) (k:Int) V2:=by
   intro l
   induction l with
   |nil =>
    intro k n V2 Bz h1 h2 ir he;have um:(A.gd i).length<=k:=by simpa using Bz
    refine hR _ _ _ _ _ _ _ ?_;refine l7 (by rw[ib];exact W4) ?_;rw[D7 (x:=n+1) (by omega) (by omega)];rw[he]at hK;exact hK V2 (g1.trans ir)
   |cons s r ihl =>
    intro k n V2 Bz h1 h2 ir he;obtain⟨hs,iw,ku⟩:=aH1 Bz;obtain⟨g,cur,x1,x2,x3⟩:=hx.at hs;refine hR _ _ _ _ _ _ _ ?_;refine l9 (by rw[ib];exact M7) ?_;rw[x1];refine j0 (D0 ⟨by omega,by rw[ib];omega⟩ ?_);have Bp:m8 g (0+(k:Int).toNat*1) V2=some (.s s):=f0 (ir.get x2) (by simpa using x3);obtain⟨bt',B0',r1,r2,r3,r4⟩:=id (hF.gr ((hg.trans g1).trans ir));refine C6 Bp (j0 (E9 (f0 r1) ?_));refine l5 (bA9 r2 _ _ (am4 ?_));refine l5 (ih ((A.find i s).getD 0) (by omega) ?_ ((hg.trans g1).trans ir) ?_)
    ·intro d' Di kl;obtain⟨j,hj⟩:=aK5 hI (K7 hs);rw[hj]at Di kl;simp only[Option.getD_some]at Di kl;obtain⟨nd,ij,_,hl,uu,m,hm,iu⟩:=hI.find hj;obtain⟨m',oe,nv⟩:=Di;rw[hm]at oe;cases oe;have hu:A.upOf j=i:=by unfold AT.upOf;rw[hm];exact iu nv
     rw[AT.deep,d7 uu,hu]at kl;cases tn:A.deep 11 i with
     |none=>rw[tn]at kl;cases kl
     |some y =>
      rw[tn]at kl;simp only[Option.map_some,Option.some.injEq]at kl;have:=at0 tn;rw[Fr]at this;cases this;have:=hd di im Fr;omega
    ·intro V3 g3;refine C4 ?_;have hb:=ju ((A.find i s).getD 0);rw[D7 (x:=(k:Int)+1) (by omega) (by omega)];have hgt:(if A.levels f ((A.find i s).getD 0)>n then A.levels f ((A.find i s).getD 0)else n)=(let x:=AT.levels A f ((A.find i s).getD 0);if x>n then x else n):=rfl;refine ihl (k+1) _ V3 ku ?_ ?_ (ir.trans g3) ?_
     ·split<;>omega
     ·split<;>omega
     ·rw[he];rfl
  exact key (A.gd i) 0 0 V1 rfl (by omega) (by omega) (Gr.refl _) rfl
theorem bP7(hF:J8 Y bf A B){gf:Int}:∀ (f:Nat) {d:Int} {b:Bool},A.within gf f d=some b->∀ {K:KH},K (.bool b) Y->i7 180 [.q bf,.i d,.i gf] K Y:=by
 intro f d b hw K hK;obtain⟨bt,B0,q1,q2,q3,q4⟩:=id hF;refine dw4 _ _ _ ?_;unfold cV5;refine H9 ?_;intro R hR;have key:∀ (f:Nat) (d:Int),A.within gf f d=some b->R (gp bf) d gf Y:=by
  intro f
  induction f with
  |zero=>intro d h;cases h
  |succ f ih =>
   intro d h;unfold AT.within at h;refine hR _ _ _ _ ?_;refine j_d ?_;by_cases e:d=gf
   ·rw[d8 e]at h;cases h;refine l7 (by simpa using e) (l7 rfl ?_);have:(d==gf)=true:=by simpa using e
    rw[this];exact hK
   rw[d7 e]at h;refine l9 (by simpa using e) (j0 (E9 (f0 q1) (l5 (aS9 _ (C4 ?_)))));by_cases e1:d=1
   ·rw[d8 e1]at h;cases h;refine l7 (by simpa using e1) ?_;have:(d==gf)=false:=by simpa using e
    rw[this];exact hK
   rw[d7 e1]at h;refine l9 (by simpa using e1) (j0 (E9 (f0 q1) (l5 (cn8 q2 _ (C4 ?_)))));exact ih _ h
 exact key f d hw
theorem cA8{N:Nat}(hI:Inv A)(hB:Bd N A)(hN:N<=1000000000000)(hF:J8 Y bf A B)(p q:Pl)(hq:A.isDir q.gh){K:KH}(hK:∀Y',Gr Y Y'->K (.i (A.overE p q)) Y') :
 i7 142 [.q bf,.agg ⟨plC p⟩,.agg ⟨plC q⟩] K Y:=by
 unfold plC;refine dt9 _ _ _ _ _ _ _ _ _ ?_;unfold cP7;refine A5 ?_;intro b10 Y1 g1 e1 n1;refine A5 ?_;intro b11 Y2 g2 e2 n2;have k10:=g2.get e1;have ir:Gr Y Y2:=g1.trans g2;have F2:=hF.gr ir;refine D1 (f0 k10) (D1 (f0 e2) ?_);refine l5 (ap9 F2 _ (C4 (aa6 (f0 e2) (l5 (ap9 F2 _ (C4 ?_))))));unfold AT.overE at hK;simp only at hK;obtain⟨x,tc,Be,hx1,Aa⟩:=hI.deep13 hq;obtain⟨wb,Ct⟩:=aM5 p.gf tc
 -- ag9 the first questions
 refine K5 (fun j=>∀V,Gr Y2 V->(if q.there=false then(0:Int)else if A.kind q.gf=2/\A.kind p.gf≠2 then 7 else if A.kind p.gf=2/\A.kind q.gf≠2 then 8 else if(A.gd q.gf).length>0 then 20 else 0)=0->j (gp bf) (gp b10) (gp b11) (A.kind p.gf==2) V) ?_ ?_
 ·intro V hg he;rw[he]at hK;simp only[ne_eq,not_true_eq_false,if_false]at hK;have wa:Gr Y V:=ir.trans hg;have F:=hF.gr wa;have oj:=hg.get k10;have jx:=hg.get e2;refine K5 (fun j=>∀b:Bool,b=decide (A.kind p.gf=2/\(A.within p.gf 13 q.gh).getD false=true)->j (gp bf) (gp b10) (gp b11) b V) ?_ ?_
  ·intro b hb;by_cases hc:A.kind p.gf=2/\(A.within p.gf 13 q.gh).getD false=true
   ·rw[d8 hc]at hK;exact l9 (by rw[hb];simpa using hc) (hK V wa)
   ·rw[d7 hc]at hK;refine l7 (by rw[hb];simpa using hc) (j0 (D1 (f0 jx) (j0 (D1 (f0 oj) ?_))));refine l5 (ce6 F tc (by omega) (C4 (aa6 (f0 oj) ?_)));refine l5 (bP6 hI hB hN hF 14 p.gf (by omega) (fun d _ hd=>by have:=aa0 hd;omega) wa ?_);intro V' g';refine C4 ?_;have hl:=aB0 A 14 p.gf;rw[D7 (x:=x+A.levels 14 p.gf) (by omega) (by omega)];rw[tc]at hK;simp only[Option.getD_some]at hK;by_cases h12:x+A.levels 14 p.gf>12
    ·rw[d8 h12]at hK;exact l9 (by simpa using h12) (hK V' (wa.trans g'))
    ·rw[d7 h12]at hK;exact l7 (by simpa using h12) (hK V' (wa.trans g'))
  ·intro j hj;by_cases hk:A.kind p.gf=2
   ·refine l9 (by simpa using hk) (j0 (D1 (f0 jx) (j0 (D1 (f0 oj) ?_))));refine l5 (bP7 F 13 Ct (H2 (hj wb ?_)));rw[Ct];simp[hk]
   ·exact l7 (by simpa using hk) (hj false (by simp[hk]))
 ·intro j hj;refine an2 (f0 e2) ?_;cases mg:q.there with
  |false=>exact l9 rfl (hj Y2 (Gr.refl _) (by rw[mg];rfl))
  |true =>
   rw[mg]at hK hj;simp only[Bool.true_eq_false,if_false]at hK hj;refine l7 rfl ?_;refine K5 (fun j'=>∀b:Bool,b=decide (A.kind q.gf=2/\A.kind p.gf≠2)->j' (gp bf) (gp b10) (gp b11) (A.kind p.gf==2) (A.kind q.gf==2) b Y2) ?_ ?_
   ·intro b hb;by_cases h7:A.kind q.gf=2/\A.kind p.gf≠2
    ·rw[d8 h7]at hK;exact l9 (by rw[hb];simpa using h7) (hK Y2 ir)
    rw[d7 h7]at hK hj;refine l7 (by rw[hb];simpa using h7) ?_;refine K5 (fun j'=>∀b:Bool,b=decide (A.kind p.gf=2/\A.kind q.gf≠2)->j' (gp bf) (gp b10) (gp b11) (A.kind p.gf==2) b Y2) ?_ ?_
    ·intro b hb;by_cases h8:A.kind p.gf=2/\A.kind q.gf≠2
     ·rw[d8 h8]at hK;exact l9 (by rw[hb];simpa using h8) (hK Y2 ir)
     rw[d7 h8]at hK hj;refine l7 (by rw[hb];simpa using h8) ?_;obtain⟨bt,B0,q1,q2,q3,q4⟩:=id F2;refine j0 (E9 (f0 q1) (j0 (D1 (f0 e2) ?_)));refine l5 (aO7 q2 _ (az4 hI hB hN _) ?_);intro x' Y3 g3 jv;refine ak0 ?_;have ib:x'.len=(A.gd q.gf).length:=jv.1;by_cases hl:(A.gd q.gf).length>0
     ·rw[d8 hl]at hK;exact l9 (by rw[ib];exact M7) (hK Y3 (ir.trans g3))
     ·rw[d7 hl]at hj;exact l7 (by rw[ib];exact W4) (hj Y3 g3 rfl)
    ·intro j' ip;by_cases hk:A.kind p.gf=2
     ·exact l9 (by simpa using hk) (ip _ (by by_cases zt:A.kind q.gf=2<;>simp[hk,zt]))
     ·exact l7 (by simpa using hk) (ip _ (by simp[hk]))
   ·intro j' ip;by_cases hk:A.kind q.gf=2
    ·exact l9 (by simpa using hk) (ip _ (by by_cases ll:A.kind p.gf=2<;>simp[hk,ll]))
    ·exact l7 (by simpa using hk) (ip _ (by simp[hk]))
theorem cf1{N:Nat}(hI:Inv A)(hB:Bd N A)(hN:N<=1000000000000)(hF:J8 Y bf A B)(gb gk tq:d9){K:KH}
 (hK:∀Y' B',J8 Y' bf (A.renameF gb gk tq).2 B'->H1 Y B Y' B'->K (.i (A.renameF gb gk tq).1) Y') :
 i7 86 [.q bf,.s gb,.s gk,.s tq] K Y:=by
 refine c86 _ _ _ _ ?_;unfold g86;refine l5 (ce7 hF gb gk tq ?_);unfold AT.renameF at hK;simp only at hK;have hbz:=bZ2 (A:=A) (gb:=gb) (gk:=gk) (tq:=tq);have jf:=fun he=>K4 hI gb tq false he;generalize A.both gb gk tq=r at hK hbz⊢;obtain⟨re,p,q⟩:=r;simp only at hK hbz⊢;unfold plC
 (refine l6 rfl ?_;try dsimp only)
 refine A5 ?_;intro b14 Y1 g1 e1 n1;refine A5 ?_;intro b15 Y2 g2 e2 n2;have n1415:b14≠b15:=H6 n2 (A8 e1);refine C1 (g2.get e1) ag5 ?_;intro Y3 p3;refine C1 (p3.get n1415.symm e2) ag5 ?_;intro Y4 p4;have f15:Y b15=none:=A9 g1 n2;have lm:Lng Y Y4:=⟨((g1.trans g2).putF p3 n1).putF p4 f15⟩;have k14:=p4.get n1415 p3.same;have k15:=p4.same;have F4:=hF.gr lm.gr;clear p3 p4 e1 e2 g1 g2;by_cases he:re=0
 case neg =>
  rw[d8 he]at hK;exact l9 (by simpa using he) (hK Y4 B F4 (H1.gr lm.gr))
 subst he;simp only[ne_eq,not_true_eq_false,if_false]at hK;obtain⟨_,z2,_,z4⟩:=hbz rfl;have Q:=jf z2;rw[<-z4]at Q;refine l7 rfl ?_;refine K5 (fun j=>∀b:Bool,b=(C3 p.gu gq||C3 q.gu gq)->j (gp bf) (gp b14) (gp b15) b Y4) ?_ ?_
 case refine_2 =>
  intro j hj;refine C6 (f0 k14) ?_;cases h1:C3 p.gu gq with
  |true=>exact l9 rfl (hj true (by rw[h1];rfl))
  |false=>exact l7 rfl (C6 (f0 k15) (hj _ (by rw[h1];rfl)))
 intro b hb;by_cases c2:E8 p.gu gq=true\/E8 q.gu gq=true
 ·rw[d8 c2]at hK;exact l9 (by rw[hb,<- I5,<- I5];simpa using c2) (hK Y4 B F4 (H1.gr lm.gr))
 rw[d7 c2]at hK
 refine l7 (by
  rw[hb,<- I5,<- I5];cases h1:E8 p.gu gq with
  |true=>exact m7 (.inl h1) c2
  |false =>
   cases h2:E8 q.gu gq with
   |true=>exact m7 (.inr h2) c2
   |false=>rfl) ?_
 refine j0 (an2 (f0 k14) ?_);by_cases c3:p.there=false
 ·rw[d8 c3]at hK;exact l9 (by rw[c3];rfl) (hK Y4 B F4 (H1.gr lm.gr))
 rw[d7 c3]at hK;have c3':p.there=true:=by simpa using c3
 refine l7 (by rw[c3'];rfl) ?_;refine K5 (fun j=>∀b:Bool,b=decide (q.there=true/\p.gf=q.gf)->j (gp bf) (gp b14) (gp b15) b Y4) ?_ ?_
 case refine_2 =>
  intro j hj;refine j0 (an2 (f0 k15) ?_);cases h1:q.there with
  |true =>
   refine l9 rfl (j0 (D1 (f0 k14) (j0 (D1 (f0 k15) (hj _ ?_)))));by_cases h2:p.gf=q.gf<;>simp[h1,h2]
  |false=>exact l7 rfl (hj false (by simp[h1]))
 intro b hb;by_cases c4:q.there=true/\p.gf=q.gf
 ·rw[d8 c4]at hK;exact l9 (by rw[hb];simpa using c4) (hK Y4 B F4 (H1.gr lm.gr))
 rw[d7 c4]at hK;refine l7 (by rw[hb];simpa using c4) (j0 (N8 (D4 k14) ?_))
 (refine l6 rfl ?_;try dsimp only)
 refine j0 (N8 (D4 k15) ?_)
 (refine l6 rfl ?_;try dsimp only)
 refine l5 (cA8 hI hB hN F4 p q Q.1 ?_);intro Y5 g5;refine C4 ?_;have pv:Lng Y Y5:=⟨lm.gr.trans g5⟩;have k14':=g5.get k14;have k15':=g5.get k15;have F5:=hF.gr pv.gr;by_cases c5:A.overE p q≠0
 ·rw[d8 c5]at hK;exact l9 (by simpa using c5) (hK Y5 B F5 (H1.gr pv.gr))
 rw[d7 c5]at hK;refine l7 (by simpa using c5) ?_
 -- the entry moves
 have mv:∀ (A':AT) (Y6:H) (B6:Nat->Prop),Inv A'->J8 Y6 bf A' B6->H1 Y B Y6 B6->Y6 b14=some (.c [.i p.gh,.s p.gu,.i p.gf,.bool p.there] 89)->Y6 b15=some (.c [.i q.gh,.s q.gu,.i q.gf,.bool q.there] 89) ->
  (∀Y' B',J8 Y' bf (A'.moveR p.gh p.gu q.gh q.gu 14).2 B'->H1 Y B Y' B'->K (.i (A'.moveR p.gh p.gu q.gh q.gu 14).1) Y') ->
  (i9 (gp bf) (fun(b46 o47:Nat)=>l8 (m8 b46 o47) kP (fun(x48:m9)=>i9 (gp b14) (fun(b49 o50:Nat)=>l8 (m8 b49 o50) kI (fun(x51:Int)=>i9 (gp b14) (fun(b52 o53:Nat)=>l8 (m8 b52 (o53+1)) kS (fun(x54:d9)=>i9 (gp b15) (fun(b55 o56:Nat)=>l8 (m8 b55 o56) kI (fun(x57:Int)=>i9 (gp b15) (fun(b58 o59:Nat)=>l8 (m8 b58 (o59+1)) kS (fun(x60:d9) =>
   i6 143 [.p x48,.i x51,.s x54,.i x57,.s x60] kI (fun(x61:Int)=>K (.i x61))))))))))))) Y6:=by
  intro A' Y6 B6 hI' F6 S6 Bw Ab jg;obtain⟨bt,B0,q1,q2,q3,q4⟩:=id F6;refine j0 (E9 (f0 q1) (j0 (D1 (f0 Bw) (j0 (C6 (f0 Bw) (j0 (D1 (f0 Ab) (j0 (C6 (f0 Ab) ?_)))))))));refine l5 (cz3 cA2 q2 _ _ _ _ ?_ 14 ?_ ?_)
  ·intro j hj;obtain⟨_,_,_,_,_,m,hm,_⟩:=hI'.find hj;rw[hm];rfl
  ·intro hz;obtain⟨_,ht,_,_⟩:=bl0 hz;obtain⟨d,hd⟩:=hI'.deep q.gh ht;obtain⟨b',xx⟩:=bw5 hI' ((A'.find p.gh p.gu).getD 0) ht (at0 (at0 hd));rw[xx];rfl
  ·intro Y7 B7 hT hS;obtain⟨B8,h1,h2⟩:=J8.lift q1 q3 q4 hT hS;exact C4 (jg Y7 B8 h1 (S6.trans h2))
 refine j_d (j0 (an2 (f0 k15') ?_));by_cases c6:q.there=true
 case neg =>
  rw[d7 c6]at hK;exact l7 (by simpa using c6) (mv _ _ _ hI F5 (H1.gr pv.gr) k14' k15' hK)
 rw[d8 c6]at hK;obtain⟨bt,B0,q1,q2,q3,q4⟩:=id F5;refine l9 c6 (j0 (E9 (f0 q1) (j0 (D1 (f0 k15') (j0 (C6 (f0 k15') ?_))))));refine l5 (bo6 q2 _ _ ?_ hI.nodup ?_)
 ·intro j hj;obtain⟨_,_,_,_,_,m,hm,_⟩:=hI.find hj;rw[hm];rfl
 ·intro Y6 B6 hT hS;obtain⟨B7,h1,h2⟩:=J8.lift q1 q3 q4 hT hS;have S7:H1 Y B Y6 B7:=h2.of_gr pv.gr;refine C4 ?_;by_cases c7:(A.unlinkR q.gh q.gu).1≠0
  ·rw[d8 c7]at hK;exact l9 (by simpa using c7) (hK Y6 B7 h1 S7)
  rw[d7 c7]at hK;have hB14:¬B b14:=hF.fresh n1;have hB15:¬B b15:=hF.fresh f15;exact l7 (by simpa using c7) (mv _ _ _ (ap5 hI hB (by omega) q.gh q.gu).1 h1 S7 (h2 b14 _ k14' hB14).1 (h2 b15 _ k15' hB15).1 hK)
end
structure TlC where
 nm:d9
 inn:d9
 gb:d9
 x:Sl
 bf:Nat
def bp6(C:TlC)(ge:d9)(y:Sl)(s:TS):List u9:=[.s C.nm,.slice C.x.base C.x.len C.x.cap,.s C.inn,.s C.gb,.q C.bf,.s s.out,.s s.err,.i s.st,.s ge,.slice y.base y.len y.cap,.bool s.full]
def I4(Y:H)(bt:Nat)(C:TlC)(ge:d9)(y:Sl)(s:TS)(B:Nat->Prop):Prop:=∃B0,Y bt=some (.cells ⟨bp6 C ge y s⟩ 52 (0,0))/\J8 Y C.bf s.A B0/\¬B0 bt/\∀b,B b↔(B0 b\/b=bt)
section
variable {Y Y':H} {bt b:Nat} {C:TlC} {ge:d9} {y:Sl} {s:TS} {B:Nat->Prop} {o:Obj}
theorem I4.gr(h:I4 Y bt C ge y s B)(hg:Gr Y Y'):I4 Y' bt C ge y s B:=by
 obtain⟨B0,h1,h2,h3,h4⟩:=h;exact⟨B0,hg.get h1,h2.gr hg,h3,h4⟩
theorem I4.put(h:I4 Y bt C ge y s B)(hp:P1 Y b o Y')(hn:¬B b):I4 Y' bt C ge y s B:=by
 obtain⟨B0,h1,h2,h3,h4⟩:=h;exact⟨B0,hp.get (fun e=>hn ((h4 b).2 (.inr e.symm))) h1,h2.put hp (fun e=>hn ((h4 b).2 (.inl e))),h3,h4⟩
theorem I4.cell(h:I4 Y bt C ge y s B):Y bt=some (.cells ⟨bp6 C ge y s⟩ 52 (0,0)):=by obtain⟨_,h1,_⟩:=h;exact h1
theorem I4.say(h:I4 Y bt C ge y s B){got':d9}{y':Sl}{s':TS}(hA:s'.A=s.A)(hp:P1 Y bt (.cells ⟨bp6 C got' y' s'⟩ 52 (0,0)) Y'):I4 Y' bt C got' y' s' B:=by
 obtain⟨B0,h1,h2,h3,h4⟩:=h;exact⟨B0,hp.same,by rw[hA];exact h2.put hp h3,h3,h4⟩
theorem I4.fs(h:I4 Y bt C ge y s B):∃B0,J8 Y C.bf s.A B0/\∀ {A':AT} {B0':Nat->Prop} {Y':H},J8 Y' C.bf A' B0'->H1 Y B0 Y' B0'->∃B',I4 Y' bt C ge y {s with A:=A' } B'/\H1 Y B Y' B':=by
 obtain⟨B0,h1,h2,h3,h4⟩:=h;refine⟨B0,h2,fun {A' B0' Y'} hf hs=>⟨fun b=>B0' b\/b=bt,⟨B0',(hs bt _ h1 h3).1,hf,(hs bt _ h1 h3).2,fun b=>Iff.rfl⟩,?_⟩⟩;intro c oc hc hn;have iy:¬B0 c/\c≠bt:=⟨fun e=>hn ((h4 c).2 (.inl e)),fun e=>hn ((h4 c).2 (.inr e))⟩;exact⟨(hs c oc hc iy.1).1,fun e=>e.elim (hs c oc hc iy.1).2 iy.2⟩
theorem W5:E6 Tryz.prog 80=some 4:=by kernel_rfl
theorem aj5(h:I4 Y bt C ge y s B)(gc:d9)(fo:Bool){K:KH}(hK:K (.t [.agg ⟨inV (s.A.stat C.gb gc fo).2⟩,.i (s.A.stat C.gb gc fo).1]) Y):i7 76 [.q bt,.s gc,.bool fo] K Y:=by
 refine aa7 _ hK (c76 _ _ _ ?_);clear hK;unfold g76;obtain⟨B0,hF,_⟩:=h.fs;refine A5 ?_;intro b4 Y1 g1 e1 n1;have hc:=g1.get h.cell;refine j0 (E9 (f0 hc) (j0 (C6 (f0 hc) ?_)));refine l5 (bB3 (hF.gr g1) _ _ _ ?_);unfold inV
 (refine l6 rfl ?_;try dsimp only)
 refine C1 e1 W5 ?_;intro Y2 p2;refine N8 (D4 p2.same) ?_
 (refine l6 rfl ?_;try dsimp only)
 exact⟨rfl,g1.putF p2 n1⟩
theorem bg6(h:I4 Y bt C ge y s B)(gc:d9){K:KH}(hK:K (.bool (s.A.dirB C.gb gc)) Y):i7 89 [.q bt,.s gc] K Y:=by
 refine aa7 _ hK (c89 _ _ ?_);clear hK;unfold g89;refine l5 (aj5 h gc true ?_);unfold inV
 (refine l6 rfl ?_;try dsimp only)
 refine A5 ?_;intro b8 Y1 g1 e1 n1;refine C1 e1 W5 ?_;intro Y2 p2;unfold AT.dirB;cases he:((s.A.stat C.gb gc true).1==0) with
 |true =>
  refine l9 rfl (D1 (f0 p2.same) ?_);exact⟨by simp only[he,T8],g1.putF p2 n1⟩
 |false =>
  exact l7 rfl ⟨by simp only[he,Z5],g1.putF p2 n1⟩
theorem bP8(g:d9)(c:J3):decide (firstIdx g c>=0)=I8 g c:=by
 unfold I8;rcases ai7 g c with⟨h1,h2⟩|⟨i,h1,h2,h3,h4⟩
 ·have a:decide (firstIdx g c>=0)=false:=by rw[K6,h1];omega
  have b:g.data.toList.contains c=false:=by rw[<-Bool.not_eq_true,List.contains_iff_mem];exact h2
  rw[a,b]
 ·have a:decide (firstIdx g c>=0)=true:=by rw[I6,h1];omega
  have hm:c∈g.data.toList:=by
   rw[h4];exact List.mem_append_right _ (H7 ..)
  have b:g.data.toList.contains c=true:=by rw[List.contains_iff_mem];exact hm
  rw[a,b]
theorem ao1(h:I4 Y bt C ge y s B)(c:J3){K:KH}(hK:K (.bool (I8 ge c)) Y):i7 72 [.q bt,.int .u8 (c.toNat:Int)] K Y:=by
 refine c72 _ _ ?_;unfold g72;refine j0 (C6 (f0 h.cell) ?_);refine l5 (ar3 ge _ (C4 ?_));have e:((c.toNat:Int)).toNat.toUInt8=c:=by rw[P5];exact UInt8.ofNat_toNat
 rw[e,bP8];exact hK
end
section
variable {Y:H}
theorem co1{e:Int}(h0:0<=e)(h1:e<=20){K:KH}(hK:K (.s (aV8 10 e)) Y):i7 225 [.i e] K Y:=by
 refine dy1 _ ?_;unfold cZ1;have h:e=0\/e=1\/e=2\/e=3\/e=4\/e=5\/e=6\/e=7\/e=8\/e=9\/e=10\/e=11\/e=12\/e=13\/e=14\/e=15\/e=16\/e=17\/e=18\/e=19\/e=20:=by omega
 rcases h with rfl|rfl|rfl|rfl|rfl|rfl|rfl|rfl|rfl|rfl|rfl|rfl|rfl|rfl|rfl|rfl|rfl|rfl|rfl|rfl|rfl
 all_goals first
  |exact l9 rfl (D0 ⟨J2 (by decide +kernel) (by decide +kernel),J2 (by decide +kernel) (by decide +kernel)⟩ (by refine(J7 (fun s=>K (.s s) Y) (J9.1 ?_)).mp hK;decide +kernel))
  |exact l7 rfl (D0 ⟨J2 (by decide +kernel) (by decide +kernel),J2 (by decide +kernel) (by decide +kernel)⟩ (by refine(J7 (fun s=>K (.s s) Y) (J9.1 ?_)).mp hK;decide +kernel))
theorem bH7{e:Int}(h0:0<=e)(h1:e<=20){K:KH}(hK:K (.s (aV8 10 e)) Y):i7 93 [.i e] K Y:=by
 refine c93 _ ?_;unfold g93;refine l5 (du5 _ ?_);unfold cQ9;refine l5 (dx0 _ _ ?_);unfold cW9;refine l9 rfl (K5 (fun j=>j e true Y) ?_ ?_)
 ·exact l9 rfl (l5 (co1 h0 h1 (ab2 (ab2 (ab2 hK)))))
 ·intro j hj;refine l9 (by simp only[I6];exact h0) ?_;have:decide (e<100)=true:=by rw[I6];omega
  rw[this];exact hj
end
section
variable {Y:H} {bt:Nat} {C:TlC} {ge:d9} {y:Sl} {s:TS} {B:Nat->Prop}
theorem aH2(h:I4 Y bt C ge y s B)(gu:d9){e:Int}(h0:0<=e)(h1:e<=20)(mz:C.nm.size<=1000000)(kx:gu.size<=1000000)(hz3:s.err.size<=1000000000000)(hz4:(aV8 10 e).size<=100){K:KH}(hK:∀Y' r,I4 Y' bt C ge y (s.fail C.nm gu e) B->H1 Y B Y' B->K (.bool r) Y'):i7 134 [.q bt,.s gu,.i e] K Y:=by
 refine dt2 _ _ _ ?_;unfold cO1;by_cases he:e=0
 ·subst he;exact l9 rfl (hK Y false h (H1.refl _ _))
 have my:(e==0)=false:=by rw[X0];exact he
 have hc:=h.cell;have hf:s.fail C.nm gu e={s with err:=s.err++ak2 C.nm gu e,st:=if e==10 then 3 else(if s.st<1 then 1 else s.st),full:=s.full||e==10}:=by
  unfold TS.fail;rw[d7 (by rw[beq_iff_eq];exact he)]
 refine l7 my (j0 (C6 (f0 hc) (j0 (C6 (f0 hc) ?_))));refine D0 (by show C.nm.size+2<=_;omega) (D0 (by rw[D8];show C.nm.size+2+gu.size<=_;omega) (D0 (by rw[D8,D8];show C.nm.size+2+gu.size+2<=_;omega) ?_));refine l5 (bH7 h0 h1 (ab2 ?_));refine aa6 (f0 hc) (aa6 (f0 hc) ?_);refine D0 (by simp only[D8];show C.nm.size+2+gu.size+2+(aV8 10 e).size<=_;omega) (D0 (by simp only[D8];show C.nm.size+2+gu.size+2+(aV8 10 e).size+1<=_;omega) (D0 (by simp only[D8];show s.err.size+(C.nm.size+2+gu.size+2+(aV8 10 e).size+1)<=_;omega) (j0 ?_)));refine C1 hc U3 ?_;intro Y1 p1;refine j0 (D1 (f0 p1.same) (j0 ?_));refine C1 p1.same aj3 ?_;intro Y2 p2;have t1:I4 Y1 bt C ge y {s with err:=s.err++ak2 C.nm gu e} B:=h.say rfl p1;have t2:I4 Y2 bt C ge y {s with err:=s.err++ak2 C.nm gu e,st:=if s.st<1 then 1 else s.st} B:=t1.say rfl p2;have hB:B bt:=by obtain⟨_,_,_,_,q⟩:=h;exact(q bt).2 (.inr rfl)
 have sep:∀ {V V':H} {o:Obj},P1 V bt o V'->H1 V B V' B:=fun hp c oc rq hn=>⟨hp.get (fun e=>hn (e ▸ hB)) rq,hn⟩;rw[hf]at hK;refine K5 (fun j=>∀V,I4 V bt C ge y {s with err:=s.err++ak2 C.nm gu e,st:=if e==10 then 3 else(if s.st<1 then 1 else s.st),full:=s.full||e==10} B->H1 Y B V B->j V) (fun V ht hs=>hK V true ht hs) ?_;intro j hj;cases hE:(e==10) with
 |false =>
  refine l7 rfl (hj Y2 ?_ ((sep p1).trans (sep p2)));rw[hE,U0];exact t2
 |true =>
  refine l9 rfl (j0 ?_);refine C1 p2.same aA6 ?_;intro Y3 p3;refine j0 ?_;refine C1 p3.same aj3 ?_;intro Y4 p4;have t3:I4 Y3 bt C ge y {s with err:=s.err++ak2 C.nm gu e,st:=if s.st<1 then 1 else s.st,full:=true} B:=t2.say rfl p3;have t4:I4 Y4 bt C ge y {s with err:=s.err++ak2 C.nm gu e,st:=3,full:=true} B:=t3.say rfl p4;refine hj Y4 ?_ ((((sep p1).trans (sep p2)).trans (sep p3)).trans (sep p4));rw[hE,Bool.or_true];exact t4
end
theorem da8{n:Nat}(h:n<=9000000000000000000):IntKind.i64.wrap (((n+1:Nat):Int)-1)=(n:Int):=by rw[D7 (by omega) (by omega)];omega
theorem bg7(m:List J3)(x:J3):(⟨⟨m++[x]⟩⟩:d9).size=m.length+1:=by rw[bsz,P3];rfl
theorem cf2(c:J3)(l:List J3)(hl:l.length<=1000000000000000){Y:H}{K:KH}(hK:K (.s ⟨⟨trR (· == c) l⟩⟩) Y):i7 149 [.s ⟨⟨l⟩⟩,.int .u8 ((c.toNat:Nat):Int)] K Y:=by
 refine du3 _ _ ?_;unfold cQ5;refine H9 ?_;intro R hR;have key:∀ (n:Nat) (m:List J3),m.length=n->n<=1000000000000000->trR (· == c) m=trR (· == c) l->R ⟨⟨m⟩⟩ ((c.toNat:Nat):Int) Y:=by
  intro n
  induction n with
  |zero =>
   intro m hm _ ht;have:m=[]:=ai0 hm;subst this;refine hR _ _ _ (j_d (l7 (by decide) (l7 rfl ?_)));rw[<-ht]at hK;exact hK
  |succ n ih =>
   intro m hm hn ht;obtain⟨q,x,rfl,hq⟩:=aF4 hm;rw[bY7]at ht;refine hR _ _ _ (j_d (l9 (by rw[bg7,I6];omega) ?_));rw[bg7,da8 (by omega)];refine X9 (c:=x) (by omega) (by rw[P5];exact bY8 q x) ?_;rw[u8e];cases hx:x==c with
   |true =>
    rw[hx,d8 rfl]at ht;refine l9 rfl ?_;rw[bg7,da8 (by omega)];refine D0 ⟨J2 (by omega) (by omega),M8⟩ ?_;rw[P5,cw5];exact ih q hq (by omega) ht
   |false =>
    rw[hx,d7 (by simp)]at ht;refine l7 rfl ?_;rw[ht];exact hK
 exact key l.length l rfl hl rfl
theorem aT8(c:J3)(hc:c.toNat<128)(l:List J3)(hl:l.length<=1000000000000000){Y:H}{K:KH}(hK:K (.s ⟨⟨trR (· == c) l⟩⟩) Y):i7 178 [.s ⟨⟨l⟩⟩,.s ⟨⟨[c]⟩⟩] K Y:=by
 refine dw2 _ _ ?_;unfold cV1;refine j_d ?_;rw[Z4,Z4];cases l with
 |nil=>exact l9 rfl (l9 rfl hK)
 |cons x r =>
  refine l7 rfl (l7 rfl (j_d (l9 (by rfl) (X9 (c:=c) (by omega) (by rfl) ?_))));refine l9 (M7 (by omega)) (X9 (c:=c) (by omega) (by rfl) ?_);exact l5 (cf2 c (x::r) hl (ab2 hK))
theorem bp7(c:J3)(l:List J3)(hl:l.length<=1000000000){Y:H}{K:KH}(hK:K (.i (((ac8 c l:Nat):Int)-1)) Y):i7 179 [.s ⟨⟨l⟩⟩,.int .u8 ((c.toNat:Nat):Int)] K Y:=by
 refine dw3 _ _ ?_;unfold cV3;refine l5 (dx8 _ _ ?_);unfold cY5;refine H9 ?_;intro R hR;have key:∀ (n:Nat) (m q:List J3),m.length=n->n<=1000000000->l=m++q->ac8 c m=ac8 c l->R ⟨⟨l⟩⟩ ((c.toNat:Nat):Int) ((n:Int)-1) Y:=by
  intro n
  induction n with
  |zero =>
   intro m q hm _ _ ht;have:m=[]:=ai0 hm;subst this;refine hR _ _ _ _ (l7 (W4 (by omega)) ?_);refine C4 ?_;rw[<-ht]at hK;exact hK
  |succ n ih =>
   intro m q hm hn hlq ht;obtain⟨p,x,rfl,hp⟩:=aF4 hm;rw[aQ8]at ht;refine hR _ _ _ _ (l9 (M7 (by omega)) ?_);have e1:(((n+1:Nat):Int)-1)=(n:Int):=by omega
   rw[e1];refine X9 (c:=x) (by omega) (by rw[P5,hlq];show((p++[x])++q)[n]?=some x;rw[U7,bU0 (by omega),hp];simp) ?_;rw[u8e];cases hx:x==c with
   |true =>
    rw[hx,d8 rfl]at ht;refine l9 rfl (C4 ?_);rw[<-ht]at hK;rw[hp,e1]at hK;exact hK
   |false =>
    rw[hx,d7 (by simp)]at ht;refine l7 rfl ?_;rw[D7 (by omega) (by omega)];exact ih p ([x]++q) hp (by omega) (by rw[hlq,U7]) ht
 have h:=key l.length l [] rfl hl (by simp) rfl;have e:IntKind.i64.wrap ((((⟨⟨l⟩⟩:d9).size:Nat):Int)-1)=((l.length:Nat):Int)-1:=by rw[bsz,D7 (by omega) (by omega)]
 rw[e];exact h
end
end Go.Proofs.YtikedigonnlbkaaGreatDoor

namespace Go.Proofs
open Go.Shelf
def Tryz.lays160_ren:Go.Shelf.Ren:=⟨fun|160=>92|232=>149|231=>148|227=>150|234=>152|233=>151|236=>154|235=>153|228=>197|271=>200|151=>199|197=>198|120=>224|152=>223|260=>222|137=>68|119=>237|224=>238|225=>239|217=>133|266=>173|n=>n,fun|9=>9|4=>4|3=>3|5=>5|117=>174|116=>173|0=>0|124=>177|21=>21|105=>199|46=>170|119=>232|139=>235|138=>234|n=>n,fun|3=>3|4=>4|n=>n⟩
theorem Tryz.lays160:Go.Proofs.Lays.n160 Tryz.prog Tryz.lays160_ren:={
 mixed:=by kernel_rfl
 f119:=Tryz.func237.trans (congrArg some (by kernel_rfl))
 f120:=Tryz.func224.trans (congrArg some (by kernel_rfl))
 f137:=Tryz.func68.trans (congrArg some (by kernel_rfl))
 f151:=Tryz.func199.trans (congrArg some (by kernel_rfl))
 f152:=Tryz.func223.trans (congrArg some (by kernel_rfl))
 f160:=Tryz.func92.trans (congrArg some (by kernel_rfl))
 f197:=Tryz.func198.trans (congrArg some (by kernel_rfl))
 f217:=Tryz.func133.trans (congrArg some (by kernel_rfl))
 f224:=Tryz.func238.trans (congrArg some (by kernel_rfl))
 f225:=Tryz.func239.trans (congrArg some (by kernel_rfl))
 f227:=Tryz.func150.trans (congrArg some (by kernel_rfl))
 f228:=Tryz.func197.trans (congrArg some (by kernel_rfl))
 f231:=Tryz.func148.trans (congrArg some (by kernel_rfl))
 f232:=Tryz.func149.trans (congrArg some (by kernel_rfl))
 f233:=Tryz.func151.trans (congrArg some (by kernel_rfl))
 f234:=Tryz.func152.trans (congrArg some (by kernel_rfl))
 f235:=Tryz.func153.trans (congrArg some (by kernel_rfl))
 f236:=Tryz.func154.trans (congrArg some (by kernel_rfl))
 f260:=Tryz.func222.trans (congrArg some (by kernel_rfl))
 f266:=Tryz.func173.trans (congrArg some (by kernel_rfl))
 f271:=Tryz.func200.trans (congrArg some (by kernel_rfl))
 t0:=Tryz.underlying0
 a0:=Tryz.isAgg0
 z0:=Tryz.sizeOf0
 v0:=Tryz.zeroValue0
 t3:=Tryz.underlying3
 a3:=Tryz.isAgg3
 z3:=Tryz.sizeOf3
 v3:=Tryz.zeroValue3
 t4:=Tryz.underlying4
 a4:=Tryz.isAgg4
 z4:=Tryz.sizeOf4
 v4:=Tryz.zeroValue4
 t5:=Tryz.underlying5
 a5:=Tryz.isAgg5
 z5:=Tryz.sizeOf5
 v5:=Tryz.zeroValue5
 t9:=Tryz.underlying9
 a9:=Tryz.isAgg9
 z9:=Tryz.sizeOf9
 v9:=Tryz.zeroValue9
 t21:=Tryz.underlying21
 a21:=Tryz.isAgg21
 z21:=Tryz.sizeOf21
 v21:=Tryz.zeroValue21
 t46:=Tryz.underlying170
 a46:=Tryz.isAgg170
 z46:=Tryz.sizeOf170
 v46:=Tryz.zeroValue170
 t105:=Tryz.underlying199
 a105:=Tryz.isAgg199
 z105:=Tryz.sizeOf199
 v105:=Tryz.zeroValue199
 t116:=Tryz.underlying173
 a116:=Tryz.isAgg173
 z116:=Tryz.sizeOf173
 t117:=Tryz.underlying174
 a117:=Tryz.isAgg174
 z117:=Tryz.sizeOf174
 v117:=Tryz.zeroValue174
 t119:=Tryz.underlying232
 a119:=Tryz.isAgg232
 z119:=Tryz.sizeOf232
 t124:=Tryz.underlying177
 a124:=Tryz.isAgg177
 z124:=Tryz.sizeOf177
 v124:=Tryz.zeroValue177
 t138:=Tryz.underlying234
 a138:=Tryz.isAgg234
 z138:=Tryz.sizeOf234
 v138:=Tryz.zeroValue234
 t139:=Tryz.underlying235
 a139:=Tryz.isAgg235
 z139:=Tryz.sizeOf235
 v139:=Tryz.zeroValue235
 g3:=by kernel_rfl
 g4:=by kernel_rfl}
end Go.Proofs

namespace Go.Proofs.YtikedigonnlbkaaGreatDoor
open Go Go.HL Go.Wk
section
theorem aK6(l cs:List J3)(hl:l.length<=1000000000)(hc:cs.length<=100)(ha:∀c∈cs,c.toNat<128){Y:H}{K:KH}(hK:K (.s ⟨⟨Lib.trimS l cs⟩⟩) Y):i7 92 [.s ⟨⟨l⟩⟩,.s ⟨⟨cs⟩⟩] K Y:=by
 intro w hw;refine callsIn_wide.2 ((Any.strings_Trim_laid Tryz.lays160 (by kernel_rfl) ⟨⟨l⟩⟩ ⟨⟨cs⟩⟩ w (by rw[bsz];omega) (by rw[bsz];omega) (ascii_of_all (X2.2 fun c h=>by simpa using ha c h))).mono ?_)
 rintro en w' ⟨rfl,hb⟩
 exact⟨_,rfl,Y,aK2 hw hb,hK⟩
attribute [local irreducible] i9 E3 A0 I9 l8 H0 C0 stW muW biW W7 imW J0 G8 app E2 J1 D3 E6 oW P0 J5 C9 rfW N5 M9 D5 exW I2 Gr P1
theorem ba6(l cs:List J3):(Lib.trimS l cs).isEmpty=l.all fun c=>cs.contains c:=by
 show(List.dropWhile (fun c=>cs.contains c) (List.dropWhile (fun c=>cs.contains c) l.reverse).reverse).isEmpty=_;exact cl2 l _
theorem at8(l:List J3):(N4 l).length<=l.length:=by
 unfold N4;rw[aD9];have:=(List.dropWhile_sublist (· == 47) (l:=l.reverse)).length_le;rw[aD9]at this;exact this
theorem bH8(c:J3)(l:List J3)(h:l.length<=1000000000):IntKind.i64.wrap ((((ac8 c l:Nat):Int)-1)+1)=((ac8 c l:Nat):Int):=by
 have:=aF5 c l;rw[D7 (by omega) (by omega)];omega
theorem da9{a b:Nat}(h:b<a):Nat.ble a b=false:=by rw[<-Bool.not_eq_true,Nat.ble_eq];omega
theorem S9{α:Type}{l:List α}{i:Nat}{n:α}(h:l[i]?=some n):l.drop i=n::l.drop (i+1):=by
 obtain⟨hi,e⟩:=List.getElem?_eq_some_iff.1 h;rw[as4 hi,e]
section
variable {Y:H}
theorem cf3(l:List J3)(hl:l.length<=1000000000){K:KH}(hK:K (.s (ah6 ⟨⟨l⟩⟩)) Y):i7 141 [.s ⟨⟨l⟩⟩] K Y:=by
 refine dt8 _ ?_;unfold cP5;refine l5 (aT8 47 (by decide) l (by omega) (ab2 ?_));rw[show trR (· == 47) l=N4 l from rfl];have xo:=at8 l;have ju:=aF5 47 (N4 l);refine l5 (bp7 47 (N4 l) (by omega) (C4 ?_));rw[bH8 47 _ (by omega),P5,aQ7,(at3 (N4 l)).2];exact D0 ⟨M8,J2 (by omega) (by rw[bsz];omega)⟩ hK
theorem bP9(l:List J3)(hl:l.length<=1000000000){K:KH}(hK:K (.s (ae7 ⟨⟨l⟩⟩)) Y):i7 185 [.s ⟨⟨l⟩⟩] K Y:=by
 refine dw8 _ ?_;unfold cW5;refine l5 (aT8 47 (by decide) l (by omega) (ab2 ?_));rw[show trR (· == 47) l=N4 l from rfl];have xo:=at8 l;have ju:=aF5 47 (N4 l);refine l5 (bp7 47 (N4 l) (by omega) (C4 ?_));rw[bH8 47 _ (by omega),P5];refine D0 ⟨J2 (by omega) (by rw[bsz];omega),M8⟩ ?_;rw[show(⟨⟨N4 l⟩⟩:d9).extract 0 (ac8 47 (N4 l))=⟨⟨aJ0 (N4 l)⟩⟩from by rw[bex,ac4,(at3 _).1]];have e:ae7 ⟨⟨l⟩⟩=if !(aJ0 (N4 l)).isEmpty then⟨⟨aJ0 (N4 l)⟩⟩else if C8 47 ⟨⟨l⟩⟩then (bs [47]) else (bs [46]):=rfl
 rw[e]at hK;clear e;rw[Z4];cases hu:(aJ0 (N4 l)).isEmpty with
 |false=>rw[hu]at hK;exact l9 rfl hK
 |true =>
  rw[hu]at hK;refine l7 rfl (l5 (az3 ⟨⟨l⟩⟩ (bs [47]) (H2 ?_)));rw[show List.isPrefixOf ((bs [47]):d9).data.toList (⟨⟨l⟩⟩:d9).data.toList=C8 47 ⟨⟨l⟩⟩from aN3 _ 47];cases hh:C8 47 ⟨⟨l⟩⟩ with
  |true=>rw[hh]at hK;exact l9 rfl hK
  |false=>rw[hh]at hK;exact l7 rfl hK
end
section
variable {Y V:H} {bt:Nat} {C:TlC} {ge:d9} {y:Sl} {s:TS} {B:Nat->Prop} {gd:List d9}
theorem aT9{M:Nat}(h:I4 Y bt C ge y s B)(hp:U4 M s.A)(hM:M<=900000000000)(gc:d9){K:KH}(hK:∀Y' B',I4 Y' bt C ge y {s with A:=(s.A.madeF C.gb gc).2} B'->H1 Y B Y' B'->K (.i (s.A.madeF C.gb gc).1) Y'):i7 74 [.q bt,.s gc] K Y:=by
 refine c74 _ _ ?_;unfold g74;refine j0 (E9 (f0 h.cell) (j0 (C6 (f0 h.cell) ?_)));obtain⟨B0,hF,iu⟩:=h.fs;refine l5 (bg3 hp.inv hp.bd' (by omega) hF _ _ ?_);intro Y1 B1 F1 S1;obtain⟨B2,t1,s1⟩:=iu F1 S1;refine C4 ?_;have hm:s.A.madeF C.gb gc=if(s.A.mkdirF C.gb gc).1==6&&(s.A.mkdirF C.gb gc).2.dirB C.gb gc then(0,(s.A.mkdirF C.gb gc).2)else s.A.mkdirF C.gb gc:=rfl
 generalize hX:s.A.mkdirF C.gb gc=X at hm t1⊢;obtain⟨e,A1⟩:=X;simp only at hm t1⊢;refine K5 (fun j=>∀b:Bool,b=(!(e==6) || !A1.dirB C.gb gc)->j e b Y1) ?_ ?_
 ·intro b hb;cases b with
  |true =>
   have:(e==6&&A1.dirB C.gb gc)=false:=by cases h1:e==6<;>cases h2:A1.dirB C.gb gc<;>rw[h1,h2]at hb<;>first|rfl|cases hb
   rw[this,d7 (by simp)]at hm;rw[hm]at hK;exact l9 rfl (hK Y1 B2 t1 s1)
  |false =>
   have:(e==6&&A1.dirB C.gb gc)=true:=by cases h1:e==6<;>cases h2:A1.dirB C.gb gc<;>rw[h1,h2]at hb<;>first|rfl|cases hb
   rw[this,d8 rfl]at hm;rw[hm]at hK;exact l7 rfl (hK Y1 B2 t1 s1)
 ·intro j hj;cases h1:e==6 with
  |false=>exact l9 (by rw[bne,h1];rfl) (hj true (by rw[h1];rfl))
  |true =>
   refine l7 (by rw[bne,h1];rfl) (l5 (bg6 t1 gc (H2 (hj _ ?_))));rw[h1];rfl
theorem ba7(hy:F0 V 1 (u0 gd) y)(hl:gd.length<=1000000)(fv:u9)(il:C.nm.size<=1000000){I:List d9->TS->H->(Nat->Prop)->Prop}
 (hI:∀r s Y B,I r s Y B->I4 Y bt C ge y s B/\Off V Y B)
 (step:∀n r s Y B,I (n::r) s Y B->s.full=false->n∈gd->∀K:u9->H->Prop,(∀e s1 Y1 B1,Er e->I4 Y1 bt C ge y s1 B1->Off V Y1 B1->n.size<=1000000->s1.err.size<=1000000000000->(∀Y2,I4 Y2 bt C ge y (s1.fail C.nm n e) B1->H1 Y1 B1 Y2 B1->Off V Y2 B1->I r (s1.fail C.nm n e) Y2 B1)->K (.i e) Y1)->D3 Tryz.prog fv [.s n] K Y)
 {K:KH} (hK:∀r s' Y' B',I r s' Y' B'->(r=[]\/s'.full=true)->K (.t []) Y') (h0:I gd s Y B):i7 70 [.q bt,fv] K Y:=by
 obtain⟨ht,hO⟩:=hI _ _ _ _ h0;refine c70 _ _ ?_;unfold g70;refine j0 (ag1 (y:=y) (f0 ht.cell) ?_);have lc:=ad9 hy;refine H9 ?_;intro R hR;have key:∀ (k i:Nat) (s:TS) (Y:H) (B:Nat->Prop),k+i=gd.length->I (gd.drop i) s Y B->R (gp bt) fv y ((y.len:Nat):Int) (i:Int) Y:=by
  intro k
  induction k with
  |zero =>
   intro i s Y B hk hi;refine hR _ _ _ _ _ _ ?_;exact l7 (W4 (by omega)) (hK _ _ _ _ hi (.inl (M3 (by omega))))
  |succ k ih =>
   intro i s Y B hk hi;obtain⟨n,hn⟩:∃n,gd[i]?=some n:=⟨_,G0 (by omega)⟩;obtain⟨ht,hO⟩:=hI _ _ _ _ hi;obtain⟨g,o,a1,a2,a3⟩:=Z8 (hy.gr hO.1) hn;refine hR _ _ _ _ _ _ (l9 (M7 (by omega)) ?_);rw[a1];refine j0 (D0 (bv6 y.len) (C6 a3 (j0 (an2 (f0 ht.cell) ?_))));cases hf:s.full with
   |true=>exact l9 rfl (hK _ _ _ _ hi (.inr hf))
   |false =>
    rw[S9 hn]at hi;refine l7 rfl (al1 (step n _ s Y B hi hf (K7 hn) _ ?_));intro e s1 Y1 B1 he wc hO1 mz kx hI1;refine C4 (l5 (aH2 wc n he.1 he.2 il mz kx (aR4 he) ?_));intro Y2 r t2 s2;refine H2 ?_;rw[ab9 (i:=i)];exact ih (i+1) _ Y2 B1 (by omega) (hI1 Y2 t2 s2 (hO1.sep s2))
 exact key gd.length 0 s Y B (by omega) h0
theorem bQ0{nm:d9}{do_:TS->d9->Int×TS}{l:List d9}{s:TS}(h:s.full=true):TS.each nm do_ l s=s:=by
 cases l with
 |nil=>rfl
 |cons n r=>unfold TS.each;rw[d8 h]
theorem aq2{P:Nat->TS->Prop}{do_:TS->d9->Int×TS}(hy:F0 V 1 (u0 gd) y)(hl:gd.length<=1000000)(fv:u9)(il:C.nm.size<=1000000)(kc:∀n∈gd,n.size<=1000000)
 (pt:∀s n,Er (do_ s n).1) (mc:∀s n,s.err.size<=(do_ s n).2.err.size) (hP:∀k s n,P k s->k<gd.length->P (k+1) ((do_ s n).2.fail C.nm n (do_ s n).1))
 (step:∀n s Y B k,n∈gd->k<gd.length->P k s->I4 Y bt C ge y s B->Off V Y B->(do_ s n).2.err.size<=1000000000000->∀K:u9->H->Prop,(∀Y' B',I4 Y' bt C ge y (do_ s n).2 B'->H1 Y B Y' B'->K (.i (do_ s n).1) Y')->D3 Tryz.prog fv [.s n] K Y)
 (h:I4 Y bt C ge y s B) (hO:Off V Y B) (hp:P 0 s) (hz:(TS.each C.nm do_ gd s).err.size<=1000000000000)
 {K:KH} (hK:∀Y' B' k,I4 Y' bt C ge y (TS.each C.nm do_ gd s) B'->H1 Y B Y' B'->k<=gd.length->P k (TS.each C.nm do_ gd s)->K (.t []) Y'):i7 70 [.q bt,fv] K Y:=by
 refine ba7 (ge:=ge) (C:=C) (y:=y) (I:=fun r s' Y' B'=>I4 Y' bt C ge y s' B'/\Off V Y' B'/\H1 Y B Y' B'/\r.length<=gd.length/\P (gd.length-r.length) s'/\TS.each C.nm do_ r s'=TS.each C.nm do_ gd s) hy hl fv il (fun r s Y B q=>⟨q.1,q.2.1⟩) ?_ ?_ ⟨h,hO,H1.refl _ _,A7 _,by rw[bU1];exact hp,rfl⟩
 ·rintro n r s' Y' B' ⟨t1,o1,s1,l1,p1,e1⟩ hf hn K' jg
  have e2:TS.each C.nm do_ (n::r) s'=TS.each C.nm do_ r ((do_ s' n).2.fail C.nm n (do_ s' n).1):=by
   show(if s'.full then s' else _)=_;rw[hf];rfl
  rw[e2]at e1;rw[H4]at l1 p1;have z1:(do_ s' n).2.err.size<=1000000000000:=by
   refine C7 (Q6 C.nm _ n (do_ s' n).1) (C7 (aG0 (nm:=C.nm) mc r _) ?_);rw[e1];exact hz
  refine step n s' Y' B' _ hn (by omega) p1 t1 o1 z1 _ ?_;intro Y2 B2 t2 s2
  exact jg _ _ Y2 B2 (pt _ _) t2 (o1.sep s2) (kc n hn) z1 (fun Y3 t3 s3 o3=>⟨t3,o3,(s1.trans s2).trans s3,by omega,by
   have:=hP _ s' n p1 (by omega)
   rw[show gd.length-r.length=gd.length-(r.length+1)+1 from by omega];exact this,e1⟩)
 ·rintro r s' Y' B' ⟨t1,o1,s1,l1,p1,e1⟩ hr
  have:TS.each C.nm do_ r s'=s':=by
   rcases hr with rfl|hf
   ·rfl
   ·exact bQ0 hf
  rw[this]at e1;subst e1;exact hK Y' B' _ t1 s1 (by omega) p1
end
section
variable {Y V:H} {bt:Nat} {C:TlC} {s:TS} {B:Nat->Prop} {args:List d9}
theorem aN5(h:I4 Y bt C gq ⟨none,0,0⟩ s B)(hO:Off V Y B)(hx:F0 V 1 (u0 args) C.x)(hc:C.x.len<=C.x.cap)(lt:List J3)(iw:lt.length<=100)(hasc:∀c∈lt,c.toNat<128)(ha:∀a∈args,a.size<=1000)(hl:args.length<=1000){K:KH}
 (kg:ab3 ⟨⟨lt⟩⟩ args gq=none->∀Y' got',I4 Y' bt C got' ⟨none,0,0⟩ s B->H1 Y B Y' B->K (.bool false) Y')
 (lf:∀got' gd,ab3 ⟨⟨lt⟩⟩ args gq=some (got',gd)->∀Y' y',I4 Y' bt C got' y' s B->H1 Y B Y' B->F0 V 1 (u0 gd) y'->y'.len<=y'.cap->K (.bool true) Y'):i7 31 [.q bt,.s ⟨⟨lt⟩⟩] K Y:=by
 refine c31 _ _ ?_;unfold g31;refine j0 (ag1 (y:=C.x) (f0 h.cell) ?_);have kb:=ad9 hx;have hB:B bt:=by obtain⟨_,_,_,_,q⟩:=h;exact(q bt).2 (.inr rfl)
 have sep:∀ {V V':H} {o:Obj},P1 V bt o V'->H1 V B V' B:=fun hp c oc rq hn=>⟨hp.get (fun e=>hn (e ▸ hB)) rq,hn⟩;have sub:∀i,i<=args.length->F0 V 1 (u0 (args.drop i)) ⟨N6 C.x.base i C.x.cap 1,C.x.len-i,C.x.cap-i⟩:=by
  intro i hi;have:=hx.sub hc (k:=i) (e:=args.length) (by omega) (by rw[Z7];exact A7 _) (C.x.cap-i);rw[Q1 (by rw[Z7];exact A7 _)]at this;rw[kb];have e:(u0 args).drop i=u0 (args.drop i):=by unfold u0;rw[List.map_drop]
  rw[<-e];exact this
 refine H9 ?_;intro R hR;have key:∀ (k i:Nat) (ge:d9) (Y1:H),k+i=args.length->ab3 ⟨⟨lt⟩⟩ (args.drop i) ge=ab3 ⟨⟨lt⟩⟩ args gq->I4 Y1 bt C ge ⟨none,0,0⟩ s B->H1 Y B Y1 B->ge.size<=i*1000->R (gp bt) ⟨⟨lt⟩⟩ C.x ((C.x.len:Nat):Int) (i:Int) Y1:=by
  intro k
  induction k with
  |zero =>
   intro i ge Y1 hk ho t1 s1 _;refine hR _ _ _ _ _ _ ?_;refine l7 (W4 (by omega)) ?_;rw[M3 (by omega)]at ho;exact lf ge [] ho.symm Y1 _ t1 s1 ⟨rfl,.inl rfl⟩ (A7 _)
  |succ k ih =>
   intro i ge Y1 hk ho t1 s1 hz;obtain⟨a,hn⟩:∃a,args[i]?=some a:=⟨_,G0 (by omega)⟩;have O1:=hO.sep s1;obtain⟨g,o,a1,a2,a3⟩:=Z8 (hx.gr O1.1) hn;have haz:=ha a (K7 hn);rw[S9 hn]at ho;obtain⟨⟨l⟩⟩:=a;have hlz:l.length<=1000:=haz;have kf:ab3 ⟨⟨lt⟩⟩ (⟨⟨l⟩⟩::args.drop (i+1)) ge=if E8 ⟨⟨l⟩⟩ (bs [45,45]) then some (ge,args.drop (i+1))else if Nat.ble l.length 1 || !C8 45 ⟨⟨l⟩⟩then some (ge,⟨⟨l⟩⟩::args.drop (i+1))else if(l.drop 1).all (I8 ⟨⟨lt⟩⟩)then ab3 ⟨⟨lt⟩⟩ (args.drop (i+1)) (ge++⟨⟨l.drop 1⟩⟩)else none:=rfl
   rw[kf]at ho;clear kf;refine hR _ _ _ _ _ _ (l9 (M7 (by omega)) ?_);rw[a1];refine j0 (D0 (bv6 C.x.len) (C6 a3 ?_));rw[<-I5];cases h2:E8 ⟨⟨l⟩⟩ (bs [45,45]) with
   |true =>
    rw[h2,d8 rfl]at ho;refine l9 rfl (j0 (ag1 (y:=C.x) (f0 t1.cell) ?_));rw[D7 (x:=(i:Int)+1) (by omega) (by omega),show(i:Int)+1=((i+1:Nat):Int)from by omega,P5];refine D0 ⟨M8,J2 (by omega) (by omega)⟩ (j0 ?_);refine C1 t1.cell al4 ?_;intro Y2 p2;exact lf ge _ ho.symm Y2 ⟨N6 C.x.base (i+1) C.x.cap 1,C.x.len-(i+1),C.x.cap-(i+1)⟩ (t1.say (got':=ge) (y':=⟨N6 C.x.base (i+1) C.x.cap 1,C.x.len-(i+1),C.x.cap-(i+1)⟩) (s':=s) rfl p2) (s1.trans (sep p2)) (sub (i+1) (by omega)) (by show C.x.len-(i+1)<=C.x.cap-(i+1);omega)
   |false =>
    rw[h2,d7 (by simp)]at ho;refine l7 rfl (K5 (fun j=>∀b:Bool,b=(Nat.ble l.length 1 || !C8 45 ⟨⟨l⟩⟩)->j (gp bt) ⟨⟨lt⟩⟩ (i:Int) ⟨⟨l⟩⟩ C.x ((C.x.len:Nat):Int) (i:Int) b Y1) ?_ ?_)
    ·intro b hb;rw[<-hb]at ho;cases b with
     |true =>
      rw[d8 rfl]at ho;refine l9 rfl (j0 (ag1 (y:=C.x) (f0 t1.cell) ?_));rw[P5];refine D0 ⟨M8,J2 (by omega) (by omega)⟩ (j0 ?_);refine C1 t1.cell al4 ?_;intro Y2 p2;refine lf ge _ ho.symm Y2 ⟨N6 C.x.base i C.x.cap 1,C.x.len-i,C.x.cap-i⟩ (t1.say (got':=ge) (y':=⟨N6 C.x.base i C.x.cap 1,C.x.len-i,C.x.cap-i⟩) (s':=s) rfl p2) (s1.trans (sep p2)) ?_ (by show C.x.len-i<=C.x.cap-i;omega);rw[<-S9 hn];exact sub i (by omega)
     |false =>
      rw[d7 (by simp)]at ho;have vf:1<l.length:=by
       cases si:Nat.ble l.length 1 with
       |true=>rw[si]at hb;cases hb
       |false=>exact Nat.not_le.1 fun h=>by rw[Nat.ble_eq_true_of_le h]at si;cases si
      refine l7 rfl (D0 ⟨M8,J2 (by decide) (by rw[bsz];omega)⟩ ?_);rw[show((1:Int).toNat)=1 from rfl,aQ7];refine l5 (aK6 (l.drop 1) lt (by rw[X1];omega) iw hasc (ab2 ?_));rw[Z4,ba6];rw[show(fun c=>lt.contains c)=I8 ⟨⟨lt⟩⟩from rfl];cases h3:(l.drop 1).all (I8 ⟨⟨lt⟩⟩) with
      |false =>
       rw[h3,d7 (by simp)]at ho;exact l9 rfl (kg ho.symm Y1 ge t1 s1)
      |true =>
       rw[h3,d8 rfl]at ho;have kx:(ge++⟨⟨l.drop 1⟩⟩).size<=(i+1)*1000:=by rw[D8];show ge.size+(l.drop 1).length<=_;rw[X1];omega
       refine l7 rfl (j0 (C6 (f0 t1.cell) ?_));refine D0 ⟨M8,J2 (by decide) (by rw[bsz];omega)⟩ (D0 (by rw[<-D8];omega) (j0 ?_));refine C1 t1.cell U3 ?_;intro Y2 p2;rw[ab9 (i:=i)];exact ih (i+1) _ Y2 (by omega) ho (t1.say (s':=s) rfl p2) (s1.trans (sep p2)) kx
    ·intro j hj;by_cases h3:l.length<2
     ·refine l9 (by rw[bsz,I6];omega) (hj true ?_);rw[show Nat.ble l.length 1=true from Nat.ble_eq_true_of_le (by omega)];rfl
     ·refine l7 (by rw[bsz,K6];omega) ?_;obtain⟨c,r,rfl⟩ : ∃c r,l=c::r:=by
       cases l with
       |nil=>exact m7 (by decide) h3
       |cons c r=>exact⟨c,r,rfl⟩
      refine X9 (c:=c) (by decide) (by rfl) (hj _ ?_);have h4:Nat.ble (c::r).length 1=false:=da9 (by omega);rw[h4];show(!(((c.toNat:Nat):Int)==45))=(false || !(c==45));rw[show((((c.toNat:Nat):Int))==45)=(c==45)from u8e c 45]
      rfl
 exact key args.length 0 gq Y (by omega) rfl h (H1.refl _ _) (Nat.zero_le _)
end
end
section
attribute [local irreducible] i9 E3 A0 I9 l8 H0 C0 stW muW biW W7 imW J0 G8 app E2 J1 D3 E6 oW P0 J5 C9 rfW N5 M9 D5 exW I2 Gr P1
theorem I4.has{Y:H}{bt b:Nat}{C:TlC}{ge:d9}{y:Sl}{s:TS}{B:Nat->Prop}(h:I4 Y bt C ge y s B)(hb:B b):Y b≠none:=by
 obtain⟨B0,h1,h2,h3,h4⟩:=h;rcases(h4 b).1 hb with e|e
 ·obtain⟨o,ho⟩:=h2.has e;rw[ho];simp
 ·subst e;rw[h1];simp
theorem I4.fresh{Y:H}{bt b:Nat}{C:TlC}{ge:d9}{y:Sl}{s:TS}{B:Nat->Prop}(h:I4 Y bt C ge y s B)(hb:Y b=none):¬B b:=fun e=>h.has e hb
section
variable {Y:H}
theorem bQ1{y:u9}{bp:Nat}{l:List J3}{I:List (List J3)->H->Prop}{S:H->Prop}
 (hI:∀r Y,I r Y->Y bp=some (.c [.s ⟨⟨l⟩⟩] 9))
 (rk:∀a r Y K,I (a::r) Y->(∀Y',I r Y'->K (.bool true) Y')->(∀Y',S Y'->K (.bool false) Y')->D3 Tryz.prog y [.s ⟨⟨a⟩⟩] K Y)
 (hl:l.length<=1000000000) (h:I (ag2 [] l true) Y) {K:KH} (hK0:∀Y',I [] Y'->K (.t []) Y') (hKS:∀Y',S Y'->K (.t []) Y') :
 i7 135 [y,.q bp] K Y:=by
 refine dt3 _ _ ?_;unfold cO3;refine H9 ?_;intro R hR;have key:∀ (k i:Nat) (c':J3) (Y:H),k+i=l.length->1<=i->l[i-1]?=some c'->I (ag2 (l.take i) (l.drop i) (c'==47)) Y->R y (gp bp) (i:Int) Y:=by
  intro k
  induction k with
  |zero =>
   intro i c' Y hk h1 hc hi;refine hR _ _ _ _ (j0 (C6 (f0 (hI _ _ hi)) ?_));rw[M3 (by omega)]at hi;exact l7 (by rw[bsz,K6];omega) (hK0 _ hi)
  |succ k ih =>
   intro i c' Y hk h1 hc hi;obtain⟨c,hn⟩:∃c,l[i]?=some c:=⟨_,G0 (by omega)⟩;have hb:=hI _ _ hi;refine hR _ _ _ _ (j0 (C6 (f0 hb) ?_));rw[S9 hn]at hi;have qt:l.take i++[c]=l.take (i+1):=by rw[R1,hn];rfl
   have hw:ag2 (l.take i) (c::l.drop (i+1)) (c'==47)=if c==47 && !(c'==47)then l.take i::ag2 (l.take (i+1)) (l.drop (i+1)) (c==47)else ag2 (l.take (i+1)) (l.drop (i+1)) (c==47):=by
    show(if c==47 && !(c'==47)then l.take i::ag2 (l.take i++[c]) (l.drop (i+1)) true else ag2 (l.take i++[c]) (l.drop (i+1)) (c==47))=_;rw[qt];cases hc1:c==47<;>rfl
   rw[hw]at hi;refine l9 (by rw[bsz,I6];omega) (K5 (fun j=>∀ (b:Bool) V,(b=false->I (ag2 (l.take (i+1)) (l.drop (i+1)) (c==47)) V)->(b=true->S V)->j y (gp bp) (i:Int) b V) ?_ ?_)
   ·intro b V vc si;cases b with
    |true=>exact l9 rfl (hKS _ (si rfl))
    |false =>
     refine l7 rfl ?_;rw[ab9 (i:=i)];exact ih (i+1) c V (by omega) (by omega) (by rw[Nat.add_sub_cancel];exact hn) (vc rfl)
   ·intro j hj;refine j0 (C6 (f0 hb) ?_);refine X9 (c:=c) (by omega) hn ?_;rw[show((((c.toNat:Nat):Int):Int)==47)=(c==47)from u8e c 47];cases h1c:c==47 with
    |false =>
     rw[h1c]at hi hj;exact l7 rfl (hj false Y (fun _=>hi) (fun e=>by cases e))
    |true =>
     rw[h1c]at hi hj;refine l9 rfl (j0 (C6 (f0 hb) ?_));rw[D7 (x:=(i:Int)-1) (by omega) (by omega),show(i:Int)-1=((i-1:Nat):Int)from by omega];refine X9 (c:=c') (by omega) hc ?_;rw[show((((c'.toNat:Nat):Int):Int) != 47)=!(c'==47)from J7 Bool.not (u8e c' 47)];cases h2c:c'==47 with
     |true =>
      rw[h2c]at hi;exact l7 rfl (hj false Y (fun _=>hi) (fun e=>by cases e))
     |false =>
      rw[h2c]at hi;refine l9 rfl (j0 (C6 (f0 hb) (D0 ⟨J2 (by omega) (by rw[bsz];omega),M8⟩ ?_)));rw[P5,bex,ac4];refine al1 (rk _ _ _ _ hi ?_ ?_)
      ·intro V ht;exact H2 (hj _ V (fun _=>ht) (fun e=>by cases e))
      ·intro V ht;exact H2 (hj _ V (fun e=>by cases e) (fun _=>ht))
 cases l with
 |nil =>
  refine hR _ _ _ _ (j0 (C6 (f0 (hI _ _ h)) ?_));exact l7 rfl (hK0 _ h)
 |cons c r =>
  have hw:ag2 [] (c::r) true=ag2 [c] r (c==47):=by
   show(if c==47 && !true then _ else ag2 [c] r (c==47))=_;rw[Bool.not_true,Bool.and_false];rfl
  rw[hw]at h;exact key r.length 1 c Y (by rw[H4]) (A7 _) rfl h
end
theorem ah9{g:FuncId}{cs vs:List u9}{K:KH}{Y:H}(hg:Z0 Tryz.prog g=true)(h:i7 g (vs++cs) K Y):D3 Tryz.prog (.func (.func g) ⟨[]⟩ ⟨cs⟩) vs K Y:=by
 unfold D3;simp only[hg];exact h
theorem bB9:Z0 Tryz.prog 135=true:=by kernel_rfl
theorem bp8:Z0 Tryz.prog 71=true:=by kernel_rfl
theorem bp9:Z0 Tryz.prog 75=true:=by kernel_rfl
section
variable {Y V:H} {bt b2:Nat} {C:TlC} {ge:d9} {y:Sl} {s:TS} {B:Nat->Prop} {gd:List d9}
def ptT(bt:Nat):Obj:=.c [.q bt] 50
theorem bC0{M:Nat}(h:I4 Y bt C ge y s B)(hp:U4 M s.A)(hM:M<=900000000000)(h2:Y b2=some (ptT bt))(n2:¬B b2)(n:List J3)(hn:n.length<=1000000){K:KH}
 (hK:∀Y' B',I4 Y' bt C ge y {s with A:=(if I8 ge 112 then s.A.allF C.gb (am0 ⟨⟨n⟩⟩++[⟨⟨n⟩⟩])else s.A.mkdirF C.gb ⟨⟨n⟩⟩).2} B'->H1 Y B Y' B'->K (.i (if I8 ge 112 then s.A.allF C.gb (am0 ⟨⟨n⟩⟩++[⟨⟨n⟩⟩])else s.A.mkdirF C.gb ⟨⟨n⟩⟩).1) Y') :
 D3 Tryz.prog (.func (.func 71) ⟨[]⟩ ⟨[.q b2]⟩) [.s ⟨⟨n⟩⟩] K Y:=by
 refine ah9 bp8 (c71 _ _ ?_);unfold g71;refine A5 ?_;intro b3 Y1 g1 e1 n1;have k2:Y1 b2=some (ptT bt):=g1.get h2;have t1:=h.gr g1;have nb3:¬B b3:=h.fresh n1;refine j0 (E9 (f0 k2) ?_);refine l5 (ao1 t1 112 (H2 ?_));cases hg:I8 ge 112 with
 |false =>
  rw[hg]at hK;refine l9 rfl (j0 (E9 (f0 k2) (j0 (E9 (f0 t1.cell) (j0 (E9 (f0 k2) (j0 (C6 (f0 t1.cell) ?_))))))));obtain⟨B0,hF,iu⟩:=t1.fs;refine l5 (bg3 hp.inv hp.bd' (by omega) hF _ _ ?_);intro Y2 B1 F1 S1;obtain⟨B2,t2,s2⟩:=iu F1 S1;refine C4 ?_;refine aX3 (s2 b3 _ e1 nb3).1 aH0 (by rfl) (by rfl) ?_;intro Y3 p3;refine D1 (f0 p3.same) ?_;exact hK Y3 B2 (t2.put p3 (s2 b3 _ e1 nb3).2) ((H1.of_gr g1 s2).putF p3 n1)
 |true =>
  rw[hg]at hK;simp only[if_true]at hK;refine l7 rfl (K5 (fun j=>∀A' B' Y',I4 Y' bt C ge y {s with A:=A' } B'->U4 M A'->H1 Y1 B Y' B'->A'.allF C.gb [⟨⟨n⟩⟩]=s.A.allF C.gb (am0 ⟨⟨n⟩⟩++[⟨⟨n⟩⟩])->j ⟨⟨n⟩⟩ (gp b2) (gp b3) Y') ?_ ?_)
  ·intro A' B' Y2 t2 ll s2 ha;refine j0 (E9 (f0 (s2 b2 _ k2 n2).1 (by rfl)) ?_);refine l5 (aT9 t2 ll hM ⟨⟨n⟩⟩ ?_);intro Y3 B3 t3 s3;refine C4 ?_;have s23:=s2.trans s3;refine aX3 (s23 b3 _ e1 nb3).1 aH0 (by rfl) (by rfl) ?_;intro Y4 p4;refine j0 (D1 (f0 p4.same) ?_);have kj:A'.allF C.gb [⟨⟨n⟩⟩]=A'.madeF C.gb ⟨⟨n⟩⟩:=by
    show(if(A'.madeF C.gb ⟨⟨n⟩⟩).1==0 then(0,(A'.madeF C.gb ⟨⟨n⟩⟩).2)else A'.madeF C.gb ⟨⟨n⟩⟩)=_;split
    ·rename_i hz;rw[beq_iff_eq]at hz;rw[<-hz]
    ·rfl
   rw[<-ha,kj]at hK;exact hK Y4 B3 (t3.put p4 (s23 b3 _ e1 nb3).2) ((H1.of_gr g1 s23).putF p4 n1)
  ·intro j hj;refine l5 (c73 _ ?_);unfold g73;refine A5 ?_;intro bp Y2 g2 e2 m2;refine ae4 (bW3 (cv8 bB9 ?_));intro l obj Y3 hl ng Aq hY;have t2:=t1.gr g2;have nl:¬B l:=t2.fresh hl;have nbp:¬B bp:=t1.fresh m2;have t3:=t2.put ng nl;have ln:Y1 l=none:=A9 g2 hl;have k22:=g2.get k2;have e12:=g2.get e1;have hr:∀v,obj .ready none=obj .busy v->False:=fun v e=>by have:=(Aq.state e).1;cases this
   refine bQ1 (l:=n)
    (I:=fun r V=>∃A' B',I4 V bt C ge y {s with A:=A' } B'/\U4 M A'/\H1 Y2 B V B'/\¬B' l/\V l=some (obj .ready none)/\A'.allF C.gb (r.map (fun a=>(⟨⟨a⟩⟩:d9))++[⟨⟨n⟩⟩])=s.A.allF C.gb (am0 ⟨⟨n⟩⟩++[⟨⟨n⟩⟩]))
    (S:=fun V=>∃e A' B',I4 V bt C ge y {s with A:=A' } B'/\H1 Y B V B'/\V l=some (obj .done (some .ret))/\V b3=some (.c [.i e] 45)/\s.A.allF C.gb (am0 ⟨⟨n⟩⟩++[⟨⟨n⟩⟩])=(e,A')/\¬B' l)
    ?_ ?_ (by omega) ?_ ?_ ?_
   ·rintro r V ⟨A',B',_,_,s3,_⟩
    exact(s3 bp _ e2 nbp).1
   ·rintro a r V K' ⟨A',B',ta,pa,sa,na,la,ea⟩ hT hS
    refine bd6 (hY _ _ _ ⟨la,?_⟩);show M9 l obj _ V;refine bW4 la ?_;intro V1 p1;have ta1:=ta.put p1 na;have sa1:H1 Y2 B V1 B':=sa.putF p1 hl;refine j0 (E9 (f0 (sa1 b2 _ k22 n2).1 (by rfl)) ?_);refine l5 (aT9 ta1 pa hM ⟨⟨a⟩⟩ ?_);intro V2 B2 t4 s4;refine C4 ?_;have s24:=sa1.trans s4;have l4:=s4 l _ p1.same na;have iq:A'.allF C.gb ((⟨⟨a⟩⟩:d9)::(r.map (fun a=>(⟨⟨a⟩⟩:d9))++[⟨⟨n⟩⟩]))=if(A'.madeF C.gb ⟨⟨a⟩⟩).1==0 then(A'.madeF C.gb ⟨⟨a⟩⟩).2.allF C.gb (r.map (fun a=>(⟨⟨a⟩⟩:d9))++[⟨⟨n⟩⟩])else A'.madeF C.gb ⟨⟨a⟩⟩:=rfl
    rw[H5,ag0,iq]at ea;clear iq;cases hz:(A'.madeF C.gb ⟨⟨a⟩⟩).1==0 with
    |true =>
     rw[hz,d8 rfl]at ea;refine l7 (by rw[bne,hz];rfl) (au9 l4.1 ?_);intro V3 p3;exact hT V3 ⟨_,B2,t4.put p3 l4.2,pa.made (by omega) _ _,s24.putF p3 hl,l4.2,p3.same,ea⟩
    |false =>
     rw[hz,d7 (by simp)]at ea;have l3:=s24 b3 _ e12 nb3;refine l9 (by rw[bne,hz];rfl) (C1 l3.1 aH0 ?_);intro V3 p3;have lb:l≠b3:=fun e=>by rw[e,e12]at hl;cases hl
     refine au9 (p3.get lb l4.1) ?_;intro V4 p4;have sf:H1 Y B V4 B2:=((H1.of_gr (g1.trans g2) s24).putF p3 n1).putF p4 (A9 g1 ln);exact hS V4 ⟨_,_,B2,(t4.put p3 l3.2).put p4 l4.2,sf,p4.same,p4.get lb.symm p3.same,ea.symm,l4.2⟩
   ·exact⟨s.A,B,t3,hp,(H1.refl _ _).putF ng hl,nl,ng.same,rfl⟩
   ·rintro V ⟨A',B',ta,pa,sa,na,la,ea⟩
    refine bW5 la (by intro e;cases e) ?_;intro V1 p1;exact hj A' B' V1 (ta.put p1 na) pa ((H1.of_gr g2 sa).putF p1 ln) ea
   ·rintro V ⟨e,A',B',ta,sa,la,ka,ea,na⟩
    refine bW6 la (by intro e;cases e) ?_;intro V1 p1;have lb:b3≠l:=fun e=>by rw[e,ln]at e1;cases e1
    refine D1 (f0 (p1.get lb ka)) ?_;rw[ea]at hK;exact hK V1 B' (ta.put p1 na) (sa.putF p1 (A9 g1 ln))
theorem bC1{N:Nat}(h:I4 Y bt C ge y s B)(hI:Inv s.A)(hB:Bd N s.A)(hN:N<=1000000000000)(h2:Y b2=some (ptT bt))(n2:¬B b2)(n:d9){K:KH}
 (hK:∀Y' B',I4 Y' bt C ge y {s with A:=(s.A.rmdirP C.gb n).2} B'->H1 Y B Y' B'->K (.i (s.A.rmdirP C.gb n).1) Y') :
 D3 Tryz.prog (.func (.func 75) ⟨[]⟩ ⟨[.q b2]⟩) [.s n] K Y:=by
 refine ah9 bp9 (c75 _ _ ?_);unfold g75;refine j0 (E9 (f0 h2) ?_);refine l5 (aj5 h n false ?_);unfold inV
 (refine l6 rfl ?_;try dsimp only)
 refine A5 ?_;intro b3 Y1 g1 e1 n1;refine C1 e1 W5 ?_;intro Y2 p2;have g2:Gr Y Y2:=g1.putF p2 n1;have k2:Y2 b2=some (ptT bt):=g2.get h2;have t2:=h.gr g2;have hr:s.A.rmdirP C.gb n=if(s.A.stat C.gb n false).1==0 then(if(s.A.stat C.gb n false).2.kind==2 then s.A.removeF C.gb n else(8,s.A))else((s.A.stat C.gb n false).1,s.A):=rfl
 rw[hr]at hK;clear hr;cases he:(s.A.stat C.gb n false).1==0 with
 |false =>
  rw[he,d7 (by simp)]at hK;exact l9 (by rw[bne,he];rfl) (hK Y2 B t2 (H1.gr g2))
 |true =>
  rw[he,d8 rfl]at hK;refine l7 (by rw[bne,he];rfl) (D1 (f0 p2.same) ?_);cases hk:(s.A.stat C.gb n false).2.kind==2 with
  |false =>
   rw[hk,d7 (by simp)]at hK;exact l9 (by rw[bne,hk];rfl) (hK Y2 B t2 (H1.gr g2))
  |true =>
   rw[hk,d8 rfl]at hK;refine l7 (by rw[bne,hk];rfl) (j0 (E9 (f0 k2) (j0 (E9 (f0 t2.cell) (j0 (E9 (f0 k2) (j0 (C6 (f0 t2.cell) ?_))))))));obtain⟨B0,hF,iu⟩:=t2.fs;refine l5 (aT5 hI hB hN hF _ _ ?_);intro Y3 B1 F1 S1;obtain⟨B2,t3,s3⟩:=iu F1 S1;exact C4 (hK Y3 B2 t3 (H1.of_gr g2 s3))
def aU0(C:TlC)(ge:d9)(t:TS)(n:d9):Int×TS:=onA t (if I8 ge 112 then t.A.allF C.gb (am0 n++[n])else t.A.mkdirF C.gb n)
theorem co2{M:Nat}(hM:M<=1000000000000){t:TS}(h:U4 M t.A)(C:TlC)(ge n:d9):U4 M (aU0 C ge t n).2.A:=by
 show U4 M (if I8 ge 112 then t.A.allF C.gb (am0 n++[n])else t.A.mkdirF C.gb n).2;split
 ·exact U4.all hM _ _ _ h
 ·exact h.mkdir hM _ _
theorem ba8{M:Nat}(h:I4 Y bt C ge y s B)(hO:Off V Y B)(hy:F0 V 1 (u0 gd) y)(hp:U4 M s.A)(hM:M<=900000000000)(il:C.nm.size<=1000000)(hl:gd.length<=1000000)(kc:∀n∈gd,n.size<=1000000)
 (hz:(TS.each C.nm (aU0 C ge) gd s).err.size<=1000000000000) {K:KH}
 (hK:∀Y' B',I4 Y' bt C ge y (TS.each C.nm (aU0 C ge) gd s) B'->H1 Y B Y' B'->U4 M (TS.each C.nm (aU0 C ge) gd s).A->K (.t []) Y'):i7 22 [.q bt] K Y:=by
 refine c22 _ ?_;unfold g22;refine A5 ?_;intro b2 Y1 g1 e1 n1;have nb:¬B b2:=h.fresh n1;have O1:Off (V.put b2 (ptT bt)) Y1 B:=(hO.gr g1).add e1 nb;have nt:V b2=none:=A9 hO.1 n1;refine E9 (f0 e1) (l5 (aq2 (P:=fun _ s=>U4 M s.A) (do_:=aU0 C ge) (hy.gr (Gr.put nt _)) hl _ il kc ?_ ?_ ?_ ?_ (h.gr g1) O1 hp hz ?_))
 ·intro s n;show Er (if I8 ge 112 then _ else _:Int×AT).1;split
  ·exact bw8 _ _ _
  ·exact aF8 _ _
 ·intro s n;exact A7 _
 ·intro k s n hk _;rw[N7];exact co2 (by omega) hk C ge n
 ·intro n s Y2 B2 k hn _ ll t2 o2 _ K' jg;obtain⟨⟨l⟩⟩:=n;exact bC0 t2 ll hM (o2.get (H.put_same _ _ _)) (o2.2 b2 _ (H.put_same _ _ _)) l (kc _ hn) jg
 ·intro Y' B' k t' s' _ rr;exact U9 (hK Y' B' t' (H1.of_gr g1 s') rr)
def aU1(C:TlC)(t:TS)(n:d9):Int×TS:=onA t (t.A.rmdirP C.gb n)
theorem ba9{N:Nat}{A:AT}(h:Inv A/\Bd N A)(hN:N<4611686018427387904)(gb n:d9):Inv (A.rmdirP gb n).2/\Bd N (A.rmdirP gb n).2:=by
 unfold AT.rmdirP;simp only;split
 ·split
  ·have:=ag8 h.1 h.2 hN gb n;exact⟨this.inv,this.bd⟩
  ·exact h
 ·exact h
theorem bQ2{N:Nat}(h:I4 Y bt C ge y s B)(hO:Off V Y B)(hy:F0 V 1 (u0 gd) y)(hI:Inv s.A/\Bd N s.A)(hN:N<=1000000000000)(il:C.nm.size<=1000000)(hl:gd.length<=1000000)(kc:∀n∈gd,n.size<=1000000)
 (hz:(TS.each C.nm (aU1 C) gd s).err.size<=1000000000000) {K:KH}
 (hK:∀Y' B',I4 Y' bt C ge y (TS.each C.nm (aU1 C) gd s) B'->H1 Y B Y' B'->Inv (TS.each C.nm (aU1 C) gd s).A/\Bd N (TS.each C.nm (aU1 C) gd s).A->K (.t []) Y'):i7 23 [.q bt] K Y:=by
 refine c23 _ ?_;unfold g23;refine A5 ?_;intro b2 Y1 g1 e1 n1;have nb:¬B b2:=h.fresh n1;have O1:Off (V.put b2 (ptT bt)) Y1 B:=(hO.gr g1).add e1 nb;have nt:V b2=none:=A9 hO.1 n1;refine E9 (f0 e1) (l5 (aq2 (P:=fun _ s=>Inv s.A/\Bd N s.A) (do_:=aU1 C) (hy.gr (Gr.put nt _)) hl _ il kc ?_ ?_ ?_ ?_ (h.gr g1) O1 hI hz ?_))
 ·intro s n;exact aR3 _ _
 ·intro s n;exact A7 _
 ·intro k s n hk _;rw[N7];exact ba9 hk (by omega) _ _
 ·intro n s Y2 B2 k hn _ ll t2 o2 _ K' jg;exact bC1 t2 ll.1 ll.2 hN (o2.get (H.put_same _ _ _)) (o2.2 b2 _ (H.put_same _ _ _)) n jg
 ·intro Y' B' k t' s' _ rr;exact U9 (hK Y' B' t' (H1.of_gr g1 s') rr)
end
end
section
theorem ar4{Y Y':H}{B:Nat->Prop}{l:List d9}{x:Sl}(hh:∀b,B b->Y b≠none)(hx:Q8 Y Y' 9 1 (u0 l) x):∃V,Off V Y' B/\F0 V 1 (u0 l) x/\∀b o,Y b=some o->¬B b->V b=some o:=by
 classical
 refine⟨fun b=>if B b then none else Y' b,⟨ac6 fun b o hb=>?_,fun b o hb hB=>?_⟩,?_,fun b o hb hB=>?_⟩
 ·by_cases hB:B b
  ·simp only[d8 hB]at hb;cases hb
  ·simp only[d7 hB]at hb;exact hb
 ·simp only[d8 hB]at hb;cases hb
 ·refine hx.at.keep fun g o ob hb ho => ?_;have hB : ¬B g:=by
   intro hB;obtain⟨_,_,⟨q,_⟩|⟨g',cur,q1,_⟩⟩:=hx.2.1
   ·rw[q]at hb;cases hb
   ·have e:=q1.symm.trans hb;have e2:g'=g:=by injection e with e;injection e
    subst e2;exact hh g' hB (hx.2.2 g' q1)
  simp only[d7 hB];exact ho
 ·simp only[d7 hB];exact hx.1.get hb
theorem co3(nm gb ge:d9)(f:Nat)(s:TS)(gc:d9):TS.rm nm gb ge (f+1) s gc =
 if(s.A.stat gb gc false).1==5&&I8 ge 102 then(0,s)
 else if !((s.A.stat gb gc false).1==0)then((s.A.stat gb gc false).1,s)
 else if(s.A.stat gb gc false).2.kind==2 && !I8 ge 114 then(7,s)
 else onA (if(s.A.stat gb gc false).2.kind==2 then(s.A.listF gb gc).2.foldl (J6 nm gb ge gc f) s else s) ((if(s.A.stat gb gc false).2.kind==2 then(s.A.listF gb gc).2.foldl (J6 nm gb ge gc f) s else s).A.removeF gb gc):=rfl
attribute [local irreducible] i9 E3 A0 I9 l8 H0 C0 stW muW biW W7 imW J0 G8 app E2 J1 D3 E6 oW P0 J5 C9 rfW N5 M9 D5 exW I2 Gr P1
section
variable {bt:Nat} {C:TlC} {ge:d9} {y:Sl}
theorem bC2{N:Nat}(hN:N<=1000000000000)(il:C.nm.size<=1000000):∀ (f:Nat) (gc:d9) (s:TS) (Y:H) (B:Nat->Prop) (K:KH),
 256<gc.size+f->1<=f->gc.size<=1000000->I4 Y bt C ge y s B->(Inv s.A/\Bd N s.A)->(TS.rm C.nm C.gb ge f s gc).2.err.size<=1000000000000 ->
 (∀Y' B',I4 Y' bt C ge y (TS.rm C.nm C.gb ge f s gc).2 B'->H1 Y B Y' B'->K (.i (TS.rm C.nm C.gb ge f s gc).1) Y') ->
 i7 83 [.q bt,.s gc] K Y:=by
 intro f
 induction f with
 |zero=>intro gc s Y B K _ h1;cases h1
 |succ f ih =>
  intro gc s Y B K hf _ qu h hI hz hK;refine c83 _ _ ?_;unfold g83;rw[co3]at hz hK;refine l5 (aj5 h gc false ?_);have kn:=at5 (A:=s.A) (gb:=C.gb) (p:=gc) (fo:=false);generalize s.A.stat C.gb gc false=r at kn hz hK⊢;obtain⟨e,nd⟩:=r;simp only at kn hz hK;unfold inV
  (refine l6 rfl ?_;try dsimp only)
  refine A5 ?_;intro b8 Y1 g1 e1 n1;refine C1 e1 W5 ?_;intro Y2 p2;have g2:Gr Y Y2:=g1.putF p2 n1;have t2:=h.gr g2;have nb8:¬B b8:=h.fresh n1;have k8:=p2.same;clear p2 e1 g1;generalize hT:(if nd.kind==2 then(s.A.listF C.gb gc).2.foldl (J6 C.nm C.gb ge gc f) s else s)=T at hz hK;refine K5 (fun j=>(e==5&&I8 ge 102)=false->(e==0)=true->(nd.kind==2 && !I8 ge 114)=false->∀Y' B',I4 Y' bt C ge y T B'->H1 Y B Y' B'->(Inv T.A/\Bd N T.A)->j (gp bt) gc Y') ?_ ?_
  ·intro c1 c2 c3 Y3 B3 t3 s3 i3;rw[c1,c2,c3]at hK;simp only[D2,if_false,Bool.not_true]at hK;refine j0 (E9 (f0 t3.cell) (j0 (C6 (f0 t3.cell) ?_)));obtain⟨B0,hF,iu⟩:=t3.fs;refine l5 (aT5 i3.1 i3.2 hN hF _ _ ?_);intro Y4 B4 F4 S4;obtain⟨B5,t5,s5⟩:=iu F4 S4;exact C4 (hK Y4 B5 t5 (s3.trans s5))
  ·intro j9 h9;refine K5 (fun j=>∀b:Bool,b=(e==5&&I8 ge 102)->j (gp bt) gc (gp b8) e b Y2) ?_ ?_
   ·intro b hb;rw[<-hb]at h9 hK hz;cases b with
    |true=>exact l9 rfl (hK Y2 B t2 (H1.gr g2))
    |false =>
     simp only[D2,if_false]at hK hz;refine l7 rfl ?_;cases h0:e==0 with
     |false =>
      rw[h0]at hK;exact l9 (by rw[bne,h0];rfl) (hK Y2 B t2 (H1.gr g2))
     |true =>
      rw[h0]at h9 hK hz;simp only[Bool.not_true,D2,if_false]at hK hz;have yj:gc.size<=255:=(ah7 (kn (by simpa using h0))).1;refine l7 (by rw[bne,h0];rfl) (K5 (fun j=>∀b:Bool,b=(nd.kind==2 && !I8 ge 114)->j (gp bt) gc (gp b8) b Y2) ?_ ?_)
      ·intro b tp;rw[<-tp]at h9 hK hz;cases b with
       |true=>exact l9 rfl (hK Y2 B t2 (H1.gr g2))
       |false =>
        simp only[D2,if_false]at hK hz;replace h9:=h9 rfl rfl rfl;refine l7 rfl (j0 (D1 (f0 k8) ?_));cases hk:nd.kind==2 with
        |false =>
         rw[hk,d7 (by simp)]at hT;subst hT;exact l7 rfl (h9 Y2 B t2 (H1.gr g2) hI)
        |true =>
         rw[hk,d8 rfl]at hT;refine l9 rfl (j0 (E9 (f0 t2.cell) (j0 (C6 (f0 t2.cell) ?_))));obtain⟨B0,hF,_⟩:=t2.fs;refine l5 (aO8 hI.1 hI.2 hN hF _ _ ?_);intro x Y3 hx;have ig:∀n∈(s.A.listF C.gb gc).2,W1 n/\W2 n:=fun n hn=>ae8 hI.1 hn;have ju:=ah8 (gb:=C.gb) (gc:=gc) hI.2;generalize s.A.listF C.gb gc=L at hx hT ig ju⊢;obtain⟨le,gd⟩:=L;simp only at hx hT ig ju
         (refine l6 rfl ?_;try dsimp only)
         obtain⟨V,O3,vi,_⟩:=ar4 (B:=B) (fun b hb=>t2.has hb) hx;have kb:=ad9 vi;have t3:=t2.gr hx.1;have s3:H1 Y B Y3 B:=H1.gr (g2.trans hx.1);have hzT:T.err.size<=1000000000000:=hz;refine H9 ?_;intro R hR;have key:∀ (k i:Nat) (s1:TS) (Y1:H) (B1:Nat->Prop),k+i=gd.length->I4 Y1 bt C ge y s1 B1->(Inv s1.A/\Bd N s1.A)->H1 Y B Y1 B1->Off V Y1 B1->(gd.drop i).foldl (J6 C.nm C.gb ge gc f) s1=T->R (gp bt) gc x ((x.len:Nat):Int) (i:Int) Y1:=by
          intro k
          induction k with
          |zero =>
           intro i s1 Y1 B1 hk t1 i1 ss o1 jk;rw[M3 (by omega)]at jk;have jk:s1=T:=jk;subst jk;refine hR _ _ _ _ _ _ ?_;exact l7 (W4 (by omega)) (h9 Y1 B1 t1 ss i1)
          |succ k ihk =>
           intro i s1 Y1 B1 hk t1 i1 ss o1 jk;obtain⟨n,hn⟩:∃n,gd[i]?=some n:=⟨_,G0 (by omega)⟩;obtain⟨g,o,a1,a2,a3⟩:=Z8 (vi.gr o1.1) hn;have jp:=(ig n (K7 hn)).2.2;rw[S9 hn,H3]at jk;have vt:=ab0 gc n;have ym:((bs [47]):d9).size=1:=rfl;refine hR _ _ _ _ _ _ (l9 (M7 (by omega)) ?_);rw[a1];refine j0 (D0 ⟨by omega,by omega⟩ (C6 a3 ?_));refine D0 (by omega) (D0 (by rw[D8];omega) (D0 (by omega) (D0 (by rw[D8];omega) ?_)));have ki:=aJ4 C.nm C.gb ge gc f (gd.drop (i+1)) (J6 C.nm C.gb ge gc f s1 n);rw[jk]at ki;have Ca:J6 C.nm C.gb ge gc f s1 n=(TS.rm C.nm C.gb ge f s1 (H8 gc n)).2.fail C.nm (H8 gc n) (TS.rm C.nm C.gb ge f s1 (H8 gc n)).1:=rfl;have pj:=Q6 C.nm (TS.rm C.nm C.gb ge f s1 (H8 gc n)).2 (H8 gc n) (TS.rm C.nm C.gb ge f s1 (H8 gc n)).1;rw[<-Ca]at pj;refine l5 (ih (H8 gc n) s1 Y1 B1 _ (by omega) (by omega) (by omega) t1 i1 (by omega) ?_);intro Y4 B4 t4 s4;have pt:=bZ4 C.nm C.gb ge f s1 (H8 gc n);refine C4 (l5 (aH2 t4 (H8 gc n) pt.1 pt.2 il (by omega) (by omega) (aR4 pt) ?_));intro Y5 r5 t5 s5;refine H2 ?_;rw[<-Ca]at t5;rw[ab9 (i:=i)]
           refine ihk (i+1) _ Y5 B4 (by omega) t5 ?_ (ss.trans (s4.trans s5)) ((o1.sep s4).sep s5) jk;rw[Ca,N7];exact ay4 (by omega) _ _ _ _ _ _ i1
         exact key gd.length 0 s Y3 B (by omega) t3 hI s3 O3 hT
      ·intro j25 h25;refine j0 (D1 (f0 k8) ?_);cases hk:nd.kind==2 with
       |false=>exact l7 rfl (h25 false (by rw[hk];rfl))
       |true=>exact l9 rfl (l5 (ao1 t2 114 (H2 (h25 _ (by rw[hk];rfl)))))
   ·intro j19 h19;cases h5:e==5 with
    |false=>exact l7 rfl (h19 false (by rw[h5];rfl))
    |true=>exact l9 rfl (l5 (ao1 t2 102 (H2 (h19 _ (by rw[h5];rfl)))))
end
theorem bq0:Z0 Tryz.prog 83=true:=by kernel_rfl
theorem bb0{g:FuncId}{as_ vs:List u9}{K:KH}{Y:H}(hg:Z0 Tryz.prog g=true)(h:i7 g (as_++vs) K Y):D3 Tryz.prog (.func (.func g) ⟨as_⟩ ⟨[]⟩) vs K Y:=by
 unfold D3;simp only[hg,ac3];exact h
section
variable {Y V:H} {bt:Nat} {C:TlC} {ge:d9} {y:Sl} {s:TS} {B:Nat->Prop} {gd:List d9}
def rmD(C:TlC)(ge:d9)(t:TS)(n:d9):Int×TS:=TS.rm C.nm C.gb ge FU t n
theorem cf4{N:Nat}(h:I4 Y bt C ge y s B)(hO:Off V Y B)(hy:F0 V 1 (u0 gd) y)(hI:Inv s.A/\Bd N s.A)(hN:N<=1000000000000)(il:C.nm.size<=1000000)(hl:gd.length<=1000000)(kc:∀n∈gd,n.size<=1000000)
 (hz:(TS.each C.nm (rmD C ge) gd s).err.size<=1000000000000) {K:KH}
 (hK:∀Y' B',I4 Y' bt C ge y (TS.each C.nm (rmD C ge) gd s) B'->H1 Y B Y' B'->Inv (TS.each C.nm (rmD C ge) gd s).A/\Bd N (TS.each C.nm (rmD C ge) gd s).A->K (.t []) Y'):i7 27 [.q bt] K Y:=by
 refine c27 _ ?_;unfold g27;refine l5 (aq2 (P:=fun _ s=>Inv s.A/\Bd N s.A) (do_:=rmD C ge) hy hl _ il kc ?_ ?_ ?_ ?_ h hO hI hz ?_)
 ·intro s n;exact bZ4 _ _ _ _ _ _
 ·intro s n;exact bx0 _ _ _ _ _ _
 ·intro k s n hk _;rw[N7];exact ay4 (by omega) _ _ _ _ _ _ hk
 ·intro n s Y2 B2 k hn _ ll t2 o2 kx K' jg;refine bb0 bq0 ?_;exact bC2 hN il FU n s Y2 B2 K' (by have:FU=300:=rfl;omega) (by decide) (kc n hn) t2 ll kx jg
 ·intro Y' B' k t' s' _ rr;exact U9 (hK Y' B' t' s' rr)
end
end
section
theorem aN6{A:AT}{N:Nat}(hI:Inv A)(hB:Bd N A):∀ (f:Nat) (gh:Int) (out:d9),(A.realUp f gh out).size<=out.size+f*(60*N):=by
 intro f
 induction f with
 |zero=>intro gh out;show out.size<=_;omega
 |succ f ih =>
  intro gh out;unfold AT.realUp;split
  ·omega
  ·refine C7 (ih _ _) ?_;have key : ∀ (l:List d9) (o:d9),(∀n∈l,n.size<=56)->(l.foldl (fun o n=>if(A.find (A.upOf gh) n).getD 0=gh then((bs [47])++n)++o else o) o).size<=o.size+60 * l.length:=by
    intro l
    induction l with
    |nil=>intro o _;show o.size<=_;omega
    |cons n r ihl =>
     intro o hl;rw[H3];refine C7 (ihl _ fun m hm=>hl m (E4 _ hm)) ?_;have hn:=hl n (H7 ..);rw[H4];split
     ·simp only[D8];have:((bs [47]):d9).size=1:=rfl;omega
     ·omega
   have h1:=key (A.gd (A.upOf gh)) out (fun n hn=>aD6 hI hn);have h2:=aA9 (d:=A.upOf gh) hB;have hm:(f+1)*(60*N)=f*(60*N)+60*N:=by rw[K9,Nat.one_mul]
   have:60*(A.gd (A.upOf gh)).length<=60*N:=Nat.mul_le_mul_left _ h2;refine C7 (Nat.add_le_add_right h1 _) ?_;omega
theorem aU2{A:AT}{N:Nat}(hI:Inv A)(hB:Bd N A)(hN:N<=1000000000000)(gb p:d9):(A.realF gb p).2.size<=900000000000000:=by
 have h0:(gq:d9).size=0:=rfl;have ym:((bs [47]):d9).size=1:=rfl;have jf:=K4 hI gb p true;unfold AT.realF;simp only;by_cases h1:(A.locate gb p true).1≠0
 ·rw[d8 h1];show(gq:d9).size<=_;omega
 rw[d7 h1];by_cases h2:(A.locate gb p true).2.there=false
 ·rw[d8 h2];show(gq:d9).size<=_;omega
 rw[d7 h2];obtain⟨_,gw⟩:=jf (by simpa using h1);have il:(A.locate gb p true).2.gu.size<=56:=by
  rcases gw with⟨h1,_⟩|⟨_,_,h,_⟩
  ·rw[h1];decide
  ·exact h
 have key:(if A.kind (A.locate gb p true).2.gf≠2 then A.realUp 13 (A.locate gb p true).2.gh ((bs [47])++(A.locate gb p true).2.gu)else A.realUp 13 (A.locate gb p true).2.gf gq).size<=900000000000000:=by
  split
  ·refine C7 (aN6 hI hB _ _ _) ?_;rw[D8];omega
  ·refine C7 (aN6 hI hB _ _ _) ?_;omega
 revert key;generalize (if A.kind (A.locate gb p true).2.gf≠2 then A.realUp 13 (A.locate gb p true).2.gh ((bs [47])++(A.locate gb p true).2.gu)else A.realUp 13 (A.locate gb p true).2.gf gq)=out;intro key;show(if E8 out gq=true then((bs [47]):d9)else out).size<=900000000000000;by_cases h:E8 out gq=true
 ·rw[d8 h];omega
 ·rw[d7 h];exact key
theorem co4(nm gb ge:d9)(f:Nat)(s:TS)(gk tq:d9):TS.cp nm gb ge (f+1) s gk tq =
 if !((s.A.stat gb gk (!I8 ge 114)).1==0)then((s.A.stat gb gk (!I8 ge 114)).1,s)
 else if(s.A.stat gb gk (!I8 ge 114)).2.kind==3 then onA s (s.A.symlinkF gb (s.A.stat gb gk (!I8 ge 114)).2.data tq)
 else if(s.A.stat gb gk (!I8 ge 114)).2.kind==1 then onA s (s.A.fileP gb gk tq (s.A.stat gb gk (!I8 ge 114)).2.mode)
 else if !I8 ge 114 then(7,s)
 else if s.A.insideP gb gk tq then(2,s)
 else if !((s.A.madeF gb tq).1==0)then((s.A.madeF gb tq).1,{s with A:=(s.A.madeF gb tq).2})
 else(0,((s.A.madeF gb tq).2.listF gb gk).2.foldl (N2 nm gb ge gk tq f) {s with A:=(s.A.madeF gb tq).2}):=rfl
attribute [local irreducible] i9 E3 A0 I9 l8 H0 C0 stW muW biW W7 imW J0 G8 app E2 J1 D3 E6 oW P0 J5 C9 rfW N5 M9 D5 exW I2 Gr P1
section
variable {Y:H} {bt:Nat} {C:TlC} {ge:d9} {y:Sl} {s:TS} {B:Nat->Prop}
theorem bC3{N:Nat}(h:I4 Y bt C ge y s B)(hI:Inv s.A)(hB:Bd N s.A)(hN:N<=1000000000000)(gk:d9)(tq:List J3)(hl:tq.length<=1000000000){K:KH}
 (hK:K (.bool (s.A.insideP C.gb gk ⟨⟨tq⟩⟩)) Y):i7 145 [.q bt,.s gk,.s ⟨⟨tq⟩⟩] K Y:=by
 refine du2 _ _ _ ?_;unfold cQ3;obtain⟨B0,hF,_⟩:=h.fs;refine j0 (E9 (f0 h.cell) (j0 (C6 (f0 h.cell) ?_)));refine l5 (bB7 hI hB hN hF _ _ ?_)
 (refine l6 rfl ?_;try dsimp only)
 refine j0 (E9 (f0 h.cell) (j0 (C6 (f0 h.cell) ?_)));refine l5 (bB7 hI hB hN hF _ _ ?_)
 (refine l6 rfl ?_;try dsimp only)
 have te:s.A.insideP C.gb gk ⟨⟨tq⟩⟩=((s.A.realF C.gb gk).1==0&&((if(s.A.realF C.gb ⟨⟨tq⟩⟩).1==0 then s.A.realF C.gb ⟨⟨tq⟩⟩else s.A.realF C.gb (ae7 ⟨⟨tq⟩⟩)).1==0&&(E8 (s.A.realF C.gb gk).2 (if(s.A.realF C.gb ⟨⟨tq⟩⟩).1==0 then s.A.realF C.gb ⟨⟨tq⟩⟩else s.A.realF C.gb (ae7 ⟨⟨tq⟩⟩)).2||(N4 (s.A.realF C.gb gk).2.data.toList++[47]).isPrefixOf (if(s.A.realF C.gb ⟨⟨tq⟩⟩).1==0 then s.A.realF C.gb ⟨⟨tq⟩⟩else s.A.realF C.gb (ae7 ⟨⟨tq⟩⟩)).2.data.toList))):=rfl;rw[te]at hK;clear te;have hsz:=aU2 hI hB hN C.gb gk;generalize hb:(if(s.A.realF C.gb ⟨⟨tq⟩⟩).1==0 then s.A.realF C.gb ⟨⟨tq⟩⟩else s.A.realF C.gb (ae7 ⟨⟨tq⟩⟩))=b at hK;refine K5 (fun j=>j (s.A.realF C.gb gk).2 (s.A.realF C.gb gk).1 b.2 b.1 Y) ?_ ?_
 ·generalize s.A.realF C.gb gk=a at hK hsz⊢;obtain⟨ae,⟨⟨al⟩⟩⟩:=a;obtain⟨be,bl⟩:=b;simp only at hK hsz⊢;cases h1:ae==0 with
  |false=>rw[h1,Z5]at hK;exact l7 rfl hK
  |true =>
   rw[h1,T8]at hK;refine l9 rfl ?_;cases h2:be==0 with
   |false=>rw[h2,Z5]at hK;exact l7 rfl hK
   |true =>
    rw[h2,T8,I5]at hK;refine l9 rfl ?_;cases h3:C3 ⟨⟨al⟩⟩ bl with
    |true=>rw[h3,Bool.true_or]at hK;exact l9 rfl hK
    |false =>
     rw[h3,R0]at hK;have uk:al.length<=900000000000000:=hsz;have xo:=at8 al;refine l7 rfl (l5 (aT8 47 (by decide) al (by omega) (ab2 ?_)));rw[show trR (· == 47) al=N4 al from rfl];refine D0 (by rw[bsz];show _+1<=_;omega) (l5 (az3 _ _ (H2 ?_)));exact hK
 ·intro j hj;cases h1:(s.A.realF C.gb ⟨⟨tq⟩⟩).1==0 with
  |true =>
   rw[h1,d8 rfl]at hb;subst hb;exact l7 (by rw[bne,h1];rfl) hj
  |false =>
   rw[h1,d7 (by simp)]at hb;subst hb;refine l9 (by rw[bne,h1];rfl) (j0 (E9 (f0 h.cell) (j0 (C6 (f0 h.cell) ?_))));refine l5 (bP9 tq hl (ab2 ?_));refine aa6 (f0 h.cell) (aa6 (f0 h.cell) ?_);refine l5 (bB7 hI hB hN hF _ _ ?_)
   (refine l6 rfl ?_;try dsimp only)
   exact hj
theorem cf5{M:Nat}(h:I4 Y bt C ge y s B)(hp:U4 M s.A)(hM:M<=900000000000)(gk tq:d9)(mode:Int){K:KH}
 (hK:∀Y' B',I4 Y' bt C ge y {s with A:=(s.A.fileP C.gb gk tq mode).2} B'->H1 Y B Y' B'->K (.i (s.A.fileP C.gb gk tq mode).1) Y'):i7 144 [.q bt,.s gk,.s tq,.i mode] K Y:=by
 refine du1 _ _ _ _ ?_;unfold cQ1;refine l5 (aj5 h tq true ?_);unfold inV
 (refine l6 rfl ?_;try dsimp only)
 refine A5 ?_;intro b3 Y1 g1 e1 n1;refine C1 e1 W5 ?_;intro Y2 p2;have g2:Gr Y Y2:=g1.putF p2 n1;have t2:=h.gr g2;clear p2 e1 g1;refine j0 (E9 (f0 t2.cell) (j0 (C6 (f0 t2.cell) ?_)));obtain⟨B0,hF,iu⟩:=t2.fs;refine l5 (cA5 hF _ _ ?_)
 (refine l6 rfl ?_;try dsimp only)
 have hrs:=aJ3 hp.inv C.gb gk
 have pm:s.A.fileP C.gb gk tq mode=(let x:=if(s.A.read C.gb gk).1==0 then s.A.writeF C.gb tq (s.A.read C.gb gk).2 false else((s.A.read C.gb gk).1,s.A)
  if x.1==0 && !((s.A.stat C.gb tq true).1==0)then x.2.chmodF C.gb tq mode else x):=rfl
 rw[pm]at hK;clear pm;generalize hX:(if(s.A.read C.gb gk).1==0 then s.A.writeF C.gb tq (s.A.read C.gb gk).2 false else((s.A.read C.gb gk).1,s.A))=X at hK;generalize (s.A.stat C.gb tq true).1=th at hK⊢;refine K5 (fun j=>∀Y' B',I4 Y' bt C ge y {s with A:=X.2} B'->H1 Y B Y' B'->j (gp bt) tq mode th X.1 Y') ?_ ?_
 ·intro Y3 B3 t3 s3;refine j_d ?_;refine K5 (fun j=>∀b:Bool,b=(X.1==0 && !(th==0))->j (gp bt) tq mode X.1 b Y3) ?_ ?_
  ·intro b hb;simp only[<-hb]at hK;cases b with
   |false =>
    simp only[D2,if_false]at hK;exact l7 rfl (hK Y3 B3 t3 s3)
   |true =>
    simp only[if_true]at hK;refine l9 rfl (j0 (E9 (f0 t3.cell) (j0 (C6 (f0 t3.cell) ?_))));obtain⟨B1,xt,wd⟩:=t3.fs;refine l5 (bg5 xt _ _ _ ?_);intro Y4 B4 F4 S4;obtain⟨B5,t5,s5⟩:=wd F4 S4;exact C4 (hK Y4 B5 t5 (s3.trans s5))
  ·intro j hj;cases h1:X.1==0 with
   |false=>exact l7 rfl (hj false (by rw[h1];rfl))
   |true=>exact l9 rfl (hj _ (by rw[h1];rfl))
 ·intro j hj;cases h1:(s.A.read C.gb gk).1==0 with
  |false =>
   rw[h1,d7 (by simp)]at hX;subst hX;exact l7 rfl (hj Y2 B t2 (H1.gr g2))
  |true =>
   rw[h1,d8 rfl]at hX;subst hX;refine l9 rfl (j0 (E9 (f0 t2.cell) (j0 (C6 (f0 t2.cell) ?_))));refine l5 (bg4 hp.inv hp.bd' (by omega) hF _ _ _ _ (by omega) ?_);intro Y4 B4 F4 S4;obtain⟨B5,t5,s5⟩:=iu F4 S4;exact C4 (hj Y4 B5 t5 (H1.of_gr g2 s5))
end
section
variable {bt:Nat} {C:TlC} {ge:d9} {y:Sl}
theorem bC4{M:Nat}(hM:M<=900000000000)(il:C.nm.size<=1000000):∀ (f:Nat) (gk tq:d9) (s:TS) (Y:H) (B:Nat->Prop) (K:KH),
 256<gk.size+f->1<=f->gk.size<=1000000->tq.size+f*100<=100000000->I4 Y bt C ge y s B->U4 M s.A->(TS.cp C.nm C.gb ge f s gk tq).2.err.size<=1000000000000 ->
 (∀Y' B',I4 Y' bt C ge y (TS.cp C.nm C.gb ge f s gk tq).2 B'->H1 Y B Y' B'->K (.i (TS.cp C.nm C.gb ge f s gk tq).1) Y') ->
 i7 87 [.q bt,.s gk,.s tq] K Y:=by
 intro f
 induction f with
 |zero=>intro gk tq s Y B K _ h1;cases h1
 |succ f ih =>
  intro gk tq s Y B K hf _ qu Dj h hp hz hK;refine c87 _ _ _ ?_;unfold g87;rw[co4]at hz hK;refine l5 (ao1 h 114 (H2 (l5 (aj5 h gk (!I8 ge 114) ?_))));have kn:=at5 (A:=s.A) (gb:=C.gb) (p:=gk) (fo:=!I8 ge 114);generalize s.A.stat C.gb gk (!I8 ge 114)=r at kn hz hK⊢;obtain⟨e,nd⟩:=r;simp only at kn hz hK;unfold inV
  (refine l6 rfl ?_;try dsimp only)
  refine A5 ?_;intro b8 Y1 g1 e1 n1;refine C1 e1 W5 ?_;intro Y2 p2;have g2:Gr Y Y2:=g1.putF p2 n1;have t2:=h.gr g2;have k8:=p2.same;clear p2 e1 g1;cases h0:e==0 with
  |false =>
   rw[h0]at hK;exact l9 (by rw[bne,h0];rfl) (hK Y2 B t2 (H1.gr g2))
  |true =>
  rw[h0]at hK hz;simp only[Bool.not_true,D2,if_false]at hK hz;have yj:gk.size<=255:=(ah7 (kn (by simpa using h0))).1;refine l7 (by rw[bne,h0];rfl) (D1 (f0 k8) ?_);cases h3:nd.kind==3 with
  |true =>
   rw[h3]at hK;refine l9 rfl (j0 (E9 (f0 t2.cell) (j0 (C6 (f0 t2.cell) (C6 (f0 k8) ?_)))));obtain⟨B0,hF,iu⟩:=t2.fs;refine l5 (aK4 hp.inv hp.bd' (by omega) hF _ _ _ ?_);intro Y4 B4 F4 S4;obtain⟨B5,t5,s5⟩:=iu F4 S4;exact C4 (hK Y4 B5 t5 (H1.of_gr g2 s5))
  |false =>
  rw[h3]at hK hz;simp only[D2,if_false]at hK hz;refine l7 rfl (D1 (f0 k8) ?_);cases h1:nd.kind==1 with
  |true =>
   rw[h1]at hK;refine l9 rfl (D1 (f0 k8) (l5 (cf5 t2 hp hM _ _ _ ?_)));intro Y4 B4 t4 s4;exact C4 (hK Y4 B4 t4 (H1.of_gr g2 s4))
  |false =>
  rw[h1]at hK hz;simp only[D2,if_false]at hK hz;refine l7 rfl (l5 (ao1 t2 114 (H2 ?_)));cases hr:I8 ge 114 with
  |false =>
   rw[hr]at hK;exact l9 rfl (hK Y2 B t2 (H1.gr g2))
  |true =>
  rw[hr]at hK hz;simp only[Bool.not_true,D2,if_false]at hK hz;obtain⟨⟨tl⟩⟩:=tq;have Cb:tl.length+(f+1)*100<=100000000:=Dj;refine l7 rfl (l5 (bC3 t2 hp.inv hp.bd' (by omega) gk tl (by omega) (H2 ?_)));cases te:s.A.insideP C.gb gk ⟨⟨tl⟩⟩ with
  |true =>
   rw[te]at hK;exact l9 rfl (hK Y2 B t2 (H1.gr g2))
  |false =>
  rw[te]at hK hz;simp only[D2,if_false]at hK hz;refine l7 rfl (l5 (aT9 t2 hp hM ⟨⟨tl⟩⟩ ?_));have lz:=hp.made (by omega) C.gb ⟨⟨tl⟩⟩;generalize s.A.madeF C.gb ⟨⟨tl⟩⟩=m at lz hK hz⊢;obtain⟨me,A1⟩:=m;simp only at lz hK hz⊢;intro Y4 B4 t4 s4;have s24:H1 Y B Y4 B4:=H1.of_gr g2 s4;refine C4 ?_;cases ua:me==0 with
  |false =>
   rw[ua]at hK;exact l9 (by rw[bne,ua];rfl) (hK Y4 B4 t4 s24)
  |true =>
  rw[ua]at hK hz;simp only[Bool.not_true,D2,if_false]at hK hz;refine l7 (by rw[bne,ua];rfl) (j0 (E9 (f0 t4.cell) (j0 (C6 (f0 t4.cell) ?_))));obtain⟨B0,hF,_⟩:=t4.fs;refine l5 (aO8 lz.inv lz.bd' (by omega) hF _ _ ?_);intro x Y3 hx;have ig:∀n∈(A1.listF C.gb gk).2,W1 n/\W2 n:=fun n hn=>ae8 lz.inv hn;have ju:=ah8 (gb:=C.gb) (gc:=gk) lz.bd';generalize sj:(A1.listF C.gb gk).2.foldl (N2 C.nm C.gb ge gk ⟨⟨tl⟩⟩ f) {s with A:=A1}=T at hz hK;generalize A1.listF C.gb gk=L at hx sj ig ju⊢;obtain⟨le,gd⟩:=L;simp only at hx sj ig ju
  (refine l6 rfl ?_;try dsimp only)
  obtain⟨V,O3,vi,_⟩:=ar4 (B:=B4) (fun b hb=>t4.has hb) hx;have kb:=ad9 vi;have t3:=t4.gr hx.1;have s3:H1 Y B Y3 B4:=s24.grR hx.1;refine H9 ?_;intro R hR;have key:∀ (k i:Nat) (s1:TS) (Y1:H) (B1:Nat->Prop),k+i=gd.length->I4 Y1 bt C ge y s1 B1->U4 M s1.A->H1 Y B Y1 B1->Off V Y1 B1->(gd.drop i).foldl (N2 C.nm C.gb ge gk ⟨⟨tl⟩⟩ f) s1=T->R (gp bt) gk ⟨⟨tl⟩⟩ x ((x.len:Nat):Int) (i:Int) Y1:=by
   intro k
   induction k with
   |zero =>
    intro i s1 Y1 B1 hk t1 i1 ss o1 jk;rw[M3 (by omega)]at jk;have jk:s1=T:=jk;subst jk;refine hR _ _ _ _ _ _ _ ?_;exact l7 (W4 (by omega)) (hK Y1 B1 t1 ss)
   |succ k ihk =>
    intro i s1 Y1 B1 hk t1 i1 ss o1 jk;obtain⟨n,hn⟩:∃n,gd[i]?=some n:=⟨_,G0 (by omega)⟩;obtain⟨g,o,a1,a2,a3⟩:=Z8 (vi.gr o1.1) hn;have jp:=(ig n (K7 hn)).2.2;rw[S9 hn,H3]at jk;have vt:=ab0 gk n;have hjt:(H8 ⟨⟨tl⟩⟩ n).size=tl.length+1+n.size:=ab0 ⟨⟨tl⟩⟩ n;have ym:((bs [47]):d9).size=1:=rfl;refine hR _ _ _ _ _ _ _ (l9 (M7 (by omega)) ?_);refine K5 (fun j=>∀Y' B',I4 Y' bt C ge y (N2 C.nm C.gb ge gk ⟨⟨tl⟩⟩ f s1 n) B'->U4 M (N2 C.nm C.gb ge gk ⟨⟨tl⟩⟩ f s1 n).A->H1 Y B Y' B'->Off V Y' B'->j (gp bt) gk ⟨⟨tl⟩⟩ x ((x.len:Nat):Int) (i:Int) Y') ?_ ?_
    ·intro Y5 B5 t5 i5 s5 o5;rw[ab9 (i:=i)];exact ihk (i+1) _ Y5 B5 (by omega) t5 i5 s5 o5 jk
    ·intro j hj;rw[a1];refine j0 (D0 ⟨by omega,by omega⟩ (C6 a3 (j0 (an2 (f0 t1.cell) ?_))));have pe:N2 C.nm C.gb ge gk ⟨⟨tl⟩⟩ f s1 n=if s1.full then s1 else(TS.cp C.nm C.gb ge f s1 (H8 gk n) (H8 ⟨⟨tl⟩⟩ n)).2.fail C.nm (H8 gk n) (TS.cp C.nm C.gb ge f s1 (H8 gk n) (H8 ⟨⟨tl⟩⟩ n)).1:=rfl
     cases sg:s1.full with
     |true =>
      rw[pe,sg,d8 rfl]at hj;exact l7 rfl (hj Y1 B1 t1 i1 ss o1)
     |false =>
      rw[sg,d7 (by simp)]at pe;refine l9 rfl ?_;refine D0 (by omega) (D0 (by rw[D8];omega) (D0 (by omega) (D0 (by rw[D8];omega) (D0 (by rw[bsz];omega) (D0 (by rw[D8,bsz];omega) ?_)))));have ki:=aY3 C.nm C.gb ge gk ⟨⟨tl⟩⟩ f (gd.drop (i+1)) (N2 C.nm C.gb ge gk ⟨⟨tl⟩⟩ f s1 n);rw[jk]at ki;have pj:=Q6 C.nm (TS.cp C.nm C.gb ge f s1 (H8 gk n) (H8 ⟨⟨tl⟩⟩ n)).2 (H8 gk n) (TS.cp C.nm C.gb ge f s1 (H8 gk n) (H8 ⟨⟨tl⟩⟩ n)).1;rw[<-pe]at pj;refine l5 (ih (H8 gk n) (H8 ⟨⟨tl⟩⟩ n) s1 Y1 B1 _ (by omega) (by omega) (by omega) (by omega) t1 i1 (by omega) ?_);intro Y5 B5 t5 s5;have pt:=cr9 C.nm C.gb ge f s1 (H8 gk n) (H8 ⟨⟨tl⟩⟩ n);refine C4 (l5 (aH2 t5 (H8 gk n) pt.1 pt.2 il (by omega) (by omega) (aR4 pt) ?_));intro Y6 r6 t6 s6;refine H2 ?_;rw[<-pe]at t6;refine hj Y6 B5 t6 ?_ (ss.trans (s5.trans s6)) ((o1.sep s5).sep s6);rw[pe,N7];exact U4.cp (by omega) _ _ _ _ _ _ _ i1
  exact key gd.length 0 _ Y3 B4 (by omega) t3 lz s3 O3 sj
end
end
section
attribute [local irreducible] i9 E3 A0 I9 l8 H0 C0 stW muW biW W7 imW J0 G8 app E2 J1 D3 E6 oW P0 J5 C9 rfW N5 M9 D5 exW I2 Gr P1
theorem bC5:Z0 Tryz.prog 140=true:=by kernel_rfl
theorem cf6:Z0 Tryz.prog 85=true:=by kernel_rfl
theorem bq1:Z0 Tryz.prog 87=true:=by kernel_rfl
theorem aK7(n:d9):(ah6 n).size<=n.size:=by
 obtain⟨⟨l⟩⟩:=n;show(ag9 (N4 l)).length<=l.length;have h1:=at8 l;have h2:=(at3 (N4 l)).2;have h3:(ag9 (N4 l)).length=((N4 l).drop (ac8 47 (N4 l))).length:=by rw[h2]
 rw[X1]at h3;omega
def az5(do_:TS->d9->d9->Int×TS)(inn:Bool)(tq:d9)(t:TS)(n:d9):Int×TS:=do_ t n (if inn then H8 tq (ah6 n)else tq)
theorem bq2(nm gb:d9)(do_:TS->d9->d9->Int×TS){gd:List d9}{tq:d9}(h:gd.getLast?=some tq)(s:TS):TS.into nm gb do_ gd s=if !s.A.dirB gb tq&&Nat.blt 1 gd.dropLast.length then s.fail nm tq 8 else TS.each nm (az5 do_ (s.A.dirB gb tq) tq) gd.dropLast s:=by
 unfold TS.into;rw[h]
 rfl
section
variable {Y V:H} {bt:Nat} {C:TlC} {ge:d9} {y:Sl} {s:TS} {B:Nat->Prop} {gd:List d9}
theorem bq3{P:Nat->TS->Prop}{do_:TS->d9->d9->Int×TS}(hy:F0 V 1 (u0 gd) y)(hc:y.len<=y.cap)(ia:gd≠[])(hl:gd.length<=1000000)(fv:u9)(hfv:∀ (g:H->Prop) Y,g Y->J5 fv g Y)(il:C.nm.size<=1000000)(kc:∀n∈gd,n.size<=100000)
 (pt:∀s a b,Er (do_ s a b).1) (mc:∀s a b,s.err.size<=(do_ s a b).2.err.size) (hP:∀k s n a b,P k s->k<gd.length->P (k+1) ((do_ s a b).2.fail C.nm n (do_ s a b).1)) (hP0:P 0 s->P 0 (s.fail C.nm (gd.getLast ia) 8))
 (step:∀y' a b s Y B k,a.size<=100000->b.size<=1000000->k<gd.length->P k s->I4 Y bt C ge y' s B->Off V Y B->(do_ s a b).2.err.size<=1000000000000->∀K:u9->H->Prop,(∀Y' B',I4 Y' bt C ge y' (do_ s a b).2 B'->H1 Y B Y' B'->K (.i (do_ s a b).1) Y')->D3 Tryz.prog fv [.s a,.s b] K Y)
 (h:I4 Y bt C ge y s B) (hO:Off V Y B) (hp:P 0 s) (hz:(TS.into C.nm C.gb do_ gd s).err.size<=1000000000000)
 {K:KH} (hK:∀Y' B' y' k,I4 Y' bt C ge y' (TS.into C.nm C.gb do_ gd s) B'->H1 Y B Y' B'->k<=gd.length->P k (TS.into C.nm C.gb do_ gd s)->K (.t []) Y'):i7 84 [.q bt,fv] K Y:=by
 refine c84 _ _ ?_;unfold g84;refine hfv _ _ ?_;have lc:=ad9 hy;have Dh:0<gd.length:=List.length_pos_iff.2 ia;have hto:gd.getLast?=some (gd.getLast ia):=List.getLast?_eq_some_getLast ia;rw[bq2 _ _ _ hto]at hz hK;have gx:gd[gd.length-1]?=some (gd.getLast ia):=by rw[<-List.getLast?_eq_getElem?];exact hto
 have jh:gd.getLast ia∈gd:=List.getLast_mem ia;generalize gd.getLast ia=tq at hto hz hK hP0 gx jh;refine A5 ?_;intro b3 Y1 g1 e1 n1;have t1:=h.gr g1;have O1:=hO.gr g1;refine j0 (ag1 (y:=y) (f0 t1.cell) (j0 (ag1 (y:=y) (f0 t1.cell) ?_)));obtain⟨g,o,a1,a2,a3⟩:=Z8 (hy.gr O1.1) gx;have hw:IntKind.i64.wrap (((y.len:Nat):Int)-1)=((gd.length-1:Nat):Int):=by rw[D7 (by omega) (by omega)];omega
 rw[hw,a1];refine j0 (D0 ⟨by omega,by omega⟩ (C6 a3 ?_));refine A5 ?_;intro b13 Y2 g2 e2 n2;refine C1 e2 U3 ?_;intro Y3 p3;have g3:Gr Y1 Y3:=g2.putF p3 n2;have t3:=t1.gr g3;have hB:B bt:=by obtain⟨_,_,_,_,q⟩:=h;exact(q bt).2 (.inr rfl)
 refine j0 (ag1 (y:=y) (f0 t3.cell) (j0 (ag1 (y:=y) (f0 t3.cell) ?_)));rw[hw,P5];refine D0 ⟨J2 (by omega) (by omega),M8⟩ (j0 ?_);refine C1 t3.cell al4 ?_;intro Y4 p4;have nb3:¬B b3:=h.fresh n1;have nb13:¬B b13:=t1.fresh n2;have y2:=cF4 hy hc;have ey:(⟨N6 y.base 0 y.cap 1,y.len-1-0,y.cap-0⟩:Sl)=⟨N6 y.base 0 y.cap 1,gd.length-1-0,y.cap-0⟩:=by rw[lc]
 rw[ey]at y2;clear ey;have t4:I4 Y4 bt C ge ⟨N6 y.base 0 y.cap 1,gd.length-1-0,y.cap-0⟩ s B:=t3.say rfl p4;have k13:Y4 b13=some (.c [.s tq] 9):=p4.get (fun e=>nb13 (e ▸ hB)) p3.same;have k3:Y4 b3=some (.c [fv] 46):=p4.get (fun e=>nb3 (e ▸ hB)) (g3.get e1);have s4:H1 Y B Y4 B:=by
  intro c oc hc hn;exact⟨p4.get (fun e=>hn (e ▸ hB)) ((g1.trans g3).get hc),hn⟩
 have O4:Off V Y4 B:=hO.sep s4;generalize (⟨N6 y.base 0 y.cap 1,gd.length-1-0,y.cap-0⟩:Sl)=y' at t4 y2;have hyl2:=ad9 y2;clear p4 p3 a1 a2 a3 e1 e2;refine C6 (f0 k13) (l5 (bg6 t4 tq (H2 ?_)));refine A5 ?_;intro b24 Y5 g5 e5 n5;refine C1 e5 aA6 ?_;intro Y6 p6;have g6:Gr Y4 Y6:=g5.putF p6 n5;have t6:=t4.gr g6;have s6:H1 Y B Y6 B:=s4.grR g6;have O6:=O4.gr g6;have nb24:¬B b24:=t4.fresh n5;generalize te:s.A.dirB C.gb tq=inn at hz hK p6⊢;have k24:=p6.same;refine K5 (fun j=>∀b:Bool,b=(!inn&&Nat.blt 1 gd.dropLast.length)->j (gp bt) (gp b3) (gp b13) (gp b24) b Y6) ?_ ?_
 ·intro b hb;rw[<-hb]at hz hK;have Dj:=kc tq jh;cases b with
  |true =>
   simp only[if_true]at hz hK;refine l9 rfl (j0 (C6 (f0 (g6.get k13)) ?_));have pj:=Q6 C.nm s tq 8;refine l5 (aH2 t6 tq (by decide) (by decide) il (by omega) (by omega) (aR4 ⟨by decide,by decide⟩) ?_);intro Y7 r7 t7 s7;exact H2 (hK Y7 B _ 0 t7 (s6.trans s7) (Nat.zero_le _) (hP0 hp))
  |false =>
   simp only[D2,if_false]at hz hK;refine l7 rfl ?_;have G1:Gr V (V.put b3 (.c [fv] 46)):=aD2 O6.1 (g6.get k3);have O7:=O6.add (g6.get k3) nb3;have G2:=aD2 O7.1 (g6.get k13);have O8:=O7.add (g6.get k13) nb13;have G3:=aD2 O8.1 k24;have O9:=O8.add k24 nb24;have q3:=G3.get (G2.get (H.put_same V b3 (.c [fv] 46)));have q13:=G3.get (H.put_same (V.put b3 (.c [fv] 46)) b13 (.c [.s tq] 9));have q24:=H.put_same ((V.put b3 (.c [fv] 46)).put b13 (.c [.s tq] 9)) b24 (.c [.bool inn] 4);have hy9:=((y2.gr G1).gr G2).gr G3;have ym:((bs [47]):d9).size=1:=rfl;have rc:gd.dropLast.length<=gd.length:=by rw[List.length_dropLast];omega
   refine l5 (aq2 (P:=P) (do_:=az5 do_ inn tq) hy9 (by omega) _ il (fun n hn=>C7 (kc n ((List.dropLast_sublist _).subset hn)) (by decide)) ?_ ?_ ?_ ?_ t6 O9 hp hz ?_)
   ·intro s n;exact pt _ _ _
   ·intro s n;exact mc _ _ _
   ·intro k s n hk tg;exact hP k s n _ _ hk (by omega)
   ·intro n s2 Y7 B7 k hn tg ll t7 o7 kx K' jg;have ix:=kc n ((List.dropLast_sublist _).subset hn);refine ah9 bC5 (dt7 _ _ _ _ ?_);unfold cP3;refine j0 (an2 (f0 (o7.get q24)) ?_);have vk:=aK7 n;cases inn with
    |true =>
     obtain⟨⟨nl⟩⟩:=n;have qm:nl.length<=100000:=ix;refine l9 rfl (j0 (bK3 (f0 (o7.get q3)) (j0 (C6 (f0 (o7.get q13)) (D0 (by omega) ?_)))));refine l5 (cf3 nl (by omega) (ab2 (aa6 (f0 (o7.get q13)) (aa6 (f0 (o7.get q3)) (D0 (by rw[D8];omega) ?_)))));refine al1 (step _ ⟨⟨nl⟩⟩ (H8 tq (ah6 ⟨⟨nl⟩⟩)) s2 Y7 B7 k ix (by rw[ab0];omega) (by omega) ll t7 (o7.sub (G1.trans (G2.trans G3))) kx _ ?_);intro Y8 B8 t8 s8;exact C4 (jg Y8 B8 t8 s8)
    |false =>
     refine l7 rfl (j0 (bK3 (f0 (o7.get q3)) (j0 (C6 (f0 (o7.get q13)) ?_))));refine al1 (step _ n tq s2 Y7 B7 k ix (by omega) (by omega) ll t7 (o7.sub (G1.trans (G2.trans G3))) kx _ ?_);intro Y8 B8 t8 s8;exact C4 (jg Y8 B8 t8 s8)
   ·intro Y7 B7 k t7 s7 hk hp7;exact U9 (hK Y7 B7 _ k t7 (s6.trans s7) (by omega) hp7)
 ·intro j hj;refine an2 (f0 k24) ?_;cases inn with
  |true=>exact l7 rfl (hj false rfl)
  |false =>
   refine l9 rfl (j0 (ag1 (y:=y') (f0 t6.cell) (hj _ ?_)));rw[hyl2,Bool.not_false,T8,Q9,I6,Nat.blt_eq];omega
def mvD(C:TlC)(t:TS)(a b:d9):Int×TS:=onA t (t.A.renameF C.gb a b)
theorem cf7{N:Nat}(h:I4 Y bt C ge y s B)(hO:Off V Y B)(hy:F0 V 1 (u0 gd) y)(hc:y.len<=y.cap)(ia:gd≠[])(hl:gd.length<=1000)(hI:Inv s.A/\Bd N s.A)(hN:N+1000<=1000000000000)(il:C.nm.size<=1000000)(kc:∀n∈gd,n.size<=100000)
 (hz:(TS.into C.nm C.gb (mvD C) gd s).err.size<=1000000000000) {K:KH}
 (hK:∀Y' B' y',I4 Y' bt C ge y' (TS.into C.nm C.gb (mvD C) gd s) B'->H1 Y B Y' B'->Inv (TS.into C.nm C.gb (mvD C) gd s).A/\Bd (N+gd.length) (TS.into C.nm C.gb (mvD C) gd s).A->K (.t []) Y'):i7 28 [.q bt] K Y:=by
 refine c28 _ ?_;unfold g28;refine A5 ?_;intro b2 Y1 g1 e1 n1;have nb:¬B b2:=h.fresh n1;have O1:Off (V.put b2 (ptT bt)) Y1 B:=(hO.gr g1).add e1 nb;have nt:V b2=none:=A9 hO.1 n1;refine E9 (f0 e1) (l5 (bq3 (P:=fun k s=>Inv s.A/\Bd (N+k) s.A) (do_:=mvD C) (hy.gr (Gr.put nt _)) hc ia (by omega) (.func (.func 85) ⟨[]⟩ ⟨[.q b2]⟩) (fun g Y hg=>by unfold J5;exact hg) il kc ?_ ?_ ?_ ?_ ?_ (h.gr g1) O1 hI hz ?_))
 ·intro s a b;exact aJ1 _ _ _
 ·intro s a b;exact A7 _
 ·intro k s n a b hk tg;rw[N7];have:=ay3 hk.1 hk.2 (by omega) C.gb a b;exact⟨this.inv,this.bd⟩
 ·intro hp;rw[N7];exact hp
 ·intro y' a b s Y2 B2 k ha hb tg ll t2 o2 _ K' jg;refine ah9 cf6 (c85 _ _ _ ?_);unfold g85;have k2:Y2 b2=some (ptT bt):=o2.get (H.put_same _ _ _);refine j0 (E9 (f0 k2) (j0 (E9 (f0 t2.cell) (j0 (E9 (f0 k2) (j0 (C6 (f0 t2.cell) ?_)))))));obtain⟨B0,hF,iu⟩:=t2.fs;refine l5 (cf1 ll.1 ll.2 (by omega) hF _ _ _ ?_);intro Y4 B4 F4 S4;obtain⟨B5,t5,s5⟩:=iu F4 S4;exact C4 (jg Y4 B5 t5 s5)
 ·intro Y' B' y' k t' s' hk rr;exact U9 (hK Y' B' y' t' (H1.of_gr g1 s') ⟨rr.1,rr.2.mono (by omega)⟩)
def cpD(C:TlC)(ge:d9)(t:TS)(a b:d9):Int×TS:=TS.cp C.nm C.gb ge FU t a b
theorem cf8{M:Nat}(h:I4 Y bt C ge y s B)(hO:Off V Y B)(hy:F0 V 1 (u0 gd) y)(hc:y.len<=y.cap)(ia:gd≠[])(hl:gd.length<=1000)(hp:U4 M s.A)(hM:M<=900000000000)(il:C.nm.size<=1000000)(kc:∀n∈gd,n.size<=100000)
 (hz:(TS.into C.nm C.gb (cpD C ge) gd s).err.size<=1000000000000) {K:KH}
 (hK:∀Y' B' y',I4 Y' bt C ge y' (TS.into C.nm C.gb (cpD C ge) gd s) B'->H1 Y B Y' B'->U4 M (TS.into C.nm C.gb (cpD C ge) gd s).A->K (.t []) Y'):i7 29 [.q bt] K Y:=by
 refine c29 _ ?_;unfold g29;refine l5 (bq3 (P:=fun _ s=>U4 M s.A) (do_:=cpD C ge) hy hc ia (by omega) (.func (.func 87) ⟨[.q bt]⟩ ⟨[]⟩) (fun g Y hg=>by unfold J5;exact hg) il kc ?_ ?_ ?_ ?_ ?_ h hO hp hz ?_)
 ·intro s a b;exact cr9 _ _ _ _ _ _ _
 ·intro s a b;exact be4 _ _ _ _ _ _ _
 ·intro k s n a b hk tg;rw[N7];exact U4.cp (by omega) _ _ _ _ _ _ _ hk
 ·intro hp;rw[N7];exact hp
 ·intro y' a b s Y2 B2 k ha hb tg ll t2 o2 kx K' jg;refine bb0 bq1 ?_;have hFU:FU=300:=rfl;exact bC4 hM il FU a b s Y2 B2 K' (by omega) (by omega) (by omega) (by omega) t2 ll kx jg
 ·intro Y' B' y' k t' s' hk rr;exact U9 (hK Y' B' y' t' s' rr)
end
end
section
open Go.RowKit Go.Maps Go.Sort Go.Shelf
theorem aH3(l:List d9):(u0 l).flatten=l.map Value.string:=by
 induction l with
 |nil=>rfl
 |cons a r ih =>
  have ih:(r.map fun s=>[Value.string s]).flatten=r.map Value.string:=ih;simp[u0,ih]
theorem cA9{ρ Y:H}{l:List d9}{x:Sl}(h:Q8 ρ Y 9 1 (u0 l) x)(hn:l.length<=4000000000000000000){K:KH}(hK:∀Y',Q8 ρ Y' 9 1 (u0 (E7 l)) x->K (.t []) Y') :
 i7 90 [.slice x.base x.len x.cap] K Y:=by
 intro w hw;have Fs:(l.map fun s=>s.data.toList).mergeSort (fun x y=>decide (x<=y))=(E7 l).map fun s=>s.data.toList:=by
  rw[<-bo8];unfold az2;rw[List.map_map];have:((fun s:d9=>s.data.toList)∘fun x:List J3=>(⟨⟨x⟩⟩:d9))=id:=rfl;rw[this,List.map_id]
 have kb:x.len=l.length:=by rw[h.len];simp[u0]
 obtain⟨h1,h2,h3⟩:=h;obtain⟨q1,q2,⟨q3,q4,q5⟩|⟨g,cur,q3,q4,q5,q6,q7⟩⟩:=id h2
 ·have hl:l=[]:=by simpa[u0]using q5
  subst hl;have e0:x.len=0:=kb;have hsn:E7 []=[]:=rfl;rw[e0];refine callsIn_wide.2 ((AnyM.slices_Sort_string_none Tryz.sort90 x.base x.cap w).mono ?_)
  rintro en w' ⟨rfl,rfl⟩
  refine⟨_,rfl,Y,⟨hw,A7 _,fun b _ _=>rfl,fun b o hb hn=>(by rw[hb]at hn;cases hn),rfl,rfl,rfl⟩,hK Y (by rw[hsn];exact⟨h1,h2,h3⟩)⟩
 ·have vg:w.heap[g]?=some (.cells ⟨cur⟩ 9 (0,0)):=hw g _ q4;rw[aH3,ao9,kb]at q7;have hlc:l.length<=cur.length:=by rw[q5,ao9];omega
  have gx:∀ (j:Nat) (s:d9),l[j]?=some s->cur[j]?=some (Value.string s):=by
   intro j s hj;have hjl:j<l.length:=by
    rcases U8 j l.length with h|h
    ·exact h
    ·rw[aa4 h]at hj;cases hj
   have:(cur.take l.length)[j]?=some (Value.string s):=by rw[q7,Z6,hj];rfl
   rw[List.getElem?_take_of_lt hjl]at this;exact this
  have hH:Holds encStr w g 0 (l.map fun s=>s.data.toList).toArray:=by
   intro j hj;have ip:j<l.length:=by simpa using hj
   refine⟨?_,?_⟩
   ·unfold World.cell?;simp only[vg,Option.isSome_none,D2,if_false];have:=gx j l[j] (G0 ip);rw[getElem!_pos _ j hj];simp only[al5,List.getElem?_toArray,this];simp[encStr]
   ·unfold World.frozen?;simp only[vg];simp
  rw[q3,kb];have hc:=AnyM.slices_Sort_string Tryz.sort90 g 0 x.cap (l.map fun s=>s.data.toList) w hH (hw.lt q4) (by rw[Q0];omega);rw[Q0]at hc;refine callsIn_wide.2 (hc.mono ?_)
  rintro en w' ⟨rfl,n,os,rfl⟩
  rw[Fs];generalize hS:E7 l=S at hK⊢;have hSl:S.length=l.length:=by rw[<-hS];exact(I7 l).length_eq
  let d:Array (List J3):=(S.map fun s=>s.data.toList).toArray
  have hds:d.size=l.length:=by show((S.map fun s=>s.data.toList).toArray).size=_;simp[hSl]
  have oi:(grow (putRow encStr (Sort.ahead w n) g 0 d) os).heap[g]?=some (.cells (putCells encStr 0 d ⟨cur⟩) 9 (0,0)):=by
   rw[heap_grow_old _ _ (by rw[size_putRow];exact hw.lt q4)];show((Sort.ahead w n).heap.modify g (onCells _))[g]?=_;rw[Array.getElem?_modify,d8 rfl];show Option.map _ w.heap[g]?=_;rw[vg];rfl
  have un:∀b,b<w.heap.size->b≠g->(grow (putRow encStr (Sort.ahead w n) g 0 d) os).heap[b]?=w.heap[b]?:=by
   intro b hb hbg;rw[heap_grow_old _ _ (by rw[size_putRow];exact hb)];show((Sort.ahead w n).heap.modify g (onCells _))[b]?=_;rw[Array.getElem?_modify,d7 (fun e=>hbg e.symm)];rfl
  have Cc:(putCells encStr 0 d ⟨cur⟩).toList.length=cur.length:=by unfold putCells;simp
  have vx:(putCells encStr 0 d ⟨cur⟩).toList.take l.length=S.map Value.string:=by
   refine List.ext_getElem? fun k=>?_;by_cases hk:k<l.length
   ·rw[List.getElem?_take_of_lt hk,Z6];obtain⟨s,hs⟩:∃s,S[k]?=some s:=⟨_,G0 (by omega)⟩;rw[hs];unfold putCells;rw[Array.getElem?_toList,Array.getElem?_mapIdx];have hkc:k<cur.length:=by omega
    have e1:(⟨cur⟩:Array u9)[k]?=some cur[k]:=by rw[List.getElem?_toArray];exact G0 hkc
    rw[e1,Option.map_some,d8 ⟨by omega,by omega⟩,Nat.sub_zero];have e2:d[k]! = s.data.toList:=by
     rw[getElem!_pos d k (by omega)];show((S.map fun s=>s.data.toList).toArray)[k]'_=_;rw[List.getElem_toArray,List.getElem_map];rw[G0 (by omega)]at hs;rw[Option.some.inj hs]
    rw[e2];rfl
   ·rw[List.getElem?_take_eq_none (by omega),aa4 (by rw[Q0];omega)]
  have pi:Q8 ρ (Y.put g (.cells (putCells encStr 0 d ⟨cur⟩) 9 (0,0))) 9 1 (u0 S) x:=by
   refine⟨ac6 fun b o hb=>?_,⟨by rw[kb];simp[u0,hSl],?_,.inr ⟨g,(putCells encStr 0 d ⟨cur⟩).toList,q3,H.put_same _ _ _,by rw[Cc];exact q5,q6,?_⟩⟩,h3⟩
   ·rw[H.put_other _ _ (fun e=>by rw[e,h3 g q3]at hb;cases hb)];exact h1.get hb
   ·intro r hr;obtain⟨s,_,rfl⟩:=K0.1 hr;rfl
   ·rw[aH3,ao9,kb];exact vx
  refine⟨_,rfl,Y.put g (.cells (putCells encStr 0 d ⟨cur⟩) 9 (0,0)),⟨fun b o hb=>?_,?_,fun b hb hn=>?_,fun b o hb hn=>?_,rfl,rfl,rfl⟩,hK _ pi⟩
  ·by_cases e:b=g
   ·subst e;rw[H.put_same]at hb;cases hb;exact oi
   ·rw[H.put_other _ _ e]at hb;rw[un b (hw.lt hb) e];exact hw b o hb
  ·show w.heap.size<=(grow (putRow encStr (Sort.ahead w n) g 0 d) os).heap.size;show _<=((putRow encStr (Sort.ahead w n) g 0 d).heap++os).size;rw[Array.size_append,size_putRow];exact Nat.le_add_right _ _
  ·exact un b hb (fun e=>by rw[e,q4]at hn;cases hn)
  ·by_cases e:b=g
   ·subst e;rw[q4]at hn;cases hn
   ·rw[H.put_other _ _ e,hn]at hb;cases hb
end
section
def aj6(ge:d9)(t:TS)(n:d9):TS:=if !C8 46 n||I8 ge 97 then t.say n else t
theorem aU3(gb ge:d9)(head:Bool)(s:TS)(gc:d9):TS.gm gb ge head s gc=(s.A.listF gb gc).2.foldl (aj6 ge) (if head then s.say (gc++(bs [58]))else s):=by
 cases head<;>rfl
theorem bg9(ge:d9):∀ (l:List d9) (t:TS),(l.foldl (aj6 ge) t).A=t.A/\(l.foldl (aj6 ge) t).err=t.err/\t.out.size<=(l.foldl (aj6 ge) t).out.size:=by
 intro l
 induction l with
 |nil=>intro t;exact⟨rfl,rfl,A7 _⟩
 |cons n r ih =>
  intro t;rw[H3];obtain⟨h1,h2,h3⟩:=ih (aj6 ge t n);rw[h1,h2];refine⟨?_,?_,C7 ?_ h3⟩
  ·unfold aj6;split<;>rfl
  ·unfold aj6;split<;>rfl
  ·unfold aj6;split
   ·show t.out.size<=(t.out++n++(bs [10])).size;rw[D8,D8];omega
   ·exact A7 _
theorem X4(t:TS)(l:d9):(t.say l).out.size=t.out.size+l.size+1:=by
 show(t.out++l++(bs [10])).size=_;rw[D8,D8];rfl
theorem aN7(gb ge:d9)(head:Bool)(s:TS)(gc:d9):(TS.gm gb ge head s gc).A=s.A/\(TS.gm gb ge head s gc).err=s.err/\s.out.size<=(TS.gm gb ge head s gc).out.size:=by
 rw[aU3];obtain⟨h1,h2,h3⟩:=bg9 ge (s.A.listF gb gc).2 (if head then s.say (gc++(bs [58]))else s);rw[h1,h2];refine⟨by cases head<;>rfl,by cases head<;>rfl,C7 ?_ h3⟩;cases head with
 |true =>
  show s.out.size<=(s.say (gc++(bs [58]))).out.size;rw[X4];omega
 |false=>exact A7 _
theorem ao2(gb ge:d9)(head:Bool):∀ (l:List d9) (s:TS),(l.foldl (TS.gm gb ge head) s).A=s.A/\(l.foldl (TS.gm gb ge head) s).err=s.err/\s.out.size<=(l.foldl (TS.gm gb ge head) s).out.size:=by
 intro l
 induction l with
 |nil=>intro t;exact⟨rfl,rfl,A7 _⟩
 |cons n r ih =>
  intro t;rw[H3];obtain⟨h1,h2,h3⟩:=ih (TS.gm gb ge head t n);obtain⟨h4,h5,h6⟩:=aN7 gb ge head t n;rw[h1,h2];exact⟨h4,h5,C7 h6 h3⟩
theorem aB1:∀ (l:List d9) (s:TS),(l.foldl TS.say s).A=s.A/\(l.foldl TS.say s).err=s.err/\s.out.size<=(l.foldl TS.say s).out.size:=by
 intro l
 induction l with
 |nil=>intro t;exact⟨rfl,rfl,A7 _⟩
 |cons n r ih =>
  intro t;rw[H3];obtain⟨h1,h2,h3⟩:=ih (t.say n);rw[h1,h2];refine⟨rfl,rfl,C7 ?_ h3⟩;rw[X4];omega
theorem aB2(nm gb n:d9)(r:List d9)(s:TS)(p d:List d9):TS.sift nm gb (n::r) s p d=if s.full then(s,p,d)else if s.A.dirB gb n then TS.sift nm gb r s p (d++[n])else TS.sift nm gb r (s.fail nm n (if(s.A.stat gb n true).1==0 then(s.A.stat gb n true).1 else(s.A.stat gb n false).1)) (if(if(s.A.stat gb n true).1==0 then(s.A.stat gb n true).1 else(s.A.stat gb n false).1)==0 then p++[n]else p) d:=rfl
theorem at9(nm gb:d9):∀ (l:List d9) (s:TS) (p d:List d9),(TS.sift nm gb l s p d).1.A=s.A/\s.err.size<=(TS.sift nm gb l s p d).1.err.size/\(TS.sift nm gb l s p d).1.out=s.out/\(TS.sift nm gb l s p d).2.1.length<=p.length+l.length/\(TS.sift nm gb l s p d).2.2.length<=d.length+l.length:=by
 intro l
 induction l with
 |nil=>intro s p d;exact⟨rfl,A7 _,rfl,A7 _,A7 _⟩
 |cons n r ih =>
  intro s p d;rw[aB2,H4];split
  ·exact⟨rfl,A7 _,rfl,by show p.length<=_;omega,by show d.length<=_;omega⟩
  ·split
   ·obtain⟨h1,h2,h3,h4,h5⟩:=ih s p (d++[n]);rw[P3,ai1]at h5;exact⟨h1,h2,h3,by omega,by omega⟩
   ·generalize (if(s.A.stat gb n true).1==0 then(s.A.stat gb n true).1 else(s.A.stat gb n false).1)=e;obtain⟨h1,h2,h3,h4,h5⟩:=ih (s.fail nm n e) (if e==0 then p++[n]else p) d;refine⟨h1.trans (N7 _ _ _ _),C7 (Q6 _ _ _ _) h2,h3.trans (ap7 _ _ _ _),C7 h4 ?_,by omega⟩;split
    ·rw[P3,ai1];omega
    ·omega
theorem cB0(o p:d9):o++(p++(bs [58,10]))=o++(p++(bs [58]))++(bs [10]):=by
 rw[ByteArray.append_assoc,ByteArray.append_assoc];rfl
theorem cf9(o p:d9):o++(p++(bs [10]))=o++p++(bs [10]):=by
 rw[ByteArray.append_assoc]
theorem aB3(Y:H)(B:Nat->Prop):∃V,Off V Y B/\∀b o,Y b=some o->¬B b->V b=some o:=by
 classical
 refine⟨fun b=>if B b then none else Y b,⟨ac6 fun b o hb=>?_,fun b o hb hB=>?_⟩,fun b o hb hB=>?_⟩
 ·by_cases hB:B b
  ·simp only[d8 hB]at hb;cases hb
  ·simp only[d7 hB]at hb;exact hb
 ·simp only[d8 hB]at hb;cases hb
 ·simp only[d7 hB];exact hb
attribute [local irreducible] i9 E3 A0 I9 l8 H0 C0 stW muW biW W7 imW J0 G8 app E2 J1 D3 E6 oW P0 J5 C9 rfW N5 M9 D5 exW I2 Gr P1
section
variable {Y:H} {bt:Nat} {C:TlC} {ge:d9} {y:Sl} {s:TS} {B:Nat->Prop}
theorem bC6{N:Nat}(h:I4 Y bt C ge y s B)(hI:Inv s.A)(jm:Bd N s.A)(hN:N<=1000000000000)(gc:d9)(head:Bool)(hz:(TS.gm C.gb ge head s gc).out.size<=1000000000000){K:KH}
 (hK:∀Y',I4 Y' bt C ge y (TS.gm C.gb ge head s gc) B->H1 Y B Y' B->K (.t []) Y'):i7 91 [.q bt,.s gc,.bool head] K Y:=by
 refine c91 _ _ _ ?_;unfold g91;have hB:B bt:=by obtain⟨_,_,_,_,q⟩:=h;exact(q bt).2 (.inr rfl)
 have sep:∀ {V V':H} {o:Obj},P1 V bt o V'->H1 V B V' B:=fun hp c oc rq hn=>⟨hp.get (fun e=>hn (e ▸ hB)) rq,hn⟩;rw[aU3]at hz hK;generalize ud:(if head then s.say (gc++(bs [58]))else s)=s0 at hz hK;have Dk:s0.A=s.A:=by rw[<-ud];cases head<;>rfl
 refine K5 (fun j=>∀Y',I4 Y' bt C ge y s0 B->H1 Y B Y' B->j (gp bt) gc Y') ?_ ?_
 ·intro Y2 t2 s2;refine j0 (E9 (f0 t2.cell) (j0 (C6 (f0 t2.cell) ?_)));obtain⟨B0,hF,_⟩:=t2.fs;rw[Dk]at hF;refine l5 (aO8 hI jm hN hF _ _ ?_);intro x Y3 hx;have ig:∀n∈(s.A.listF C.gb gc).2,W1 n/\W2 n:=fun n hn=>ae8 hI hn;have ju:=ah8 (gb:=C.gb) (gc:=gc) jm;generalize s.A.listF C.gb gc=L at hx hz hK ig ju⊢;obtain⟨le,gd⟩:=L;simp only at hx hz hK ig ju
  (refine l6 rfl ?_;try dsimp only)
  obtain⟨V,O3,vi,_⟩:=ar4 (B:=B) (fun b hb=>t2.has hb) hx;have kb:=ad9 vi;refine H9 ?_;intro R hR;have key:∀ (k i:Nat) (s1:TS) (Y1:H),k+i=gd.length->I4 Y1 bt C ge y s1 B->H1 Y B Y1 B->Off V Y1 B->(gd.drop i).foldl (aj6 ge) s1=gd.foldl (aj6 ge) s0->R (gp bt) x ((x.len:Nat):Int) (i:Int) Y1:=by
   intro k
   induction k with
   |zero =>
    intro i s1 Y1 hk t1 ss o1 jk;rw[M3 (by omega)]at jk;have jk:s1=gd.foldl (aj6 ge) s0:=jk;refine hR _ _ _ _ _ ?_;rw[<-jk]at hK;exact l7 (W4 (by omega)) (hK Y1 t1 ss)
   |succ k ihk =>
    intro i s1 Y1 hk t1 ss o1 jk;obtain⟨n,hn⟩:∃n,gd[i]?=some n:=⟨_,G0 (by omega)⟩;obtain⟨g,o,a1,a2,a3⟩:=Z8 (vi.gr o1.1) hn;have jp:=ig n (K7 hn);rw[S9 hn,H3]at jk;refine hR _ _ _ _ _ (l9 (M7 (by omega)) ?_);refine K5 (fun j=>∀Y',I4 Y' bt C ge y (aj6 ge s1 n) B->H1 Y B Y' B->Off V Y' B->j (gp bt) x ((x.len:Nat):Int) (i:Int) Y') ?_ ?_
    ·intro Y5 t5 s5 o5;rw[ab9 (i:=i)];exact ihk (i+1) _ Y5 (by omega) t5 s5 o5 jk
    ·intro j hj;rw[a1];refine j0 (D0 ⟨by omega,by omega⟩ (C6 a3 ?_));refine K5 (fun j=>∀b:Bool,b=(!C8 46 n||I8 ge 97)->j (gp bt) n x ((x.len:Nat):Int) (i:Int) b Y1) ?_ ?_
     ·intro b hb;have vk:aj6 ge s1 n=if b then s1.say n else s1:=by rw[hb];rfl
      rw[vk]at hj;cases b with
      |false=>exact l7 rfl (hj Y1 t1 ss o1)
      |true =>
       have ki:=(bg9 ge (gd.drop (i+1)) (aj6 ge s1 n)).2.2;rw[jk,vk,d8 rfl,X4]at ki;rw[d8 rfl]at hj;refine l9 rfl (j0 (C6 (f0 t1.cell) (D0 (by show n.size+1<=_;omega) (D0 (by rw[D8];show _+(n.size+1)<=_;omega) (j0 ?_)))));rw[cf9];refine C1 t1.cell U3 ?_;intro Y5 p5;exact hj Y5 (t1.say (s':=s1.say n) rfl p5) (ss.trans (sep p5)) (o1.sep (sep p5))
     ·intro j hj;obtain⟨c,hc,hh⟩:=bl9 (aG1 jp.1);refine X9 (by omega) hc ?_;rw[show((((c.toNat:Nat):Int):Int) != 46)=!(c==46)from J7 Bool.not (u8e c 46),<- hh];cases h46:C8 46 n with
      |false=>exact l9 rfl (hj true (by rw[h46];rfl))
      |true=>exact l7 rfl (l5 (ao1 t1 97 (H2 (hj _ (by rw[h46];rfl)))))
  exact key gd.length 0 s0 Y3 (by omega) (t2.gr hx.1) (s2.grR hx.1) O3 rfl
 ·intro j hj;cases head with
  |false =>
   have ud:s=s0:=ud;subst ud;exact l7 rfl (hj Y h (H1.refl _ _))
  |true =>
   have ud:s.say (gc++(bs [58]))=s0:=ud;have ki:=(bg9 ge (s.A.listF C.gb gc).2 s0).2.2;have hsz:s0.out.size=s.out.size+(gc.size+1)+1:=by rw[<-ud,X4,D8];rfl
   refine l9 rfl (j0 (C6 (f0 h.cell) (D0 (by show gc.size+2<=_;omega) (D0 (by rw[D8];show _+(gc.size+2)<=_;omega) (j0 ?_)))));rw[cB0];refine C1 h.cell U3 ?_;intro Y5 p5;subst ud;exact hj Y5 (h.say (got':=ge) (y':=y) (s':=s.say (gc++((bs [58]):d9))) rfl p5) (sep p5)
end
end
section
structure az6(ρ Y:H)(b5 b6:Nat)(p d:List d9)(xp xd:Sl):Prop where
 op:E0 Y 9 1 (u0 p) xp
 od:E0 Y 9 1 (u0 d) xd
 np:∀g,xp.base=some ⟨g,0,none⟩->ρ g=none
 nd:∀g,xd.base=some ⟨g,0,none⟩->ρ g=none
 ap:∀g,xp.base=some ⟨g,0,none⟩->xd.base≠some ⟨g,0,none⟩
 c5:Y b5=some (.c [.slice xp.base xp.len xp.cap] 30)
 c6:Y b6=some (.c [.slice xd.base xd.len xd.cap] 30)
attribute [local irreducible] i9 E3 A0 I9 l8 H0 C0 stW muW biW W7 imW J0 G8 app E2 J1 D3 E6 oW P0 J5 C9 rfW N5 M9 D5 exW I2 Gr P1
theorem cg0:ElT Tryz.prog 30 9 1:=bX2 (by kernel_rfl) (by decide) (by kernel_rfl)
section
variable {ρ Y Y':H} {b5 b6:Nat} {p d:List d9} {xp xd:Sl}
theorem az6.symm(G:az6 ρ Y b5 b6 p d xp xd):az6 ρ Y b6 b5 d p xd xp:=⟨G.od,G.op,G.nd,G.np,fun g h e=>G.ap g e h,G.c6,G.c5⟩
theorem az6.stay(G:az6 ρ Y b5 b6 p d xp xd)(h5:ρ b5≠none)(h6:ρ b6≠none)(hk:∀c o,Y c=some o->(ρ c=none\/c=b5\/c=b6)->Y' c=some o):az6 ρ Y' b5 b6 p d xp xd :=
 ⟨G.op.keep fun g o hg ho=>hk g o ho (.inl (G.np g hg)),G.od.keep fun g o hg ho=>hk g o ho (.inl (G.nd g hg)),G.np,G.nd,G.ap,hk _ _ G.c5 (.inr (.inl rfl)),hk _ _ G.c6 (.inr (.inr rfl))⟩
def bh0(ρ Y Y':H)(b:Nat):Prop:=∃Y1 Y2 o,Gr Y Y1/\((∃g o',ρ g=none/\P1 Y1 g o' Y2)\/Gr Y1 Y2)/\P1 Y2 b o Y'
theorem bh0.get{b c:Nat}{o:Obj}(h:bh0 ρ Y Y' b)(hc:ρ c≠none)(hb:c≠b)(ho:Y c=some o):Y' c=some o:=by
 obtain⟨Y1,Y2,o1,h1,h2,h3⟩:=h;refine h3.get hb ?_;rcases h2 with⟨g,o',hg,hp⟩|hg
 ·exact hp.get (fun e=>hc (e ▸ hg)) (h1.get ho)
 ·exact hg.get (h1.get ho)
theorem az6.push(G:az6 ρ Y b5 b6 p d xp xd)(hk:∀c,ρ c≠none->Y c≠none)(h5:ρ b5≠none)(h6:ρ b6≠none)(h56:b5≠b6)(n:d9)(hl:p.length<1000000000){F:H->Prop}
 (hF:∀xp' Y',az6 ρ Y' b5 b6 (p++[n]) d xp' xd->bh0 ρ Y Y' b5->F Y') :
 H0 (.c [.s n] 9) (fun b=>ac9 .append #[30,30] 30 [false,false] [.slice xp.base xp.len xp.cap,.slice (gp b) 1 1] (.one (.sc .slc)) (fun x=>A3 30 (.q b5) (.slice x.base x.len x.cap) F)) Y:=by
 refine A5 ?_;intro b Y1 g1 e1 n1;obtain⟨h1,h0,i,z,i1,i2,i3,i4,i5⟩:=cg0;refine ax4 h1 i1 i2 i3 rfl i5 h0 (G.op.gr g1) e1 rfl (fun u hu=>by rw[T9.1 hu];rfl) (by rw[Z7];exact hl) (C7 i4 (by decide)) ?_;intro x Y2 hx hc;have k5:=g1.get G.c5;have k6:=g1.get G.c6;have jv:E0 Y2 9 1 (u0 (p++[n])) x:=by
  have e:u0 (p++[n])=u0 p++[[.s n]]:=by unfold u0;rw[List.map_append];rfl
  rw[e];exact hx
 have q5:Y2 b5=some (.c [.slice xp.base xp.len xp.cap] 30):=by
  rcases hc with⟨g,o,c1,c2,c3⟩|⟨g,c1,c2,c3⟩
  ·exact c3.get (fun e=>h5 (e ▸ G.np g c1)) k5
  ·exact c3.get k5
 have q6:Y2 b6=some (.c [.slice xd.base xd.len xd.cap] 30):=by
  rcases hc with⟨g,o,c1,c2,c3⟩|⟨g,c1,c2,c3⟩
  ·exact c3.get (fun e=>h6 (e ▸ G.np g c1)) k6
  ·exact c3.get k6
 refine C1 q5 al4 ?_;intro Y3 p3;have oi:∀g,x.base=some ⟨g,0,none⟩->ρ g=none/\xd.base≠some ⟨g,0,none⟩:=by
  intro g hg;rcases hc with⟨g',o,c1,c2,c3⟩|⟨g',c1,c2,c3⟩
  ·rw[c2]at hg;exact⟨G.np g hg,G.ap g hg⟩
  ·rw[c1]at hg;injection hg with hg
   injection hg with hg
   subst hg;have hs:=A9 g1 c2;refine⟨?_,fun e=>G.od.has e hs⟩;cases hr:ρ g' with
   |none=>rfl
   |some o=>exact m7 hs (hk g' (by rw[hr];simp))
 have od2:E0 Y2 9 1 (u0 d) xd:=by
  rcases hc with⟨g,o,c1,c2,c3⟩|⟨g,c1,c2,c3⟩
  ·exact(G.od.gr g1).put c3 (G.ap g c1)
  ·exact(G.od.gr g1).gr c3
 refine hF x Y3 ⟨jv.put p3 (fun e=>h5 (oi b5 e).1),od2.put p3 (fun e=>h5 (G.nd b5 e)),fun g hg=>(oi g hg).1,G.nd,fun g hg=>(oi g hg).2,p3.same,p3.get h56.symm q6⟩ ⟨Y1,Y2,_,g1,?_,p3⟩;rcases hc with⟨g,o,c1,c2,c3⟩|⟨g,c1,c2,c3⟩
 ·exact .inl ⟨g,o,G.np g c1,c3⟩
 ·exact .inr c3
end
section
variable {ρ Y Y' V:H} {bt:Nat} {C:TlC} {ge:d9} {y:Sl} {s:TS} {B:Nat->Prop} {gd:List d9}
theorem I4.pushed{b:Nat}(h:I4 Y bt C ge y s B)(hp:bh0 ρ Y Y' b)(hB:∀c,B c->ρ c≠none)(hb:¬B b):I4 Y' bt C ge y s B:=by
 obtain⟨Y1,Y2,o1,h1,h2,h3⟩:=hp;refine I4.put ?_ h3 hb;rcases h2 with⟨g,o',hg,hp⟩|hg
 ·exact(h.gr h1).put hp (fun e=>hB g e hg)
 ·exact(h.gr h1).gr hg
theorem cg1:Z0 Tryz.prog 88=true:=by kernel_rfl
structure LsI(ρ:H)(bt b5 b6:Nat)(C:TlC)(ge:d9)(y:Sl)(B:Nat->Prop)(A:AT)(fin:TS×List d9×List d9)(m:Nat)(r:List d9)(s:TS)(Y:H):Prop where
 tl:I4 Y bt C ge y s B
 keep:∀c o,ρ c=some o->c≠b5->c≠b6->¬B c->Y c=some o
 sf:s.A=A
 ex:∃p d xp xd,az6 ρ Y b5 b6 p d xp xd/\TS.sift C.nm C.gb r s p d=fin/\p.length+r.length<=m/\d.length+r.length<=m
structure LsH(ρ:H)(bt b2 b5 b6:Nat)(B:Nat->Prop):Prop where
 h2:ρ b2=some (ptT bt)
 h5:ρ b5≠none
 h6:ρ b6≠none
 h25:b2≠b5
 h26:b2≠b6
 h56:b5≠b6
 n2:¬B b2
 n5:¬B b5
 n6:¬B b6
 has:∀c,B c->ρ c≠none
variable {b2 b5 b6 m:Nat} {A:AT} {fin:TS × List d9 × List d9}
theorem LsI.alive(W:LsH ρ bt b2 b5 b6 B){r:List d9}(h:LsI ρ bt b5 b6 C ge y B A fin m r s Y){c:Nat}(hc:ρ c≠none):Y c≠none:=by
 by_cases h5:c=b5
 ·obtain⟨p,d,xp,xd,G,_⟩:=h.ex;rw[h5,G.c5];simp
 by_cases h6:c=b6
 ·obtain⟨p,d,xp,xd,G,_⟩:=h.ex;rw[h6,G.c6];simp
 by_cases hB:B c
 ·exact h.tl.has hB
 ·cases hr:ρ c with
  |none=>exact m7 hr hc
  |some o=>rw[h.keep c o hr h5 h6 hB];simp
theorem LsI.sep(W:LsH ρ bt b2 b5 b6 B){r:List d9}(h:LsI ρ bt b5 b6 C ge y B A fin m r s Y){s':TS}(hs:H1 Y B Y' B)(ht:I4 Y' bt C ge y s' B)(hA:s'.A=A){r':List d9}(hx:∀p d,TS.sift C.nm C.gb r s p d=fin->TS.sift C.nm C.gb r' s' p d=fin)(hr:r'.length<=r.length):LsI ρ bt b5 b6 C ge y B A fin m r' s' Y':=by
 obtain⟨p,d,xp,xd,G,h1,h2,h3⟩:=h.ex;refine⟨ht,fun c o hc h5 h6 hB=>(hs c o (h.keep c o hc h5 h6 hB) hB).1,hA,p,d,xp,xd,G.stay W.h5 W.h6 (fun c o hc hw=>(hs c o hc ?_).1),hx p d h1,by omega,by omega⟩;rcases hw with e|e|e
 ·exact fun hB=>W.has c hB e
 ·subst e;exact W.n5
 ·subst e;exact W.n6
theorem co5(W:LsH ρ bt b2 b5 b6 B){n:d9}{r:List d9}(h:LsI ρ bt b5 b6 C ge y B A fin m (n::r) s Y)(hf:s.full=false)(hm:m<=1000000){K:KH}
 (hK:∀e Y',Er e->I4 Y' bt C ge y s B->(∀c o,ρ c=some o->c≠b5->c≠b6->¬B c->Y' c=some o)->(∀Y2,I4 Y2 bt C ge y (s.fail C.nm n e) B->H1 Y' B Y2 B->LsI ρ bt b5 b6 C ge y B A fin m r (s.fail C.nm n e) Y2)->K (.i e) Y') :
 D3 Tryz.prog (.func (.func 88) ⟨[]⟩ ⟨[.q b2,.q b6,.q b5]⟩) [.s n] K Y:=by
 refine ah9 cg1 (c88 _ _ _ _ ?_);unfold g88;obtain⟨p,d,xp,xd,G,h1,h2,h3⟩:=h.ex;rw[H4]at h2 h3;have k2:Y b2=some (ptT bt):=h.keep b2 _ W.h2 W.h25 W.h26 W.n2;rw[aB2,hf]at h1;simp only[D2,if_false]at h1;refine j0 (E9 (f0 k2) (l5 (bg6 h.tl n (H2 ?_))));cases hd:s.A.dirB C.gb n with
 |true =>
  rw[hd,d8 rfl]at h1;refine l9 rfl (j0 (ag1 (y:=xd) (f0 G.c6) ?_));refine G.symm.push (fun c hc=>h.alive W hc) W.h6 W.h5 W.h56.symm n (by omega) ?_;intro x Y3 G3 hp;have t3:=h.tl.pushed hp W.has W.n6;have oq:∀c o,ρ c=some o->c≠b5->c≠b6->¬B c->Y3 c=some o:=fun c o hc q5 q6 hB=>hp.get (by rw[hc];simp) q6 (h.keep c o hc q5 q6 hB);refine hK 0 Y3 aa1 t3 oq ?_;intro Y4 t4 s4;have I3:LsI ρ bt b5 b6 C ge y B A fin m r s Y3:=⟨t3,oq,h.sf,p,d++[n],xp,x,G3.symm,h1,by omega,by rw[P3,ai1];omega⟩;exact I3.sep W s4 t4 h.sf (fun p d q=>q) (A7 _)
 |false =>
  rw[hd,d7 (by simp)]at h1;refine l7 rfl (j0 (E9 (f0 k2) (l5 (aj5 h.tl n true ?_))));unfold inV
  (refine l6 rfl ?_;try dsimp only)
  refine A5 ?_;intro b22 Y1 g1 e1 n1;refine C1 e1 W5 ?_;intro Y2 p2;have g2:Gr Y Y2:=g1.putF p2 n1;have t2:=h.tl.gr g2;clear p2 e1 g1;have yy:Er (s.A.stat C.gb n true).1:=ad7 _ _ _;have her2:Er (s.A.stat C.gb n false).1:=ad7 _ _ _;generalize hE:(if(s.A.stat C.gb n true).1==0 then(s.A.stat C.gb n true).1 else(s.A.stat C.gb n false).1)=e at h1;have hEr:Er e:=by rw[<-hE];exact W3 yy her2
  have G2:az6 ρ Y2 b5 b6 p d xp xd:=G.stay W.h5 W.h6 fun c o hc _=>g2.get hc;have kp2:∀c o,ρ c=some o->c≠b5->c≠b6->¬B c->Y2 c=some o:=fun c o hc q5 q6 hB=>g2.get (h.keep c o hc q5 q6 hB);have k22:=g2.get k2;refine K5 (fun j=>j n (gp b5) e Y2) ?_ ?_
  ·refine j_d ?_;cases h0:e==0 with
   |true =>
    rw[h0,d8 rfl]at h1;have h0:e=0:=by simpa using h0
    subst h0;refine l9 rfl (j0 (ag1 (y:=xp) (f0 G2.c5) ?_));refine G2.push (fun c hc=>?_) W.h5 W.h6 W.h56 n (by omega) ?_
    ·intro hn;exact h.alive W hc (A9 g2 hn)
    intro x Y3 G3 hp;have t3:=t2.pushed hp W.has W.n5;have oq:∀c o,ρ c=some o->c≠b5->c≠b6->¬B c->Y3 c=some o:=fun c o hc q5 q6 hB=>hp.get (by rw[hc];simp) q5 (kp2 c o hc q5 q6 hB);refine hK 0 Y3 aa1 t3 oq ?_;intro Y4 t4 s4;have I3:LsI ρ bt b5 b6 C ge y B A fin m r s Y3:=⟨t3,oq,h.sf,p++[n],d,x,xd,G3,h1,by rw[P3,ai1];omega,by omega⟩;exact I3.sep W s4 t4 h.sf (fun p d q=>q) (A7 _)
   |false =>
    rw[h0,d7 (by simp)]at h1;refine l7 rfl (hK e Y2 hEr t2 kp2 ?_);intro Y4 t4 s4;refine⟨t4,fun c o hc q5 q6 hB=>(s4 c o (kp2 c o hc q5 q6 hB) hB).1,(N7 _ _ _ _).trans h.sf,p,d,xp,xd,G2.stay W.h5 W.h6 (fun c o hc hw=>(s4 c o hc ?_).1),h1,by omega,by omega⟩;rcases hw with e|e|e
    ·exact fun hB=>W.has c hB e
    ·subst e;exact W.n5
    ·subst e;exact W.n6
  ·intro j hj;cases h0:(s.A.stat C.gb n true).1==0 with
   |true =>
    rw[h0,d8 rfl]at hE;subst hE;exact l7 (by rw[bne,h0];rfl) hj
   |false =>
    rw[h0,d7 (by simp)]at hE;subst hE;refine l9 (by rw[bne,h0];rfl) (j0 (E9 (f0 k22) (l5 (aj5 t2 n false ?_))));unfold inV
    (refine l6 rfl ?_;try dsimp only)
    exact hj
end
end
section
theorem bC7(nm gb ge:d9)(gd nm':List d9)(h:nm'=if gd.isEmpty then [bs [46]]else gd)(s:TS):TS.ls nm gb ge gd s=(TS.sift nm gb nm' s [] []).2.2.foldl (TS.gm gb ge (Nat.blt 1 nm'.length)) ((E7 (TS.sift nm gb nm' s [] []).2.1).foldl TS.say (TS.sift nm gb nm' s [] []).1):=by
 subst h;rfl
theorem bQ3{nm gb:d9}{r:List d9}{s:TS}(h:s.full=true)(p d:List d9):TS.sift nm gb r s p d=(s,p,d):=by
 cases r with
 |nil=>rfl
 |cons n r=>rw[aB2,h];rfl
attribute [local irreducible] i9 E3 A0 I9 l8 H0 C0 stW muW biW W7 imW J0 G8 app E2 J1 D3 E6 oW P0 J5 C9 rfW N5 M9 D5 exW I2 Gr P1
theorem cg2{Y:H}{b:Nat}{s:d9}(h:Y b=some (.c [.s s] 9)):E0 Y 9 1 (u0 [s]) ⟨some ⟨b,0,none⟩,1,1⟩ :=
 ⟨rfl,by intro r hr;simp[u0]at hr;subst hr;rfl,.inr ⟨b,_,rfl,h,rfl,A7 _,rfl⟩⟩
section
variable {ρ Y Y' V:H} {bt:Nat} {C:TlC} {ge:d9} {y:Sl} {s:TS} {B:Nat->Prop} {gd:List d9}
theorem I4.but(h:I4 Y bt C ge y s B){xb:m9}(hk:∀c o,Y c=some o->xb≠some ⟨c,0,none⟩->Y' c=some o)(hn:∀g,xb=some ⟨g,0,none⟩->¬B g/\Y' g≠none):I4 Y' bt C ge y s B:=by
 by_cases hx:∃g,xb=some ⟨g,0,none⟩
 ·obtain⟨g,hg⟩:=hx;obtain⟨n1,n2⟩:=hn g hg;cases ho:Y' g with
  |none=>exact m7 ho n2
  |some o =>
   refine(h.put (b:=g) (o:=o) (P1.intro _ _ _) n1).gr (ac6 fun c oc hc=>?_);by_cases e:c=g
   ·subst e;rw[H.put_same]at hc;cases hc;exact ho
   ·rw[H.put_other _ _ e]at hc;refine hk c oc hc (fun e2=>?_);rw[hg]at e2;injection e2 with e2;injection e2 with e2;exact e e2.symm
 ·exact h.gr (ac6 fun c oc hc=>hk c oc hc fun e=>hx ⟨c,e⟩)
theorem cg3{N:Nat}(h:I4 Y bt C ge y s B)(hO:Off V Y B)(hy:F0 V 1 (u0 gd) y)(hI:Inv s.A)(jm:Bd N s.A)(hN:N<=1000000000000)(il:C.nm.size<=1000000)(hl:gd.length<=100000)(kc:∀n∈gd,n.size<=1000000)
 (mz:(TS.ls C.nm C.gb ge gd s).err.size<=1000000000000) (kx:(TS.ls C.nm C.gb ge gd s).out.size<=1000000000000) {K:KH}
 (hK:∀Y' y',I4 Y' bt C ge y' (TS.ls C.nm C.gb ge gd s) B->H1 Y B Y' B->K (.t []) Y'):i7 30 [.q bt] K Y:=by
 refine c30 _ ?_;unfold g30;have hB:B bt:=by obtain⟨_,_,_,_,q⟩:=h;exact(q bt).2 (.inr rfl)
 have sep:∀ {V V':H} {o:Obj},P1 V bt o V'->H1 V B V' B:=fun hp c oc rq hn=>⟨hp.get (fun e=>hn (e ▸ hB)) rq,hn⟩;have lc:=ad9 hy;refine A5 ?_;intro b2 Y1 g1 e1 n1;have nb2:¬B b2:=h.fresh n1;have t1:=h.gr g1;have O1:Off (V.put b2 (ptT bt)) Y1 B:=(hO.gr g1).add e1 nb2;have nt:V b2=none:=A9 hO.1 n1;generalize lg:(if gd.isEmpty then [bs [46]]else gd)=nm';rw[bC7 _ _ _ gd nm' lg.symm]at mz kx hK;have mr:nm'.length<=100000:=by
  rw[<-lg];split
  ·decide
  ·exact hl
 have Cd:∀n∈nm',n.size<=1000000:=by
  rw[<-lg];split
  ·intro n hn;rw[T9.1 hn];decide
  ·exact kc
 refine K5 (fun j=>∀y' V' Y',I4 Y' bt C ge y' s B->Off V' Y' B->V' b2=some (ptT bt)->F0 V' 1 (u0 nm') y'->H1 Y B Y' B->j (gp b2) Y') ?_ ?_
 ·intro y' V' Y2 t2 O2 kb2 pq s2;refine A5 ?_;intro b5 Y3 g3 e3 n3;refine A5 ?_;intro b6 Y4 g4 e4 n4;have t4:=(t2.gr g3).gr g4;have k2:Y4 b2=some (ptT bt):=g4.get (g3.get (O2.get kb2));have k5:=g4.get e3;have W:LsH Y4 bt b2 b5 b6 B:=by
   refine⟨k2,by rw[k5];simp,by rw[e4];simp,fun e=>?_,fun e=>?_,fun e=>?_,nb2,t2.fresh n3,(t2.gr g3).fresh n4,fun c hc=>t4.has hc⟩
   ·rw[<-e,O2.get kb2]at n3;cases n3
   ·rw[<-e,g3.get (O2.get kb2)]at n4;cases n4
   ·rw[<-e,e3]at n4;cases n4
  refine j0 (E9 (f0 k2) ?_);generalize pi:TS.sift C.nm C.gb nm' s [] []=fin at mz kx hK;have hsk:=at9 C.nm C.gb nm' s [] [];rw[pi]at hsk;have z1:fin.1.err.size<=1000000000000:=by
   have e1:=(ao2 C.gb ge (Nat.blt 1 nm'.length) fin.2.2 ((E7 fin.2.1).foldl TS.say fin.1)).2.1;have e2:=(aB1 (E7 fin.2.1) fin.1).2.1;rw[e1,e2]at mz;exact mz
  have I0:LsI Y4 bt b5 b6 C ge y' B s.A fin nm'.length nm' s Y4 :=
   ⟨t4,fun c o hc _ _ _=>hc,rfl,[],[],⟨none,0,0⟩,⟨none,0,0⟩,⟨E0.nil _ _ _,E0.nil _ _ _,fun g hg=>(by cases hg),fun g hg=>(by cases hg),fun g hg=>(by cases hg),k5,e4⟩,pi,by rw[ao8];omega,by rw[ao8];omega⟩
  have nt5:V' b5=none:=A9 O2.1 n3;have nt6:V' b6=none:=A9 (O2.1.trans g3) n4;have goff:∀ {r s' Y'},LsI Y4 bt b5 b6 C ge y' B s.A fin nm'.length r s' Y'->Off V' Y' B:=by
   intro r s' Y' I;refine⟨ac6 fun c o hc=>I.keep c o (g4.get (g3.get (O2.get hc))) (fun e=>?_) (fun e=>?_) (O2.2 c o hc),O2.2⟩
   ·rw[e,nt5]at hc;cases hc
   ·rw[e,nt6]at hc;cases hc
  refine l5 (ba7 (ge:=ge) (Y:=Y4) (B:=B) (s:=s) (I:=fun r s' Y' B'=>B'=B/\LsI Y4 bt b5 b6 C ge y' B s.A fin nm'.length r s' Y') pq (by omega) _ il ?_ ?_ ?_ ⟨rfl,I0⟩)
  ·rintro r s' Y' B' ⟨rfl,I⟩
   exact⟨I.tl,goff I⟩
  ·rintro n r s' Y' B' ⟨rfl,I⟩ hf hn K' jg
   have zs:s'.err.size<=1000000000000:=by
    obtain⟨p,d,xp,xd,_,hx,_⟩:=I.ex;have:=(at9 C.nm C.gb (n::r) s' p d).2.1;rw[hx]at this;omega
   refine co5 W I hf (by omega) ?_;intro e Y5 pt t5 kp5 hI5;refine jg e s' Y5 B' pt t5 ?_ (Cd n hn) zs fun Y6 t6 s6 _=>⟨rfl,hI5 Y6 t6 s6⟩;refine⟨ac6 fun c o hc=>kp5 c o (g4.get (g3.get (O2.get hc))) (fun e=>?_) (fun e=>?_) (O2.2 c o hc),O2.2⟩
   ·rw[e,nt5]at hc;cases hc
   ·rw[e,nt6]at hc;cases hc
  rintro r s5 Y5 B' ⟨rfl,I⟩ hr
  obtain⟨p,d,xp,xd,G,hx,jf,rc⟩:=I.ex;have Aa:fin=(s5,p,d):=by
   rw[<-hx];rcases hr with rfl|hf
   ·rfl
   ·exact bQ3 hf p d
  subst Aa;simp only at mz kx hK;have hA5:s5.A=s.A:=I.sf;refine U9 (ag1 (y:=xp) (f0 G.c5) ?_)
  classical
  obtain⟨ρs,hρ1,hρ2,hρ3⟩:∃ρs:H,Gr ρs Y5/\(∀g,xp.base=some ⟨g,0,none⟩->ρs g=none)/\∀c o,Y5 c=some o->xp.base≠some ⟨c,0,none⟩->ρs c=some o:=by
   refine⟨fun c=>if xp.base=some ⟨c,0,none⟩then none else Y5 c,ac6 fun c o hc=>?_,fun g hg=>d8 hg,fun c o hc hn=>(d7 hn).trans hc⟩;by_cases e:xp.base=some ⟨c,0,none⟩
   ·simp only[d8 e]at hc;cases hc
   ·simp only[d7 e]at hc;exact hc
  refine l5 (cA9 (ρ:=ρs) ⟨hρ1,G.op,hρ2⟩ (by omega) ?_);intro Y6 xv;have mt:∀c o,Y5 c=some o->xp.base≠some ⟨c,0,none⟩->Y6 c=some o:=fun c o hc hn=>xv.1.get (hρ3 c o hc hn);have npB:∀g,xp.base=some ⟨g,0,none⟩->¬B' g:=fun g hg hb=>W.has g hb (G.np g hg);have ndB:∀g,xd.base=some ⟨g,0,none⟩->¬B' g:=fun g hg hb=>W.has g hb (G.nd g hg);have t6:I4 Y6 bt C ge y' s5 B':=I.tl.but mt fun g hg=>⟨npB g hg,xv.2.1.has hg⟩;have q5:=mt b5 _ G.c5 (fun e=>W.h5 (G.np b5 e));have q6:=mt b6 _ G.c6 (fun e=>W.h6 (G.np b6 e));have q2:Y6 b2=some (ptT bt):=mt b2 _ (I.keep b2 _ W.h2 W.h25 W.h26 nb2) (fun e=>by have:=G.np b2 e;rw[W.h2]at this;cases this);have od6:E0 Y6 9 1 (u0 d) xd:=G.od.keep fun g o hg ho=>mt g o ho (fun e=>G.ap g e hg);have s6:H1 Y B' Y6 B':=by
   intro c o hc hb;have h2:=(s2 c o hc hb).1;have h4:=g4.get (g3.get h2);refine⟨mt c o (I.keep c o h4 (fun e=>?_) (fun e=>?_) hb) (fun e=>?_),hb⟩
   ·rw[e,n3]at h2;cases h2
   ·have:=g3.get h2;rw[e,n4]at this;cases this
   ·have:=G.np c e;rw[h4]at this;cases this
  obtain⟨V6,O6,hO6⟩:=aB3 Y6 B';have rp:F0 V6 1 (u0 (E7 p)) xp:=xv.2.1.rows.keep fun g o ob hb ho=>hO6 g ob ho fun hg=>by
   obtain⟨_,_,⟨q,_⟩|⟨g',cur,q1,_⟩⟩:=xv.2.1
   ·rw[q]at hb;cases hb
   ·have e:=q1.symm.trans hb;have e2:g'=g:=by injection e with e;injection e
    subst e2;exact npB g' q1 hg
  have rd:F0 V6 1 (u0 d) xd:=od6.rows.keep fun g o ob hb ho=>hO6 g ob ho fun hg=>by
   obtain⟨_,_,⟨q,_⟩|⟨g',cur,q1,_⟩⟩:=od6
   ·rw[q]at hb;cases hb
   ·have e:=q1.symm.trans hb;have e2:g'=g:=by injection e with e;injection e
    subst e2;exact ndB g' q1 hg
  have r2:=hO6 b2 _ q2 nb2;have r6:=hO6 b6 _ q6 W.n6;have hpl2:=ad9 rp;have hdl2:=ad9 rd;have hspl:(E7 p).length=p.length:=(I7 p).length_eq;refine U9 (ag1 (y:=xp) (f0 q5) ?_);refine H9 ?_;intro R hR;generalize zn:(E7 p).foldl TS.say s5=S1 at mz kx hK;have hS1A:S1.A=s.A:=by rw[<-zn,(aB1 _ _).1];exact hA5
  have hz2b:=(ao2 C.gb ge (Nat.blt 1 nm'.length) d S1).2.2;have key:∀ (k i:Nat) (s1:TS) (Y1:H),k+i=(E7 p).length->I4 Y1 bt C ge y' s1 B'->H1 Y6 B' Y1 B'->((E7 p).drop i).foldl TS.say s1=S1->R (gp b2) (gp b6) xp ((xp.len:Nat):Int) (i:Int) Y1:=by
   intro k
   induction k with
   |zero =>
    intro i s1 Y1 hk t1 ss jk;rw[M3 (by omega)]at jk;have jk:s1=S1:=jk;subst jk;have o1:=O6.sep ss;refine hR _ _ _ _ _ _ (l7 (W4 (by omega)) (j0 (ag1 (y:=xd) (f0 (o1.get r6)) ?_)));refine H9 ?_;intro R2 mo;have key2:∀ (k i:Nat) (s2:TS) (Y2:H),k+i=d.length->I4 Y2 bt C ge y' s2 B'->H1 Y6 B' Y2 B'->s2.A=s.A->(d.drop i).foldl (TS.gm C.gb ge (Nat.blt 1 nm'.length)) s2=d.foldl (TS.gm C.gb ge (Nat.blt 1 nm'.length)) s1->R2 (gp b2) xd ((xd.len:Nat):Int) (i:Int) Y2:=by
     intro k
     induction k with
     |zero =>
      intro i s2 Y2 hk t2 ss2 hA2 jk;rw[M3 (by omega)]at jk;have jk:s2=d.foldl (TS.gm C.gb ge (Nat.blt 1 nm'.length)) s1:=jk;rw[<-jk]at hK;refine mo _ _ _ _ _ (l7 (W4 (by omega)) ?_);exact hK Y2 y' t2 (s6.trans ss2)
     |succ k ihk =>
      intro i s2 Y2 hk t2 ss2 hA2 jk;obtain⟨n,hn⟩:∃n,d[i]?=some n:=⟨_,G0 (by omega)⟩;have o2:=O6.sep ss2;obtain⟨g,o,a1,a2,a3⟩:=Z8 (rd.gr o2.1) hn;rw[S9 hn,H3]at jk;have lq:=ao2 C.gb ge (Nat.blt 1 nm'.length) (d.drop (i+1)) (TS.gm C.gb ge (Nat.blt 1 nm'.length) s2 n);rw[jk]at lq;refine mo _ _ _ _ _ (l9 (M7 (by omega)) ?_);rw[a1];have hyl':=ad9 pq;refine j0 (D0 ⟨by omega,by omega⟩ (C6 a3 (j0 (E9 (f0 (o2.get r2)) (j0 (E9 (f0 (o2.get r2)) (j0 (ag1 (y:=y') (f0 t2.cell) ?_))))))));have tk:decide ((((y'.len:Nat):Int):Int)>1)=Nat.blt 1 nm'.length:=by
       rw[Q9,I6,Nat.blt_eq];omega
      rw[tk];refine l5 (bC6 t2 (by rw[hA2];exact hI) (by rw[hA2];exact jm) hN n _ (by omega) ?_);intro Y7 t7 s7;refine U9 ?_;rw[ab9 (i:=i)];exact ihk (i+1) _ Y7 (by omega) t7 (ss2.trans s7) ((aN7 _ _ _ _ _).1.trans hA2) jk
    exact key2 d.length 0 s1 Y1 (by omega) t1 ss hS1A rfl
   |succ k ihk =>
    intro i s1 Y1 hk t1 ss jk;obtain⟨n,hn⟩:∃n,(E7 p)[i]?=some n:=⟨_,G0 (by omega)⟩;have o1:=O6.sep ss;obtain⟨g,o,a1,a2,a3⟩:=Z8 (rp.gr o1.1) hn;rw[S9 hn,H3]at jk;have hsk2:=(aB1 ((E7 p).drop (i+1)) (s1.say n)).2.2;rw[jk,X4]at hsk2;refine hR _ _ _ _ _ _ (l9 (M7 (by omega)) ?_);rw[a1];refine j0 (D0 ⟨by omega,by omega⟩ (C6 a3 (j0 (E9 (f0 (o1.get r2)) (j0 (C6 (f0 t1.cell) ?_))))));refine D0 (by show n.size+1<=_;omega) (D0 (by rw[D8];show _+(n.size+1)<=_;omega) (j0 ?_));rw[cf9];refine C1 t1.cell U3 ?_;intro Y7 p7;rw[ab9 (i:=i)];exact ihk (i+1) _ Y7 (by omega) (t1.say (s':=s1.say n) rfl p7) (ss.trans (sep p7)) jk
  exact key (E7 p).length 0 s5 Y6 (by omega) t6 (H1.refl _ _) zn
 ·intro j hj;refine E9 (f0 e1) (j0 (ag1 (y:=y) (f0 t1.cell) ?_));cases ia:gd.isEmpty with
  |false =>
   rw[ia]at lg;have lg:gd=nm':=lg;subst lg;have:gd≠[]:=fun e=>by rw[e]at ia;cases ia
   have hp:=List.length_pos_iff.2 this;refine l7 (by simp only[X0,ne_eq];omega) ?_;exact hj y _ Y1 t1 O1 (H.put_same _ _ _) (hy.gr (Gr.put nt _)) (H1.gr g1)
  |true =>
   rw[ia]at lg;have lg:[bs [46]]=nm':=lg;subst lg;have:gd=[]:=List.isEmpty_iff.1 ia;subst this;refine l9 (by rw[lc];rfl) (E9 (f0 e1) ?_);refine A5 ?_;intro b56 Y2 g2 e2 n2;have t2:=t1.gr g2;have nb:¬B b56:=t1.fresh n2;refine j0 ?_;refine C1 t2.cell al4 ?_;intro Y3 p3;have s3:H1 Y B Y3 B:=(H1.gr (g1.trans g2)).trans (sep p3);have t3:I4 Y3 bt C ge ⟨some ⟨b56,0,none⟩,1,1⟩ s B:=t2.say (got':=ge) (y':=⟨some ⟨b56,0,none⟩,1,1⟩) (s':=s) rfl p3;have k56:=p3.get (c:=b56) (fun e=>nb (by rw[e];exact hB)) e2;have O3:=((O1.gr g2).sep (sep p3)).add k56 nb;have n56:(V.put b2 (ptT bt)) b56=none:=A9 O1.1 n2;exact hj _ _ Y3 t3 O3 ((Gr.put n56 _).get (H.put_same _ _ _)) (cg2 (H.put_same _ _ _)).rows s3
end
end
section
def dnF(d:Dn):List u9:=[.s d.out,.s d.err,.i d.st]
theorem bQ4{nm:d9}(ge:d9)(gd:List d9)(hc:E8 nm (bs [99,104,109,111,100])=false):L0 nm ge gd =
 if E8 nm (bs [108,110]) then gd.length==2
 else if E8 nm (bs [109,118])||E8 nm (bs [99,112]) then Nat.ble 2 gd.length
 else if E8 nm (bs [114,109]) then Nat.ble 1 gd.length||I8 ge 102
 else if E8 nm (bs [108,115]) then true
 else Nat.ble 1 gd.length:=by
 unfold L0;rw[hc];rfl
theorem aO9(k n:Nat):decide (((n:Nat):Int)>=((k:Nat):Int))=Nat.ble k n:=by
 rw[Q9,I6,Nat.ble_eq];omega
attribute [local irreducible] i9 E3 A0 I9 l8 H0 C0 stW muW biW W7 imW J0 G8 app E2 J1 D3 E6 oW P0 J5 C9 rfW N5 M9 D5 exW I2 Gr P1
section
variable {Y V:H} {bt:Nat} {C:TlC} {ge:d9} {y:Sl} {s:TS} {B:Nat->Prop} {gd:List d9}
theorem bQ5(h:I4 Y bt C ge y s B)(lc:y.len=gd.length)(hc:E8 C.nm (bs [99,104,109,111,100])=false){K:KH}(hK:K (.bool (L0 C.nm ge gd)) Y):i7 32 [.q bt] K Y:=by
 refine c32 _ ?_;unfold g32;rw[bQ4 ge gd hc]at hK;refine j0 (ag1 (y:=y) (f0 h.cell) (j0 (C6 (f0 h.cell) ?_)));rw[lc];simp only[<-I5];cases h1:E8 C.nm (bs [108,110]) with
 |true =>
  rw[h1,d8 rfl]at hK;refine l9 rfl ?_;have:((((gd.length:Nat):Int):Int)==2)=(gd.length==2):=by
   rw[Q9];simp only[beq_iff_eq];omega
  rw[this];exact hK
 |false =>
 rw[h1,d7 (by simp)]at hK;refine l7 rfl (K5 (fun j=>∀b:Bool,b=(E8 C.nm (bs [109,118])||E8 C.nm (bs [99,112]))->j (gp bt) ((gd.length:Nat):Int) C.nm b Y) ?_ ?_)
 ·intro b hb;rw[<-hb]at hK;cases b with
  |true =>
   rw[d8 rfl]at hK;refine l9 rfl ?_;rw[show decide ((((gd.length:Nat):Int):Int)>=2)=Nat.ble 2 gd.length from aO9 2 _];exact hK
  |false =>
   rw[d7 (by simp)]at hK;refine l7 rfl (l7 hc ?_);cases h2:E8 C.nm (bs [114,109]) with
   |true =>
    rw[h2,d8 rfl]at hK;refine l9 rfl ?_;cases h3:Nat.ble 1 gd.length with
    |true =>
     rw[h3,Bool.true_or]at hK;exact l9 ((aO9 1 _).trans h3) hK
    |false =>
     rw[h3,R0]at hK;exact l7 ((aO9 1 _).trans h3) (l5 (ao1 h 102 (H2 hK)))
   |false =>
    rw[h2,d7 (by simp)]at hK;refine l7 rfl ?_;cases h3:E8 C.nm (bs [108,115]) with
    |true=>rw[h3,d8 rfl]at hK;exact l9 rfl hK
    |false =>
     rw[h3,d7 (by simp)]at hK;refine l7 rfl ?_;rw[show decide ((((gd.length:Nat):Int):Int)>=1)=Nat.ble 1 gd.length from aO9 1 _];exact hK
 ·intro j hj;cases h2:E8 C.nm (bs [109,118]) with
  |true=>exact l9 rfl (hj _ (by rw[h2];rfl))
  |false=>exact l7 rfl (hj _ (by rw[h2];rfl))
end
theorem aU4:Tryz.prog.underlying 54=some (.map 9 1):=by kernel_rfl
theorem bH9:Tryz.prog.underlying 55=some (.map 9 9):=by kernel_rfl
theorem ad0:E6 Tryz.prog 35=some 3:=by kernel_rfl
def doL(b:Nat):List (d9×u9):=[((bs [109,107,100,105,114]),.func (.func 22) ⟨[.q b]⟩ ⟨[]⟩),((bs [114,109,100,105,114]),.func (.func 23) ⟨[.q b]⟩ ⟨[]⟩),((bs [116,111,117,99,104]),.func (.func 24) ⟨[.q b]⟩ ⟨[]⟩),((bs [99,104,109,111,100]),.func (.func 25) ⟨[.q b]⟩ ⟨[]⟩),((bs [108,110]),.func (.func 26) ⟨[.q b]⟩ ⟨[]⟩),((bs [114,109]),.func (.func 27) ⟨[.q b]⟩ ⟨[]⟩),((bs [109,118]),.func (.func 28) ⟨[.q b]⟩ ⟨[]⟩),((bs [99,112]),.func (.func 29) ⟨[.q b]⟩ ⟨[]⟩),((bs [108,115]),.func (.func 30) ⟨[.q b]⟩ ⟨[]⟩)]
theorem bC9(b:Nat):((doL b).map fun x=>x.1.data.toList).Nodup:=by
 have e:(doL b).map (fun x=>x.1.data.toList)=ab7.map fun x=>x.data.toList:=rfl;rw[e];decide +kernel
theorem cg4(b:Nat){nm:d9}(h:ab7.any (fun t=>E8 nm t)=false):lk nm (doL b)=none:=by
 unfold ab7 at h;simp only[List.any_cons,List.any_nil,U0,Bool.or_eq_false_iff]at h;obtain⟨h1,h2,h3,h4,h5,h6,h7,h8,h9⟩:=h;unfold doL;simp only[lkS];rw[h1,h2,h3,h4,h5,h6,h7,h8,h9]
 rfl
def co6:List (d9×u9):=[((bs [109,107,100,105,114]),.s (bs [112])),((bs [108,110]),.s (bs [115,102])),((bs [114,109]),.s (bs [114,102])),((bs [109,118]),.s (bs [102])),((bs [99,112]),.s (bs [114])),((bs [108,115]),.s (bs [97,49]))]
theorem bq4(q:d9):(lk q co6).getD (.s gq)=.s (S0 q):=by
 unfold co6 S0;simp only[lkS];split
 ·rfl
 split
 ·rfl
 split
 ·rfl
 split
 ·rfl
 split
 ·rfl
 split
 ·rfl
 rfl
theorem bI0{Y:H}{b:Nat}{l:List (d9×u9)}(h:Q7 Y b (W0 kkS (fun v:u9=>v) l))(z:u9)(q:d9):rdM .string z false (some b) (.s q) Y=some ((lk q l).getD z):=by
 have:=aI6 (kk:=kkS) h z false q;rw[Option.map_id']at this;exact this
theorem aU5(nm:d9):(S0 nm).data.toList.length<=100/\∀c∈(S0 nm).data.toList,c.toNat<128:=by
 unfold S0;split
 ·exact⟨by decide,by decide⟩
 split
 ·exact⟨by decide,by decide⟩
 split
 ·exact⟨by decide,by decide⟩
 split
 ·exact⟨by decide,by decide⟩
 split
 ·exact⟨by decide,by decide⟩
 split
 ·exact⟨by decide,by decide⟩
 exact⟨by decide,by decide⟩
theorem au0{A:AT}{gb nm:d9}{args:List d9}(ht:ab7.any (fun t=>E8 nm t)=true)(hc:E8 nm (bs [99,104,109,111,100])=false):A.filesP gb nm args=match ab3 (S0 nm) args gq with
 |none=>some (ad4 nm,A)
 |some (ge,gd)=>if L0 nm ge gd then some (⟨(doP A nm gb ge gd).out,(doP A nm gb ge gd).err,(doP A nm gb ge gd).st⟩,(doP A nm gb ge gd).A)else some (ad4 nm,A):=by
 unfold AT.filesP;rw[d8 ht,hc]
 rfl
theorem bh1{v:u9}{x:Bool}{F:u9->Bool->H->Prop}{Y:H}(h2:F v x Y):HL.app (.tup [.sc .raw,.sc .bool]) F (.t [v,.bool x]) Y:=by
 unfold HL.app;exact h2
section
variable {Y V:H} {bf:Nat} {A:AT} {B:Nat->Prop}
theorem bq5(hF:J8 Y bf A B)(nm inn gb:d9){x:Sl}(ht:ab7.any (fun t=>E8 nm t)=false){K:KH}(hK:K (.t [.agg ⟨dnF ⟨gq,gq,0⟩⟩,.bool false]) Y) :
 i7 6 [.q bf,.g [.s nm,.slice x.base x.len x.cap,.s inn,.s gb]] K Y:=by
 refine aa7 _ hK (c6 _ _ _ _ _ ?_);clear hK;unfold g6;refine A5 ?_;intro b6 Y1 g1 e1 n1;refine A5 ?_;intro b7 Y2 g2 e2 n2;have k6:=g2.get e1;have f7:Y b7=none:=A9 g1 n2;refine N8 (D4 k6) ?_
 (refine l6 rfl ?_;try dsimp only)
 refine A5 ?_;intro b12 Y3 g3 e3 n3;refine bm0 aU4 P8 (doL b12) (bC9 b12) ?_;intro bm Y4 g4 n4 hm;have G4:Gr Y Y4:=((g1.trans g2).trans g3).trans g4;refine C6 (f0 (g4.get (g3.get k6))) (N8 (bx2 hm .nilFunc nm) ?_);rw[cg4 b12 ht];refine bh1 (l9 rfl ?_);refine C1 (g4.get (g3.get e2)) ad0 ?_;intro V2 p2;refine N8 (D4 p2.same) ?_
 (refine l6 rfl ?_;try dsimp only)
 exact⟨rfl,G4.putF p2 f7⟩
theorem af5{f:FuncId}{Q:AT->Prop}(hF:J8 Y bf A B)(hO:Off V Y B)(nm inn gb:d9){x:Sl}{args:List d9}(hx:F0 V 1 (u0 args) x)(uv:x.len<=x.cap)(hn:nm.size<=1000)(ha:∀a∈args,a.size<=1000)(hl:args.length<=1000)
 (ht:ab7.any (fun t=>E8 nm t)=true) (hc:E8 nm (bs [99,104,109,111,100])=false) (sv:Z0 Tryz.prog f=true) (lq:∀b,lk nm (doL b)=some (.func (.func f) ⟨[.q b]⟩ ⟨[]⟩)) (hQ:Q A)
 (Ce:∀ge gd y bt Y1 B1 V1,ab3 (S0 nm) args gq=some (ge,gd)->L0 nm ge gd=true->I4 Y1 bt ⟨nm,inn,gb,x,bf⟩ ge y (TS.new A) B1->Off V1 Y1 B1->F0 V1 1 (u0 gd) y->y.len<=y.cap->∀K:u9->H->Prop,
  (∀Y' B' y',I4 Y' bt ⟨nm,inn,gb,x,bf⟩ ge y' (doP A nm gb ge gd) B'->H1 Y1 B1 Y' B'->Q (doP A nm gb ge gd).A->K (.t []) Y')->i7 f [.q bt] K Y1)
 {K:KH} (hK:∀d A',A.filesP gb nm args=some (d,A')->∀Y' B',J8 Y' bf A' B'->H1 Y B Y' B'->Q A'->K (.t [.agg ⟨dnF d⟩,.bool true]) Y') :
 i7 6 [.q bf,.g [.s nm,.slice x.base x.len x.cap,.s inn,.s gb]] K Y:=by
 refine c6 _ _ _ _ _ ?_;unfold g6;rw[au0 ht hc]at hK;refine A5 ?_;intro b6 Y1 g1 e1 n1;refine A5 ?_;intro b7 Y2 g2 e2 n2;have k6:=g2.get e1;have f7:Y b7=none:=A9 g1 n2;refine N8 (D4 k6) ?_
 (refine l6 rfl ?_;try dsimp only)
 refine A5 ?_;intro b12 Y3 g3 e3 n3;have f12:Y b12=none:=A9 (g1.trans g2) n3;have nB12:¬B b12:=hF.fresh f12;refine bm0 aU4 P8 (doL b12) (bC9 b12) ?_;intro bm Y4 g4 n4 hm;refine C6 (f0 (g4.get (g3.get k6))) (N8 (bx2 hm .nilFunc nm) ?_);rw[lq b12];refine bh1 (l7 rfl ?_);refine bm0 bH9 P8 co6 (by decide +kernel) ?_;intro bm2 Y5 g5 n5 lh;have G3:Gr Y3 Y5:=g4.trans g5;have G5:Gr Y Y5:=((g1.trans g2).trans g3).trans G3;have q6:=G3.get (g3.get k6);have q7:=G3.get (g3.get e2);have q12:Y5 b12=some (.cells ⟨bp6 ⟨nm,inn,gb,x,bf⟩ gq ⟨none,0,0⟩ (TS.new A)⟩ 52 (0,0)):=G3.get e3;refine C6 (f0 q6) (C6 (x:=S0 nm) (by rw[bI0 lh,bq4]) ?_);have t5:I4 Y5 b12 ⟨nm,inn,gb,x,bf⟩ gq ⟨none,0,0⟩ (TS.new A) (fun b=>B b\/b=b12):=⟨B,q12,hF.gr G5,nB12,fun b=>Iff.rfl⟩;have n6:¬ (B b6\/b6=b12):=by
  rintro (e|e)
  ·exact hF.fresh n1 e
  ·rw[<-e,g2.get e1]at n3;cases n3
 have n7:¬ (B b7\/b7=b12):=by
  rintro (e|e)
  ·exact hF.fresh f7 e
  ·rw[<-e,e2]at n3;cases n3
 obtain⟨V5,O5,uz⟩:=aB3 Y5 (fun b=>B b\/b=b12)
 have x5:F0 V5 1 (u0 args) x:=hx.gr (ac6 fun c o pf=>uz c o (G5.get (hO.get pf)) (by
  rintro (e|e)
  ·exact hO.2 c o pf e
  ·have:=hO.get pf
   rw[e,f12]at this;cases this))
 have w6:=uz b6 _ q6 n6;have w7:=uz b7 _ q7 n7;have back:∀ {Y' B' B0},H1 Y5 (fun b=>B b\/b=b12) Y' B'->(∀b,B' b↔(B0 b\/b=b12))->H1 Y B Y' B0:=by
  intro Y' B' B0 hs hb c o pf iy
  obtain⟨r1,r2⟩:=hs c o (G5.get pf) (by
   rintro (e|e)
   ·exact iy e
   ·rw[e,f12]at pf;cases pf)
  exact⟨r1,fun e=>r2 ((hb c).2 (.inl e))⟩
 obtain⟨ln,vf⟩:=aU5 nm;generalize iw:S0 nm=lt at hK Ce ln vf⊢;obtain⟨⟨lt⟩⟩:=lt;generalize hdv:Value.func (Fn.func f) ⟨[Value.q b12]⟩ ⟨[]⟩=dv;refine K5 (fun j=>j (gp b6) (gp b7) (gp b12) dv ⟨⟨lt⟩⟩ false Y5) ?_ ?_
 ·refine K5 (fun j=>j (gp b6) (gp b7) (gp b12) dv ⟨⟨lt⟩⟩ false Y5) ?_ ?_
  ·refine K5 (fun j => ∀ (b : Bool) ge y Y' , I4 Y' b12 ⟨nm, inn, gb, x, bf⟩ ge y (TS.new A) (fun b => B b \/ b = b12) -> H1 Y5 (fun b => B b \/ b = b12) Y' (fun b => B b \/ b = b12) ->
    (b=true->A.filesP gb nm args=some (ad4 nm,A))->(b=false->∃gd,ab3 ⟨⟨lt⟩⟩ args gq=some (ge,gd)/\L0 nm ge gd=true/\F0 V5 1 (u0 gd) y/\y.len<=y.cap)->j (gp b6) (gp b7) (gp b12) dv b Y') ?_ ?_
   ·intro b ge y Y6 t6 s6 h1 h2;have O6:=O5.sep s6;cases b with
    |true =>
     refine l9 rfl (j0 (C6 (f0 (O6.get w6)) (D0 (by show nm.size+8<=_;omega) ?_)));refine C1 (O6.get w7) ad0 ?_;intro Y7 p7;refine j0 (N8 (D4 p7.same) ?_)
     (refine l6 rfl ?_;try dsimp only)
     obtain⟨B0,a1,a2,a3,a4⟩:=t6;have hu:=h1 rfl;rw[au0 ht hc,iw]at hu;exact hK (ad4 nm) A hu Y7 B0 (a2.put p7 (fun e=>n7 ((a4 b7).2 (.inl e)))) ((back s6 a4).putF p7 f7) hQ
    |false =>
     obtain⟨gd,o1,o2,o3,o4⟩:=h2 rfl;subst hdv;refine l7 rfl (ar9 sv (Ce ge gd y b12 Y6 _ V5 o1 o2 t6 O6 o3 o4 _ ?_));intro Y7 B7 y7 t7 s7 hq7;have O7:=O6.sep s7;refine U9 (j0 (N8 (D4 t7.cell) ?_))
     (refine l6 rfl ?_;try dsimp only)
     refine C1 (O7.get w7) ad0 ?_;intro Y8 p8;refine j0 (N8 (D4 p8.same) ?_)
     (refine l6 rfl ?_;try dsimp only)
     obtain⟨B0,a1,a2,a3,a4⟩:=t7;refine hK ⟨(doP A nm gb ge gd).out,(doP A nm gb ge gd).err,(doP A nm gb ge gd).st⟩ (doP A nm gb ge gd).A (by rw[o1];show(if L0 nm ge gd=true then _ else _)=_;rw[d8 o2]) Y8 B0 (a2.put p8 (fun e=>O7.2 b7 _ w7 ((a4 b7).2 (.inl e)))) ((back (s6.trans s7) a4).putF p8 f7) hq7
   ·intro j hj;refine l9 rfl (l5 (aN5 t5 O5 x5 uv lt ln vf ha hl ?_ ?_))
    ·intro ho Y6 ge t6 s6;refine H2 (l9 rfl (hj true ge _ Y6 t6 s6 (fun _=>?_) (fun e=>by cases e)));rw[au0 ht hc,iw,ho]
    ·intro ge gd ho Y6 y t6 s6 ry cy;refine H2 (l7 rfl (l5 (bQ5 t6 (ad9 ry) hc (H2 ?_))));cases hr:L0 nm ge gd with
     |true=>exact hj false ge y Y6 t6 s6 (fun e=>by cases e) (fun _=>⟨gd,ho,hr,ry,cy⟩)
     |false =>
      refine hj true ge y Y6 t6 s6 (fun _=>?_) (fun e=>by cases e);rw[au0 ht hc,iw,ho];show(if L0 nm ge gd=true then _ else _)=_;rw[hr];rfl
  ·intro j hj;exact l7 rfl hj
 ·intro j hj;refine C6 (f0 q6) (l7 (by rw[<-I5];exact hc) hj)
end
end
section
theorem db2{st:Int}(h:0<=st):IntKind.u8.wrap (48+IntKind.u8.wrap st)=(((48+st.toNat).toUInt8.toNat:Nat):Int):=by
 obtain⟨n,rfl⟩:∃n:Nat,st=n:=⟨st.toNat,by omega⟩;rw[IntKind.wrap_u8,IntKind.wrap_u8,P5];show _=((((48+n)%256:Nat)):Int);omega
attribute [local irreducible] i9 E3 A0 I9 l8 H0 C0 stW muW biW W7 imW J0 G8 app E2 J1 D3 E6 oW P0 J5 C9 rfW N5 M9 D5 exW I2 Gr P1
theorem aU6:Tryz.prog.underlying 141=some (.slice 5):=Tryz.underlying141
theorem bI1:Tryz.prog.underlying 5=some (.int .u8):=Tryz.underlying5
section
variable {Y V:H} {bf:Nat} {A:AT} {B:Nat->Prop}
theorem az7{Q:AT->Prop}{nm:d9}{x:Sl}{args:List d9}(iv:∀K:u9->H->Prop,(∀d A',A.filesP (bs [47]) nm args=some (d,A')->∀Y' B',J8 Y' bf A' B'->H1 Y B Y' B'->Q A'->K (.t [.agg ⟨dnF d⟩,.bool true]) Y')->i7 6 [.q bf,.g [.s nm,.slice x.base x.len x.cap,.s gq,.s (bs [47])]] K Y)
 (hz:(Q5 A nm args).1.size<=1000000000000) {K:KH} (hK:∀Y' B',J8 Y' bf (Q5 A nm args).2 B'->H1 Y B Y' B'->Q (Q5 A nm args).2->K (.s (Q5 A nm args).1) Y') :
 i7 51 [.q bf,.s nm,.slice x.base x.len x.cap] K Y:=by
 refine c51 _ _ _ ?_;unfold g51;refine l5 (iv _ ?_);intro d A' he Y1 B1 F1 s1 hq;rw[aY8 he]at hz hK;have kn:=ca0 he;unfold dnF
 (refine l6 rfl ?_;try dsimp only)
 refine A5 ?_;intro b8 Y2 g2 e2 n2;refine C1 e2 ad0 ?_;intro Y3 p3;have g3:Gr Y1 Y3:=g2.putF p3 n2;have k3:=p3.same;clear p3 e2 g2;refine l7 rfl (D1 (f0 k3) ?_);rw[db2 kn];refine A5 ?_;intro b10 Y4 g4 e4 n4;have k4:=g4.get k3;have G4:=g3.trans g4;simp only[D8]at hz;refine cw4 aU6 bI1 P8 (l:=[(48+d.st.toNat).toUInt8]) (x:=⟨some ⟨b10,0,none⟩,1,1⟩) ⟨rfl,.inr ⟨b10,0,_,_,_,rfl,e4,fun i r hr=>?_⟩⟩ ?_
 ·match i,hr with
  |0,hr=>cases hr;exact⟨rfl,rfl⟩
  |i+1,hr=>simp[ax6]at hr
 ·refine C6 (f0 k4) (D0 (by omega) (C6 (f0 k4) (D0 (by rw[D8];omega) ?_)));exact hK Y4 B1 (F1.gr G4) (s1.grR G4) hq
end
section
variable {Y V:H} {bf:Nat} {A:AT} {B:Nat->Prop} {x:Sl} {args:List d9} {K:KH}
theorem ct2(b:Nat):lk mkN (doL b)=some (.func (.func 22) ⟨[.q b]⟩ ⟨[]⟩):=by
 unfold doL;simp only[lkS];rw[d8 (by decide +kernel)]
theorem cg5(b:Nat):lk rmN (doL b)=some (.func (.func 23) ⟨[.q b]⟩ ⟨[]⟩):=by
 unfold doL;simp only[lkS];rw[d7 (by decide +kernel),d8 (by decide +kernel)]
theorem cg6(b:Nat):lk rmT (doL b)=some (.func (.func 27) ⟨[.q b]⟩ ⟨[]⟩):=by
 unfold doL;simp only[lkS];rw[d7 (by decide +kernel),d7 (by decide +kernel),d7 (by decide +kernel),d7 (by decide +kernel),d7 (by decide +kernel),d8 (by decide +kernel)]
theorem ct3(b:Nat):lk mvN (doL b)=some (.func (.func 28) ⟨[.q b]⟩ ⟨[]⟩):=by
 unfold doL;simp only[lkS];rw[d7 (by decide +kernel),d7 (by decide +kernel),d7 (by decide +kernel),d7 (by decide +kernel),d7 (by decide +kernel),d7 (by decide +kernel),d8 (by decide +kernel)]
theorem ct4(b:Nat):lk cpN (doL b)=some (.func (.func 29) ⟨[.q b]⟩ ⟨[]⟩):=by
 unfold doL;simp only[lkS];rw[d7 (by decide +kernel),d7 (by decide +kernel),d7 (by decide +kernel),d7 (by decide +kernel),d7 (by decide +kernel),d7 (by decide +kernel),d7 (by decide +kernel),d8 (by decide +kernel)]
theorem ct5(b:Nat):lk lsN (doL b)=some (.func (.func 30) ⟨[.q b]⟩ ⟨[]⟩):=by
 unfold doL;simp only[lkS];rw[d7 (by decide +kernel),d7 (by decide +kernel),d7 (by decide +kernel),d7 (by decide +kernel),d7 (by decide +kernel),d7 (by decide +kernel),d7 (by decide +kernel),d7 (by decide +kernel),d8 (by decide +kernel)]
theorem au1{nm ge:d9}{gd:List d9}(ht:ab7.any (fun t=>E8 nm t)=true)(hc:E8 nm (bs [99,104,109,111,100])=false)(h1:ab3 (S0 nm) args gq=some (ge,gd))(h2:L0 nm ge gd=true)(hz:(Q5 A nm args).1.size<=1000000000000):(doP A nm (bs [47]) ge gd).err.size<=1000000000000/\(doP A nm (bs [47]) ge gd).out.size<=1000000000000:=by
 have he:A.filesP (bs [47]) nm args=some (⟨(doP A nm (bs [47]) ge gd).out,(doP A nm (bs [47]) ge gd).err,(doP A nm (bs [47]) ge gd).st⟩,(doP A nm (bs [47]) ge gd).A):=by
  rw[au0 ht hc,h1];show(if L0 nm ge gd=true then _ else _)=_;rw[d8 h2]
 rw[aY8 he]at hz;simp only[D8]at hz;omega
structure af8(V:H)(args:List d9)(x:Sl):Prop where
 rows:F0 V 1 (u0 args) x
 cap:x.len<=x.cap
 sz:∀a∈args,a.size<=1000
 len:args.length<=1000
theorem dd3{M:Nat}(hF:J8 Y bf A B)(hO:Off V Y B)(ha:af8 V args x)(hp:U4 M A)(hM:M<=900000000000)(hz:(Q5 A mkN args).1.size<=1000000000000)
 (hK:∀Y' B',J8 Y' bf (Q5 A mkN args).2 B'->H1 Y B Y' B'->U4 M (Q5 A mkN args).2->K (.s (Q5 A mkN args).1) Y'):i7 51 [.q bf,.s mkN,.slice x.base x.len x.cap] K Y:=by
 refine az7 (B:=B) (Q:=U4 M) (fun K' jg=>af5 (Q:=U4 M) hF hO mkN _ _ ha.rows ha.cap (by decide) ha.sz ha.len (by decide +kernel) (by decide +kernel) (by kernel_rfl) ct2 hp ?_ jg) hz hK;intro ge gd y bt Y1 B1 V1 h1 h2 t1 o1 r1 c1 K2 je;obtain⟨m1,m2⟩:=ag3 _ _ _ _ _ h1;obtain⟨z1,_⟩:=au1 (A:=A) (by decide +kernel) (by decide +kernel) h1 h2 hz;have hl:=ha.len;rw[ca1]at z1 je;exact ba8 t1 o1 r1 hp hM (by show mkN.size<=_;decide) (by omega) (fun n hn=>C7 (ha.sz n (m1 n hn)) (by decide)) z1 fun Y' B' t' s' p'=>je Y' B' y t' s' p'
theorem dz1{N:Nat}(hF:J8 Y bf A B)(hO:Off V Y B)(ha:af8 V args x)(hI:Inv A/\Bd N A)(hN:N<=1000000000000)(hz:(Q5 A rmT args).1.size<=1000000000000)
 (hK:∀Y' B',J8 Y' bf (Q5 A rmT args).2 B'->H1 Y B Y' B'->(Inv (Q5 A rmT args).2/\Bd N (Q5 A rmT args).2)->K (.s (Q5 A rmT args).1) Y'):i7 51 [.q bf,.s rmT,.slice x.base x.len x.cap] K Y:=by
 refine az7 (B:=B) (Q:=fun A=>Inv A/\Bd N A) (fun K' jg=>af5 (Q:=fun A=>Inv A/\Bd N A) hF hO rmT _ _ ha.rows ha.cap (by decide) ha.sz ha.len (by decide +kernel) (by decide +kernel) (by kernel_rfl) cg6 hI ?_ jg) hz hK;intro ge gd y bt Y1 B1 V1 h1 h2 t1 o1 r1 c1 K2 je;obtain⟨m1,m2⟩:=ag3 _ _ _ _ _ h1;obtain⟨z1,_⟩:=au1 (A:=A) (by decide +kernel) (by decide +kernel) h1 h2 hz;have hl:=ha.len;rw[ca2]at z1 je;exact cf4 t1 o1 r1 hI hN (by show rmT.size<=_;decide) (by omega) (fun n hn=>C7 (ha.sz n (m1 n hn)) (by decide)) z1 fun Y' B' t' s' p'=>je Y' B' y t' s' p'
theorem dQ2{N:Nat}(hF:J8 Y bf A B)(hO:Off V Y B)(ha:af8 V args x)(hI:Inv A/\Bd N A)(hN:N+1000<=1000000000000)(hz:(Q5 A mvN args).1.size<=1000000000000)
 (hK:∀Y' B',J8 Y' bf (Q5 A mvN args).2 B'->H1 Y B Y' B'->(Inv (Q5 A mvN args).2/\Bd (N+1000) (Q5 A mvN args).2)->K (.s (Q5 A mvN args).1) Y'):i7 51 [.q bf,.s mvN,.slice x.base x.len x.cap] K Y:=by
 refine az7 (B:=B) (Q:=fun A=>Inv A/\Bd (N+1000) A) (fun K' jg=>af5 (Q:=fun A=>Inv A/\Bd (N+1000) A) hF hO mvN _ _ ha.rows ha.cap (by decide) ha.sz ha.len (by decide +kernel) (by decide +kernel) (by kernel_rfl) ct3 ⟨hI.1,hI.2.mono (by omega)⟩ ?_ jg) hz hK;intro ge gd y bt Y1 B1 V1 h1 h2 t1 o1 r1 c1 K2 je;obtain⟨m1,m2⟩:=ag3 _ _ _ _ _ h1;obtain⟨z1,_⟩:=au1 (A:=A) (by decide +kernel) (by decide +kernel) h1 h2 hz;have hl:=ha.len;rw[ca3]at z1 je;exact cf7 t1 o1 r1 c1 (bm6 h2) (by omega) hI hN (by show mvN.size<=_;decide) (fun n hn=>C7 (ha.sz n (m1 n hn)) (by decide)) z1 fun Y' B' y' t' s' p'=>je Y' B' y' t' s' ⟨p'.1,p'.2.mono (by omega)⟩
theorem dz2{M:Nat}(hF:J8 Y bf A B)(hO:Off V Y B)(ha:af8 V args x)(hp:U4 M A)(hM:M<=900000000000)(hz:(Q5 A cpN args).1.size<=1000000000000)
 (hK:∀Y' B',J8 Y' bf (Q5 A cpN args).2 B'->H1 Y B Y' B'->U4 M (Q5 A cpN args).2->K (.s (Q5 A cpN args).1) Y'):i7 51 [.q bf,.s cpN,.slice x.base x.len x.cap] K Y:=by
 refine az7 (B:=B) (Q:=U4 M) (fun K' jg=>af5 (Q:=U4 M) hF hO cpN _ _ ha.rows ha.cap (by decide) ha.sz ha.len (by decide +kernel) (by decide +kernel) (by kernel_rfl) ct4 hp ?_ jg) hz hK;intro ge gd y bt Y1 B1 V1 h1 h2 t1 o1 r1 c1 K2 je;obtain⟨m1,m2⟩:=ag3 _ _ _ _ _ h1;obtain⟨z1,_⟩:=au1 (A:=A) (by decide +kernel) (by decide +kernel) h1 h2 hz;have hl:=ha.len;rw[ca4]at z1 je;exact cf8 t1 o1 r1 c1 (bm5 h2) (by omega) hp hM (by show cpN.size<=_;decide) (fun n hn=>C7 (ha.sz n (m1 n hn)) (by decide)) z1 fun Y' B' y' t' s' p'=>je Y' B' y' t' s' p'
theorem dz3(nm gb ge:d9)(gd:List d9)(s:TS):(TS.ls nm gb ge gd s).A=s.A:=by
 rw[bC7 nm gb ge gd _ rfl,(ao2 _ _ _ _ _).1,(aB1 _ _).1,(at9 _ _ _ _ _ _).1]
theorem dz4{N:Nat}(hF:J8 Y bf A B)(hO:Off V Y B)(ha:af8 V args x)(hI:Inv A/\Bd N A)(hN:N<=1000000000000)(hz:(Q5 A lsN args).1.size<=1000000000000)
 (hK:∀Y' B',J8 Y' bf (Q5 A lsN args).2 B'->H1 Y B Y' B'->(Q5 A lsN args).2=A->K (.s (Q5 A lsN args).1) Y'):i7 51 [.q bf,.s lsN,.slice x.base x.len x.cap] K Y:=by
 refine az7 (B:=B) (Q:=fun A'=>A'=A) (fun K' jg=>af5 (Q:=fun A'=>A'=A) hF hO lsN _ _ ha.rows ha.cap (by decide) ha.sz ha.len (by decide +kernel) (by decide +kernel) (by kernel_rfl) ct5 rfl ?_ jg) hz hK;intro ge gd y bt Y1 B1 V1 h1 h2 t1 o1 r1 c1 K2 je;obtain⟨m1,m2⟩:=ag3 _ _ _ _ _ h1;obtain⟨z1,z2⟩:=au1 (A:=A) (by decide +kernel) (by decide +kernel) h1 h2 hz;have hl:=ha.len;rw[ca5]at z1 z2 je;exact cg3 t1 o1 r1 hI.1 hI.2 hN (by show lsN.size<=_;decide) (by omega) (fun n hn=>C7 (ha.sz n (m1 n hn)) (by decide)) z1 z2 fun Y' y' t' s'=>je Y' B1 y' t' s' (dz3 _ _ _ _ _)
end
end
section
def aK8(c:J3):Bool:=Nat.ble 48 c.toNat&&Nat.ble c.toNat 55
def cg7:List J3:=[48,49,50,51,52,53,54,55]
def aj7(l:List J3):Nat:=l.foldl (fun n c=>8*n+(c.toNat-48)) 0
theorem cg8:∀n,n<256->cg7.contains (UInt8.ofNat n)=aK8 (UInt8.ofNat n):=by decide +kernel
theorem cB1(c:J3):cg7.contains c=aK8 c:=by
 have:=cg8 c.toNat (UInt8.toNat_lt c)
 rwa [UInt8.ofNat_toNat]at this
theorem aU7{c:J3}(h:aK8 c=true):48<=c.toNat/\c.toNat<=55:=by
 unfold aK8 at h;rw[J4]at h;exact⟨Nat.le_of_ble_eq_true h.1,Nat.le_of_ble_eq_true h.2⟩
theorem bb1(l:List J3)(c:J3):aj7 (l++[c])=8*aj7 l+(c.toNat-48):=by unfold aj7;rw[List.foldl_append];rfl
theorem bI2:∀ (k:Nat) (l:List J3),l.length=k->l.all aK8=true->aj7 l<8 ^ k:=by
 intro k
 induction k with
 |zero =>
  intro l hl _;have:l=[]:=ai0 hl;subst this;show(0:Nat)<1;decide
 |succ k ih =>
  intro l hl ha;obtain⟨m,x,rfl,hm⟩:=aF4 hl;rw[List.all_append,J4]at ha;have h1:=ih m hm ha.1;have hx:aK8 x=true:=by have:=ha.2;simpa using this
  have h2:=aU7 hx;rw[bb1,Nat.pow_succ];omega
theorem cg9(l:List J3):av2 ⟨⟨l⟩⟩=if l.isEmpty||(decide (l.length>3) || !l.all aK8)then none else some ((aj7 l:Nat):Int):=rfl
theorem db3(l:List J3):(Lib.trimS l cg7).isEmpty=l.all aK8:=by
 rw[ba6,funext cB1]
theorem ch0{x:Operand}{F:Bool->H->Prop}{Y:H}(hF:F false Y):W7 Tryz.prog (do eqGuard .neq 160 x (.const (.nilIface)) (.nilIface) (.nilIface);binOp .neq 160 (.nilIface) (.nilIface)) kB F Y:=by
 intro w hw;have h1:(eqGuard .neq 160 x (.const (.nilIface)) (.nilIface) (.nilIface)).run Tryz.prog w=.ok () w:=by simp[eqGuard]
 have h2:(binOp .neq 160 (.nilIface) (.nilIface)).run Tryz.prog w=.ok (.bool false) w:=run_neq_nil_nil_at w 160 (by kernel_rfl);simp only[ar8,Sem.run_bind,h1,h2,Result.andThen_ok,Sem.run_pure];exact⟨_,X7.refl hw,H2 hF⟩
theorem cB2{x:Operand}{F:Bool->H->Prop}{Y:H}(hF:F true Y):W7 Tryz.prog (do eqGuard .eql 160 x (.const (.nilIface)) (.nilIface) (.nilIface);binOp .eql 160 (.nilIface) (.nilIface)) kB F Y:=by
 intro w hw;have h1:(eqGuard .eql 160 x (.const (.nilIface)) (.nilIface) (.nilIface)).run Tryz.prog w=.ok () w:=by simp[eqGuard]
 have h2:(binOp .eql 160 (.nilIface) (.nilIface)).run Tryz.prog w=.ok (.bool true) w:=run_eql_nil_nil_at w 160 (by kernel_rfl);simp only[ar8,Sem.run_bind,h1,h2,Result.andThen_ok,Sem.run_pure];exact⟨_,X7.refl hw,H2 hF⟩
theorem aH4{n:Int}{v:u9}{k:IntKind}{F:Int->u9->H->Prop}{Y:H}(h2:F n v Y):HL.app (.tup [.sc (.int k),.sc .raw]) F (.t [.int k n,v]) Y:=by
 simp only[HL.app,TK.prj,CK.prj,SK.prj,aw6,ak5,bi9,ar7];exact h2
attribute [local irreducible] i9 E3 A0 I9 l8 H0 C0 stW muW biW W7 imW J0 G8 app E2 J1 D3 E6 oW P0 J5 C9 rfW N5 M9 D5 exW I2 Gr P1
theorem co7(l:List J3)(h1:l≠[])(h2:l.length<=3)(h3:l.all aK8=true){Y:H}{K:KH}(hK:K (.t [.int .u64 ((aj7 l:Nat):Int),.nilIface]) Y):i7 209 [.s ⟨⟨l⟩⟩,.i 8,.i 32] K Y:=by
 refine aa7 _ hK (dx6 _ _ _ ?_);clear hK;unfold cY1;refine l7 (by rw[Z4];cases l with|nil=>exact m7 rfl h1|cons=>rfl) ?_;refine j_d (j_d (l9 (by decide) ?_));refine l9 (by decide) (j_d (l7 (by decide) (j_d (l7 (by decide) ?_))));refine l7 (by decide) (j_d (l7 (by decide) (l7 (by decide) (D0 (by decide) (D0 (by decide) ?_)))));refine bY3 P8 aU6 bI1 ⟨⟨l⟩⟩ ?_;intro x Y1 g1 hx;have kb:x.len=l.length:=by rw[hx.1,aI7]
 refine H9 ?_;intro R hR;have hc8:IntKind.u64.wrap ((IntKind.u64.wrap (Int.tdiv 18446744073709551615 (IntKind.u64.wrap 8)))+1)=2305843009213693952:=by decide
 have hmv:IntKind.u64.wrap ((IntKind.u64.wrap (1*2 ^ min (Int.toNat (IntKind.u64.wrap 32)) (IntKind.bits .u64)))-1)=4294967295:=by decide
 rw[hc8,hmv];have key:∀ (k i:Nat),k+i=l.length->R 8 false ⟨⟨l⟩⟩ 2305843009213693952 4294967295 false ((aj7 (l.take i):Nat):Int) x ((x.len:Nat):Int) (i:Int) Y1:=by
  intro k
  induction k with
  |zero =>
   intro i hi;refine hR _ _ _ _ _ _ _ _ _ _ _ ?_;refine l7 (W4 (by omega)) (j_d (l7 rfl (l7 rfl ⟨?_,g1⟩)));rw[Q1 (by omega)]
  |succ k ih =>
   intro i hi;obtain⟨q,hq⟩:∃q,l[i]?=some q:=⟨_,G0 (by omega)⟩;have hr:=aU7 (bY9 h3 hq);obtain⟨g,o,a1,_,a3⟩:=hx.rdA (i:=i) (r:=[.int .u8 q.toNat]) (by show(ax6 l)[i]?=_;unfold ax6;rw[Z6,hq];rfl) (by decide);have a4:=a3 0 _ rfl;have ht:(l.take i).all aK8=true:=by
    rw[X2]at h3⊢;exact fun z hz=>h3 z (List.mem_of_mem_take hz)
   have hb:=bI2 (l.take i).length (l.take i) rfl ht;have tp:8 ^ (l.take i).length<=8 ^ 3:=Nat.pow_le_pow_right (by decide) (by rw[P4];omega);have hb3:aj7 (l.take i)<512:=Nat.lt_of_lt_of_le hb tp;have yz:aj7 (l.take (i+1))=8*aj7 (l.take i)+(q.toNat-48):=by rw[R1,hq];exact bb1 _ _
   have e1:IntKind.u8.wrap (((q.toNat:Nat):Int)-48)=((q.toNat-48:Nat):Int):=by
    have:IntKind.u8.wrap (((q.toNat:Nat):Int)-48)=(((q.toNat:Nat):Int)-48)%256:=rfl;rw[this];omega
   have e8:IntKind.u8.wrap 8=8:=by decide
   have e64:IntKind.u64.wrap 8=8:=by decide
   have w64:∀z:Int,0<=z->z<=1000000->IntKind.u64.wrap z=z:=by
    intro z z0 z1;rw[IntKind.wrap_u64];omega
   have e2:IntKind.u64.wrap (((aj7 (l.take i):Nat):Int)*IntKind.u64.wrap 8)=8*((aj7 (l.take i):Nat):Int):=by rw[e64,w64 _ (by omega) (by omega)];omega
   have e3:IntKind.u64.wrap ((q.toNat-48:Nat):Int)=((q.toNat-48:Nat):Int):=w64 _ (by omega) (by omega);have e4:IntKind.u64.wrap (8*((aj7 (l.take i):Nat):Int)+((q.toNat-48:Nat):Int))=((aj7 (l.take (i+1)):Nat):Int):=by rw[w64 _ (by omega) (by omega),yz];omega
   refine hR _ _ _ _ _ _ _ _ _ _ _ (l9 (M7 (by omega)) ?_);refine K5 (fun j=>∀v,j 8 false ⟨⟨l⟩⟩ 2305843009213693952 4294967295 false ((aj7 (l.take (i+1)):Nat):Int) x ((x.len:Nat):Int) (i:Int) v Y1) ?_ ?_
   ·intro v;rw[ab9 (i:=i)];exact ih (i+1) (by omega)
   ·intro j hj;rw[a1];refine j0 (D0 ⟨by omega,by omega⟩ (D1 a4 ?_));refine K5 (fun j'=>∀v1 v2 v3,j' 8 false ⟨⟨l⟩⟩ 2305843009213693952 4294967295 false ((aj7 (l.take i):Nat):Int) ((q.toNat-48:Nat):Int) x ((x.len:Nat):Int) (i:Int) v1 v2 v3 Y1) ?_ ?_
    ·intro v1 v2 v3;rw[e8,e2,e3,e4];refine l7 (by rw[K6];omega) (l7 (by rw[K6];omega) ?_);refine K5 (fun j''=>∀u1 u2 u3 u4 u5 u6,j'' 8 false ⟨⟨l⟩⟩ 2305843009213693952 4294967295 false ((aj7 (l.take (i+1)):Nat):Int) x ((x.len:Nat):Int) (i:Int) u1 u2 u3 u4 u5 u6 false Y1) ?_ ?_
     ·intro u1 u2 u3 u4 u5 u6;exact l7 rfl (hj _)
     ·intro j'' za;refine l7 (by rw[K6,yz];omega) ?_;rw[show decide (((aj7 (l.take (i+1)):Nat):Int)>4294967295)=false from by rw[K6,yz];omega];exact za _ _ _ _ _ _
    ·intro j' ip;refine K5 (fun j2=>∀v,j2 8 false ⟨⟨l⟩⟩ 2305843009213693952 4294967295 false ((aj7 (l.take i):Nat):Int) ((q.toNat:Nat):Int) x ((x.len:Nat):Int) (i:Int) false v Y1) ?_ ?_
     ·intro v;refine l7 rfl (K5 (fun j3=>∀v1 v2 v3,j3 8 false ⟨⟨l⟩⟩ 2305843009213693952 4294967295 false ((aj7 (l.take i):Nat):Int) ((q.toNat:Nat):Int) x ((x.len:Nat):Int) (i:Int) v1 true v2 v3 Y1) ?_ ?_)
      ·intro v1 v2 v3;refine l9 rfl ?_;rw[e1];exact ip _ _ _
      ·intro j3 hj3;refine l9 (by rw[I6];omega) ?_;rw[show decide (((q.toNat:Nat):Int)<=57)=true from by rw[I6];omega];exact hj3 _ _ _
     ·intro j2 lx;exact l7 (by simp only[X0,ne_eq];omega) (lx _)
 exact key l.length 0 (by omega)
theorem cB3(l:List J3)(h1:l≠[])(h2:l.length<=3)(h3:l.all aK8=true){Y:H}{K:KH}(hK:K (.t [.i ((aj7 l:Nat):Int),.nilIface]) Y):i7 137 [.s ⟨⟨l⟩⟩,.i 8,.i 32] K Y:=by
 refine cO7 _ _ _ ?_;unfold cy1;refine l5 (cU7 _ _ _ ?_);unfold cy4;obtain⟨c,r,rfl⟩:∃c r,l=c::r:=by
  cases l with
  |nil=>exact m7 rfl h1
  |cons c r=>exact⟨c,r,rfl⟩
 have hr:=aU7 (bY9 h3 (i:=0) (c:=c) rfl);have hb:=bI2 (c::r).length (c::r) rfl h3;have tp:8 ^ (c::r).length<=8 ^ 3:=Nat.pow_le_pow_right (by decide) h2;have hb3:aj7 (c::r)<512:=Nat.lt_of_lt_of_le hb tp;refine l7 (by rw[Z4];rfl) ?_;refine K5 (fun j=>j ⟨⟨c::r⟩⟩ 8 32 false Y) ?_ ?_
 ·refine l5 (co7 (c::r) h1 h2 h3 (aH4 ?_));refine K5 (fun j=>j 32 .nilIface false ((aj7 (c::r):Nat):Int) false Y) ?_ ?_
  ·refine l7 rfl (K5 (fun j=>j 32 false ((aj7 (c::r):Nat):Int) Y) ?_ ?_)
   ·refine D0 (by decide) (K5 (fun j=>∀v,j false ((aj7 (c::r):Nat):Int) v false Y) ?_ ?_)
    ·intro v;refine l7 rfl (K5 (fun j=>∀v,j false ((aj7 (c::r):Nat):Int) v false Y) ?_ ?_)
     ·intro v;refine l7 rfl (K5 (fun j=>j ((aj7 (c::r):Nat):Int) Y) ?_ ?_)
      ·exact aH4 (ch0 (l7 rfl hK))
      ·intro j hj;refine l7 rfl ?_;rw[D7 (x:=((aj7 (c::r):Nat):Int)) (by omega) (by omega)];exact hj
     ·intro j hj;exact l7 rfl (hj _)
    ·intro j hj;refine l9 rfl ?_;have hcut:IntKind.u64.wrap (1*2 ^ min (Int.toNat (IntKind.u64.wrap (IntKind.i64.wrap (32-1)))) (IntKind.bits .u64))=2147483648:=by decide
     rw[hcut,show decide (((aj7 (c::r):Nat):Int)>=2147483648)=false from by rw[K6];omega];exact hj _
   ·intro j hj;exact l7 (by decide) hj
  ·intro j hj;exact ch0 (l7 rfl hj)
 ·intro j hj;refine X9 (c:=c) (by omega) (by rfl) ?_;rw[show((((c.toNat:Nat):Int):Int)==43)=(c==43)from u8e c 43,show((((c.toNat:Nat):Int):Int)==45)=(c==45)from u8e c 45];have k1:(c==43)=false:=by
   rw[X0];rintro rfl;exact m7 hr.1 (by decide)
  have k2:(c==45)=false:=by
   rw[X0];rintro rfl;exact m7 hr.1 (by decide)
  exact l7 k1 (l7 k2 hj)
theorem bb2(l:List J3)(h1:l≠[])(hl:l.length<=1000000){Y:H}{K:KH}(hK:K (.t [.i ((av2 ⟨⟨l⟩⟩).getD 0),.bool (av2 ⟨⟨l⟩⟩).isSome]) Y):i7 80 [.s ⟨⟨l⟩⟩] K Y:=by
 refine c80 _ ?_;unfold g80;rw[cg9]at hK;have hemp:l.isEmpty=false:=by cases l with|nil=>exact m7 rfl h1|cons=>rfl
 rw[hemp,R0]at hK;refine K5 (fun j=>∀b:Bool,b=(decide (l.length>3) || !l.all aK8)->j ⟨⟨l⟩⟩ b Y) ?_ ?_
 ·intro b hb;rw[<-hb]at hK;cases b with
  |true=>exact l9 rfl hK
  |false =>
   have hb:=hb.symm;rw[Bool.or_eq_false_iff,K6]at hb;have ha:l.all aK8=true:=by simpa using hb.2
   refine l7 rfl (l5 (cB3 l h1 (by omega) ha (aH4 (cB2 ?_))));exact hK
 ·intro j hj;by_cases h3:l.length>3
  ·exact l9 (by rw[bsz,I6];omega) (hj _ (by rw[aD8 h3];rfl))
  ·refine l7 (by rw[bsz,K6];omega) (l5 (aK6 l cg7 (by omega) (by decide) (by decide) (ab2 ?_)));rw[Z4,db3];exact hj _ (by rw[aP4 h3];rfl)
end
end Go.Proofs.YtikedigonnlbkaaGreatDoor

