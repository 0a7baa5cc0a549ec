/- A part of the proof: FilesKnown holds. -/
import Derived.Test.YtbdlkofldmhoaaaGreatDoorNao
import Derived.Test.YtbdlkofldmhoaaaGreatDoorChecked
import Derived.IntWalk
import Derived.Laws.StandIn
set_option maxRecDepth 100000
namespace Go.Proofs.YtbdlkofldmhoaaaGreatDoor
open Go Go.HL
def an252:Ann:=(.q (.q (.n (.blk (.seq (some [(0,.s),(1,.s),(5,.i),(16,.b)]) .r (.cond (.q .z) (.q (.cond (.q .z) (.q (.cond (.q .z) (.seq (some [(0,.s),(1,.s),(5,.i),(36,.b)]) .r (.h))))))))) (.q (.q (.q (.q (.q (.n (.blk (.loop [(0,.s),(1,.s),(5,.i),(6,.sc (.int .u8)),(7,.sc (.int .u8)),(8,.i),(9,.i),(10,.i)] (.n (.q (.cond .z .z)) (.blk (.seq (some [(0,.s),(1,.s),(5,.i),(6,.sc (.int .u8)),(7,.sc (.int .u8)),(8,.i),(9,.i),(10,.i)]) (.q (.cond (.q (.n (.q (.h)) .r)) .z)) (.n (.seq (some [(0,.s),(1,.s),(5,.i),(6,.sc (.int .u8)),(7,.sc (.int .u8)),(8,.i),(9,.i),(10,.i),(85,.w),(86,.w),(87,.w),(88,.w),(89,.w),(90,.w),(91,.w),(92,.w),(93,.b)]) .r (.h)) (.q (.q (.seq (some [(0,.s),(1,.s),(5,.i),(6,.sc (.int .u8)),(7,.sc (.int .u8)),(8,.i),(9,.i),(10,.i),(85,.w),(86,.w),(87,.w),(88,.w),(89,.w),(90,.w),(91,.w),(92,.w),(103,.w),(104,.w),(105,.w),(106,.w),(107,.b)]) .r (.cond (.q (.n (.q (.h)) (.q .z))) (.seq (some [(0,.s),(1,.s),(5,.i),(6,.sc (.int .u8)),(7,.sc (.int .u8)),(8,.i),(9,.i),(10,.i),(85,.w),(86,.w),(87,.w),(88,.w),(89,.w),(90,.w),(91,.w),(92,.w),(103,.w),(104,.w),(105,.w),(106,.w),(122,.w),(123,.w),(124,.w),(125,.w),(126,.w),(129,.w),(130,.w),(131,.w),(132,.b)]) .r (.cond (.q (.n (.q (.h)) (.q .z))) .z)))))))))))) (.q .z))))))))))
def g252 (v1:ByteArray) (v2:ByteArray) (K:KH):H->Prop :=
 letJ (T:=ByteArray->ByteArray->Int->Bool->H->Prop) (fun v4 v5 v6 x7=>brW x7 (K (.int .i64 0)) (brW ((v6:Int)==1) (idxW v5 0 (fun c8=>callT Tryz.prog 88 [.string v4,.int .u8 (c8.toNat:Int)] kI (fun(x9:Int)=>K (.int .i64 x9)))) (brW (decide ((v6:Int)>=((v4.size:Nat):Int))) (K (.int .i64 (-1))) (letJ (T:=ByteArray->ByteArray->Int->Bool->H->Prop) (fun v11 v12 v13 x14=>brW x14
 (cvalT Tryz.prog (.func (.func 240) ⟨[]⟩ ⟨[]⟩) [.string v11,.string v12] kI (fun(x15:Int)=>K (.int .i64 x15))) (idxW v12 0 (fun c16=>idxW v12 1 (fun c17 =>
 loopW [.sc .str,.sc .str,.sc (.int .i64),.sc (.int .u8),.sc (.int .u8),.sc (.int .i64),.sc (.int .i64),.sc (.int .i64)] (fun(R18:ByteArray->ByteArray->Int->Int->Int->Int->Int->Int->H->Prop)=>(fun(v19:ByteArray) (v20:ByteArray) (v21:Int) (c0_22:Int) (c1_23:Int) (v24:Int) (v25:Int) (v26:Int)=>brW (decide ((v24:Int)<v25))
 (letJ (T:=ByteArray->ByteArray->Int->Int->Int->Int->Int->Int->H->Prop) (fun v28 v29 v30 c0_31 c1_32 v33 v34 v35=>letJ (T:=ByteArray->ByteArray->Int->Int->Int->Int->Int->Int->Value->Value->Value->Value->Value->Value->Value->Value->Bool->H->Prop) (fun v37 v38 v39 c0_40 c1_41 v42 v43 v44 x45 x46 x47 x48 x49 x50 x51 x52 x53=>brW x53 (K (.int .i64 v42))
 (letJ (T:=ByteArray->ByteArray->Int->Int->Int->Int->Int->Int->Value->Value->Value->Value->Value->Value->Value->Value->Value->Value->Value->Value->Bool->H->Prop) (fun v55 v56 v57 c0_58 c1_59 v60 v61 v62 x63 x64 x65 x66 x67 x68 x69 x70 x71 x72 x73 x74 x75=>brW x75 (ifW (bndOk none v55.size/\bndOk (some v60) (v55.size)) (cvalT Tryz.prog (.func (.func 240) ⟨[]⟩ ⟨[]⟩) [.string (v55.extract v60.toNat v55.size),.string v56] kI (fun(x76:Int) =>
 brW (decide ((x76:Int)>=0)) (K (.int .i64 (IntKind.i64.wrap (x76+v60)))) (K (.int .i64 (-1))))))
 (letJ (T:=ByteArray->ByteArray->Int->Int->Int->Int->Int->Int->Value->Value->Value->Value->Value->Value->Value->Value->Value->Value->Value->Value->Value->Value->Value->Value->Value->Value->Value->Value->Bool->H->Prop) (fun v78 v79 v80 c0_81 c1_82 v83 v84 v85 _x86 _x87 _x88 _x89 _x90 _x91 _x92 _x93 _x94 _x95 _x96 _x97 _x98 _x99 _x100 _x101 _x102 _x103 _x104 _x105 x106=>brW x106 (ifW (bndOk none v78.size/\bndOk (some v83) (v78.size))
 (callT Tryz.prog 255 [.string (v78.extract v83.toNat v78.size),.string v79] kI (fun(x107:Int)=>brW (decide ((x107:Int)<0)) (K (.int .i64 (-1))) (K (.int .i64 (IntKind.i64.wrap (v83+x107))))))) (R18 v78 v79 v80 c0_81 c1_82 v83 v84 v85)) (fun j77=>rdT (rdC 0 0) kI (fun(x108:Int)=>brW (decide ((v57:Int)>x108)) (ifW (0<=(4:Int)) (brW (decide ((v62:Int)>=(IntKind.i64.wrap (4+(Int.fdiv v60 (2 ^ min (Int.toNat 4) (IntKind.bits .i64)))))))
 (j77 v55 v56 v57 c0_58 c1_59 v60 v61 v62 x63 x64 x65 x66 x67 x68 x69 x70 x71 x72 x73 x74 (.int .i64 v62) (.int .i64 v60) (.int .i64 (Int.fdiv v60 (2 ^ min (Int.toNat 4) (IntKind.bits .i64)))) (.int .i64 (IntKind.i64.wrap (4+(Int.fdiv v60 (2 ^ min (Int.toNat 4) (IntKind.bits .i64)))))) (.bool (decide ((v62:Int)>=(IntKind.i64.wrap (4+(Int.fdiv v60 (2 ^ min (Int.toNat 4) (IntKind.bits .i64)))))))) (.int .i64 v60) (.int .i64 v61) (.bool (decide ((v60:Int)<v61))) (decide ((v60:Int)<v61)))
 (j77 v55 v56 v57 c0_58 c1_59 v60 v61 v62 x63 x64 x65 x66 x67 x68 x69 x70 x71 x72 x73 x74 (.int .i64 v62) (.int .i64 v60) (.int .i64 (Int.fdiv v60 (2 ^ min (Int.toNat 4) (IntKind.bits .i64)))) (.int .i64 (IntKind.i64.wrap (4+(Int.fdiv v60 (2 ^ min (Int.toNat 4) (IntKind.bits .i64)))))) (.bool (decide ((v62:Int)>=(IntKind.i64.wrap (4+(Int.fdiv v60 (2 ^ min (Int.toNat 4) (IntKind.bits .i64)))))))) (.tuple ⟨[]⟩) (.tuple ⟨[]⟩) (.tuple ⟨[]⟩) false)))
 (j77 v55 v56 v57 c0_58 c1_59 v60 v61 v62 x63 x64 x65 x66 x67 x68 x69 x70 x71 x72 x73 x74 (.tuple ⟨[]⟩) (.tuple ⟨[]⟩) (.tuple ⟨[]⟩) (.tuple ⟨[]⟩) (.tuple ⟨[]⟩) (.tuple ⟨[]⟩) (.tuple ⟨[]⟩) (.tuple ⟨[]⟩) false))))) (fun j54=>rdT (rdC 0 0) kI (fun(x109:Int)=>brW (decide ((v39:Int)<=x109)) (callT Tryz.prog 239 [.int .i64 (IntKind.i64.wrap (v42+1))] kI (fun(x110:Int) =>
 j54 v37 v38 v39 c0_40 c1_41 (IntKind.i64.wrap (v42+1)) v43 (IntKind.i64.wrap (v44+1)) x45 x46 x47 x48 x49 x50 x51 x52 (.int .i64 (IntKind.i64.wrap (v44+1))) (.int .i64 (IntKind.i64.wrap (v42+1))) (.int .i64 x110) (.bool (decide (((IntKind.i64.wrap (v44+1)):Int)>x110))) (decide (((IntKind.i64.wrap (v44+1)):Int)>x110))))
 (j54 v37 v38 v39 c0_40 c1_41 (IntKind.i64.wrap (v42+1)) v43 (IntKind.i64.wrap (v44+1)) x45 x46 x47 x48 x49 x50 x51 x52 (.tuple ⟨[]⟩) (.tuple ⟨[]⟩) (.tuple ⟨[]⟩) (.tuple ⟨[]⟩) false))))) (fun j36=>idxW v28 (IntKind.i64.wrap (v33+1)) (fun c111=>brW ((c111.toNat:Int)==c1_32) (ifW (bndOk (some (IntKind.i64.wrap (v33+v30))) v28.size/\bndOk (some v33) ((IntKind.i64.wrap (v33+v30)).toNat))
 (j36 v28 v29 v30 c0_31 c1_32 v33 v34 v35 (.string v28) (.int .i64 v33) (.int .i64 v33) (.int .i64 v30) (.int .i64 (IntKind.i64.wrap (v33+v30))) (.string (v28.extract v33.toNat ((IntKind.i64.wrap (v33+v30)).toNat))) (.string v29) (.bool (strEq (v28.extract v33.toNat ((IntKind.i64.wrap (v33+v30)).toNat)) v29)) (strEq (v28.extract v33.toNat ((IntKind.i64.wrap (v33+v30)).toNat)) v29)))
 (j36 v28 v29 v30 c0_31 c1_32 v33 v34 v35 (.tuple ⟨[]⟩) (.tuple ⟨[]⟩) (.tuple ⟨[]⟩) (.tuple ⟨[]⟩) (.tuple ⟨[]⟩) (.tuple ⟨[]⟩) (.tuple ⟨[]⟩) (.tuple ⟨[]⟩) false)))) (fun j27=>idxW v19 v24 (fun c112=>brW ((c112.toNat:Int) != c0_22) (ifW (bndOk (some v25) v19.size/\bndOk (some (IntKind.i64.wrap (v24+1))) (v25.toNat)) (callT Tryz.prog 88 [.string (v19.extract ((IntKind.i64.wrap (v24+1)).toNat) v25.toNat),.int .u8 c0_22] kI (fun(x113:Int) =>
 brW (decide ((x113:Int)<0)) (K (.int .i64 (-1))) (j27 v19 v20 v21 c0_22 c1_23 (IntKind.i64.wrap (v24+(IntKind.i64.wrap (x113+1)))) v25 v26)))) (j27 v19 v20 v21 c0_22 c1_23 v24 v25 v26)))) (K (.int .i64 (-1))))) (fun(R114:ByteArray->ByteArray->Int->Int->Int->Int->Int->Int->H->Prop)=>R114 v11 v12 v13 (c16.toNat:Int) (c17.toNat:Int) 0 (IntKind.i64.wrap ((IntKind.i64.wrap (((v11.size:Nat):Int) - v13))+1)) 0))))) (fun j10 =>
 rdT (rdC 0 0) kI (fun(x115:Int)=>brW (decide ((v6:Int)<=x115)) (j10 v4 v5 v6 (decide (((v4.size:Nat):Int)<=64))) (j10 v4 v5 v6 false))))))) (fun j3=>brW (((v2.size:Nat):Int)==0) (j3 v1 v2 ((v2.size:Nat):Int) true) (j3 v1 v2 ((v2.size:Nat):Int) (strEq v2 v1)))
theorem c252 (v1:ByteArray) (v2:ByteArray) {K:KH} {σ:H}:g252 v1 v2 K σ->callW Tryz.prog 252 [.string v1,.string v2] K σ:=call_k an252 Tryz.func252 (by kernel_rfl)

end Go.Proofs.YtbdlkofldmhoaaaGreatDoor

namespace Go.Proofs.YtbdlkofldmhoaaaGreatDoor
open Go Go.HL
end Go.Proofs.YtbdlkofldmhoaaaGreatDoor

set_option maxRecDepth 100000
namespace Go.Proofs.YtbdlkofldmhoaaaGreatDoor
open Go Go.HL Go.Wk
attribute [local irreducible] ptrW ifW brW andW rdT alW letJ stW muW biW vaW imW callT cvalT app callW invW callVW sizeT oW nilF oneK loopW rfW funW begW roundK exW idxW Gr Put
structure Nd where
 blk:Nat
 kind:Int
 mode:Int
 data:ByteArray
 links:Int
 up:Int
 eb:Option Nat
 ents:List (ByteArray×Int)
structure Tb where
 qi:Int
 qb:Int
 ui:Int
 ub:Int
 last:Int
 mb:Nat
 nodes:List (Int×Nd)
def Nd.cells (n:Nd):Obj := .cells ⟨[.int .i64 n.kind,.int .i64 n.mode,.string n.data,.int .i64 n.links,.int .i64 n.up,.map n.eb]⟩ 115 (0,0)
def Nd.ptr (n:Nd):Value := .pointer (some ⟨n.blk,0,none⟩)
def Tb.cells (T:Tb):Obj := .cells ⟨[.int .i64 T.qi,.int .i64 T.qb,.int .i64 T.ui,.int .i64 T.ub,.map (some T.mb),.int .i64 T.last]⟩ 118 (0,0)
def valI (n:Int):Value := .int .i64 n
structure NdAt (σ:H) (n:Nd):Prop where
 cells:σ n.blk=some n.cells
 ents : ∀e,n.eb=some e->MapAt σ e (encL kkS valI n.ents)
 none:n.eb=none->n.ents=[]
 dir:n.kind=2->n.eb≠Option.none
def Tb.get (T:Tb) (ino:Int):Option Nd:=lk ino T.nodes
structure TAt (σ:H) (bt:Nat) (T:Tb):Prop where
 cells:σ bt=some T.cells
 nodes:MapAt σ T.mb (encL kkI Nd.ptr T.nodes)
 each : ∀i n,T.get i=some n->NdAt σ n
theorem NdAt.gr {σ σ':H} {n:Nd} (h:NdAt σ n) (hg:Gr σ σ'):NdAt σ' n:=⟨hg.get h.cells,fun e he=>(h.ents e he).gr hg,h.none,h.dir⟩
theorem TAt.gr {σ σ':H} {bt:Nat} {T:Tb} (h:TAt σ bt T) (hg:Gr σ σ'):TAt σ' bt T:=⟨hg.get h.cells,h.nodes.gr hg,fun i n hn=>(h.each i n hn).gr hg⟩
theorem TAt.get {σ:H} {bt:Nat} {T:Tb} (h:TAt σ bt T) {ino:Int} {n:Nd} (hn:T.get ino=some n):NdAt σ n:=h.each ino n hn
theorem get_ptr (o:Option Nd):(o.map Nd.ptr).getD (.pointer none) = .pointer (o.map fun n=>⟨n.blk,0,none⟩):=by cases o<;>rfl

theorem s_get {σ:H} {bt:Nat} {T:Tb} (hT:TAt σ bt T) (ino:Int) {K:KH} (hK:K (.pointer ((T.get ino).map fun n=>⟨n.blk,0,none⟩)) σ):callW Tryz.prog 85 [.pointer (some ⟨bt,0,none⟩),.int .i64 ino] K σ:=by
 refine c85 _ _ ?_
 unfold g85
 refine br_f rfl ?_
 refine ptr_i ?_
 refine rd_M (rdC_of hT.cells (by rfl)) ?_
 refine rd_P (x:=(T.get ino).map fun n=>⟨n.blk,0,none⟩) ?_ hK
 rw[<-get_ptr]
 exact rdM_at (kk:=kkI) hT.nodes _ false ino
def Tb.find (T:Tb) (dir:Int) (name:ByteArray):Option Int:=(T.get dir).bind fun n=>lk name n.ents
theorem s_Find {σ:H} {bt:Nat} {T:Tb} (hT:TAt σ bt T) (dir:Int) (name:ByteArray) {K:KH} (hK:K (.tuple ⟨[.int .i64 ((T.find dir name).getD 0),.bool (T.find dir name).isSome]⟩) σ) :
 callW Tryz.prog 143 [.pointer (some ⟨bt,0,none⟩),.int .i64 dir,.string name] K σ:=by
 refine c143 _ _ _ ?_
 unfold g143
 refine call_i (s_get hT dir ?_)
 refine app_P ?_
 unfold Tb.find at hK
 cases hn:T.get dir with
 | none=>rw[hn]at hK;exact br_t rfl hK
 | some n =>
  rw[hn]at hK
  have hN:=hT.get hn
  refine br_f rfl (ptr_i ?_)
  refine rd_M (rdC_of hN.cells (by rfl)) ?_
  cases he:n.eb with
  | none =>
   have:=hN.none he
   simp only[Option.bind_some,this]at hK
   exact rd_G rfl (app_IB hK)
  | some e =>
   refine rd_G (rdM_at (kk:=kkS) (hN.ents e he) _ true name) ?_
   have hv:((lk name n.ents).map valI).getD (.int .i64 0) = .int .i64 ((lk name n.ents).getD 0):=by cases lk name n.ents<;>rfl
   rw[hv]
   exact app_IB hK
theorem s_must (is:Bool) (e:Int) {σ:H} {K:KH} (hK:K (.int .i64 (if is then 0 else e)) σ):callW Tryz.prog 74 [.bool is,.int .i64 e] K σ:=by
 refine c74 _ _ ?_
 unfold g74
 cases is
 ·exact br_t rfl hK
 ·exact br_f rfl hK
theorem s_there (t:Option Addr) {σ:H} {K:KH} (hK:K (.int .i64 (if t.isSome then 0 else 1)) σ):callW Tryz.prog 76 [.pointer t] K σ:=by
 refine c76 _ ?_
 unfold g76
 refine call_i (s_must _ _ ?_)
 refine app_I ?_
 cases t<;>exact hK
def Tb.up (T:Tb) (dir:Int):Int:=((T.get dir).map (·.up)).getD 0
theorem s_Up {σ:H} {bt:Nat} {T:Tb} (hT:TAt σ bt T) (dir:Int) {K:KH} (hK:K (.int .i64 (T.up dir)) σ):callW Tryz.prog 72 [.pointer (some ⟨bt,0,none⟩),.int .i64 dir] K σ:=by
 refine c72 _ _ ?_
 unfold g72
 refine call_i (s_get hT dir (app_P ?_))
 unfold Tb.up at hK
 cases hn:T.get dir with
 | none=>rw[hn]at hK;exact br_t rfl hK
 | some n =>
  rw[hn]at hK
  have hN:=hT.get hn
  refine br_f rfl (ptr_i ?_)
  exact rd_I (rdC_of hN.cells (by rfl)) hK
theorem s_Root (bt:Addr) {σ:H} {K:KH} (hK:K (.int .i64 1) σ):callW Tryz.prog 71 [.pointer (some bt)] K σ:=by
 refine c71 _ ?_
 unfold g71
 exact br_f rfl hK

def Tb.dirE (T:Tb) (ino:Int):Int:=match T.get ino with
 | none=>5
 | some n=>if n.kind==2 then 0 else 8
theorem s_dir1 {σ:H} {bt:Nat} {T:Tb} (hT:TAt σ bt T) {b1 b2:Nat} {ino:Int} {t1 t2:TypeId} (h1:σ b1=some (.cells ⟨[.pointer (some ⟨bt,0,none⟩)]⟩ t1 (0,0))) (h2:σ b2=some (.cells ⟨[.int .i64 ino]⟩ t2 (0,0))) {K:KH}
 (hK:K (.int .i64 (T.dirE ino)) σ):callW Tryz.prog 139 [.pointer (some ⟨b1,0,none⟩),.pointer (some ⟨b2,0,none⟩)] K σ:=by
 refine c139 _ _ ?_
 unfold g139
 (repeat (first|refine ptr_i ?_|refine z2 ?_|(refine al_i ?_;intro _ _ _ _ _)|refine z4 ?_|refine z5 ?_|(refine z6 ?_;intro _ _)|refine app_P ?_|refine app_I ?_|refine app_S ?_|refine app_B ?_|refine app_M ?_|refine app_L ?_|refine app_U ?_|refine app_R ?_|(refine app_of rfl ?_;try dsimp only)))
 refine call_i (s_get hT ino (app_P ?_))
 unfold Tb.dirE at hK
 cases hn:T.get ino with
 | none=>rw[hn]at hK;exact br_t rfl hK
 | some n =>
  rw[hn]at hK
  have hN:=hT.get hn
  refine br_f rfl (ptr_i ?_)
  refine rd_I (rdC_of hN.cells (by rfl)) ?_
  exact call_i (s_must _ _ (app_I hK))
theorem s_free1 {σ:H} {bt:Nat} {T:Tb} (hT:TAt σ bt T) {b1 b2 b3:Nat} {dir:Int} {name:ByteArray} {t1 t2 t3:TypeId} (h1:σ b1=some (.cells ⟨[.pointer (some ⟨bt,0,none⟩)]⟩ t1 (0,0))) (h2:σ b2=some (.cells ⟨[.int .i64 dir]⟩ t2 (0,0))) (h3:σ b3=some (.cells ⟨[.string name]⟩ t3 (0,0))) {K:KH}
 (hK:K (.int .i64 (if(T.find dir name).isSome then 6 else 0)) σ):callW Tryz.prog 142 [.pointer (some ⟨b1,0,none⟩),.pointer (some ⟨b2,0,none⟩),.pointer (some ⟨b3,0,none⟩)] K σ:=by
 refine c142 _ _ _ ?_
 unfold g142
 (repeat (first|refine ptr_i ?_|refine z2 ?_|(refine al_i ?_;intro _ _ _ _ _)|refine z4 ?_|refine z5 ?_|(refine z6 ?_;intro _ _)|refine app_P ?_|refine app_I ?_|refine app_S ?_|refine app_B ?_|refine app_M ?_|refine app_L ?_|refine app_U ?_|refine app_R ?_|(refine app_of rfl ?_;try dsimp only)))
 refine call_i (s_Find hT dir name (app_IB ?_))
 refine call_i (s_must _ _ (app_I ?_))
 cases h:(T.find dir name).isSome<;>simpa[h]using hK
theorem s_entry1 {σ:H} {bt:Nat} {T:Tb} (hT:TAt σ bt T) {b1 b2 b3:Nat} {dir:Int} {name:ByteArray} {t1 t2 t3:TypeId} (h1:σ b1=some (.cells ⟨[.pointer (some ⟨bt,0,none⟩)]⟩ t1 (0,0))) (h2:σ b2=some (.cells ⟨[.int .i64 dir]⟩ t2 (0,0))) (h3:σ b3=some (.cells ⟨[.string name]⟩ t3 (0,0))) {K:KH}
 (hK:K (.int .i64 (if(T.find dir name).isSome then 0 else 5)) σ):callW Tryz.prog 218 [.pointer (some ⟨b1,0,none⟩),.pointer (some ⟨b2,0,none⟩),.pointer (some ⟨b3,0,none⟩)] K σ:=by
 refine c218 _ _ _ ?_
 unfold g218
 (repeat (first|refine ptr_i ?_|refine z2 ?_|(refine al_i ?_;intro _ _ _ _ _)|refine z4 ?_|refine z5 ?_|(refine z6 ?_;intro _ _)|refine app_P ?_|refine app_I ?_|refine app_S ?_|refine app_B ?_|refine app_M ?_|refine app_L ?_|refine app_U ?_|refine app_R ?_|(refine app_of rfl ?_;try dsimp only)))
 refine call_i (s_Find hT dir name (app_IB ?_))
 exact call_i (s_must _ _ (app_I hK))
def Tb.fileE (T:Tb) (ino:Int):Int:=match T.get ino with
 | none=>5
 | some n=>if n.kind==2 then 7 else if n.kind==1 then 0 else 2
theorem s_file1 {σ:H} {bt:Nat} {T:Tb} (hT:TAt σ bt T) {b1 b2:Nat} {ino:Int} {t1 t2:TypeId} (h1:σ b1=some (.cells ⟨[.pointer (some ⟨bt,0,none⟩)]⟩ t1 (0,0))) (h2:σ b2=some (.cells ⟨[.int .i64 ino]⟩ t2 (0,0))) {K:KH}
 (hK:K (.int .i64 (T.fileE ino)) σ):callW Tryz.prog 148 [.pointer (some ⟨b1,0,none⟩),.pointer (some ⟨b2,0,none⟩)] K σ:=by
 refine c148 _ _ ?_
 unfold g148
 (repeat (first|refine ptr_i ?_|refine z2 ?_|(refine al_i ?_;intro _ _ _ _ _)|refine z4 ?_|refine z5 ?_|(refine z6 ?_;intro _ _)|refine app_P ?_|refine app_I ?_|refine app_S ?_|refine app_B ?_|refine app_M ?_|refine app_L ?_|refine app_U ?_|refine app_R ?_|(refine app_of rfl ?_;try dsimp only)))
 refine call_i (s_get hT ino (app_P ?_))
 unfold Tb.fileE at hK
 cases hn:T.get ino with
 | none=>rw[hn]at hK;exact br_t rfl hK
 | some n =>
  rw[hn]at hK
  have hN:=hT.get hn
  refine br_f rfl (ptr_i ?_)
  refine rd_I (rdC_of hN.cells (by rfl)) ?_
  cases hk:(n.kind==2) with
  | true=>simp only[hk]at hK;exact br_t rfl hK
  | false =>
   simp only[hk]at hK
   refine br_f rfl (ptr_i ?_)
   refine rd_I (rdC_of hN.cells (by rfl)) ?_
   exact call_i (s_must _ _ (app_I hK))
theorem sz_int:sizeT Tryz.prog 3=some 1:=by kernel_rfl
theorem sz_string:sizeT Tryz.prog 9=some 1:=by kernel_rfl
theorem sz_bool:sizeT Tryz.prog 4=some 1:=by kernel_rfl
theorem sz_Inode:sizeT Tryz.prog 73=some 4:=by kernel_rfl
theorem sz_Quota:sizeT Tryz.prog 25=some 2:=by kernel_rfl
theorem sz_MSI:sizeT Tryz.prog 113=some 1:=by kernel_rfl
def Tb.node (T:Tb) (ino:Int):List Value:=match T.get ino with
 | none=>[.int .i64 0,.int .i64 0,.string ⟨⟨[]⟩⟩,.int .i64 0]
 | some n=>[.int .i64 n.kind,.int .i64 n.mode,.string n.data,.int .i64 n.links]
theorem s_Node {σ:H} {bt:Nat} {T:Tb} (hT:TAt σ bt T) (ino:Int) {K:KH} (hK:K (.tuple ⟨[.agg ⟨T.node ino⟩,.bool (T.get ino).isSome]⟩) σ):callW Tryz.prog 30 [.pointer (some ⟨bt,0,none⟩),.int .i64 ino] K σ:=by
 refine pure_i _ hK (c30 _ _ ?_)
 unfold g30
 refine al_i ?_
 intro b σ1 hg hb hn
 refine call_i (s_get (hT.gr hg) ino (app_P ?_))
 unfold Tb.node
 cases hnn:T.get ino with
 | none =>
  refine br_t rfl ?_
  (repeat (first|refine ptr_i ?_|refine z2 ?_|(refine al_i ?_;intro _ _ _ _ _)|refine z4 ?_|refine z5 ?_|(refine z6 ?_;intro _ _)|refine app_P ?_|refine app_I ?_|refine app_S ?_|refine app_B ?_|refine app_M ?_|refine app_L ?_|refine app_U ?_|refine app_R ?_|(refine app_of rfl ?_;try dsimp only)))
  exact⟨rfl,by repeat (first | exact Gr.refl _ | assumption | refine Gr.trans ?_ ‹_› | refine Gr.putF ?_ ‹_› (none_of ?_ ‹_›))⟩
 | some n =>
  have hN:=((hT.gr hg).get hnn).cells
  unfold Nd.cells at hN
  refine br_f rfl (ptr_i ?_)
  (repeat (first|refine ptr_i ?_|refine z2 ?_|(refine al_i ?_;intro _ _ _ _ _)|refine z4 ?_|refine z5 ?_|(refine z6 ?_;intro _ _)|refine app_P ?_|refine app_I ?_|refine app_S ?_|refine app_B ?_|refine app_M ?_|refine app_L ?_|refine app_U ?_|refine app_R ?_|(refine app_of rfl ?_;try dsimp only)))
  exact⟨rfl,by repeat (first | exact Gr.refl _ | assumption | refine Gr.trans ?_ ‹_› | refine Gr.putF ?_ ‹_› (none_of ?_ ‹_›))⟩
theorem wrap_id {x:Int} (h1:-9223372036854775808<=x) (h2:x<=9223372036854775807):IntKind.i64.wrap x=x:=by
 rw[IntKind.wrap_i64];omega
def Pu (σ:H) (f:Value) (e:Int):Prop := ∀K:Value->H->Prop,K (.int .i64 e) σ->callVW Tryz.prog f [] K σ
def FirstOk (σ:H):List Value->List Int->Prop
 | [],[]=>True
 | f::fs,e::es=>Pu σ f e/\(e=0->FirstOk σ fs es)
 | _,_=>False
theorem wrapS {i:Nat} (h:i<9000000000000000000):IntKind.i64.wrap ((i:Int)+1)=((i+1:Nat):Int):=by rw[wrap_id (by omega) (by omega)];omega
theorem s_first {σ:H} {b:Nat} {fs:List Value} {es:List Int} {t:TypeId} (hb:σ b=some (.cells ⟨fs⟩ t (0,0))) (h:FirstOk σ fs es) (hn:fs.length<=1000) {K:KH} (hK:K (.int .i64 (firstE es)) σ) :
 callW Tryz.prog 75 [.slice (some ⟨b,0,none⟩) fs.length fs.length] K σ:=by
 refine c75 ⟨some ⟨b,0,none⟩,_,_⟩ ?_
 unfold g75
 refine loop_i ?_
 intro R hR
 have key : ∀ (gs:List Value) (ds:List Int) (i:Nat),fs.drop i=gs->FirstOk σ gs ds->K (.int .i64 (firstE ds)) σ->R ⟨some ⟨b,0,none⟩,fs.length,fs.length⟩ ((fs.length:Nat):Int) (i:Int) σ:=by
  intro gs
  induction gs with
  | nil =>
   intro ds i hd hok hk
   have hge:fs.length<=i:=by simpa using hd
   refine hR _ _ _ _ ?_
   cases ds with
   | cons d ds=>exact hok.elim
   | nil=>exact br_f (by simp;omega) hk
  | cons f gs ih =>
   intro ds i hd hok hk
   cases ds with
   | nil=>exact hok.elim
   | cons d ds =>
    obtain⟨hp,hok⟩:=hok
    have hlt:i<fs.length:=by
     rcases Nat.lt_or_ge i fs.length with h | h
     ·exact h
     ·rw[List.drop_eq_nil_of_le h]at hd;cases hd
    have hf:fs[i]? = some f:=by
     have:(fs.drop i)[0]? = some f:=by rw[hd];rfl
     simpa using this
    refine hR _ _ _ _ ?_
    refine br_t (by simpa using hlt) ?_
    refine ptr_i (if_i ⟨by omega,by show(i:Int)<(fs.length:Int);omega⟩ ?_)
    refine rd_R (rdC_of (v:=f) hb (by simpa using hf)) ?_
    refine cvalv_i (hp _ (app_I ?_))
    by_cases he:d=0
    ·subst he
     refine br_f rfl ?_
     rw[wrap_id (by omega) (by omega)]
     have h2:fs.drop (i+1)=gs:=by rw[<-List.drop_drop,hd];rfl
     exact ih ds (i+1) h2 (hok rfl) (by simpa[firstE]using hk)
    ·refine br_t (by simpa using he) ?_
     simpa[firstE,he]using hk
 exact key fs es 0 rfl h hK
theorem pu_of {σ:H} {g:FuncId} {as_ cs:List Value} {e:Int} (hg:isGo Tryz.prog g=true) (h:∀K:Value->H->Prop,K (.int .i64 e) σ->callW Tryz.prog g (as_++cs) K σ):Pu σ (.func (.func g) ⟨as_⟩ ⟨cs⟩) e:=by
 intro K hk
 unfold callVW
 simp only[hg]
 simpa using h K hk
theorem go_there:isGo Tryz.prog 76=true:=by kernel_rfl
theorem go_dir1:isGo Tryz.prog 139=true:=by kernel_rfl
theorem go_named1:isGo Tryz.prog 140=true:=by kernel_rfl
theorem go_free1:isGo Tryz.prog 142=true:=by kernel_rfl
theorem go_room1:isGo Tryz.prog 144=true:=by kernel_rfl
theorem go_Make1:isGo Tryz.prog 73=true:=by kernel_rfl
theorem go_Make2:isGo Tryz.prog 80=true:=by kernel_rfl
theorem go_file1:isGo Tryz.prog 148=true:=by kernel_rfl
theorem go_entry1:isGo Tryz.prog 218=true:=by kernel_rfl
theorem go_Unlink1:isGo Tryz.prog 185=true:=by kernel_rfl
theorem go_Move1:isGo Tryz.prog 193=true:=by kernel_rfl
theorem go_WriteT1:isGo Tryz.prog 86=true:=by kernel_rfl
theorem go_ChmodT1:isGo Tryz.prog 151=true:=by kernel_rfl
theorem go_ChmodT2:isGo Tryz.prog 152=true:=by kernel_rfl

theorem s_dir {σ:H} (t:Option Addr) (ino:Int) {K:KH} (hK:∀b1 b2 σ',Gr σ σ'->σ' b1=some (.cells ⟨[.pointer t]⟩ 59 (0,0))->σ' b2=some (.cells ⟨[.int .i64 ino]⟩ 3 (0,0))->K (.func (.func 139) ⟨[]⟩ ⟨[.pointer (some ⟨b1,0,none⟩),.pointer (some ⟨b2,0,none⟩)]⟩) σ') :
 callW Tryz.prog 77 [.pointer t,.int .i64 ino] K σ:=by
 refine c77 _ _ ?_
 unfold g77
 (repeat (first|refine ptr_i ?_|refine z2 ?_|(refine al_i ?_;intro _ _ _ _ _)|refine z4 ?_|refine z5 ?_|(refine z6 ?_;intro _ _)|refine app_P ?_|refine app_I ?_|refine app_S ?_|refine app_B ?_|refine app_M ?_|refine app_L ?_|refine app_U ?_|refine app_R ?_|(refine app_of rfl ?_;try dsimp only)))
 exact hK _ _ _ (by repeat (first | exact Gr.refl _ | assumption | refine Gr.trans ?_ ‹_› | refine Gr.putF ?_ ‹_› (none_of ?_ ‹_›))) (by exact gA) (by exact gA)
theorem s_file {σ:H} (t:Option Addr) (ino:Int) {K:KH} (hK:∀b1 b2 σ',Gr σ σ'->σ' b1=some (.cells ⟨[.pointer t]⟩ 59 (0,0))->σ' b2=some (.cells ⟨[.int .i64 ino]⟩ 3 (0,0))->K (.func (.func 148) ⟨[]⟩ ⟨[.pointer (some ⟨b1,0,none⟩),.pointer (some ⟨b2,0,none⟩)]⟩) σ') :
 callW Tryz.prog 87 [.pointer t,.int .i64 ino] K σ:=by
 refine c87 _ _ ?_
 unfold g87
 (repeat (first|refine ptr_i ?_|refine z2 ?_|(refine al_i ?_;intro _ _ _ _ _)|refine z4 ?_|refine z5 ?_|(refine z6 ?_;intro _ _)|refine app_P ?_|refine app_I ?_|refine app_S ?_|refine app_B ?_|refine app_M ?_|refine app_L ?_|refine app_U ?_|refine app_R ?_|(refine app_of rfl ?_;try dsimp only)))
 exact hK _ _ _ (by repeat (first | exact Gr.refl _ | assumption | refine Gr.trans ?_ ‹_› | refine Gr.putF ?_ ‹_› (none_of ?_ ‹_›))) (by exact gA) (by exact gA)
theorem s_named {σ:H} (name:ByteArray) {K:KH} (hK:∀b1 σ',Gr σ σ'->σ' b1=some (.cells ⟨[.string name]⟩ 9 (0,0))->K (.func (.func 140) ⟨[]⟩ ⟨[.pointer (some ⟨b1,0,none⟩)]⟩) σ') :
 callW Tryz.prog 78 [.string name] K σ:=by
 refine c78 _ ?_
 unfold g78
 (repeat (first|refine ptr_i ?_|refine z2 ?_|(refine al_i ?_;intro _ _ _ _ _)|refine z4 ?_|refine z5 ?_|(refine z6 ?_;intro _ _)|refine app_P ?_|refine app_I ?_|refine app_S ?_|refine app_B ?_|refine app_M ?_|refine app_L ?_|refine app_U ?_|refine app_R ?_|(refine app_of rfl ?_;try dsimp only)))
 exact hK _ _ (by repeat (first | exact Gr.refl _ | assumption | refine Gr.trans ?_ ‹_› | refine Gr.putF ?_ ‹_› (none_of ?_ ‹_›))) (by exact gA)
theorem s_free {σ:H} (t:Option Addr) (dir:Int) (name:ByteArray) {K:KH} (hK:∀b1 b2 b3 σ',Gr σ σ'->σ' b1=some (.cells ⟨[.pointer t]⟩ 59 (0,0))->σ' b2=some (.cells ⟨[.int .i64 dir]⟩ 3 (0,0))->σ' b3=some (.cells ⟨[.string name]⟩ 9 (0,0))->K (.func (.func 142) ⟨[]⟩ ⟨[.pointer (some ⟨b1,0,none⟩),.pointer (some ⟨b2,0,none⟩),.pointer (some ⟨b3,0,none⟩)]⟩) σ') :
 callW Tryz.prog 79 [.pointer t,.int .i64 dir,.string name] K σ:=by
 refine c79 _ _ _ ?_
 unfold g79
 (repeat (first|refine ptr_i ?_|refine z2 ?_|(refine al_i ?_;intro _ _ _ _ _)|refine z4 ?_|refine z5 ?_|(refine z6 ?_;intro _ _)|refine app_P ?_|refine app_I ?_|refine app_S ?_|refine app_B ?_|refine app_M ?_|refine app_L ?_|refine app_U ?_|refine app_R ?_|(refine app_of rfl ?_;try dsimp only)))
 exact hK _ _ _ _ (by repeat (first | exact Gr.refl _ | assumption | refine Gr.trans ?_ ‹_› | refine Gr.putF ?_ ‹_› (none_of ?_ ‹_›))) (by exact gA) (by exact gA) (by exact gA)
theorem s_entry {σ:H} (t:Option Addr) (dir:Int) (name:ByteArray) {K:KH} (hK:∀b1 b2 b3 σ',Gr σ σ'->σ' b1=some (.cells ⟨[.pointer t]⟩ 59 (0,0))->σ' b2=some (.cells ⟨[.int .i64 dir]⟩ 3 (0,0))->σ' b3=some (.cells ⟨[.string name]⟩ 9 (0,0))->K (.func (.func 218) ⟨[]⟩ ⟨[.pointer (some ⟨b1,0,none⟩),.pointer (some ⟨b2,0,none⟩),.pointer (some ⟨b3,0,none⟩)]⟩) σ') :
 callW Tryz.prog 186 [.pointer t,.int .i64 dir,.string name] K σ:=by
 refine c186 _ _ _ ?_
 unfold g186
 (repeat (first|refine ptr_i ?_|refine z2 ?_|(refine al_i ?_;intro _ _ _ _ _)|refine z4 ?_|refine z5 ?_|(refine z6 ?_;intro _ _)|refine app_P ?_|refine app_I ?_|refine app_S ?_|refine app_B ?_|refine app_M ?_|refine app_L ?_|refine app_U ?_|refine app_R ?_|(refine app_of rfl ?_;try dsimp only)))
 exact hK _ _ _ _ (by repeat (first | exact Gr.refl _ | assumption | refine Gr.trans ?_ ‹_› | refine Gr.putF ?_ ‹_› (none_of ?_ ‹_›))) (by exact gA) (by exact gA) (by exact gA)
theorem s_room {σ:H} (t:Option Addr) (i n:Int) {K:KH} (hK:∀b1 b2 b3 σ',Gr σ σ'->σ' b1=some (.cells ⟨[.pointer t]⟩ 59 (0,0))->σ' b2=some (.cells ⟨[.int .i64 i]⟩ 3 (0,0))->σ' b3=some (.cells ⟨[.int .i64 n]⟩ 3 (0,0))->K (.func (.func 144) ⟨[]⟩ ⟨[.pointer (some ⟨b1,0,none⟩),.pointer (some ⟨b2,0,none⟩),.pointer (some ⟨b3,0,none⟩)]⟩) σ') :
 callW Tryz.prog 81 [.pointer t,.int .i64 i,.int .i64 n] K σ:=by
 refine c81 _ _ _ ?_
 unfold g81
 (repeat (first|refine ptr_i ?_|refine z2 ?_|(refine al_i ?_;intro _ _ _ _ _)|refine z4 ?_|refine z5 ?_|(refine z6 ?_;intro _ _)|refine app_P ?_|refine app_I ?_|refine app_S ?_|refine app_B ?_|refine app_M ?_|refine app_L ?_|refine app_U ?_|refine app_R ?_|(refine app_of rfl ?_;try dsimp only)))
 exact hK _ _ _ _ (by repeat (first | exact Gr.refl _ | assumption | refine Gr.trans ?_ ‹_› | refine Gr.putF ?_ ‹_› (none_of ?_ ‹_›))) (by exact gA) (by exact gA) (by exact gA)
def Tb.roomE (T:Tb) (i n:Int):Int:=if IntKind.i64.wrap (T.ui+i)<=T.qi/\IntKind.i64.wrap (T.ub+n)<=T.qb then 0 else 10
theorem s_room1 {σ:H} {bt:Nat} {T:Tb} (hT:TAt σ bt T) {b1 b2 b3:Nat} {i n:Int} {t1 t2 t3:TypeId} (h1:σ b1=some (.cells ⟨[.pointer (some ⟨bt,0,none⟩)]⟩ t1 (0,0))) (h2:σ b2=some (.cells ⟨[.int .i64 i]⟩ t2 (0,0))) (h3:σ b3=some (.cells ⟨[.int .i64 n]⟩ t3 (0,0))) {K:KH}
 (hK:K (.int .i64 (T.roomE i n)) σ):callW Tryz.prog 144 [.pointer (some ⟨b1,0,none⟩),.pointer (some ⟨b2,0,none⟩),.pointer (some ⟨b3,0,none⟩)] K σ:=by
 refine c144 _ _ _ ?_
 unfold g144
 have hc:=hT.cells
 unfold Tb.cells at hc
 (repeat (first|refine ptr_i ?_|refine z2 ?_|(refine al_i ?_;intro _ _ _ _ _)|refine z4 ?_|refine z5 ?_|(refine z6 ?_;intro _ _)|refine app_P ?_|refine app_I ?_|refine app_S ?_|refine app_B ?_|refine app_M ?_|refine app_L ?_|refine app_U ?_|refine app_R ?_|(refine app_of rfl ?_;try dsimp only)))
 unfold Tb.roomE at hK
 by_cases ha:IntKind.i64.wrap (T.ui+i)<=T.qi
 ·refine br_t (by simpa using ha) ?_
  (repeat (first|refine ptr_i ?_|refine z2 ?_|(refine al_i ?_;intro _ _ _ _ _)|refine z4 ?_|refine z5 ?_|(refine z6 ?_;intro _ _)|refine app_P ?_|refine app_I ?_|refine app_S ?_|refine app_B ?_|refine app_M ?_|refine app_L ?_|refine app_U ?_|refine app_R ?_|(refine app_of rfl ?_;try dsimp only)))
  refine call_i (s_must _ _ (app_I ?_))
  simpa[ha]using hK
 ·refine br_f (by simpa using ha) ?_
  refine call_i (s_must _ _ (app_I ?_))
  simpa[ha]using hK
theorem und_MIB:Tryz.prog.underlying 120=some (.map 3 4):=by kernel_rfl
theorem und_int:Tryz.prog.underlying 3=some (.int .i64):=by kernel_rfl
theorem und_string:Tryz.prog.underlying 9=some .string:=by kernel_rfl
def IByte:Prop := ∀ (s:ByteArray) (σ:H) (K:KH),(∀n:Int,(decide (n<0) = !hasNul s)->K (.int .i64 n) σ)->callW Tryz.prog 33 [.string s,.int .u8 0] K σ
def CAny:Prop := ∀ (s:ByteArray) (_:s.size<=1000000) (σ:H) (K:KH),K (.bool (badByte s)) σ->callW Tryz.prog 141 [.string s,.string ⟨⟨[47,0]⟩⟩] K σ
theorem s_Make1 (hI:IByte) {σ:H} {b1 b2 b3:Nat} {data:ByteArray} {kind mode:Int} {t1 t2 t3:TypeId} (h1:σ b1=some (.cells ⟨[.string data]⟩ t1 (0,0))) (h2:σ b2=some (.cells ⟨[.int .i64 kind]⟩ t2 (0,0))) (h3:σ b3=some (.cells ⟨[.int .i64 mode]⟩ t3 (0,0))) {K:KH}
 (hK:K (.int .i64 (likeE kind mode data)) σ):callW Tryz.prog 73 [.pointer (some ⟨b1,0,none⟩),.pointer (some ⟨b2,0,none⟩),.pointer (some ⟨b3,0,none⟩)] K σ:=by
 have hsE:sEq data ⟨⟨[]⟩⟩=strEq data ⟨⟨[]⟩⟩:=sEq_eq _ _
 refine pure_i _ hK (c73 _ _ _ ?_)
 unfold g73
 refine j_i (fun j => ∀σ',Gr σ σ'->j (some ⟨b1,0,none⟩) (some ⟨b2,0,none⟩) (some ⟨b3,0,none⟩) (linkOk data) σ') ?_ ?_
 ·intro σ' hg
  refine al_i ?_
  intro b σ1 hg1 hb hn
  have m0:MapAt σ1 b (encL kkI Value.bool []):=MapAt.new hb
  refine mu_i (kk:=kkI) (f:=Value.bool) und_MIB und_int m0 1 true ?_
  intro o1 σ2 hp1 m1
  have hne1:b1≠b:=ne_fresh (hg.get h1) hn
  have hne2:b2≠b:=ne_fresh (hg.get h2) hn
  have hne3:b3≠b:=ne_fresh (hg.get h3) hn
  refine ptr_i (rd_S (rdC_of (by exact gA) (by rfl)) ?_)
  refine mu_i (kk:=kkI) (f:=Value.bool) und_MIB und_int m1 2 _ ?_
  intro o2 σ3 hp2 m2
  refine mu_i (kk:=kkI) (f:=Value.bool) und_MIB und_int m2 3 _ ?_
  intro o3 σ4 hp3 m3
  refine ptr_i (rd_I (rdC_of (by exact gA) (by rfl)) ?_)
  have hv:((lk kind (up 3 (linkOk data) (up 2 (strEq data ⟨⟨[]⟩⟩) (up 1 true [])))).map Value.bool).getD (.bool false) = .bool (kindOkE kind data):=by
   show((lk kind [((1:Int),true),(2,strEq data ⟨⟨[]⟩⟩),(3,linkOk data)]).map Value.bool).getD (.bool false)=_
   unfold kindOkE
   rw[hsE]
   cases lk kind [((1:Int),true),(2,strEq data ⟨⟨[]⟩⟩),(3,linkOk data)]<;>rfl
  have hr:=rdM_at (kk:=kkI) m3 (.bool false) false kind
  refine rd_B (x:=kindOkE kind data) (by rw[<-hv];exact hr) ?_
  have hgr:Gr σ σ4:=by repeat (first | exact Gr.refl _ | assumption | refine Gr.trans ?_ ‹_› | refine Gr.putF ?_ ‹_› (none_of ?_ ‹_›))
  unfold likeE
  cases hk:kindOkE kind data with
  | false =>
   refine br_f rfl (call_i (s_must _ _ (app_I ⟨rfl,hgr⟩)))
  | true =>
   refine br_t rfl (ptr_i (rd_I (rdC_of (by exact gA) (by rfl)) ?_))
   by_cases hm:0<=mode
   ·refine br_t (by simpa using hm) (ptr_i (rd_I (rdC_of (by exact gA) (by rfl)) ?_))
    refine call_i (s_must _ _ (app_I ⟨?_,hgr⟩))
    simp[hm]
   ·refine br_f (by simpa using hm) (call_i (s_must _ _ (app_I ⟨?_,hgr⟩)))
    simp[hm]
 ·intro j hj
  refine ptr_i (rd_S (rdC_of (by exact gA) (by rfl)) ?_)
  unfold linkOk at hj
  rw[hsE]at hj
  cases he:strEq data ⟨⟨[]⟩⟩ with
  | true=>refine br_f rfl ?_;rw[he]at hj;exact hj σ (Gr.refl _)
  | false =>
   rw[he]at hj
   refine br_t rfl (ptr_i (rd_S (rdC_of (by exact gA) (by rfl)) ?_))
   by_cases hl:data.size<=255
   ·refine br_t (by simp;omega) (ptr_i (rd_S (rdC_of (by exact gA) (by rfl)) ?_))
    refine call_i (hI data σ _ ?_)
    intro n hn
    refine app_I ?_
    rw[hn]
    simpa[hl]using hj σ (Gr.refl _)
   ·refine br_f (by simp;omega) ?_
    simpa[hl]using hj σ (Gr.refl _)
def Nd.abs (n:Nd):AN:=⟨n.kind,n.mode,n.data,n.links,n.up,n.ents⟩
def Tb.abs (T:Tb):AT:=⟨T.qi,T.qb,T.ui,T.ub,T.last,T.nodes.map fun p=>(p.1,p.2.abs)⟩
theorem abs_get (T:Tb) (i:Int):T.abs.get i=(T.get i).map Nd.abs:=lk_map _ _ _
theorem abs_find (T:Tb) (d:Int) (s:ByteArray):T.abs.find d s=T.find d s:=by
 unfold AT.find Tb.find;rw[abs_get];cases T.get d<;>rfl
theorem abs_dirE (T:Tb) (d:Int):T.abs.dirE d=T.dirE d:=by
 unfold AT.dirE Tb.dirE;rw[abs_get];cases T.get d<;>rfl
theorem abs_fileE (T:Tb) (d:Int):T.abs.fileE d=T.fileE d:=by
 unfold AT.fileE Tb.fileE;rw[abs_get];cases T.get d<;>rfl
theorem abs_up (T:Tb) (d:Int):T.abs.upOf d=T.up d:=by
 unfold AT.upOf Tb.up;rw[abs_get];cases T.get d<;>rfl
theorem abs_roomE (T:Tb) (i n:Int):T.abs.roomE i n=T.roomE i n:=rfl
structure Own (T:Tb):Prop where
 blk : ∀i j n m,T.get i=some n->T.get j=some m->n.blk=m.blk->i=j
 eb : ∀i j n m e,T.get i=some n->T.get j=some m->n.eb=some e->m.eb=some e->i=j
 mb : ∀i n,T.get i=some n->n.eb≠some T.mb
def Tb.own (bt:Nat) (T:Tb) (b:Nat):Prop:=b=bt\/b=T.mb \/ ∃i n,T.get i=some n/\(b=n.blk\/n.eb=some b)
def Tb.set (T:Tb) (i:Int) (n:Nd):Tb:={ T with nodes:=HL.up i n T.nodes }
theorem get_set (T:Tb) (i j:Int) (n:Nd):(T.set i n).get j=if j=i then some n else T.get j:=by
 unfold Tb.set Tb.get;simp only[lk_up]
 by_cases h:j=i<;>simp[h]
theorem get_set_self (T:Tb) (i:Int) (n:Nd):(T.set i n).get i=some n:=by rw[get_set];simp
theorem abs_set (T:Tb) (i:Int) (n:Nd):(T.set i n).abs=T.abs.set i n.abs:=by
 unfold Tb.set Tb.abs AT.set;simp only[up_map]
section
variable {σ σ' : H} {bt : Nat} {T : Tb} {b : Nat} {o : Obj}
theorem NdAt.put {m:Nd} (h:NdAt σ m) (hp:Put σ b o σ') (h1:m.blk≠b) (h2:m.eb≠some b):NdAt σ' m :=
 ⟨hp.get h1 h.cells,fun e he=>(h.ents e he).put hp (by intro e';subst e';exact h2 he),h.none,h.dir⟩
theorem ne_cm {c d:Nat} {l:List (Value×Value)} {es:Array Value} {t:TypeId} {fz:Nat×Nat} (hc:σ c=some (.cells es t fz)) (hd:MapAt σ d l):c≠d:=by
 obtain⟨es',k,hd,_⟩:=hd
 intro e;subst e;rw[hc]at hd;cases hd
theorem TAt.bt_mb (h:TAt σ bt T):bt≠T.mb:=ne_cm h.cells h.nodes
theorem TAt.blk_bt (h:TAt σ bt T) {i:Int} {n:Nd} (hn:T.get i=some n):n.blk≠bt:=by
 intro e
 have h1:=(h.get hn).cells
 have h2:=h.cells
 rw[e,h2]at h1
 unfold Tb.cells Nd.cells at h1
 simp at h1
theorem TAt.blk_mb (h:TAt σ bt T) {i:Int} {n:Nd} (hn:T.get i=some n):n.blk≠T.mb:=ne_cm (h.get hn).cells h.nodes
theorem TAt.eb_bt (h:TAt σ bt T) {i:Int} {n:Nd} (hn:T.get i=some n):n.eb≠some bt:=by
 intro e;exact ne_cm h.cells ((h.get hn).ents _ e) rfl
theorem TAt.eb_blk (h:TAt σ bt T) {i j:Int} {n m:Nd} (hn:T.get i=some n) (hm:T.get j=some m):n.eb≠some m.blk:=by
 intro e;exact ne_cm (h.get hm).cells ((h.get hn).ents _ e) rfl
theorem TAt.own_some (h:TAt σ bt T) (hb:T.own bt b) : ∃o,σ b=some o:=by
 rcases hb with e | e | ⟨i,n,hn,e | e⟩
 ·subst e;exact⟨_,h.cells⟩
 ·subst e;obtain⟨_,_,h1,_⟩:=h.nodes;exact⟨_,h1⟩
 ·subst e;exact⟨_,(h.get hn).cells⟩
 ·obtain⟨_,_,h1,_⟩:=(h.get hn).ents _ e;exact⟨_,h1⟩
theorem TAt.put (h:TAt σ bt T) (hp:Put σ b o σ') (hn:¬T.own bt b):TAt σ' bt T:=by
 refine⟨hp.get ?_ h.cells,h.nodes.put hp ?_,fun i n hg=>(h.get hg).put hp ?_ ?_⟩
 ·intro e;exact hn (.inl e.symm)
 ·intro e;exact hn (.inr (.inl e.symm))
 ·intro e;exact hn (.inr (.inr ⟨i,n,hg,.inl e.symm⟩))
 ·intro e;exact hn (.inr (.inr ⟨i,n,hg,.inr e⟩))
theorem TAt.putT {T':Tb} (h:TAt σ bt T) (hp:Put σ bt T'.cells σ') (h1:T'.mb=T.mb) (h2:T'.nodes=T.nodes):TAt σ' bt T':=by
 have hg : ∀i,T'.get i=T.get i:=by intro i;unfold Tb.get;rw[h2]
 refine⟨hp.same,?_,fun i n hn => ?_⟩
 ·rw[h1,h2];exact h.nodes.put hp (h.bt_mb).symm
 ·rw[hg]at hn
  exact(h.get hn).put hp (h.blk_bt hn) (h.eb_bt hn)
theorem Own.same {T':Tb} (h:Own T) (h1:T'.mb=T.mb) (h2:T'.nodes=T.nodes):Own T':=by
 have hg : ∀i,T'.get i=T.get i:=by intro i;unfold Tb.get;rw[h2]
 refine⟨?_,?_,?_⟩
 ·intro i j n m;rw[hg,hg];exact h.blk i j n m
 ·intro i j n m e;rw[hg,hg];exact h.eb i j n m e
 ·intro i n;rw[hg,h1];exact h.mb i n
theorem own_same {T':Tb} (h1:T'.mb=T.mb) (h2:T'.nodes=T.nodes) (b:Nat):T'.own bt b↔T.own bt b:=by
 have hg : ∀i,T'.get i=T.get i:=by intro i;unfold Tb.get;rw[h2]
 unfold Tb.own;simp only[hg,h1]
theorem TAt.putN (h:TAt σ bt T) (ho:Own T) {i:Int} {n n':Nd} (hn:T.get i=some n) (hp:Put σ n.blk n'.cells σ') (h1:n'.blk=n.blk) (h2:n'.eb=n.eb) (h3:n'.ents=n.ents) (h4:n'.kind=n.kind):TAt σ' bt (T.set i n'):=by
 refine⟨hp.get (h.blk_bt hn).symm h.cells,?_,fun j m hm => ?_⟩
 ·have:=enc_up_same (kk:=kkI) (f:=Nd.ptr) (k:=i) (v:=n') (u:=n) (l:=T.nodes) hn (by unfold Nd.ptr;rw[h1])
  show MapAt σ' T.mb (encL kkI Nd.ptr (up i n' T.nodes))
  rw[this]
  exact h.nodes.put hp (h.blk_mb hn).symm
 ·rw[get_set]at hm
  by_cases e:j=i
  ·rw[if_pos e]at hm;cases hm
   have hN:=h.get hn
   refine⟨by rw[h1];exact hp.same,fun e he => ?_,fun he => ?_,fun hk => ?_⟩
   ·rw[h2]at he;rw[h3]
    exact(hN.ents e he).put hp (ne_cm hN.cells (hN.ents e he)).symm
   ·rw[h2]at he;rw[h3];exact hN.none he
   ·rw[h2];rw[h4]at hk;exact hN.dir hk
  ·rw[if_neg e]at hm
   exact(h.get hm).put hp (fun e'=>e (ho.blk j i m n hm hn e')) (h.eb_blk hm hn)
theorem Own.set (ho:Own T) {i:Int} {n n':Nd} (hn:T.get i=some n) (h1:n'.blk=n.blk) (h2:n'.eb=n.eb):Own (T.set i n'):=by
 have key : ∀j m,(T.set i n').get j=some m -> ∃m',T.get j=some m'/\m.blk=m'.blk/\m.eb=m'.eb:=by
  intro j m hm
  rw[get_set]at hm
  by_cases e:j=i
  ·rw[if_pos e]at hm;cases hm;subst e;exact⟨n,hn,h1,h2⟩
  ·rw[if_neg e]at hm;exact⟨m,hm,rfl,rfl⟩
 refine⟨?_,?_,?_⟩
 ·intro a c x y hx hy hb
  obtain⟨x',hx',e1,_⟩:=key a x hx
  obtain⟨y',hy',e2,_⟩:=key c y hy
  exact ho.blk a c x' y' hx' hy' (by rw[<-e1,<- e2];exact hb)
 ·intro a c x y e hx hy h3 h4
  obtain⟨x',hx',_,e1⟩:=key a x hx
  obtain⟨y',hy',_,e2⟩:=key c y hy
  exact ho.eb a c x' y' e hx' hy' (by rw[<-e1];exact h3) (by rw[<-e2];exact h4)
 ·intro a x hx
  obtain⟨x',hx',_,e1⟩:=key a x hx
  rw[e1];exact ho.mb a x' hx'
theorem own_set {i:Int} {n n':Nd} (hn:T.get i=some n) (h1:n'.blk=n.blk) (h2:n'.eb=n.eb) (b:Nat):(T.set i n').own bt b↔T.own bt b:=by
 unfold Tb.own
 have:(T.set i n').mb=T.mb:=rfl
 rw[this]
 refine or_congr_right (or_congr_right ⟨?_,?_⟩)
 ·rintro ⟨j,m,hm,hb⟩
  rw[get_set]at hm
  by_cases e:j=i
  ·rw[if_pos e]at hm;cases hm;exact⟨i,n,hn,by rw[<-h1,<- h2];exact hb⟩
  ·rw[if_neg e]at hm;exact⟨j,m,hm,hb⟩
 ·rintro ⟨j,m,hm,hb⟩
  by_cases e:j=i
  ·subst e;rw[hn]at hm;cases hm;exact⟨j,n',get_set_self ..,by rw[h1,h2];exact hb⟩
  ·exact⟨j,m,by rw[get_set,if_neg e];exact hm,hb⟩
theorem TAt.putE (h:TAt σ bt T) (ho:Own T) {i:Int} {n:Nd} {e:Nat} {l:List (ByteArray×Int)} (hn:T.get i=some n) (he:n.eb=some e) (hp:Put σ e o σ') (hm:MapAt σ' e (encL kkS valI l)):TAt σ' bt (T.set i { n with ents:=l }):=by
 have hE:=(h.get hn).ents e he
 refine⟨hp.get (ne_cm h.cells hE) h.cells,?_,fun j m hj => ?_⟩
 ·have:=enc_up_same (kk:=kkI) (f:=Nd.ptr) (k:=i) (v:={ n with ents:=l }) (u:=n) (l:=T.nodes) hn rfl
  show MapAt σ' T.mb (encL kkI Nd.ptr (up i _ T.nodes))
  rw[this]
  exact h.nodes.put hp (by intro e';exact ho.mb i n hn (by rw[he,e']))
 ·rw[get_set]at hj
  by_cases e':j=i
  ·rw[if_pos e']at hj;cases hj
   have hN:=h.get hn
   refine⟨hp.get (ne_cm hN.cells hE) hN.cells,fun e2 he2 => ?_,fun h0 => ?_,hN.dir⟩
   ·have:e2=e:=by have:=he2.symm.trans he;cases this;rfl
    subst this;exact hm
   ·have:=he.symm.trans h0;cases this
  ·rw[if_neg e']at hj
   have hN:=h.get hj
   exact hN.put hp (ne_cm hN.cells hE) (fun h2=>e' (ho.eb j i m n e hj hn h2 he))
theorem TAt.putA (h:TAt σ bt T) (ho:Own T) {i:Int} {n:Nd} (hN:NdAt σ n) (hp:Put σ T.mb o σ') (hm:MapAt σ' T.mb (encL kkI Nd.ptr (up i n T.nodes))) (hf:n.eb≠some T.mb):TAt σ' bt (T.set i n):=by
 refine⟨hp.get h.bt_mb h.cells,hm,fun j m hj => ?_⟩
 rw[get_set]at hj
 by_cases e:j=i
 ·rw[if_pos e]at hj;cases hj
  exact hN.put hp (ne_cm hN.cells h.nodes) hf
 ·rw[if_neg e]at hj
  exact(h.get hj).put hp (h.blk_mb hj) (ho.mb j m hj)
theorem Own.add (ho:Own T) {i:Int} {n:Nd} (h1:¬T.own bt n.blk) (h2:∀e,n.eb=some e -> ¬T.own bt e):Own (T.set i n):=by
 have hb : ∀j m,T.get j=some m->m.blk≠n.blk:=fun j m hm e=>h1 (.inr (.inr ⟨j,m,hm,.inl e.symm⟩))
 have he : ∀j m e,T.get j=some m->n.eb=some e->m.eb≠some e:=fun j m e hm hn h=>h2 e hn (.inr (.inr ⟨j,m,hm,.inr h⟩))
 refine⟨?_,?_,?_⟩
 ·intro a c x y hx hy hxy
  rw[get_set]at hx hy
  by_cases ea:a=i<;>by_cases ec:c=i
  ·rw[ea,ec]
  ·rw[if_pos ea]at hx;rw[if_neg ec]at hy;cases hx;exact absurd hxy.symm (hb c y hy)
  ·rw[if_neg ea]at hx;rw[if_pos ec]at hy;cases hy;exact absurd hxy (hb a x hx)
  ·rw[if_neg ea]at hx;rw[if_neg ec]at hy;exact ho.blk a c x y hx hy hxy
 ·intro a c x y e hx hy h3 h4
  rw[get_set]at hx hy
  by_cases ea:a=i<;>by_cases ec:c=i
  ·rw[ea,ec]
  ·rw[if_pos ea]at hx;rw[if_neg ec]at hy;cases hx;exact absurd h4 (he c y e hy h3)
  ·rw[if_neg ea]at hx;rw[if_pos ec]at hy;cases hy;exact absurd h3 (he a x e hx h4)
  ·rw[if_neg ea]at hx;rw[if_neg ec]at hy;exact ho.eb a c x y e hx hy h3 h4
 ·intro a x hx
  rw[get_set]at hx
  by_cases ea:a=i
  ·rw[if_pos ea]at hx;cases hx
   intro h;exact h2 _ h (.inr (.inl rfl))
  ·rw[if_neg ea]at hx;exact ho.mb a x hx
theorem own_add {i:Int} {n:Nd} (b:Nat) (h:(T.set i n).own bt b):T.own bt b\/b=n.blk\/n.eb=some b:=by
 rcases h with e | e | ⟨j,m,hm,hb⟩
 ·exact .inl (.inl e)
 ·exact .inl (.inr (.inl e))
 ·rw[get_set]at hm
  by_cases e:j=i
  ·rw[if_pos e]at hm;cases hm;exact .inr hb
  ·rw[if_neg e]at hm;exact .inl (.inr (.inr ⟨j,m,hm,hb⟩))
def Tb.del (T:Tb) (i:Int):Tb:={ T with nodes:=rm i T.nodes }
theorem get_del (hk:(keysL T.nodes).Nodup) (i j:Int):(T.del i).get j=if j=i then none else T.get j:=by
 unfold Tb.del Tb.get;simp only[lk_rm hk];by_cases h:j=i<;>simp[h]
theorem get_del_some (hk:(keysL T.nodes).Nodup) {i j:Int} {m:Nd} (h:(T.del i).get j=some m):T.get j=some m:=by
 rw[get_del hk]at h
 by_cases e:j=i
 ·rw[if_pos e]at h;cases h
 ·rw[if_neg e]at h;exact h
theorem TAt.putD (h:TAt σ bt T) (ho:Own T) (hk:(keysL T.nodes).Nodup) {i:Int} (hp:Put σ T.mb o σ') (hm:MapAt σ' T.mb (encL kkI Nd.ptr (rm i T.nodes))):TAt σ' bt (T.del i):=by
 refine⟨hp.get h.bt_mb h.cells,hm,fun j m hj => ?_⟩
 have:=get_del_some hk hj
 exact(h.get this).put hp (h.blk_mb this) (ho.mb j m this)
theorem Own.del (ho:Own T) (hk:(keysL T.nodes).Nodup) (i:Int):Own (T.del i) :=
 ⟨fun a c x y hx hy=>ho.blk a c x y (get_del_some hk hx) (get_del_some hk hy),fun a c x y e hx hy=>ho.eb a c x y e (get_del_some hk hx) (get_del_some hk hy),fun a x hx=>ho.mb a x (get_del_some hk hx)⟩
theorem own_del (hk:(keysL T.nodes).Nodup) {i:Int} {b:Nat} (h:(T.del i).own bt b):T.own bt b:=by
 rcases h with e | e | ⟨j,m,hm,hb⟩
 ·exact .inl e
 ·exact .inr (.inl e)
 ·exact .inr (.inr ⟨j,m,get_del_some hk hm,hb⟩)
theorem abs_del (T:Tb) (i:Int):(T.del i).abs={ T.abs with nodes:=rm i T.abs.nodes }:=by
 unfold Tb.del Tb.abs;simp only[rm_map]
theorem keys_abs (T:Tb):keysL T.abs.nodes=keysL T.nodes:=keys_map _ _
end
structure Lng (σ σ':H):Prop where
 gr:Gr σ σ'
def TabAt (σ:H) (bt:Nat) (A:AT) (B:Nat->Prop):Prop := ∃T,TAt σ bt T/\Own T/\T.abs=A /\ ∀b,T.own bt b↔B b
theorem TabAt.gr {σ σ':H} {bt:Nat} {A:AT} {B:Nat->Prop} (h:TabAt σ bt A B) (hg:Gr σ σ'):TabAt σ' bt A B:=by
 obtain⟨T,h1,h2⟩:=h;exact⟨T,h1.gr hg,h2⟩
theorem TabAt.put {σ σ':H} {bt b:Nat} {A:AT} {B:Nat->Prop} {o:Obj} (h:TabAt σ bt A B) (hp:Put σ b o σ') (hn:¬B b):TabAt σ' bt A B:=by
 obtain⟨T,h1,h2,h3,h4⟩:=h;exact⟨T,h1.put hp (by rw[h4];exact hn),h2,h3,h4⟩
theorem TabAt.some {σ:H} {bt b:Nat} {A:AT} {B:Nat->Prop} (h:TabAt σ bt A B) (hb:B b) : ∃o,σ b=some o:=by
 obtain⟨T,h1,h2,h3,h4⟩:=h;exact h1.own_some ((h4 b).2 hb)
theorem TabAt.fresh {σ:H} {bt b:Nat} {A:AT} {B:Nat->Prop} (h:TabAt σ bt A B) (hb:σ b=none) : ¬B b:=by
 intro hB;obtain⟨o,ho⟩:=h.some hB;rw[hb]at ho;cases ho
theorem s_named1 (hC:CAny) {σ:H} {b1:Nat} {name:ByteArray} {t1:TypeId} (h1:σ b1=some (.cells ⟨[.string name]⟩ t1 (0,0))) {K:KH}
 (hK:K (.int .i64 (namedE name)) σ):callW Tryz.prog 140 [.pointer (some ⟨b1,0,none⟩)] K σ:=by
 refine c140 _ ?_
 unfold g140
 (repeat (first|refine ptr_i ?_|refine z2 ?_|(refine al_i ?_;intro _ _ _ _ _)|refine z4 ?_|refine z5 ?_|(refine z6 ?_;intro _ _)|refine app_P ?_|refine app_I ?_|refine app_S ?_|refine app_B ?_|refine app_M ?_|refine app_L ?_|refine app_U ?_|refine app_R ?_|(refine app_of rfl ?_;try dsimp only)))
 unfold namedE at hK
 simp only[sEq_eq]at hK
 by_cases hl:name.size>56
 ·rw[if_pos hl]at hK;exact br_t (by simp;omega) hK
 rw[if_neg hl]at hK
 refine br_f (by simp;omega) ?_
 (repeat (first|refine ptr_i ?_|refine z2 ?_|(refine al_i ?_;intro _ _ _ _ _)|refine z4 ?_|refine z5 ?_|(refine z6 ?_;intro _ _)|refine app_P ?_|refine app_I ?_|refine app_S ?_|refine app_B ?_|refine app_M ?_|refine app_L ?_|refine app_U ?_|refine app_R ?_|(refine app_of rfl ?_;try dsimp only)))
 cases ha:strEq name ⟨⟨[]⟩⟩ with
 | true=>rw[ha]at hK;exact br_f rfl (call_i (s_must _ _ (app_I hK)))
 | false =>
  rw[ha]at hK
  refine br_t rfl ?_
  (repeat (first|refine ptr_i ?_|refine z2 ?_|(refine al_i ?_;intro _ _ _ _ _)|refine z4 ?_|refine z5 ?_|(refine z6 ?_;intro _ _)|refine app_P ?_|refine app_I ?_|refine app_S ?_|refine app_B ?_|refine app_M ?_|refine app_L ?_|refine app_U ?_|refine app_R ?_|(refine app_of rfl ?_;try dsimp only)))
  cases hb:strEq name ⟨⟨[46]⟩⟩ with
  | true=>rw[hb]at hK;exact br_f rfl (call_i (s_must _ _ (app_I hK)))
  | false =>
   rw[hb]at hK
   refine br_t rfl ?_
   (repeat (first|refine ptr_i ?_|refine z2 ?_|(refine al_i ?_;intro _ _ _ _ _)|refine z4 ?_|refine z5 ?_|(refine z6 ?_;intro _ _)|refine app_P ?_|refine app_I ?_|refine app_S ?_|refine app_B ?_|refine app_M ?_|refine app_L ?_|refine app_U ?_|refine app_R ?_|(refine app_of rfl ?_;try dsimp only)))
   cases hc:strEq name ⟨⟨[46,46]⟩⟩ with
   | true=>rw[hc]at hK;exact br_f rfl (call_i (s_must _ _ (app_I hK)))
   | false =>
    rw[hc]at hK
    refine br_t rfl ?_
    (repeat (first|refine ptr_i ?_|refine z2 ?_|(refine al_i ?_;intro _ _ _ _ _)|refine z4 ?_|refine z5 ?_|(refine z6 ?_;intro _ _)|refine app_P ?_|refine app_I ?_|refine app_S ?_|refine app_B ?_|refine app_M ?_|refine app_L ?_|refine app_U ?_|refine app_R ?_|(refine app_of rfl ?_;try dsimp only)))
    refine call_i (hC _ (by omega) _ _ (app_B ?_))
    exact call_i (s_must _ _ (app_I (by simpa using hK)))
theorem s_Make2 {σ:H} {bt:Nat} {T:Tb} (hT:TAt σ bt T) {b1 b2:Nat} {data:ByteArray} {t1 t2:TypeId} (h1:σ b1=some (.cells ⟨[.pointer (some ⟨bt,0,none⟩)]⟩ t1 (0,0))) (h2:σ b2=some (.cells ⟨[.string data]⟩ t2 (0,0))) {K:KH}
 (hK:K (.int .i64 (T.roomE 1 data.size)) σ):callW Tryz.prog 80 [.pointer (some ⟨b1,0,none⟩),.pointer (some ⟨b2,0,none⟩)] K σ:=by
 refine pure_i _ hK (c80 _ _ ?_)
 unfold g80
 (repeat (first|refine ptr_i ?_|refine z2 ?_|(refine al_i ?_;intro _ _ _ _ _)|refine z4 ?_|refine z5 ?_|(refine z6 ?_;intro _ _)|refine app_P ?_|refine app_I ?_|refine app_S ?_|refine app_B ?_|refine app_M ?_|refine app_L ?_|refine app_U ?_|refine app_R ?_|(refine app_of rfl ?_;try dsimp only)))
 refine call_i (s_room _ _ _ ?_)
 intro c1 c2 c3 σ' hg e1 e2 e3
 refine app_R ?_
 refine cval_i go_room1 ?_
 exact s_room1 (hT.gr hg) e1 e2 e3 (app_I ⟨rfl,hg⟩)
theorem one_f {f:Fn} {as_ cs:Array Value} {g:H->Prop} {σ:H} (h:g σ):oneK (.func f as_ cs) g σ:=by unfold oneK;exact h
theorem und_MSI:Tryz.prog.underlying 113=some (.map 9 3):=by kernel_rfl
theorem und_MIN:Tryz.prog.underlying 116=some (.map 3 112):=by kernel_rfl
theorem firstE_z {e:Int} {es:List Int} (h:firstE (e::es)=0):e=0/\firstE es=0:=by
 unfold firstE at h
 by_cases he:e=0
 ·rw[if_pos he]at h;exact⟨he,h⟩
 ·rw[if_neg he]at h;exact absurd h he
theorem dirE_z {T:Tb} {d:Int} (h:T.dirE d=0) : ∃n,T.get d=some n/\n.kind=2:=by
 unfold Tb.dirE at h
 cases hn:T.get d with
 | none=>rw[hn]at h;cases h
 | some n =>
  rw[hn]at h
  refine⟨n,rfl,?_⟩
  cases hk:(n.kind==2) with
  | true=>simpa using hk
  | false=>simp[hk]at h
theorem TAt.dir {σ:H} {bt:Nat} {T:Tb} (hT:TAt σ bt T) {d:Int} {n:Nd} (hn:T.get d=some n) (hk:n.kind=2) : ∃e,n.eb=some e:=by
 have:=(hT.get hn).dir hk
 cases he:n.eb with
 | none=>exact absurd he this
 | some e=>exact⟨e,rfl⟩
theorem rdN {σ:H} {bt:Nat} {T:Tb} (hT:TAt σ bt T) {i:Int} {n:Nd} (hn:T.get i=some n) {F:Option Addr->H->Prop} (h:F (some ⟨n.blk,0,none⟩) σ):rdT (rdM (.int .i64) (.pointer none) false (some T.mb) (.int .i64 i)) kP F σ:=by
 refine rd_P (x:=some ⟨n.blk,0,none⟩) ?_ h
 have:=rdM_at (kk:=kkI) hT.nodes (.pointer none) false i
 unfold Tb.get at hn
 rw[hn]at this
 exact this
theorem s_Make (hI:IByte) (hC:CAny) {σ:H} {bt:Nat} {A:AT} {B:Nat->Prop} (hA:TabAt σ bt A B) (dir:Int) (name:ByteArray) (kind mode:Int) (data:ByteArray) (hL:A.get (wr (A.last+1))=none) {K:KH}
 (hK:∀σ' B',TabAt σ' bt (AT.makeR A dir name kind mode data).2.2 B'->Sep σ B σ' B'->K (.tuple ⟨[.int .i64 (AT.makeR A dir name kind mode data).1,.int .i64 (AT.makeR A dir name kind mode data).2.1]⟩) σ') :
 callW Tryz.prog 28 [.pointer (some ⟨bt,0,none⟩),.int .i64 dir,.string name,.int .i64 kind,.int .i64 mode,.string data] K σ:=by
 obtain⟨T,hT,hO,rfl,hB⟩:=hA
 have hc0:=hT.cells
 refine c28 _ _ _ _ _ _ ?_
 unfold g28
 refine al_i ?_;intro b7 σ1 g1 e1 n1
 refine al_i ?_;intro b8 σ2 g2 e2 n2
 refine al_i ?_;intro b9 σ3 g3 e3 n3
 refine al_i ?_;intro b10 σ4 g4 e4 n4
 (repeat (first|refine ptr_i ?_|refine z2 ?_|(refine al_i ?_;intro _ _ _ _ _)|refine z4 ?_|refine z5 ?_|(refine z6 ?_;intro _ _)|refine app_P ?_|refine app_I ?_|refine app_S ?_|refine app_B ?_|refine app_M ?_|refine app_L ?_|refine app_U ?_|refine app_R ?_|(refine app_of rfl ?_;try dsimp only)))
 refine call_i (s_dir _ _ ?_)
 intro c1 c2 σ5 g5 f1 f2
 refine app_R ?_
 (repeat (first|refine ptr_i ?_|refine z2 ?_|(refine al_i ?_;intro _ _ _ _ _)|refine z4 ?_|refine z5 ?_|(refine z6 ?_;intro _ _)|refine app_P ?_|refine app_I ?_|refine app_S ?_|refine app_B ?_|refine app_M ?_|refine app_L ?_|refine app_U ?_|refine app_R ?_|(refine app_of rfl ?_;try dsimp only)))
 refine call_i (s_named _ ?_)
 intro c3 σ6 g6 f3
 refine app_R ?_
 (repeat (first|refine ptr_i ?_|refine z2 ?_|(refine al_i ?_;intro _ _ _ _ _)|refine z4 ?_|refine z5 ?_|(refine z6 ?_;intro _ _)|refine app_P ?_|refine app_I ?_|refine app_S ?_|refine app_B ?_|refine app_M ?_|refine app_L ?_|refine app_U ?_|refine app_R ?_|(refine app_of rfl ?_;try dsimp only)))
 refine call_i (s_free _ _ _ ?_)
 intro c4 c5 c6 σ7 g7 f4 f5 f6
 refine app_R ?_
 (repeat (first|refine ptr_i ?_|refine z2 ?_|(refine al_i ?_;intro _ _ _ _ _)|refine z4 ?_|refine z5 ?_|(refine z6 ?_;intro _ _)|refine app_P ?_|refine app_I ?_|refine app_S ?_|refine app_B ?_|refine app_M ?_|refine app_L ?_|refine app_U ?_|refine app_R ?_|(refine app_of rfl ?_;try dsimp only)))
 refine one_f (one_f (one_f ?_))
 refine al_i ?_;intro b17 σ8 g8 e8 n8
 have hgr:Lng σ σ8:=⟨by repeat (first | exact Gr.refl _ | assumption | refine Gr.trans ?_ ‹_› | refine Gr.putF ?_ ‹_› (none_of ?_ ‹_›))⟩
 have hT8:=hT.gr hgr.gr
 refine call_i (s_first (es:=[0,T.dirE dir,namedE name,likeE kind mode data,if(T.find dir name).isSome then 6 else 0,T.roomE 1 data.size]) e8 ?_ (by simp) (app_I ?_))
 ·refine⟨pu_of go_there fun K hk=>s_there _ hk,fun _=>⟨pu_of go_dir1 fun K hk=>s_dir1 hT8 (by exact gA) (by exact gA) hk,fun _=>⟨pu_of go_named1 fun K hk=>s_named1 hC (by exact gA) hk,fun _=>⟨pu_of go_Make1 fun K hk=>s_Make1 hI (by exact gA) (by exact gA) (by exact gA) hk,fun _=>⟨pu_of go_free1 fun K hk=>s_free1 hT8 (by exact gA) (by exact gA) (by exact gA) hk,fun _=>⟨pu_of go_Make2 fun K hk=>s_Make2 hT8 (by exact gA) (by exact gA) hk,fun _=>trivial⟩⟩⟩⟩⟩⟩
 have hE:firstE [0,T.dirE dir,namedE name,likeE kind mode data,if(T.find dir name).isSome then 6 else 0,T.roomE 1 data.size]=T.abs.makeE dir name kind mode data:=by
  unfold AT.makeE;rw[abs_dirE,abs_find,abs_roomE]
 rw[hE]
 have hK':=hK;clear hK
 unfold AT.makeR at hK'
 by_cases h0:T.abs.makeE dir name kind mode data=0
 case neg =>
  rw[if_neg h0]at hK'
  refine br_t (by simpa using h0) ?_
  exact hK' σ8 B ⟨T,hT8,hO,rfl,hB⟩ (Sep.gr hgr.gr)
 rw[if_pos h0]at hK'
 refine br_f (by simpa using h0) ?_
 rw[<-hE]at h0
 have hd:=(firstE_z (firstE_z h0).2).1
 obtain⟨nd,hnd,hkd⟩:=dirE_z hd
 have hc:=hT8.cells
 unfold Tb.cells at hc
 have hb7 : ¬T.own bt b7:=by rw[hB];intro h;obtain⟨o,ho⟩:=hT.own_some ((hB _).2 h);exact ne_fresh ho n1 rfl
 (repeat (first|refine ptr_i ?_|refine z2 ?_|(refine al_i ?_;intro _ _ _ _ _)|refine z4 ?_|refine z5 ?_|(refine z6 ?_;intro _ _)|refine app_P ?_|refine app_I ?_|refine app_S ?_|refine app_B ?_|refine app_M ?_|refine app_L ?_|refine app_U ?_|refine app_R ?_|(refine app_of rfl ?_;try dsimp only)))
 rename_i σ9 p9 b28 σ10 g10 e10 n10
 let T1:Tb:={ T with last:=wr (T.last+1) }
 have hT9:TAt σ9 bt T1:=hT8.putT p9 rfl rfl
 have hT10:=hT9.gr g10
 have hO1:Own T1:=hO.same rfl rfl
 have o1 : ∀b,T1.own bt b↔B b:=fun b=>(own_same rfl rfl b).trans (hB b)
 have s10:Sep σ B σ10 B:=by
  intro b o hb hn
  refine⟨g10.get (p9.get ?_ (hgr.gr.get hb)),hn⟩
  intro e;subst e;exact hn ((hB _).1 (.inl rfl))
 have k7:σ10 b7=some (.cells ⟨[.pointer (some ⟨bt,0,none⟩)]⟩ 59 (0,0)):=by exact gA
 have k8:σ10 b8=some (.cells ⟨[.int .i64 kind]⟩ 3 (0,0)):=by exact gA
 have k10:σ10 b10=some (.cells ⟨[.string data]⟩ 9 (0,0)):=by exact gA
 have nb : ∀b,T1.own bt b -> ∃o,σ b=some o:=by
  intro b hb;exact hT.own_some ((own_same rfl rfl b).1 hb)
 have q7:b7≠b28:=ne_fr n10 (by repeat (first | exact io ‹_› | exact mS ‹_› | refine gS ‹_› ?_ | refine pS ‹_› ?_))
 have q10:b10≠b28:=ne_fr n10 (by repeat (first | exact io ‹_› | exact mS ‹_› | refine gS ‹_› ?_ | refine pS ‹_› ?_))
 have f28:σ b28=none:=none_of hgr.gr (by
  cases hx:σ8 b28 with
  | none=>rfl
  | some o' =>
   exfalso
   have:b28≠bt:=ne_fr n10 (by repeat (first | exact io ‹_› | exact mS ‹_› | refine gS ‹_› ?_ | refine pS ‹_› ?_)) |>.symm
   exact ne_fresh (p9.get this hx) n10 rfl)
 have hfr : ¬T1.own bt b28:=by
  intro h;obtain⟨o,ho⟩:=nb _ h
  rw[f28]at ho;cases ho
 refine j_i (fun j => ∀σ' eb,NdAt σ' ⟨b28,kind,mode,data,1,if kind==2 then dir else 0,eb,[]⟩->TAt σ' bt T1->(∀e,eb=some e->σ e=none)->σ' b7=some (.cells ⟨[.pointer (some ⟨bt,0,none⟩)]⟩ 59 (0,0))->σ' b10=some (.cells ⟨[.string data]⟩ 9 (0,0))->Sep σ B σ' B->j dir name (some ⟨b7,0,none⟩) (some ⟨b10,0,none⟩) (some ⟨b28,0,none⟩) σ') ?_ ?_
 ·intro σ' eb hN hT' heb h7 h10 hs
  have hcT:=hT'.cells
  unfold Tb.cells at hcT
  have hm:=hT'.nodes
  have e28:=hN.cells
  have nm:bt≠T1.mb:=hT'.bt_mb
  have n7m:b7≠T1.mb:=ne_cm h7 hm
  have n10m:b10≠T1.mb:=ne_cm h10 hm
  have n7t:b7≠bt:=by first | assumption | exact Ne.symm ‹_› | exact ne_fr ‹_› (by repeat (first | exact io ‹_› | exact mS ‹_› | refine gS ‹_› ?_ | refine pS ‹_› ?_)) | exact Ne.symm (ne_fr ‹_› (by repeat (first | exact io ‹_› | exact mS ‹_› | refine gS ‹_› ?_ | refine pS ‹_› ?_)))
  have n10t:b10≠bt:=by first | assumption | exact Ne.symm ‹_› | exact ne_fr ‹_› (by repeat (first | exact io ‹_› | exact mS ‹_› | refine gS ‹_› ?_ | refine pS ‹_› ?_)) | exact Ne.symm (ne_fr ‹_› (by repeat (first | exact io ‹_› | exact mS ‹_› | refine gS ‹_› ?_ | refine pS ‹_› ?_)))
  let nn:Nd:=⟨b28,kind,mode,data,1,if kind==2 then dir else 0,eb,[]⟩
  have hfe : ∀e,eb=some e -> ¬T1.own bt e:=by
   intro e he h;obtain⟨o,ho⟩:=nb _ h;rw[heb e he]at ho;cases ho
  (repeat (first|refine ptr_i ?_|refine z2 ?_|(refine al_i ?_;intro _ _ _ _ _)|refine z4 ?_|refine z5 ?_|(refine z6 ?_;intro _ _)|refine app_P ?_|refine app_I ?_|refine app_S ?_|refine app_B ?_|refine app_M ?_|refine app_L ?_|refine app_U ?_|refine app_R ?_|(refine app_of rfl ?_;try dsimp only)))
  refine mu_i (kk:=kkI) (f:=Nd.ptr) und_MIN und_int hm (wr (T.last+1)) nn ?_
  intro o11 σ11 p11 m11
  have hT11:TAt σ11 bt (T1.set (wr (T.last+1)) nn):=hT'.putA hO1 hN p11 m11 (by intro h;exact hfe _ h (.inr (.inl rfl)))
  have hO11:Own (T1.set (wr (T.last+1)) nn):=hO1.add hfr hfe
  (repeat (first|refine ptr_i ?_|refine z2 ?_|(refine al_i ?_;intro _ _ _ _ _)|refine z4 ?_|refine z5 ?_|(refine z6 ?_;intro _ _)|refine app_P ?_|refine app_I ?_|refine app_S ?_|refine app_B ?_|refine app_M ?_|refine app_L ?_|refine app_U ?_|refine app_R ?_|(refine app_of rfl ?_;try dsimp only)))
  have hL':T1.get (wr (T.last+1))=none:=by
   rw[abs_get]at hL
   exact Option.map_eq_none_iff.1 hL
  have hdl:dir≠wr (T.last+1):=by
   intro e;rw[<-e]at hL';have:T1.get dir=T.get dir:=rfl;rw[this,hnd]at hL';cases hL'
  have hd11:(T1.set (wr (T.last+1)) nn).get dir=some nd:=by rw[get_set,if_neg hdl];exact hnd
  refine rdN hT11 hd11 ?_
  obtain⟨ed,hed⟩:=hT11.dir hd11 hkd
  have cD:=(hT11.get hd11).cells
  unfold Nd.cells at cD
  rw[hed]at cD
  (repeat (first|refine ptr_i ?_|refine z2 ?_|(refine al_i ?_;intro _ _ _ _ _)|refine z4 ?_|refine z5 ?_|(refine z6 ?_;intro _ _)|refine app_P ?_|refine app_I ?_|refine app_S ?_|refine app_B ?_|refine app_M ?_|refine app_L ?_|refine app_U ?_|refine app_R ?_|(refine app_of rfl ?_;try dsimp only)))
  have mE:=(hT11.get hd11).ents ed hed
  refine mu_i (kk:=kkS) (f:=valI) und_MSI und_string mE name (wr (T.last+1)) ?_
  intro o12 σ12 p12 m12
  have hT12:=hT11.putE hO11 hd11 hed p12 m12
  have hO12:Own ((T1.set (wr (T.last+1)) nn).set dir { nd with ents:=HL.up name (wr (T.last+1)) nd.ents }):=hO11.set hd11 rfl rfl
  have n7e:b7≠ed:=ne_cm (p11.get n7m h7) mE
  have n10e:b10≠ed:=ne_cm (p11.get n10m h10) mE
  have nte:bt≠ed:=ne_cm hT11.cells mE
  (repeat (first|refine ptr_i ?_|refine z2 ?_|(refine al_i ?_;intro _ _ _ _ _)|refine z4 ?_|refine z5 ?_|(refine z6 ?_;intro _ _)|refine app_P ?_|refine app_I ?_|refine app_S ?_|refine app_B ?_|refine app_M ?_|refine app_L ?_|refine app_U ?_|refine app_R ?_|(refine app_of rfl ?_;try dsimp only)))
  rename_i σ13 p13 σ14 p14
  have hT13:=hT12.putT (T':={ ((T1.set (wr (T.last+1)) nn).set dir { nd with ents:=HL.up name (wr (T.last+1)) nd.ents })with ui:=wr (T.ui+1) }) p13 rfl rfl
  have hT14:=hT13.putT (T':={ ((T1.set (wr (T.last+1)) nn).set dir { nd with ents:=HL.up name (wr (T.last+1)) nd.ents })with ui:=wr (T.ui+1),ub:=wr (T.ub+data.size) }) p14 rfl rfl
  refine hK' σ14 (Tb.own bt { ((T1.set (wr (T.last+1)) nn).set dir { nd with ents:=HL.up name (wr (T.last+1)) nd.ents })with ui:=wr (T.ui+1),ub:=wr (T.ub+data.size) }) ⟨_,hT14,hO12.same rfl rfl,?_,fun _=>Iff.rfl⟩ ?_
  ·have hA1:(T1.set (wr (T.last+1)) nn).abs={ T.abs with last:=wr (T.abs.last+1),nodes:=HL.up (wr (T.abs.last+1)) ⟨kind,mode,data,1,if kind==2 then dir else 0,[]⟩ T.abs.nodes }:=abs_set ..
   have hg1:(T1.set (wr (T.last+1)) nn).abs.get dir=some nd.abs:=by rw[abs_get,hd11];rfl
   unfold AT.made AT.ent
   simp only
   rw[<-hA1,hg1]
   simp only
   have h5:=abs_set (T1.set (wr (T.last+1)) nn) dir { nd with ents:=HL.up name (wr (T.last+1)) nd.ents }
   show({ ((T1.set (wr (T.last+1)) nn).set dir { nd with ents:=HL.up name (wr (T.last+1)) nd.ents }).abs with ui:=wr (T.ui+1),ub:=wr (T.ub+data.size) }:AT)=_
   rw[h5];rfl
  ·intro b o hb hn
   obtain⟨hb',_⟩:=hs b o hb hn
   have q1:b≠bt:=by intro e;subst e;exact hn ((o1 _).1 (.inl rfl))
   have q2:b≠T1.mb:=by intro e;subst e;exact hn ((o1 _).1 (.inr (.inl rfl)))
   have q3:b≠ed:=by intro e;subst e;exact hn ((o1 _).1 (.inr (.inr ⟨dir,nd,hnd,.inr hed⟩)))
   refine⟨p14.get q1 (p13.get q1 (p12.get q3 (p11.get q2 hb'))),?_⟩
   intro hown
   have h1:=(own_same (T:=(T1.set (wr (T.last+1)) nn).set dir { nd with ents:=HL.up name (wr (T.last+1)) nd.ents }) rfl rfl b).1 hown
   have h2:=(own_set (n':={ nd with ents:=HL.up name (wr (T.last+1)) nd.ents }) hd11 rfl rfl b).1 h1
   rcases own_add b h2 with h3 | h3 | h3
   ·exact hn ((o1 _).1 h3)
   ·exact ne_fresh hb f28 h3
   ·exact ne_fresh hb (heb b h3) rfl
 ·intro j hj
  (repeat (first|refine ptr_i ?_|refine z2 ?_|(refine al_i ?_;intro _ _ _ _ _)|refine z4 ?_|refine z5 ?_|(refine z6 ?_;intro _ _)|refine app_P ?_|refine app_I ?_|refine app_S ?_|refine app_B ?_|refine app_M ?_|refine app_L ?_|refine app_U ?_|refine app_R ?_|(refine app_of rfl ?_;try dsimp only)))
  cases hk2:(kind==2) with
  | false =>
   refine br_f rfl ?_
   refine hj σ10 none ⟨by rw[hk2];exact e10,fun _ h=>(by cases h),fun _=>rfl,fun h => ?_⟩ hT10 (fun _ h=>(by cases h)) k7 k10 s10
   exfalso;simp at hk2;exact hk2 h
  | true =>
   refine br_t rfl ?_
   (repeat (first|refine ptr_i ?_|refine z2 ?_|(refine al_i ?_;intro _ _ _ _ _)|refine z4 ?_|refine z5 ?_|(refine z6 ?_;intro _ _)|refine app_P ?_|refine app_I ?_|refine app_S ?_|refine app_B ?_|refine app_M ?_|refine app_L ?_|refine app_U ?_|refine app_R ?_|(refine app_of rfl ?_;try dsimp only)))
   rename_i b89 σ11 g11 e11 n11 σ12 p12 σ13 p13
   have n89 : ∀b o,σ10 b=some o->b≠b89:=fun b o hb=>ne_fresh hb n11
   have hf89 : ¬T1.own bt b89:=by
    intro h;obtain⟨o,ho⟩:=hT10.own_some h;exact n89 _ _ ho rfl
   have f89:σ b89=none:=by
    cases hx:σ b89 with
    | none=>rfl
    | some o=>exfalso;exact hf89 ((o1 _).2 (Classical.byContradiction fun h=>n89 _ _ (s10 _ _ hx h).1 rfl))
   refine hj σ13 (some b89) ⟨by rw[hk2];exact p13.same,fun e he => ?_,fun h=>(by cases h),fun _ h=>(by cases h)⟩ (((hT10.gr g11).put p12 hfr).put p13 hfr) (fun e he=>by cases he;exact f89) (by exact gA) (by exact gA) ?_
   ·cases he
    refine MapAt.new ?_
    have:b89≠b28:=(n89 _ _ e10).symm
    exact p13.get this (p12.get this e11)
   ·intro b o hb hn
    have q:b≠b28:=ne_fresh hb f28
    exact⟨p13.get q (p12.get q (g11.get (s10 b o hb hn).1)),hn⟩
theorem fileE_z {T:Tb} {d:Int} (h:T.fileE d=0) : ∃n,T.get d=some n/\n.kind=1:=by
 unfold Tb.fileE at h
 cases hn:T.get d with
 | none=>rw[hn]at h;cases h
 | some n =>
  rw[hn]at h
  refine⟨n,rfl,?_⟩
  cases hk:(n.kind==2) with
  | true=>simp[hk]at h
  | false =>
   simp only[hk]at h
   cases hk1:(n.kind==1) with
   | true=>simpa using hk1
   | false=>simp[hk1]at h
theorem TAt.ne {σ:H} {bt:Nat} {T:Tb} (_hT:TAt σ bt T) {b:Nat} (hb:¬T.own bt b):b≠bt/\b≠T.mb/\(∀i n,T.get i=some n->b≠n.blk/\n.eb≠some b) :=
 ⟨fun e=>hb (.inl e),fun e=>hb (.inr (.inl e)),fun i n hn=>⟨fun e=>hb (.inr (.inr ⟨i,n,hn,.inl e⟩)),fun e=>hb (.inr (.inr ⟨i,n,hn,.inr e⟩))⟩⟩
theorem s_Link (hC:CAny) {σ:H} {bt:Nat} {A:AT} {B:Nat->Prop} (hA:TabAt σ bt A B) (dir:Int) (name:ByteArray) (ino:Int) {K:KH}
 (hK:∀σ' B',TabAt σ' bt (AT.linkR A dir name ino).2 B'->Sep σ B σ' B'->K (.int .i64 (AT.linkR A dir name ino).1) σ') :
 callW Tryz.prog 158 [.pointer (some ⟨bt,0,none⟩),.int .i64 dir,.string name,.int .i64 ino] K σ:=by
 obtain⟨T,hT,hO,rfl,hB⟩:=hA
 have hc0:=hT.cells
 refine c158 _ _ _ _ ?_
 unfold g158
 refine call_i (s_dir _ _ ?_)
 intro c1 c2 σ5 g5 f1 f2
 refine app_R ?_
 refine call_i (s_named _ ?_)
 intro c3 σ6 g6 f3
 refine app_R ?_
 refine call_i (s_file _ _ ?_)
 intro c7 c8 σ6' g6' f7 f8
 refine app_R ?_
 refine call_i (s_free _ _ _ ?_)
 intro c4 c5 c6 σ7 g7 f4 f5 f6
 refine app_R ?_
 refine one_f (one_f (one_f (one_f ?_)))
 refine al_i ?_;intro b17 σ8 g8 e8 n8
 have hgr:Lng σ σ8:=⟨by repeat (first | exact Gr.refl _ | assumption | refine Gr.trans ?_ ‹_› | refine Gr.putF ?_ ‹_› (none_of ?_ ‹_›))⟩
 have hT8:=hT.gr hgr.gr
 refine call_i (s_first (es:=[0,T.dirE dir,namedE name,T.fileE ino,if(T.find dir name).isSome then 6 else 0]) e8 ?_ (by simp) (app_I ?_))
 ·refine⟨pu_of go_there fun K hk=>s_there _ hk,fun _=>⟨pu_of go_dir1 fun K hk=>s_dir1 hT8 (by exact gA) (by exact gA) hk,fun _=>⟨pu_of go_named1 fun K hk=>s_named1 hC (by exact gA) hk,fun _=>⟨pu_of go_file1 fun K hk=>s_file1 hT8 (by exact gA) (by exact gA) hk,fun _=>⟨pu_of go_free1 fun K hk=>s_free1 hT8 (by exact gA) (by exact gA) (by exact gA) hk,fun _=>trivial⟩⟩⟩⟩⟩
 have hE:firstE [0,T.dirE dir,namedE name,T.fileE ino,if(T.find dir name).isSome then 6 else 0]=T.abs.linkE dir name ino:=by
  unfold AT.linkE;rw[abs_dirE,abs_find,abs_fileE]
 rw[hE]
 unfold AT.linkR at hK
 by_cases h0:T.abs.linkE dir name ino=0
 case neg =>
  rw[if_neg h0]at hK
  refine br_t (by simpa using h0) ?_
  exact hK σ8 B ⟨T,hT8,hO,rfl,hB⟩ (Sep.gr hgr.gr)
 rw[if_pos h0]at hK
 refine br_f (by simpa using h0) ?_
 rw[<-hE]at h0
 have hd:=(firstE_z (firstE_z h0).2).1
 obtain⟨nd,hnd,hkd⟩:=dirE_z hd
 have hf:=(firstE_z (firstE_z (firstE_z (firstE_z h0).2).2).2).1
 obtain⟨nf,hnf,hkf⟩:=fileE_z hf
 have hne:ino≠dir:=by intro e;subst e;rw[hnd]at hnf;cases hnf;omega
 have hc:=hT8.cells
 unfold Tb.cells at hc
 (repeat (first|refine ptr_i ?_|refine z2 ?_|(refine al_i ?_;intro _ _ _ _ _)|refine z4 ?_|refine z5 ?_|(refine z6 ?_;intro _ _)|refine app_P ?_|refine app_I ?_|refine app_S ?_|refine app_B ?_|refine app_M ?_|refine app_L ?_|refine app_U ?_|refine app_R ?_|(refine app_of rfl ?_;try dsimp only)))
 refine rdN hT8 hnd ?_
 obtain⟨ed,hed⟩:=hT8.dir hnd hkd
 have cD:=(hT8.get hnd).cells
 unfold Nd.cells at cD
 rw[hed]at cD
 (repeat (first|refine ptr_i ?_|refine z2 ?_|(refine al_i ?_;intro _ _ _ _ _)|refine z4 ?_|refine z5 ?_|(refine z6 ?_;intro _ _)|refine app_P ?_|refine app_I ?_|refine app_S ?_|refine app_B ?_|refine app_M ?_|refine app_L ?_|refine app_U ?_|refine app_R ?_|(refine app_of rfl ?_;try dsimp only)))
 have mE:=(hT8.get hnd).ents ed hed
 refine mu_i (kk:=kkS) (f:=valI) und_MSI und_string mE name ino ?_
 intro o12 σ12 p12 m12
 have hT12:=hT8.putE hO hnd hed p12 m12
 have hO12:Own (T.set dir { nd with ents:=HL.up name ino nd.ents }):=hO.set hnd rfl rfl
 have hf12:(T.set dir { nd with ents:=HL.up name ino nd.ents }).get ino=some nf:=by rw[get_set,if_neg hne];exact hnf
 have hc12:=hT12.cells
 unfold Tb.cells at hc12
 (repeat (first|refine ptr_i ?_|refine z2 ?_|(refine al_i ?_;intro _ _ _ _ _)|refine z4 ?_|refine z5 ?_|(refine z6 ?_;intro _ _)|refine app_P ?_|refine app_I ?_|refine app_S ?_|refine app_B ?_|refine app_M ?_|refine app_L ?_|refine app_U ?_|refine app_R ?_|(refine app_of rfl ?_;try dsimp only)))
 refine rdN hT12 hf12 ?_
 have cF:=(hT12.get hf12).cells
 unfold Nd.cells at cF
 (repeat (first|refine ptr_i ?_|refine z2 ?_|(refine al_i ?_;intro _ _ _ _ _)|refine z4 ?_|refine z5 ?_|(refine z6 ?_;intro _ _)|refine app_P ?_|refine app_I ?_|refine app_S ?_|refine app_B ?_|refine app_M ?_|refine app_L ?_|refine app_U ?_|refine app_R ?_|(refine app_of rfl ?_;try dsimp only)))
 rename_i σ13 p13
 have hT13:=hT12.putN hO12 (n':={ nf with links:=wr (nf.links+1) }) hf12 p13 rfl rfl rfl rfl
 have hO13:=hO12.set (n':={ nf with links:=wr (nf.links+1) }) hf12 rfl rfl
 refine hK σ13 B ⟨_,hT13,hO13,?_,fun b=>(own_set (n':={ nf with links:=wr (nf.links+1) }) hf12 rfl rfl b).trans ((own_set (n':={ nd with ents:=HL.up name ino nd.ents }) hnd rfl rfl b).trans (hB b))⟩ ?_
 ·rw[abs_set]
  unfold AT.linked AT.ent AT.mod
  rw[abs_get,hnd]
  simp only[Option.map_some]
  have h5:T.abs.set dir { nd.abs with ents:=HL.up name ino nd.abs.ents }=(T.set dir { nd with ents:=HL.up name ino nd.ents }).abs:=(abs_set T dir { nd with ents:=HL.up name ino nd.ents }).symm
  rw[h5,abs_get,hf12]
  rfl
 ·intro b o hb hn
  have hn' : ¬T.own bt b:=fun h=>hn ((hB b).1 h)
  have q1:b≠ed:=by intro e;subst e;exact((hT.ne hn').2.2 dir nd hnd).2 hed
  have q2:b≠nf.blk:=((hT.ne hn').2.2 ino nf hnf).1
  exact⟨p13.get q2 (p12.get q1 (hgr.gr.get hb)),hn⟩

theorem s_WriteT1 {σ:H} {bt:Nat} {T:Tb} (hT:TAt σ bt T) {b1 b2 b3:Nat} {data:ByteArray} {ino:Int} {t1 t2 t3:TypeId} (h1:σ b1=some (.cells ⟨[.pointer (some ⟨bt,0,none⟩)]⟩ t1 (0,0))) (h2:σ b2=some (.cells ⟨[.string data]⟩ t2 (0,0))) (h3:σ b3=some (.cells ⟨[.int .i64 ino]⟩ t3 (0,0))) {n:Nd} (hn:T.get ino=some n) {K:KH}
 (hK:K (.int .i64 (T.roomE 0 (wr ((data.size:Int) - n.data.size)))) σ):callW Tryz.prog 86 [.pointer (some ⟨b1,0,none⟩),.pointer (some ⟨b2,0,none⟩),.pointer (some ⟨b3,0,none⟩)] K σ:=by
 refine pure_i _ hK (c86 _ _ _ ?_)
 unfold g86
 have hc:=hT.cells
 unfold Tb.cells at hc
 (repeat (first|refine ptr_i ?_|refine z2 ?_|(refine al_i ?_;intro _ _ _ _ _)|refine z4 ?_|refine z5 ?_|(refine z6 ?_;intro _ _)|refine app_P ?_|refine app_I ?_|refine app_S ?_|refine app_B ?_|refine app_M ?_|refine app_L ?_|refine app_U ?_|refine app_R ?_|(refine app_of rfl ?_;try dsimp only)))
 refine rdN hT hn ?_
 have hN:=(hT.get hn).cells
 unfold Nd.cells at hN
 (repeat (first|refine ptr_i ?_|refine z2 ?_|(refine al_i ?_;intro _ _ _ _ _)|refine z4 ?_|refine z5 ?_|(refine z6 ?_;intro _ _)|refine app_P ?_|refine app_I ?_|refine app_S ?_|refine app_B ?_|refine app_M ?_|refine app_L ?_|refine app_U ?_|refine app_R ?_|(refine app_of rfl ?_;try dsimp only)))
 refine call_i (s_room _ _ _ ?_)
 intro c1 c2 c3 σ' hg e1 e2 e3
 refine app_R ?_
 refine cval_i go_room1 ?_
 exact s_room1 (hT.gr hg) e1 e2 e3 (app_I ⟨rfl,hg⟩)
theorem s_WriteT {σ:H} {bt:Nat} {A:AT} {B:Nat->Prop} (hA:TabAt σ bt A B) (ino:Int) (data:ByteArray) {K:KH}
 (hK:∀σ' B',TabAt σ' bt (AT.writeR A ino data).2 B'->Sep σ B σ' B'->K (.int .i64 (AT.writeR A ino data).1) σ') :
 callW Tryz.prog 31 [.pointer (some ⟨bt,0,none⟩),.int .i64 ino,.string data] K σ:=by
 obtain⟨T,hT,hO,rfl,hB⟩:=hA
 have hc0:=hT.cells
 refine c31 _ _ _ ?_
 unfold g31
 refine al_i ?_;intro b4 σ1 g1 e1 n1
 refine al_i ?_;intro b5 σ2 g2 e2 n2
 refine al_i ?_;intro b6 σ3 g3 e3 n3
 (repeat (first|refine ptr_i ?_|refine z2 ?_|(refine al_i ?_;intro _ _ _ _ _)|refine z4 ?_|refine z5 ?_|(refine z6 ?_;intro _ _)|refine app_P ?_|refine app_I ?_|refine app_S ?_|refine app_B ?_|refine app_M ?_|refine app_L ?_|refine app_U ?_|refine app_R ?_|(refine app_of rfl ?_;try dsimp only)))
 refine call_i (s_file _ _ ?_)
 intro c7 c8 σ6' g6' f7 f8
 refine app_R ?_
 (repeat (first|refine ptr_i ?_|refine z2 ?_|(refine al_i ?_;intro _ _ _ _ _)|refine z4 ?_|refine z5 ?_|(refine z6 ?_;intro _ _)|refine app_P ?_|refine app_I ?_|refine app_S ?_|refine app_B ?_|refine app_M ?_|refine app_L ?_|refine app_U ?_|refine app_R ?_|(refine app_of rfl ?_;try dsimp only)))
 refine one_f ?_
 refine al_i ?_;intro b17 σ8 g8 e8 n8
 have hgr:Lng σ σ8:=⟨by repeat (first | exact Gr.refl _ | assumption | refine Gr.trans ?_ ‹_› | refine Gr.putF ?_ ‹_› (none_of ?_ ‹_›))⟩
 have hT8:=hT.gr hgr.gr
 refine call_i (s_first (es:=[0,T.fileE ino,T.roomE 0 (wr ((data.size:Int) - ((T.abs.get ino).map (·.data.size)).getD 0))]) e8 ?_ (by simp) (app_I ?_))
 ·refine⟨pu_of go_there fun K hk=>s_there _ hk,fun _=>⟨pu_of go_file1 fun K hk=>s_file1 hT8 (by exact gA) (by exact gA) hk,fun hz=>⟨pu_of go_WriteT1 fun K hk => ?_,fun _=>trivial⟩⟩⟩
  obtain⟨nf,hnf,hkf⟩:=fileE_z hz
  refine s_WriteT1 hT8 (b1:=b4) (b2:=b6) (b3:=b5) (by exact gA) (by exact gA) (by exact gA) hnf ?_
  rw[abs_get,hnf]at hk
  exact hk
 have hE:firstE [0,T.fileE ino,T.roomE 0 (wr ((data.size:Int) - ((T.abs.get ino).map (·.data.size)).getD 0))]=T.abs.writeE ino data:=by
  unfold AT.writeE;rw[abs_fileE,abs_roomE]
 rw[hE]
 unfold AT.writeR at hK
 by_cases h0:T.abs.writeE ino data=0
 case neg =>
  rw[if_neg h0]at hK
  refine br_t (by simpa using h0) ?_
  exact hK σ8 B ⟨T,hT8,hO,rfl,hB⟩ (Sep.gr hgr.gr)
 rw[if_pos h0]at hK
 refine br_f (by simpa using h0) ?_
 rw[<-hE]at h0
 obtain⟨nf,hnf,hkf⟩:=fileE_z (firstE_z (firstE_z h0).2).1
 have hc:=hT8.cells
 unfold Tb.cells at hc
 (repeat (first|refine ptr_i ?_|refine z2 ?_|(refine al_i ?_;intro _ _ _ _ _)|refine z4 ?_|refine z5 ?_|(refine z6 ?_;intro _ _)|refine app_P ?_|refine app_I ?_|refine app_S ?_|refine app_B ?_|refine app_M ?_|refine app_L ?_|refine app_U ?_|refine app_R ?_|(refine app_of rfl ?_;try dsimp only)))
 refine rdN hT8 hnf ?_
 have cF:=(hT8.get hnf).cells
 unfold Nd.cells at cF
 have q0:nf.blk≠bt:=hT8.blk_bt hnf
 have q6:b6≠nf.blk:=by
  intro e
  have h6:σ8 b6=some (.cells ⟨[.string data]⟩ 9 (0,0)):=by exact gA
  rw[e,cF]at h6;simp at h6
 (repeat (first|refine ptr_i ?_|refine z2 ?_|(refine al_i ?_;intro _ _ _ _ _)|refine z4 ?_|refine z5 ?_|(refine z6 ?_;intro _ _)|refine app_P ?_|refine app_I ?_|refine app_S ?_|refine app_B ?_|refine app_M ?_|refine app_L ?_|refine app_U ?_|refine app_R ?_|(refine app_of rfl ?_;try dsimp only)))
 rename_i σ13 p13 σ14 p14
 have hT13:=hT8.putT (T':={ T with ub:=wr (T.ub+wr ((data.size:Int) - nf.data.size)) }) p13 rfl rfl
 have hO13:Own { T with ub:=wr (T.ub+wr ((data.size:Int) - nf.data.size)) }:=hO.same rfl rfl
 have hT14:=hT13.putN hO13 (n':={ nf with data:=data }) (i:=ino) hnf p14 rfl rfl rfl rfl
 have hO14:=hO13.set (n':={ nf with data:=data }) (i:=ino) hnf rfl rfl
 refine hK σ14 B ⟨_,hT14,hO14,?_,fun b=>(own_set (T:={ T with ub:=wr (T.ub+wr ((data.size:Int) - nf.data.size)) }) (i:=ino) (n':={ nf with data:=data }) hnf rfl rfl b).trans ((own_same rfl rfl b).trans (hB b))⟩ ?_
 ·rw[abs_set]
  unfold AT.written
  rw[abs_get,hnf]
  rfl
 ·intro b o hb hn
  have hn' : ¬T.own bt b:=fun h=>hn ((hB b).1 h)
  exact⟨p14.get ((hT.ne hn').2.2 ino nf hnf).1 (p13.get (hT.ne hn').1 (hgr.gr.get hb)),hn⟩
theorem s_ChmodT1 {σ:H} {b1:Nat} {mode:Int} {t1:TypeId} (h1:σ b1=some (.cells ⟨[.int .i64 mode]⟩ t1 (0,0))) {K:KH}
 (hK:K (.int .i64 (if 0<=mode/\mode<=511 then 0 else 2)) σ):callW Tryz.prog 151 [.pointer (some ⟨b1,0,none⟩)] K σ:=by
 refine c151 _ ?_
 unfold g151
 (repeat (first|refine ptr_i ?_|refine z2 ?_|(refine al_i ?_;intro _ _ _ _ _)|refine z4 ?_|refine z5 ?_|(refine z6 ?_;intro _ _)|refine app_P ?_|refine app_I ?_|refine app_S ?_|refine app_B ?_|refine app_M ?_|refine app_L ?_|refine app_U ?_|refine app_R ?_|(refine app_of rfl ?_;try dsimp only)))
 by_cases ha:0<=mode
 ·refine br_t (by simpa using ha) ?_
  (repeat (first|refine ptr_i ?_|refine z2 ?_|(refine al_i ?_;intro _ _ _ _ _)|refine z4 ?_|refine z5 ?_|(refine z6 ?_;intro _ _)|refine app_P ?_|refine app_I ?_|refine app_S ?_|refine app_B ?_|refine app_M ?_|refine app_L ?_|refine app_U ?_|refine app_R ?_|(refine app_of rfl ?_;try dsimp only)))
  exact call_i (s_must _ _ (app_I (by simpa[ha]using hK)))
 ·refine br_f (by simpa using ha) ?_
  exact call_i (s_must _ _ (app_I (by simpa[ha]using hK)))
theorem s_ChmodT2 {σ:H} {bt:Nat} {T:Tb} (hT:TAt σ bt T) {b1 b2:Nat} {ino:Int} {t1 t2:TypeId} (h1:σ b1=some (.cells ⟨[.pointer (some ⟨bt,0,none⟩)]⟩ t1 (0,0))) (h2:σ b2=some (.cells ⟨[.int .i64 ino]⟩ t2 (0,0))) {K:KH}
 (hK:K (.int .i64 (if(T.get ino).isSome then 0 else 5)) σ):callW Tryz.prog 152 [.pointer (some ⟨b1,0,none⟩),.pointer (some ⟨b2,0,none⟩)] K σ:=by
 refine c152 _ _ ?_
 unfold g152
 (repeat (first|refine ptr_i ?_|refine z2 ?_|(refine al_i ?_;intro _ _ _ _ _)|refine z4 ?_|refine z5 ?_|(refine z6 ?_;intro _ _)|refine app_P ?_|refine app_I ?_|refine app_S ?_|refine app_B ?_|refine app_M ?_|refine app_L ?_|refine app_U ?_|refine app_R ?_|(refine app_of rfl ?_;try dsimp only)))
 refine call_i (s_get hT ino (app_P ?_))
 refine call_i (s_must _ _ (app_I ?_))
 cases h:T.get ino<;>simpa[h]using hK
theorem s_ChmodT {σ:H} {bt:Nat} {A:AT} {B:Nat->Prop} (hA:TabAt σ bt A B) (ino mode:Int) {K:KH}
 (hK:∀σ' B',TabAt σ' bt (AT.chmodR A ino mode).2 B'->Sep σ B σ' B'->K (.int .i64 (AT.chmodR A ino mode).1) σ') :
 callW Tryz.prog 95 [.pointer (some ⟨bt,0,none⟩),.int .i64 ino,.int .i64 mode] K σ:=by
 obtain⟨T,hT,hO,rfl,hB⟩:=hA
 have hc0:=hT.cells
 refine c95 _ _ _ ?_
 unfold g95
 refine al_i ?_;intro b4 σ1 g1 e1 n1
 refine al_i ?_;intro b5 σ2 g2 e2 n2
 refine al_i ?_;intro b6 σ3 g3 e3 n3
 refine rd_P (rdC_of (by exact gA) (by rfl)) ?_
 refine al_i ?_;intro b17 σ8 g8 e8 n8
 have hgr:Lng σ σ8:=⟨by repeat (first | exact Gr.refl _ | assumption | refine Gr.trans ?_ ‹_› | refine Gr.putF ?_ ‹_› (none_of ?_ ‹_›))⟩
 have hT8:=hT.gr hgr.gr
 refine call_i (s_first (es:=[0,if 0<=mode/\mode<=511 then 0 else 2,if(T.get ino).isSome then 0 else 5]) e8 ?_ (by simp) (app_I ?_))
 ·exact⟨pu_of go_there fun K hk=>s_there _ hk,fun _=>⟨pu_of go_ChmodT1 fun K hk=>s_ChmodT1 (by exact gA) hk,fun hz=>⟨pu_of go_ChmodT2 fun K hk=>s_ChmodT2 hT8 (by exact gA) (by exact gA) hk,fun _=>trivial⟩⟩⟩
 have hE:firstE [0,if 0<=mode/\mode<=511 then 0 else 2,if(T.get ino).isSome then 0 else 5]=T.abs.chmodE ino mode:=by
  unfold AT.chmodE;rw[abs_get];cases T.get ino<;>rfl
 rw[hE]
 unfold AT.chmodR at hK
 by_cases h0:T.abs.chmodE ino mode=0
 case neg =>
  rw[if_neg h0]at hK
  refine br_t (by simpa using h0) ?_
  exact hK σ8 B ⟨T,hT8,hO,rfl,hB⟩ (Sep.gr hgr.gr)
 rw[if_pos h0]at hK
 refine br_f (by simpa using h0) ?_
 rw[<-hE]at h0
 have hz:=(firstE_z (firstE_z (firstE_z h0).2).2).1
 cases hnf:T.get ino with
 | none=>rw[hnf]at hz;cases hz
 | some nf =>
 have hc:=hT8.cells
 unfold Tb.cells at hc
 (repeat (first|refine ptr_i ?_|refine z2 ?_|(refine al_i ?_;intro _ _ _ _ _)|refine z4 ?_|refine z5 ?_|(refine z6 ?_;intro _ _)|refine app_P ?_|refine app_I ?_|refine app_S ?_|refine app_B ?_|refine app_M ?_|refine app_L ?_|refine app_U ?_|refine app_R ?_|(refine app_of rfl ?_;try dsimp only)))
 refine rdN hT8 hnf ?_
 have cF:=(hT8.get hnf).cells
 unfold Nd.cells at cF
 (repeat (first|refine ptr_i ?_|refine z2 ?_|(refine al_i ?_;intro _ _ _ _ _)|refine z4 ?_|refine z5 ?_|(refine z6 ?_;intro _ _)|refine app_P ?_|refine app_I ?_|refine app_S ?_|refine app_B ?_|refine app_M ?_|refine app_L ?_|refine app_U ?_|refine app_R ?_|(refine app_of rfl ?_;try dsimp only)))
 rename_i σ14 p14
 have hT14:=hT8.putN hO (n':={ nf with mode:=mode }) (i:=ino) hnf p14 rfl rfl rfl rfl
 have hO14:=hO.set (n':={ nf with mode:=mode }) (i:=ino) hnf rfl rfl
 refine hK σ14 B ⟨_,hT14,hO14,?_,fun b=>(own_set (i:=ino) (n':={ nf with mode:=mode }) hnf rfl rfl b).trans (hB b)⟩ ?_
 ·rw[abs_set]
  unfold AT.chmoded AT.mod
  rw[abs_get,hnf]
  rfl
 ·intro b o hb hn
  have hn' : ¬T.own bt b:=fun h=>hn ((hB b).1 h)
  exact⟨p14.get ((hT.ne hn').2.2 ino nf hnf).1 (hgr.gr.get hb),hn⟩
theorem s_Unlink1 {σ:H} {bt:Nat} {T:Tb} (hT:TAt σ bt T) {b1 b2 b3:Nat} {dir:Int} {name:ByteArray} {t1 t2 t3:TypeId} (h1:σ b1=some (.cells ⟨[.pointer (some ⟨bt,0,none⟩)]⟩ t1 (0,0))) (h2:σ b2=some (.cells ⟨[.int .i64 dir]⟩ t2 (0,0))) (h3:σ b3=some (.cells ⟨[.string name]⟩ t3 (0,0))) {n:Nd} (hn:T.get ((T.find dir name).getD 0)=some n) {K:KH}
 (hK:K (.int .i64 (if n.ents.length=0 then 0 else 20)) σ):callW Tryz.prog 185 [.pointer (some ⟨b1,0,none⟩),.pointer (some ⟨b2,0,none⟩),.pointer (some ⟨b3,0,none⟩)] K σ:=by
 refine c185 _ _ _ ?_
 unfold g185
 have hc:=hT.cells
 unfold Tb.cells at hc
 (repeat (first|refine ptr_i ?_|refine z2 ?_|(refine al_i ?_;intro _ _ _ _ _)|refine z4 ?_|refine z5 ?_|(refine z6 ?_;intro _ _)|refine app_P ?_|refine app_I ?_|refine app_S ?_|refine app_B ?_|refine app_M ?_|refine app_L ?_|refine app_U ?_|refine app_R ?_|(refine app_of rfl ?_;try dsimp only)))
 refine call_i (s_Find hT dir name (app_IB ?_))
 (repeat (first|refine ptr_i ?_|refine z2 ?_|(refine al_i ?_;intro _ _ _ _ _)|refine z4 ?_|refine z5 ?_|(refine z6 ?_;intro _ _)|refine app_P ?_|refine app_I ?_|refine app_S ?_|refine app_B ?_|refine app_M ?_|refine app_L ?_|refine app_U ?_|refine app_R ?_|(refine app_of rfl ?_;try dsimp only)))
 refine rdN hT hn ?_
 have hN:=(hT.get hn)
 have cN:=hN.cells
 unfold Nd.cells at cN
 (repeat (first|refine ptr_i ?_|refine z2 ?_|(refine al_i ?_;intro _ _ _ _ _)|refine z4 ?_|refine z5 ?_|(refine z6 ?_;intro _ _)|refine app_P ?_|refine app_I ?_|refine app_S ?_|refine app_B ?_|refine app_M ?_|refine app_L ?_|refine app_U ?_|refine app_R ?_|(refine app_of rfl ?_;try dsimp only)))
 cases he:n.eb with
 | none =>
  have h0:=hN.none he
  refine rd_I (n:=0) rfl ?_
  refine call_i (s_must _ _ (app_I ?_))
  simpa[h0]using hK
 | some e =>
  refine rd_I (rdLen_at (hN.ents e he)) ?_
  refine call_i (s_must _ _ (app_I ?_))
  have:(encL kkS valI n.ents).length=n.ents.length:=by simp[encL]
  rw[this]
  by_cases h0:n.ents.length=0
  ·rw[if_pos h0]at hK;simpa[h0]using hK
  ·rw[if_neg h0]at hK
   have:(((n.ents.length:Nat):Int)==0)=false:=by
    simp;intro e;exact h0 (by rw[e];rfl)
   rw[this];exact hK
theorem s_Unlink {σ:H} {bt:Nat} {A:AT} {B:Nat->Prop} (hA:TabAt σ bt A B) (dir:Int) (name:ByteArray) (hd:∀j,A.find dir name=some j->(A.get j).isSome=true) (hk:(keysL A.nodes).Nodup) {K:KH}
 (hK:∀σ' B',TabAt σ' bt (AT.unlinkR A dir name).2 B'->Sep σ B σ' B'->K (.int .i64 (AT.unlinkR A dir name).1) σ') :
 callW Tryz.prog 155 [.pointer (some ⟨bt,0,none⟩),.int .i64 dir,.string name] K σ:=by
 obtain⟨T,hT,hO,rfl,hB⟩:=hA
 have hc0:=hT.cells
 refine c155 _ _ _ ?_
 unfold g155
 refine al_i ?_;intro b4 σ1 g1 e1 n1
 refine al_i ?_;intro b5 σ2 g2 e2 n2
 refine al_i ?_;intro b6 σ3 g3 e3 n3
 (repeat (first|refine ptr_i ?_|refine z2 ?_|(refine al_i ?_;intro _ _ _ _ _)|refine z4 ?_|refine z5 ?_|(refine z6 ?_;intro _ _)|refine app_P ?_|refine app_I ?_|refine app_S ?_|refine app_B ?_|refine app_M ?_|refine app_L ?_|refine app_U ?_|refine app_R ?_|(refine app_of rfl ?_;try dsimp only)))
 refine call_i (s_dir _ _ ?_)
 intro c1 c2 σ5 g5 f1 f2
 refine app_R ?_
 (repeat (first|refine ptr_i ?_|refine z2 ?_|(refine al_i ?_;intro _ _ _ _ _)|refine z4 ?_|refine z5 ?_|(refine z6 ?_;intro _ _)|refine app_P ?_|refine app_I ?_|refine app_S ?_|refine app_B ?_|refine app_M ?_|refine app_L ?_|refine app_U ?_|refine app_R ?_|(refine app_of rfl ?_;try dsimp only)))
 refine call_i (s_entry _ _ _ ?_)
 intro c4 c5 c6 σ7 g7 f4 f5 f6
 refine app_R ?_
 (repeat (first|refine ptr_i ?_|refine z2 ?_|(refine al_i ?_;intro _ _ _ _ _)|refine z4 ?_|refine z5 ?_|(refine z6 ?_;intro _ _)|refine app_P ?_|refine app_I ?_|refine app_S ?_|refine app_B ?_|refine app_M ?_|refine app_L ?_|refine app_U ?_|refine app_R ?_|(refine app_of rfl ?_;try dsimp only)))
 refine one_f (one_f ?_)
 refine al_i ?_;intro b17 σ8 g8 e8 n8
 have hgr:Lng σ σ8:=⟨by repeat (first | exact Gr.refl _ | assumption | refine Gr.trans ?_ ‹_› | refine Gr.putF ?_ ‹_› (none_of ?_ ‹_›))⟩
 have hT8:=hT.gr hgr.gr
 have hnn : ∀j,T.find dir name=some j -> ∃n,T.get j=some n:=by
  intro j hj
  have:=hd j (by rw[abs_find];exact hj)
  rw[abs_get]at this
  cases h:T.get j with
  | none=>rw[h]at this;cases this
  | some n=>exact⟨n,rfl⟩
 refine call_i (s_first (es:=[0,T.dirE dir,if(T.find dir name).isSome then 0 else 5,if((T.abs.get ((T.find dir name).getD 0)).map (·.ents.length)).getD 0=0 then 0 else 20]) e8 ?_ (by simp) (app_I ?_))
 ·refine⟨pu_of go_there fun K hk=>s_there _ hk,fun _=>⟨pu_of go_dir1 fun K hk=>s_dir1 hT8 (by exact gA) (by exact gA) hk,fun _=>⟨pu_of go_entry1 fun K hk=>s_entry1 hT8 (by exact gA) (by exact gA) (by exact gA) hk,fun hz=>⟨pu_of go_Unlink1 fun K hk => ?_,fun _=>trivial⟩⟩⟩⟩
  cases hj:T.find dir name with
  | none=>rw[hj]at hz;cases hz
  | some j =>
   obtain⟨n,hn⟩:=hnn j hj
   refine s_Unlink1 hT8 (b1:=b4) (b2:=b5) (b3:=b6) (by exact gA) (by exact gA) (by exact gA) (n:=n) (by rw[hj];exact hn) ?_
   rw[abs_get,hj]at hk
   simp only[Option.getD_some,hn]at hk
   exact hk
 have hE:firstE [0,T.dirE dir,if(T.find dir name).isSome then 0 else 5,if((T.abs.get ((T.find dir name).getD 0)).map (·.ents.length)).getD 0=0 then 0 else 20]=T.abs.unlinkE dir name:=by
  unfold AT.unlinkE;rw[abs_dirE,abs_find]
 rw[hE]
 unfold AT.unlinkR at hK
 by_cases h0:T.abs.unlinkE dir name=0
 case neg =>
  rw[if_neg h0]at hK
  refine br_t (by simpa using h0) ?_
  exact hK σ8 B ⟨T,hT8,hO,rfl,hB⟩ (Sep.gr hgr.gr)
 rw[if_pos h0]at hK
 refine br_f (by simpa using h0) ?_
 rw[<-hE]at h0
 obtain⟨nd,hnd,hkd⟩:=dirE_z (firstE_z (firstE_z h0).2).1
 have hz:=(firstE_z (firstE_z (firstE_z h0).2).2).1
 cases hj:T.find dir name with
 | none=>rw[hj]at hz;cases hz
 | some j =>
 obtain⟨n0,hn0⟩:=hnn j hj
 have hc:=hT8.cells
 unfold Tb.cells at hc
 (repeat (first|refine ptr_i ?_|refine z2 ?_|(refine al_i ?_;intro _ _ _ _ _)|refine z4 ?_|refine z5 ?_|(refine z6 ?_;intro _ _)|refine app_P ?_|refine app_I ?_|refine app_S ?_|refine app_B ?_|refine app_M ?_|refine app_L ?_|refine app_U ?_|refine app_R ?_|(refine app_of rfl ?_;try dsimp only)))
 refine call_i (s_Find hT8 dir name (app_IB ?_))
 rw[hj]
 simp only[Option.getD_some]
 (repeat (first|refine ptr_i ?_|refine z2 ?_|(refine al_i ?_;intro _ _ _ _ _)|refine z4 ?_|refine z5 ?_|(refine z6 ?_;intro _ _)|refine app_P ?_|refine app_I ?_|refine app_S ?_|refine app_B ?_|refine app_M ?_|refine app_L ?_|refine app_U ?_|refine app_R ?_|(refine app_of rfl ?_;try dsimp only)))
 refine rdN hT8 hnd ?_
 obtain⟨ed,hed⟩:=hT8.dir hnd hkd
 have cD:=(hT8.get hnd).cells
 unfold Nd.cells at cD
 rw[hed]at cD
 (repeat (first|refine ptr_i ?_|refine z2 ?_|(refine al_i ?_;intro _ _ _ _ _)|refine z4 ?_|refine z5 ?_|(refine z6 ?_;intro _ _)|refine app_P ?_|refine app_I ?_|refine app_S ?_|refine app_B ?_|refine app_M ?_|refine app_L ?_|refine app_U ?_|refine app_R ?_|(refine app_of rfl ?_;try dsimp only)))
 have mE:=(hT8.get hnd).ents ed hed
 have k4:σ8 b4=some (.cells ⟨[.pointer (some ⟨bt,0,none⟩)]⟩ 59 (0,0)):=by exact gA
 refine del_i (kk:=kkS) (f:=valI) und_MSI und_string mE name ?_
 intro o12 σ12 p12 m12
 have hT12:=hT8.putE hO hnd hed p12 m12
 have hO12:Own (T.set dir { nd with ents:=HL.rm name nd.ents }):=hO.set hnd rfl rfl
 have n4e:b4≠ed:=ne_cm k4 mE
 have nte:bt≠ed:=ne_cm hT8.cells mE
 have k4':=p12.get n4e k4
 have hc12:=hT12.cells
 unfold Tb.cells at hc12
 (repeat (first|refine ptr_i ?_|refine z2 ?_|(refine al_i ?_;intro _ _ _ _ _)|refine z4 ?_|refine z5 ?_|(refine z6 ?_;intro _ _)|refine app_P ?_|refine app_I ?_|refine app_S ?_|refine app_B ?_|refine app_M ?_|refine app_L ?_|refine app_U ?_|refine app_R ?_|(refine app_of rfl ?_;try dsimp only)))
 -- what it named,as it is now
 obtain⟨n1,hn1,a1,a2,a3,a4⟩ : ∃n1,(T.set dir { nd with ents:=HL.rm name nd.ents }).get j=some n1/\n1.blk=n0.blk/\n1.eb=n0.eb/\n1.data=n0.data/\n1.links=n0.links:=by
  rw[get_set]
  by_cases e:j=dir
  ·subst e;rw[hnd]at hn0;cases hn0;rw[if_pos rfl];exact⟨_,rfl,rfl,rfl,rfl,rfl⟩
  ·rw[if_neg e];exact⟨n0,hn0,rfl,rfl,rfl,rfl⟩
 refine rdN hT12 hn1 ?_
 refine j_d ?_
 have cF:=(hT12.get hn1).cells
 unfold Nd.cells at cF
 refine ptr_i ?_
 refine rd_I (rdC_of cF (by rfl)) (ptr_i ?_)
 refine st_i2 cF sz_int (by rfl) (by rfl) ?_
 intro σ13 p13
 let T12:=T.set dir { nd with ents:=HL.rm name nd.ents }
 let n2:Nd:={ n1 with links:=wr (n1.links - 1) }
 have hT13:TAt σ13 bt (T12.set j n2):=hT12.putN hO12 hn1 p13 rfl rfl rfl rfl
 have hO13:Own (T12.set j n2):=hO12.set hn1 rfl rfl
 have o13 : ∀b,(T12.set j n2).own bt b↔B b:=fun b=>(own_set (n':=n2) hn1 rfl rfl b).trans ((own_set (n':={ nd with ents:=HL.rm name nd.ents }) hnd rfl rfl b).trans (hB b))
 have habs:(T12.set j n2).abs=(T.abs.ent dir (HL.rm name)).mod j fun n=>{ n with links:=wr (n.links - 1) }:=by
  rw[abs_set]
  unfold AT.ent AT.mod
  rw[abs_get,hnd]
  simp only[Option.map_some]
  have h5:T.abs.set dir { nd.abs with ents:=HL.rm name nd.abs.ents }=T12.abs:=(abs_set T dir { nd with ents:=HL.rm name nd.ents }).symm
  rw[h5,abs_get,hn1]
  rfl
 have s13:Sep σ B σ13 B:=by
  intro b o hb hn
  have hn' : ¬T.own bt b:=fun h=>hn ((hB b).1 h)
  have q1:b≠ed:=by intro e;subst e;exact((hT.ne hn').2.2 dir nd hnd).2 hed
  have q2:b≠n1.blk:=by rw[a1];exact((hT.ne hn').2.2 j n0 hn0).1
  exact⟨p13.get q2 (p12.get q1 (hgr.gr.get hb)),hn⟩
 have hj':(T.abs.find dir name).getD 0=j:=by rw[abs_find,hj];rfl
 have hg2:(T12.set j n2).abs.get j=some n2.abs:=by rw[abs_get,get_set_self];rfl
 have n4b:b4≠n1.blk:=by
  intro e;rw[e,cF]at k4';simp at k4'
 have ntb:bt≠n1.blk:=(hT12.blk_bt hn1).symm
 refine ptr_i ?_
 refine rd_I (rdC_of p13.same (by rfl)) ?_
 by_cases hl:wr (n1.links - 1)=0
 case neg =>
  refine br_f (by simpa[wr]using hl) ?_
  refine hK σ13 B ⟨_,hT13,hO13,?_,o13⟩ s13
  unfold AT.unlinked
  simp only[hj']
  rw[<-habs,hg2]
  have:(n2.abs.links==0)=false:=by show((wr (n1.links - 1))==0)=false;simpa using hl
  simp only[this];rfl
 refine br_t (by simpa[wr]using hl) ?_
 have k4'':=p13.get n4b k4'
 have hc13:=hT13.cells
 unfold Tb.cells at hc13
 (repeat (first|refine ptr_i ?_|refine z2 ?_|(refine al_i ?_;intro _ _ _ _ _)|refine z4 ?_|refine z5 ?_|(refine z6 ?_;intro _ _)|refine app_P ?_|refine app_I ?_|refine app_S ?_|refine app_B ?_|refine app_M ?_|refine app_L ?_|refine app_U ?_|refine app_R ?_|(refine app_of rfl ?_;try dsimp only)))
 have m13:=hT13.nodes
 refine del_i (kk:=kkI) (f:=Nd.ptr) und_MIN und_int m13 j ?_
 intro o14 σ14 p14 m14
 have hk13:(keysL (T12.set j n2).nodes).Nodup:=nodup_up (nodup_up (by rw[keys_abs]at hk;exact hk))
 have hT14:=hT13.putD hO13 hk13 p14 m14
 have hO14:=hO13.del hk13 j
 have n4m:b4≠(T12.set j n2).mb:=ne_cm k4'' m13
 have ntm:bt≠(T12.set j n2).mb:=hT13.bt_mb
 have nbm:n1.blk≠(T12.set j n2).mb:=ne_cm p13.same m13
 have k4':=p14.get n4m k4''
 have hc14:=hT14.cells
 unfold Tb.cells at hc14
 have cF':=p14.get nbm p13.same
 have n4t:b4≠bt:=by first | assumption | exact Ne.symm ‹_› | exact ne_fr ‹_› (by repeat (first | exact io ‹_› | exact mS ‹_› | refine gS ‹_› ?_ | refine pS ‹_› ?_)) | exact Ne.symm (ne_fr ‹_› (by repeat (first | exact io ‹_› | exact mS ‹_› | refine gS ‹_› ?_ | refine pS ‹_› ?_)))
 (repeat (first|refine ptr_i ?_|refine z2 ?_|(refine al_i ?_;intro _ _ _ _ _)|refine z4 ?_|refine z5 ?_|(refine z6 ?_;intro _ _)|refine app_P ?_|refine app_I ?_|refine app_S ?_|refine app_B ?_|refine app_M ?_|refine app_L ?_|refine app_U ?_|refine app_R ?_|(refine app_of rfl ?_;try dsimp only)))
 rename_i σ15 p15 σ16 p16
 have hT15:=hT14.putT (T':={ (T12.set j n2).del j with ui:=wr (T.ui - 1) }) p15 rfl rfl
 have hT16:=hT15.putT (T':={ (T12.set j n2).del j with ui:=wr (T.ui - 1),ub:=wr (T.ub - n1.data.size) }) p16 rfl rfl
 refine hK σ16 (Tb.own bt { (T12.set j n2).del j with ui:=wr (T.ui - 1),ub:=wr (T.ub - n1.data.size) }) ⟨_,hT16,hO14.same rfl rfl,?_,fun _=>Iff.rfl⟩ ?_
 ·unfold AT.unlinked
  simp only[hj']
  rw[<-habs,hg2]
  have:(n2.abs.links==0)=true:=by show((wr (n1.links - 1))==0)=true;simpa using hl
  simp only[this]
  have h5:=abs_del (T12.set j n2) j
  show({ ((T12.set j n2).del j).abs with ui:=wr (T.ui - 1),ub:=wr (T.ub - n1.data.size) }:AT)=_
  rw[h5];rfl
 ·intro b o hb hn
  have hn' : ¬T.own bt b:=fun h=>hn ((hB b).1 h)
  refine⟨p16.get (hT.ne hn').1 (p15.get (hT.ne hn').1 (p14.get (hT.ne hn').2.1 (s13 b o hb hn).1)),?_⟩
  intro h
  have h1:=(own_same (T:=(T12.set j n2).del j) rfl rfl b).1 h
  exact hn ((o13 b).1 (own_del hk13 h1))
theorem s_Move1 {σ:H} {bt:Nat} {T:Tb} (hT:TAt σ bt T) {b1 b2 b3:Nat} {tq ino:Int} {t1 t2 t3:TypeId} (h1:σ b1=some (.cells ⟨[.int .i64 tq]⟩ t1 (0,0))) (h2:σ b2=some (.cells ⟨[.pointer (some ⟨bt,0,none⟩)]⟩ t2 (0,0))) (h3:σ b3=some (.cells ⟨[.int .i64 ino]⟩ t3 (0,0))) {f:Nat} {r:Bool} (hr:T.abs.apart ino f tq=some r) {K:KH}
 (hK:K (.int .i64 (if r then 0 else 2)) σ):callW Tryz.prog 193 [.pointer (some ⟨b1,0,none⟩),.pointer (some ⟨b2,0,none⟩),.pointer (some ⟨b3,0,none⟩)] K σ:=by
 refine c193 _ _ _ ?_
 unfold g193
 have hc:=hT.cells
 unfold Tb.cells at hc
 (repeat (first|refine ptr_i ?_|refine z2 ?_|(refine al_i ?_;intro _ _ _ _ _)|refine z4 ?_|refine z5 ?_|(refine z6 ?_;intro _ _)|refine app_P ?_|refine app_I ?_|refine app_S ?_|refine app_B ?_|refine app_M ?_|refine app_L ?_|refine app_U ?_|refine app_R ?_|(refine app_of rfl ?_;try dsimp only)))
 refine loop_i ?_
 intro R hR
 have key : ∀f at_,T.abs.apart ino f at_=some r->R (some ⟨b2,0,none⟩) (some ⟨b3,0,none⟩) at_ σ:=by
  intro f
  induction f with
  | zero=>intro at_ h;cases h
  | succ f ih =>
   intro at_ h
   refine hR _ _ _ _ ?_
   unfold AT.apart at h
   by_cases ha:at_=1
   ·rw[if_pos ha]at h;cases h
    exact br_f (by simp[ha]) hK
   rw[if_neg ha]at h
   refine br_t (by simpa using ha) ?_
   (repeat (first|refine ptr_i ?_|refine z2 ?_|(refine al_i ?_;intro _ _ _ _ _)|refine z4 ?_|refine z5 ?_|(refine z6 ?_;intro _ _)|refine app_P ?_|refine app_I ?_|refine app_S ?_|refine app_B ?_|refine app_M ?_|refine app_L ?_|refine app_U ?_|refine app_R ?_|(refine app_of rfl ?_;try dsimp only)))
   by_cases hi:at_=ino
   ·rw[if_pos hi]at h;cases h
    exact br_t (by simpa using hi) hK
   rw[if_neg hi]at h
   refine br_f (by simpa using hi) ?_
   (repeat (first|refine ptr_i ?_|refine z2 ?_|(refine al_i ?_;intro _ _ _ _ _)|refine z4 ?_|refine z5 ?_|(refine z6 ?_;intro _ _)|refine app_P ?_|refine app_I ?_|refine app_S ?_|refine app_B ?_|refine app_M ?_|refine app_L ?_|refine app_U ?_|refine app_R ?_|(refine app_of rfl ?_;try dsimp only)))
   rw[abs_get]at h
   cases hn:T.get at_ with
   | none=>rw[hn]at h;cases h
   | some n =>
    rw[hn]at h
    refine rdN hT hn ?_
    have cN:=(hT.get hn).cells
    unfold Nd.cells at cN
    (repeat (first|refine ptr_i ?_|refine z2 ?_|(refine al_i ?_;intro _ _ _ _ _)|refine z4 ?_|refine z5 ?_|(refine z6 ?_;intro _ _)|refine app_P ?_|refine app_I ?_|refine app_S ?_|refine app_B ?_|refine app_M ?_|refine app_L ?_|refine app_U ?_|refine app_R ?_|(refine app_of rfl ?_;try dsimp only)))
    exact ih _ h
 exact key f tq hr
theorem s_Move (hC:CAny) {σ:H} {bt:Nat} {A:AT} {B:Nat->Prop} (hA:TabAt σ bt A B) (src:Int) (name:ByteArray) (tq:Int) (as_:ByteArray) (hd:∀j,A.find src name=some j->(A.get j).isSome=true) (f:Nat)
 (hf:A.moveE1 src name tq as_=0->(A.apart ((A.find src name).getD 0) f tq).isSome=true) {K:KH}
 (hK:∀σ' B',TabAt σ' bt (AT.moveR A src name tq as_ f).2 B'->Sep σ B σ' B'->K (.int .i64 (AT.moveR A src name tq as_ f).1) σ') :
 callW Tryz.prog 162 [.pointer (some ⟨bt,0,none⟩),.int .i64 src,.string name,.int .i64 tq,.string as_] K σ:=by
 obtain⟨T,hT,hO,rfl,hB⟩:=hA
 have hc0:=hT.cells
 refine c162 _ _ _ _ _ ?_
 unfold g162
 refine al_i ?_;intro b6 σ1 g1 e1 n1
 refine al_i ?_;intro b7 σ2 g2 e2 n2
 (repeat (first|refine ptr_i ?_|refine z2 ?_|(refine al_i ?_;intro _ _ _ _ _)|refine z4 ?_|refine z5 ?_|(refine z6 ?_;intro _ _)|refine app_P ?_|refine app_I ?_|refine app_S ?_|refine app_B ?_|refine app_M ?_|refine app_L ?_|refine app_U ?_|refine app_R ?_|(refine app_of rfl ?_;try dsimp only)))
 refine call_i (s_dir _ _ ?_)
 intro c1 c2 σ5 g5 f1 f2
 refine app_R ?_
 (repeat (first|refine ptr_i ?_|refine z2 ?_|(refine al_i ?_;intro _ _ _ _ _)|refine z4 ?_|refine z5 ?_|(refine z6 ?_;intro _ _)|refine app_P ?_|refine app_I ?_|refine app_S ?_|refine app_B ?_|refine app_M ?_|refine app_L ?_|refine app_U ?_|refine app_R ?_|(refine app_of rfl ?_;try dsimp only)))
 refine call_i (s_dir _ _ ?_)
 intro d1 d2 σ6 g6 f3 f4
 refine app_R ?_
 (repeat (first|refine ptr_i ?_|refine z2 ?_|(refine al_i ?_;intro _ _ _ _ _)|refine z4 ?_|refine z5 ?_|(refine z6 ?_;intro _ _)|refine app_P ?_|refine app_I ?_|refine app_S ?_|refine app_B ?_|refine app_M ?_|refine app_L ?_|refine app_U ?_|refine app_R ?_|(refine app_of rfl ?_;try dsimp only)))
 refine call_i (s_named _ ?_)
 intro c3 σ7 g7 f5
 refine app_R ?_
 (repeat (first|refine ptr_i ?_|refine z2 ?_|(refine al_i ?_;intro _ _ _ _ _)|refine z4 ?_|refine z5 ?_|(refine z6 ?_;intro _ _)|refine app_P ?_|refine app_I ?_|refine app_S ?_|refine app_B ?_|refine app_M ?_|refine app_L ?_|refine app_U ?_|refine app_R ?_|(refine app_of rfl ?_;try dsimp only)))
 refine call_i (s_entry _ _ _ ?_)
 intro c4 c5 c6 σ7' g7' f6 f7 f8
 refine app_R ?_
 (repeat (first|refine ptr_i ?_|refine z2 ?_|(refine al_i ?_;intro _ _ _ _ _)|refine z4 ?_|refine z5 ?_|(refine z6 ?_;intro _ _)|refine app_P ?_|refine app_I ?_|refine app_S ?_|refine app_B ?_|refine app_M ?_|refine app_L ?_|refine app_U ?_|refine app_R ?_|(refine app_of rfl ?_;try dsimp only)))
 refine one_f (one_f (one_f (one_f ?_)))
 refine al_i ?_;intro b17 σ8 g8 e8 n8
 have hgr:Lng σ σ8:=⟨by repeat (first | exact Gr.refl _ | assumption | refine Gr.trans ?_ ‹_› | refine Gr.putF ?_ ‹_› (none_of ?_ ‹_›))⟩
 have hT8:=hT.gr hgr.gr
 refine call_i (s_first (es:=[0,T.dirE src,T.dirE tq,namedE as_,if(T.find src name).isSome then 0 else 5]) e8 ?_ (by simp) (app_I ?_))
 ·exact⟨pu_of go_there fun K hk=>s_there _ hk,fun _=>⟨pu_of go_dir1 fun K hk=>s_dir1 hT8 (by exact gA) (by exact gA) hk,fun _=>⟨pu_of go_dir1 fun K hk=>s_dir1 hT8 (by exact gA) (by exact gA) hk,fun _=>⟨pu_of go_named1 fun K hk=>s_named1 hC (by exact gA) hk,fun _=>⟨pu_of go_entry1 fun K hk=>s_entry1 hT8 (by exact gA) (by exact gA) (by exact gA) hk,fun _=>trivial⟩⟩⟩⟩⟩
 have hE:firstE [0,T.dirE src,T.dirE tq,namedE as_,if(T.find src name).isSome then 0 else 5]=T.abs.moveE1 src name tq as_:=by
  unfold AT.moveE1;rw[abs_dirE,abs_dirE,abs_find]
 rw[hE]
 have k6:σ8 b6=some (.cells ⟨[.pointer (some ⟨bt,0,none⟩)]⟩ 59 (0,0)):=by exact gA
 have k7:σ8 b7=some (.cells ⟨[.int .i64 tq]⟩ 3 (0,0)):=by exact gA
 refine j_i (fun j => ∀x:Bool,(x=true↔(T.abs.moveE1 src name tq as_≠0\/(src=tq/\name=as_)))->j src name as_ (some ⟨b6,0,none⟩) (some ⟨b7,0,none⟩) (T.abs.moveE1 src name tq as_) x σ8) ?_ ?_
 case refine_2 =>
  intro j hj
  by_cases h0:T.abs.moveE1 src name tq as_=0
  ·refine br_f (by simpa using h0) ?_
   refine rd_I (rdC_of k7 (by rfl)) ?_
   by_cases hs:src=tq
   ·refine br_t (by simpa using hs) (hj _ ?_)
    rw[strEq_iff];exact⟨fun h => .inr ⟨hs,h⟩,fun h=>h.elim (fun h=>absurd h0 h) (·.2)⟩
   ·refine br_f (by simpa using hs) (hj _ ?_)
    simp[h0,hs]
  ·refine br_t (by simpa using h0) (hj _ (by simp[h0]))
 intro x hx
 unfold AT.moveR at hK
 by_cases hq:T.abs.moveE1 src name tq as_≠0\/(src=tq/\name=as_)
 ·rw[if_pos hq]at hK
  exact br_t (hx.2 hq) (hK σ8 B ⟨T,hT8,hO,rfl,hB⟩ (Sep.gr hgr.gr))
 rw[if_neg hq]at hK
 refine br_f (by cases x with | false=>rfl | true=>exact absurd (hx.1 rfl) hq) ?_
 have h0:T.abs.moveE1 src name tq as_=0:=Classical.byContradiction fun h=>hq (.inl h)
 have hst : ¬ (src=tq/\name=as_):=fun h=>hq (.inr h)
 have hap:=hf h0
 rw[<-hE]at h0
 obtain⟨ns,hns,hks⟩:=dirE_z (firstE_z (firstE_z h0).2).1
 obtain⟨nt,hnt,hkt⟩:=dirE_z (firstE_z (firstE_z (firstE_z h0).2).2).1
 have hz:=(firstE_z (firstE_z (firstE_z (firstE_z (firstE_z h0).2).2).2).2).1
 cases hj:T.find src name with
 | none=>rw[hj]at hz;cases hz
 | some j =>
 have hj':(T.abs.find src name).getD 0=j:=by rw[abs_find,hj];rfl
 rw[hj']at hap hK
 obtain⟨r,hr⟩:=Option.isSome_iff_exists.1 hap
 rw[hr]at hK
 have hgj:=hd j (by rw[abs_find];exact hj)
 rw[abs_get]at hgj
 cases hnj:T.get j with
 | none=>rw[hnj]at hgj;cases hgj
 | some nj =>
 (repeat (first|refine ptr_i ?_|refine z2 ?_|(refine al_i ?_;intro _ _ _ _ _)|refine z4 ?_|refine z5 ?_|(refine z6 ?_;intro _ _)|refine app_P ?_|refine app_I ?_|refine app_S ?_|refine app_B ?_|refine app_M ?_|refine app_L ?_|refine app_U ?_|refine app_R ?_|(refine app_of rfl ?_;try dsimp only)))
 refine call_i (s_Find hT8 src name (app_IB ?_))
 rw[hj]
 simp only[Option.getD_some]
 refine al_i ?_;intro b32 σ9 g9 e9 n9
 refine st_i2 e9 sz_int (by rfl) (by rfl) ?_
 intro σ10 p10
 have e10:=p10.same
 have g10:Gr σ8 σ10:=g9.putF p10 n9
 clear p10 e9 g9
 have hT10:=hT8.gr g10
 (repeat (first|refine ptr_i ?_|refine z2 ?_|(refine al_i ?_;intro _ _ _ _ _)|refine z4 ?_|refine z5 ?_|(refine z6 ?_;intro _ _)|refine app_P ?_|refine app_I ?_|refine app_S ?_|refine app_B ?_|refine app_M ?_|refine app_L ?_|refine app_U ?_|refine app_R ?_|(refine app_of rfl ?_;try dsimp only)))
 refine call_i (s_free _ _ _ ?_)
 intro h1 h2 h3 σ11 g11 e11 e12 e13
 refine app_R ?_
 refine one_f ?_
 refine al_i ?_;intro b40 σ12 g12 e14 n12
 have hT12:=(hT10.gr g11).gr g12
 have hgr':Lng σ σ12:=⟨((hgr.gr.trans g10).trans g11).trans g12⟩
 refine call_i (s_first (es:=[if(T.find tq as_).isSome then 6 else 0,if r then 0 else 2]) e14 ?_ (by simp) (app_I ?_))
 ·exact⟨pu_of go_free1 fun K hk=>s_free1 hT12 (by exact gA) (by exact gA) (by exact gA) hk,fun _=>⟨pu_of go_Move1 fun K hk=>s_Move1 hT12 (by exact gA) (by exact gA) (by exact gA) hr hk,fun _=>trivial⟩⟩
 simp only[abs_find,Option.getD_some]at hK
 by_cases hz2:firstE [if(T.find tq as_).isSome then 6 else 0,if r then 0 else 2]=0
 case neg =>
  rw[if_pos hz2]at hK
  refine br_t (by simpa using hz2) ?_
  exact hK σ12 B ⟨T,hT12,hO,rfl,hB⟩ (Sep.gr hgr'.gr)
 rw[if_neg (by simpa using hz2)]at hK
 refine br_f (by simpa using hz2) ?_
 have k6:σ12 b6=some (.cells ⟨[.pointer (some ⟨bt,0,none⟩)]⟩ 59 (0,0)):=by exact gA
 have k7:σ12 b7=some (.cells ⟨[.int .i64 tq]⟩ 3 (0,0)):=by exact gA
 have k32:σ12 b32=some (.cells ⟨[.int .i64 j]⟩ 3 (0,0)):=by exact gA
 clear g1 g2 g5 g6 g7 g7' g8 g10 g11 g12
 have hc:=hT12.cells
 unfold Tb.cells at hc
 (repeat (first|refine ptr_i ?_|refine z2 ?_|(refine al_i ?_;intro _ _ _ _ _)|refine z4 ?_|refine z5 ?_|(refine z6 ?_;intro _ _)|refine app_P ?_|refine app_I ?_|refine app_S ?_|refine app_B ?_|refine app_M ?_|refine app_L ?_|refine app_U ?_|refine app_R ?_|(refine app_of rfl ?_;try dsimp only)))
 refine rdN hT12 hns ?_
 obtain⟨es,hes⟩:=hT12.dir hns hks
 have cS:=(hT12.get hns).cells
 unfold Nd.cells at cS
 rw[hes]at cS
 (repeat (first|refine ptr_i ?_|refine z2 ?_|(refine al_i ?_;intro _ _ _ _ _)|refine z4 ?_|refine z5 ?_|(refine z6 ?_;intro _ _)|refine app_P ?_|refine app_I ?_|refine app_S ?_|refine app_B ?_|refine app_M ?_|refine app_L ?_|refine app_U ?_|refine app_R ?_|(refine app_of rfl ?_;try dsimp only)))
 have mE:=(hT12.get hns).ents es hes
 refine del_i (kk:=kkS) (f:=valI) und_MSI und_string mE name ?_
 intro o13 σ13 p13 m13
 have hT13:=hT12.putE hO hns hes p13 m13
 let T13:=T.set src { ns with ents:=HL.rm name ns.ents }
 have hO13:Own T13:=hO.set hns rfl rfl
 have k6:=p13.get (ne_cm k6 mE) k6
 have k7:=p13.get (ne_cm k7 mE) k7
 have k32:=p13.get (ne_cm k32 mE) k32
 have hc13:=hT13.cells
 unfold Tb.cells at hc13
 (repeat (first|refine ptr_i ?_|refine z2 ?_|(refine al_i ?_;intro _ _ _ _ _)|refine z4 ?_|refine z5 ?_|(refine z6 ?_;intro _ _)|refine app_P ?_|refine app_I ?_|refine app_S ?_|refine app_B ?_|refine app_M ?_|refine app_L ?_|refine app_U ?_|refine app_R ?_|(refine app_of rfl ?_;try dsimp only)))
 obtain⟨nt1,hnt1,a1,a2,a3⟩ : ∃n1,T13.get tq=some n1/\n1.blk=nt.blk/\n1.eb=nt.eb/\n1.kind=2:=by
  show ∃n1,(T.set src { ns with ents:=HL.rm name ns.ents }).get tq=some n1/\_
  rw[get_set]
  by_cases e:tq=src
  ·subst e;rw[hns]at hnt;cases hnt;rw[if_pos rfl];exact⟨_,rfl,rfl,rfl,hks⟩
  ·rw[if_neg e];exact⟨nt,hnt,rfl,rfl,hkt⟩
 refine rdN hT13 hnt1 ?_
 obtain⟨et,het⟩:=hT13.dir hnt1 a3
 have cT:=(hT13.get hnt1).cells
 unfold Nd.cells at cT
 rw[het]at cT
 (repeat (first|refine ptr_i ?_|refine z2 ?_|(refine al_i ?_;intro _ _ _ _ _)|refine z4 ?_|refine z5 ?_|(refine z6 ?_;intro _ _)|refine app_P ?_|refine app_I ?_|refine app_S ?_|refine app_B ?_|refine app_M ?_|refine app_L ?_|refine app_U ?_|refine app_R ?_|(refine app_of rfl ?_;try dsimp only)))
 have mT:=(hT13.get hnt1).ents et het
 refine mu_i (kk:=kkS) (f:=valI) und_MSI und_string mT as_ j ?_
 intro o14 σ14 p14 m14
 have hT14:=hT13.putE hO13 hnt1 het p14 m14
 let T14:=T13.set tq { nt1 with ents:=HL.up as_ j nt1.ents }
 have hO14:Own T14:=hO13.set hnt1 rfl rfl
 have k6:=p14.get (ne_cm k6 mT) k6
 have k7:=p14.get (ne_cm k7 mT) k7
 have k32:=p14.get (ne_cm k32 mT) k32
 have hc14:=hT14.cells
 unfold Tb.cells at hc14
 refine j_d ?_
 (repeat (first|refine ptr_i ?_|refine z2 ?_|(refine al_i ?_;intro _ _ _ _ _)|refine z4 ?_|refine z5 ?_|(refine z6 ?_;intro _ _)|refine app_P ?_|refine app_I ?_|refine app_S ?_|refine app_B ?_|refine app_M ?_|refine app_L ?_|refine app_U ?_|refine app_R ?_|(refine app_of rfl ?_;try dsimp only)))
 obtain⟨nj1,hnj1,c1,c2,c3⟩ : ∃n1,T14.get j=some n1/\n1.blk=nj.blk/\n1.eb=nj.eb/\n1.kind=nj.kind:=by
  have h13 : ∃n1,T13.get j=some n1/\n1.blk=nj.blk/\n1.eb=nj.eb/\n1.kind=nj.kind:=by
   show ∃n1,(T.set src { ns with ents:=HL.rm name ns.ents }).get j=some n1/\_
   rw[get_set]
   by_cases e:j=src
   ·subst e;rw[hns]at hnj;cases hnj;rw[if_pos rfl];exact⟨_,rfl,rfl,rfl,rfl⟩
   ·rw[if_neg e];exact⟨nj,hnj,rfl,rfl,rfl⟩
  obtain⟨m,hm,q1,q2,q3⟩:=h13
  show ∃n1,(T13.set tq { nt1 with ents:=HL.up as_ j nt1.ents }).get j=some n1/\_
  rw[get_set]
  by_cases e:j=tq
  ·subst e;rw[hnt1]at hm;cases hm;rw[if_pos rfl];exact⟨_,rfl,q1,q2,q3⟩
  ·rw[if_neg e];exact⟨m,hm,q1,q2,q3⟩
 refine rdN hT14 hnj1 ?_
 have cJ:=(hT14.get hnj1).cells
 unfold Nd.cells at cJ
 refine ptr_i (rd_I (rdC_of cJ (by rfl)) ?_)
 have o14' : ∀b,T14.own bt b↔B b:=fun b=>(own_set (n':={ nt1 with ents:=HL.up as_ j nt1.ents }) hnt1 rfl rfl b).trans ((own_set (n':={ ns with ents:=HL.rm name ns.ents }) hns rfl rfl b).trans (hB b))
 have s14:Sep σ B σ14 B:=by
  intro b o hb hn
  have hn' : ¬T.own bt b:=fun h=>hn ((hB b).1 h)
  have q1:b≠es:=by intro e;subst e;exact((hT.ne hn').2.2 src ns hns).2 hes
  have q2:b≠et:=by intro e;subst e;exact((hT.ne hn').2.2 tq nt hnt).2 (by rw[<-a2];exact het)
  exact⟨p14.get q2 (p13.get q1 (hgr'.gr.get hb)),hn⟩
 have habs:T14.abs=(T.abs.ent src (HL.rm name)).ent tq (HL.up as_ j):=by
  have e1:T.abs.ent src (HL.rm name)=T13.abs:=by
   unfold AT.ent
   rw[abs_get,hns]
   exact(abs_set T src { ns with ents:=HL.rm name ns.ents }).symm
  rw[e1]
  unfold AT.ent
  rw[abs_get,hnt1]
  exact abs_set T13 tq { nt1 with ents:=HL.up as_ j nt1.ents }
 have hmv:T.abs.moved src name tq as_=T14.abs.mod j fun n=>if n.kind==2 then { n with up:=tq }else n:=by
  unfold AT.moved;simp only[hj'];rw[habs]
 have hg14:T14.abs.get j=some nj1.abs:=by rw[abs_get,hnj1];rfl
 rw[hmv]at hK
 unfold AT.mod at hK
 rw[hg14]at hK
 simp only at hK
 cases hk2:(nj1.kind==2) with
 | false =>
  refine br_f rfl ?_
  have hk3:(nj1.abs.kind==2)=false:=hk2
  refine hK σ14 B ⟨T14,hT14,hO14,?_,o14'⟩ s14
  rw[hk3]
  show _=T14.abs.set j nj1.abs
  unfold AT.set
  rw[up_self hg14]
 | true =>
  refine br_t rfl ?_
  (repeat (first|refine ptr_i ?_|refine z2 ?_|(refine al_i ?_;intro _ _ _ _ _)|refine z4 ?_|refine z5 ?_|(refine z6 ?_;intro _ _)|refine app_P ?_|refine app_I ?_|refine app_S ?_|refine app_B ?_|refine app_M ?_|refine app_L ?_|refine app_U ?_|refine app_R ?_|(refine app_of rfl ?_;try dsimp only)))
  rename_i σ15 p15
  have hk3:(nj1.abs.kind==2)=true:=hk2
  have hT15:=hT14.putN hO14 (n':={ nj1 with up:=tq }) hnj1 p15 rfl rfl rfl rfl
  refine hK σ15 B ⟨_,hT15,hO14.set (n':={ nj1 with up:=tq }) hnj1 rfl rfl,?_,fun b=>(own_set (n':={ nj1 with up:=tq }) hnj1 rfl rfl b).trans (o14' b)⟩ ?_
  ·rw[hk3];exact abs_set T14 j { nj1 with up:=tq }
  ·intro b o hb hn
   have hn' : ¬T.own bt b:=fun h=>hn ((hB b).1 h)
   exact⟨p15.get (by rw[c1];exact((hT.ne hn').2.2 j nj hnj).1) (s14 b o hb hn).1,hn⟩
theorem s_NewT (qi qb:Int) {σ:H} {K:KH} (hN:newOk qi qb=false->K (.pointer none) σ)
 (hK:newOk qi qb=true -> ∀bt σ' B',σ bt=none->TabAt σ' bt (newT qi qb) B'->Gr σ σ'->(∀b,B' b->σ b=none)->K (.pointer (some ⟨bt,0,none⟩)) σ') :
 callW Tryz.prog 24 [.agg ⟨[.int .i64 qi,.int .i64 qb]⟩] K σ:=by
 refine callW.drop (K':=fun v σ'=>(newOk qi qb=false/\v = .pointer none/\Gr σ σ')\/(newOk qi qb=true/\K v σ')) ?_ ?_
 case refine_2 =>
  rintro v σ' (⟨h1,h2,h3⟩ | ⟨h1,h2⟩)
  ·exact⟨σ,h3,h2 ▸ hN h1⟩
  ·exact⟨σ',Gr.refl _,h2⟩
 refine c24 _ _ ?_
 unfold g24
 refine al_i ?_;intro b3 σ1 g1 e1 n1
 refine j_i (fun j => ∀x:Bool,x = !newOk qi qb->j (some ⟨b3,0,none⟩) x σ1) ?_ ?_
 case refine_2 =>
  intro j hj
  (repeat (first|refine ptr_i ?_|refine z2 ?_|(refine al_i ?_;intro _ _ _ _ _)|refine z4 ?_|refine z5 ?_|(refine z6 ?_;intro _ _)|refine app_P ?_|refine app_I ?_|refine app_S ?_|refine app_B ?_|refine app_M ?_|refine app_L ?_|refine app_U ?_|refine app_R ?_|(refine app_of rfl ?_;try dsimp only)))
  by_cases h1:qi<1
  ·exact br_t (by simpa using h1) (hj _ (by simp[newOk,h1]))
  refine br_f (by simpa using h1) ?_
  (repeat (first|refine ptr_i ?_|refine z2 ?_|(refine al_i ?_;intro _ _ _ _ _)|refine z4 ?_|refine z5 ?_|(refine z6 ?_;intro _ _)|refine app_P ?_|refine app_I ?_|refine app_S ?_|refine app_B ?_|refine app_M ?_|refine app_L ?_|refine app_U ?_|refine app_R ?_|(refine app_of rfl ?_;try dsimp only)))
  by_cases h2:qi>1048576
  ·exact br_t (by simpa using h2) (hj _ (by simp[newOk,h2]))
  refine br_f (by simpa using h2) ?_
  (repeat (first|refine ptr_i ?_|refine z2 ?_|(refine al_i ?_;intro _ _ _ _ _)|refine z4 ?_|refine z5 ?_|(refine z6 ?_;intro _ _)|refine app_P ?_|refine app_I ?_|refine app_S ?_|refine app_B ?_|refine app_M ?_|refine app_L ?_|refine app_U ?_|refine app_R ?_|(refine app_of rfl ?_;try dsimp only)))
  by_cases h3:qb<0
  ·exact br_t (by simpa using h3) (hj _ (by simp[newOk,h3]))
  refine br_f (by simpa using h3) ?_
  (repeat (first|refine ptr_i ?_|refine z2 ?_|(refine al_i ?_;intro _ _ _ _ _)|refine z4 ?_|refine z5 ?_|(refine z6 ?_;intro _ _)|refine app_P ?_|refine app_I ?_|refine app_S ?_|refine app_B ?_|refine app_M ?_|refine app_L ?_|refine app_U ?_|refine app_R ?_|(refine app_of rfl ?_;try dsimp only)))
  exact hj _ (by simp[newOk,h1,h2,h3])
 intro x hx
 cases hx2:newOk qi qb with
 | false =>
  rw[hx2]at hx;subst hx
  exact br_t rfl (.inl ⟨rfl,rfl,g1⟩)
 | true =>
  rw[hx2]at hx;subst hx
  refine br_f rfl ?_
  refine al_i ?_;intro b7 σ2 g2 e2 n2
  refine al_i ?_;intro b8 σ3 g3 e3 n3
  (repeat (first|refine ptr_i ?_|refine z2 ?_|(refine al_i ?_;intro _ _ _ _ _)|refine z4 ?_|refine z5 ?_|(refine z6 ?_;intro _ _)|refine app_P ?_|refine app_I ?_|refine app_S ?_|refine app_B ?_|refine app_M ?_|refine app_L ?_|refine app_U ?_|refine app_R ?_|(refine app_of rfl ?_;try dsimp only)))
  rename_i b13 σ4 g4 e4 n4
  let nr:Nd:=⟨b8,2,493,⟨⟨[]⟩⟩,1,1,some b7,[]⟩
  have m0:MapAt σ4 b13 (encL kkI Nd.ptr []):=MapAt.new e4
  refine mu_i (kk:=kkI) (f:=Nd.ptr) und_MIN und_int m0 1 nr ?_
  intro o5 σ5 p5 m5
  refine al_i ?_;intro b14 σ6 g6 e6 n6
  refine .inr ⟨rfl,?_⟩
  let T:Tb:=⟨qi,qb,1,0,1,b13,[(1,nr)]⟩
  have q8:b8≠b13:=ne_fresh e3 n4
  have q7:b7≠b13:=ne_fr n4 (by repeat (first | exact io ‹_› | exact mS ‹_› | refine gS ‹_› ?_ | refine pS ‹_› ?_))
  have hget : ∀i n,T.get i=some n->i=1/\n=nr:=by
   intro i n h
   unfold Tb.get at h
   simp only[T,lk]at h
   cases hi:(i==1) with
   | true=>rw[hi]at h;cases h;exact⟨by simpa using hi,rfl⟩
   | false=>rw[hi]at h;cases h
  have hT:TAt σ6 b14 T:=by
   refine⟨e6,m5.gr g6,?_⟩
   intro i n h
   obtain⟨_,rfl⟩:=hget i n h
   refine⟨?_,?_,fun h=>(by cases h),fun _ h=>(by cases h)⟩
   ·exact g6.get (p5.get q8 (g4.get e3))
   ·intro e he
    cases he
    exact MapAt.new (g6.get (p5.get q7 (g4.get (g3.get e2))))
  have hO:Own T:=by
   refine⟨?_,?_,?_⟩
   ·intro i j n m hi hj _;rw[(hget i n hi).1,(hget j m hj).1]
   ·intro i j n m e hi hj _ _;rw[(hget i n hi).1,(hget j m hj).1]
   ·intro i n hi;rw[(hget i n hi).2];intro h;exact q7 (Option.some.inj h)
  have gg:Gr σ σ4:=by repeat (first | exact Gr.refl _ | assumption | refine Gr.trans ?_ ‹_› | refine Gr.putF ?_ ‹_› (none_of ?_ ‹_›))
  have g5:Gr σ σ5:=gg.putF p5 (none_of (by repeat (first | exact Gr.refl _ | assumption | refine Gr.trans ?_ ‹_› | refine Gr.putF ?_ ‹_› (none_of ?_ ‹_›))) n4)
  refine hK hx2 b14 σ6 (T.own b14) (none_of g5 n6) ⟨T,hT,hO,rfl,fun _=>Iff.rfl⟩ (g5.trans g6) ?_
  rintro b (e | e | ⟨i,n,hn,hb⟩)
  ·subst e;exact none_of g5 n6
  ·subst e;exact none_of ((g1.trans g2).trans g3) n4
  ·obtain⟨_,rfl⟩:=hget i n hn
   rcases hb with e | e
   ·subst e;exact none_of (g1.trans g2) n3
   ·cases e;exact none_of g1 n2
end Go.Proofs.YtbdlkofldmhoaaaGreatDoor

set_option maxRecDepth 100000
namespace Go.Proofs.YtbdlkofldmhoaaaGreatDoor
open Go Go.HL Go.Wk
theorem go_IBS:isGo Tryz.prog 149=false:=by kernel_rfl
theorem fn_IBS : (Tryz.prog.funcs[149]?).map (fun fn => ((fn.name == "runtime.NumGoroutine"), fn.body.isNone)) = some (false, true) := by kernel_rfl
theorem ex_IBS:(Tryz.prog.funcs[149]?).bind (fun fn=>Extern.find fn)=some Extern.BytealgIndexByte.indexByte:=by kernel_rfl
theorem en_IBS:(Tryz.prog.funcs[149]?).map (fun fn=>(Extern.findNext fn).isNone)=some true:=by kernel_rfl
theorem x_IBS (s:ByteArray) (c:Int) {σ:H} {F:Int->H->Prop} (hF:F (firstIdx s c.toNat.toUInt8) σ):cvalT Tryz.prog (.func (.func 149) ⟨[]⟩ ⟨[]⟩) [.string s,.int .u8 c] kI F σ:=by
 unfold cvalT callVW
 simp only[go_IBS]
 intro w hw
 have h1:=fn_IBS
 have h2:=ex_IBS
 have h3:=en_IBS
 cases hf:Tryz.prog.funcs[149]? with
 | none=>rw[hf]at h1;cases h1
 | some fn =>
  rw[hf]at h1 h2 h3
  simp only[Option.map_some,Option.some.injEq,Prod.mk.injEq,Option.bind_some]at h1 h2 h3
  have hr:=run_callFunc_indexByte hf h1.1 h1.2 (Option.isNone_iff_eq_none.1 h3) h2 #[.string s,.int .u8 c] w
  rw[run_indexByte_string]at hr
  have:(callS (.func (.func 149) ⟨[]⟩ ⟨[]⟩) [.string s,.int .u8 c]).run Tryz.prog w = .ok (.value (.int .i64 (firstIdx s c.toNat.toUInt8))) w:=by
   refine Eq.trans ?_ hr
   simp[callS,Deferred.ofValue,invoke]
  rw[this]
  exact⟨σ,Ext.refl hw,app_I hF⟩
theorem firstIdx_lt (s:ByteArray) (c:UInt8):decide (firstIdx s c<0) = !(s.toList.any fun x=>x==c):=by
 have key:(∃i,i<s.size/\s[i]! = c)↔c∈s.toList:=by
  rw[ByteArray.toList_eq]
  constructor
  ·rintro ⟨i,hi,he⟩
   rw[getElem!_pos s i hi]at he
   rw[<-he]
   exact Array.getElem_mem_toList (xs:=s.data) hi
  ·intro h
   obtain⟨i,hi,he⟩:=List.getElem_of_mem h
   have hi':i<s.data.size:=by simpa using hi
   refine⟨i,hi',?_⟩
   rw[getElem!_pos s i hi',<- he]
   simp[ByteArray.getElem_eq_getElem_data]
 unfold firstIdx
 cases hf:(List.range s.size).find? fun i=>s[i]! == c with
 | some i =>
  have h1:=List.find?_some hf
  have h2:=List.mem_of_find?_eq_some hf
  have:c∈s.toList:=key.1 ⟨i,by simpa using h2,by simpa using h1⟩
  have h3:(s.toList.any fun x=>x==c)=true:=List.any_eq_true.2 ⟨c,this,by simp⟩
  rw[h3]
  simp
 | none =>
  have h1:=List.find?_eq_none.1 hf
  have h3:(s.toList.any fun x=>x==c)=false:=by
   rw[List.any_eq_false]
   intro x hx hxc
   have:x=c:=by simpa using hxc
   subst this
   obtain⟨i,hi,he⟩:=key.2 hx
   exact h1 i (by simpa using hi) (by simpa using he)
  rw[h3];rfl
theorem x_IndexByte (s:ByteArray) (c:Int) {σ:H} {K:KH} (hK:K (.int .i64 (firstIdx s c.toNat.toUInt8)) σ):callW Tryz.prog 33 [.string s,.int .u8 c] K σ:=by
 refine c33 _ _ ?_
 unfold g33
 refine call_i ?_
 refine c88 _ _ ?_
 unfold g88
 exact x_IBS s c (app_I hK)
theorem iByte:IByte:=by
 intro s σ K hK
 refine x_IndexByte s 0 (hK _ ?_)
 have:=firstIdx_lt s 0
 rw[ByteArray.toList_eq]at this
 exact this
end Go.Proofs.YtbdlkofldmhoaaaGreatDoor

namespace Go.Wk
open Go Go.HL
def leB:List UInt8->List UInt8->Bool
 | [],_=>true
 | _::_,[]=>false
 | a::r,b::s=>match Nat.blt a.toNat b.toNat with
  | true=>true
  | false=>match Nat.blt b.toNat a.toNat with
   | true=>false
   | false=>leB r s
def insB (x:List UInt8):List (List UInt8)->List (List UInt8)
 | []=>[x]
 | y::r=>match leB x y with
  | true=>x::y::r
  | false=>y::insB x r
def sortB:List (List UInt8)->List (List UInt8)
 | []=>[]
 | x::r=>insB x (sortB r)
def sortN (l:List ByteArray):List ByteArray:=(sortB (l.map fun s=>s.data.toList)).map fun x=>(⟨⟨x⟩⟩:ByteArray)
theorem leB_iff : ∀x y:List UInt8,leB x y=true↔x<=y:=by
 intro x
 induction x with
 | nil=>intro y;simp[leB]
 | cons a r ih =>
  intro y
  cases y with
  | nil=>simp[leB]
  | cons b s =>
   rw[List.cons_le_cons_iff]
   unfold leB
   cases h1:Nat.blt a.toNat b.toNat with
   | true =>
    have:a<b:=UInt8.lt_iff_toNat_lt.2 (by simpa[Nat.blt_eq]using h1)
    simp[this]
   | false =>
    have h1' : ¬a<b:=by
     intro h;have:Nat.blt a.toNat b.toNat=true:=by rw[Nat.blt_eq];exact h
     rw[h1]at this;cases this
    cases h2:Nat.blt b.toNat a.toNat with
    | true =>
     have:b<a:=UInt8.lt_iff_toNat_lt.2 (by simpa[Nat.blt_eq]using h2)
     simp only[Bool.false_eq_true,false_iff,not_or,not_and]
     refine⟨h1',fun e => ?_⟩
     subst e;exact absurd this (UInt8.lt_irrefl _)
    | false =>
     have h2' : ¬b<a:=by
      intro h;have:Nat.blt b.toNat a.toNat=true:=by rw[Nat.blt_eq];exact h
      rw[h2]at this;cases this
     have:a=b:=UInt8.le_antisymm (UInt8.not_lt.1 h2') (UInt8.not_lt.1 h1')
     simp[this,ih]
theorem insB_perm (x:List UInt8) : ∀l,(insB x l).Perm (x::l):=by
 intro l
 induction l with
 | nil=>exact List.Perm.refl _
 | cons y r ih =>
  unfold insB
  cases leB x y with
  | true=>exact List.Perm.refl _
  | false=>exact(ih.cons y).trans (List.Perm.swap x y r)
theorem sortB_perm : ∀l,(sortB l).Perm l:=by
 intro l
 induction l with
 | nil=>exact List.Perm.refl _
 | cons x r ih=>exact(insB_perm x _).trans (ih.cons x)
theorem insB_sorted {x:List UInt8} : ∀ {l:List (List UInt8)},l.Pairwise (· <= ·)->(insB x l).Pairwise (· <= ·):=by
 intro l
 induction l with
 | nil=>intro _;simp[insB]
 | cons y r ih =>
  intro h
  obtain⟨h1,h2⟩:=List.pairwise_cons.1 h
  unfold insB
  cases hb:leB x y with
  | true =>
   have hxy:=(leB_iff x y).1 hb
   refine List.pairwise_cons.2 ⟨fun z hz => ?_,h⟩
   rcases List.mem_cons.1 hz with e | e
   ·rw[e];exact hxy
   ·exact List.le_trans hxy (h1 z e)
  | false =>
   have hyx:y<=x:=by
    have : ¬x<=y:=by rw[<-leB_iff,hb];simp
    exact(List.le_total x y).resolve_left this
   refine List.pairwise_cons.2 ⟨fun z hz => ?_,ih h2⟩
   rcases List.mem_cons.1 ((insB_perm x r).mem_iff.1 hz)with e | e
   ·rw[e];exact hyx
   ·exact h1 z e
theorem sortB_sorted : ∀l,(sortB l).Pairwise (· <= ·):=by
 intro l
 induction l with
 | nil=>exact List.Pairwise.nil
 | cons x r ih=>exact insB_sorted ih
theorem sortB_merge (l:List (List UInt8)):l.mergeSort (fun x y=>decide (x<=y))=sortB l:=by
 have h1:=List.pairwise_mergeSort (le:=fun x y:List UInt8=>decide (x<=y)) (by intro a b c h1 h2;simp only[decide_eq_true_eq]at *;exact List.le_trans h1 h2) (by intro a b;simp only[Bool.or_eq_true,decide_eq_true_eq];exact List.le_total a b) l
 have h1':(l.mergeSort (fun x y=>decide (x<=y))).Pairwise (· <= ·):=h1.imp (by intro a b h;simpa using h)
 refine List.Perm.eq_of_pairwise (le:=(· <= ·)) ?_ h1' (sortB_sorted l) ((List.mergeSort_perm l _).trans (sortB_perm l).symm)
 intro a b _ _ h1 h2;exact List.le_antisymm h1 h2
def AT.names (A:AT) (dir:Int):List ByteArray:=match A.get dir with
 | none=>[]
 | some n=>sortN (keysL n.ents)
structure Pl where
 dir:Int
 name:ByteArray
 ino:Int
 there:Bool
def Pl.z:Pl:=⟨0,⟨⟨[]⟩⟩,0,false⟩
def splitL (c:UInt8):List UInt8->List (List UInt8)
 | []=>[[]]
 | x::r=>match x==c with
  | true=>[]::splitL c r
  | false=>match splitL c r with
   | []=>[[x]]
   | h::t=>(x::h)::t
def okPart (s:ByteArray):Bool := !sEq s ⟨⟨[]⟩⟩ && !sEq s ⟨⟨[46]⟩⟩
def partsB (path:ByteArray):List ByteArray:=((splitL 47 path.data.toList).map fun l=>(⟨⟨l⟩⟩:ByteArray)).filter okPart
def mayE (path:ByteArray):Int:=if sEq path ⟨⟨[]⟩⟩then 5 else if path.size>255 then 3 else if hasNul path then 2 else 0
def headIs (c:UInt8) (s:ByteArray):Bool:=match s.data.toList with
 | []=>false
 | x::_=>x==c
def AT.data (A:AT) (i:Int):ByteArray:=((A.get i).map (·.data)).getD ⟨⟨[]⟩⟩
def AT.steps (A:AT) (go:Int->ByteArray->Int->Int×Pl×Int) (follow:Bool):List ByteArray->Pl->Int->Int×Pl×Int
 | [],p,h=>(0,p,h)
 | name::rest,p,h =>
  if p.there=false then(5,Pl.z,h)
  else if A.kind p.ino≠2 then(8,Pl.z,h)
  else if sEq name ⟨⟨[46,46]⟩⟩=true then AT.steps A go follow rest ⟨A.upOf p.ino,⟨⟨[]⟩⟩,A.upOf p.ino,true⟩ h
  else if name.size>56 then(3,Pl.z,h)
  else
   let o:=A.find p.ino name
   let q:Pl:=⟨p.ino,name,o.getD 0,o.isSome⟩
   if o.isSome=false\/(rest.isEmpty && !follow)=true\/A.kind q.ino≠3 then AT.steps A go follow rest q h
   else if h - 1<0 then(9,Pl.z,h - 1)
   else
    let r:=go q.dir (A.data q.ino) (h - 1)
    if r.1≠0 then(r.1,Pl.z,r.2.2)else AT.steps A go follow rest r.2.1 r.2.2
def AT.walk (A:AT):Nat->Int->ByteArray->Bool->Int->Int×Pl×Int
 | 0,_,_,_,h=>(9,Pl.z,h)
 | f+1,at_,path,follow,h =>
  if mayE path≠0 then(mayE path,Pl.z,h)
  else
   let a:=if headIs 47 path then 1 else at_
   A.steps (fun d s h'=>AT.walk A f d s true h') follow (partsB path) ⟨a,⟨⟨[]⟩⟩,a,true⟩ h
def AT.locate (A:AT) (cwd path:ByteArray) (follow:Bool):Int×Pl :=
 if sEq path ⟨⟨[]⟩⟩then(5,Pl.z)
 else if headIs 47 path then let r:=A.walk 10 1 path follow 8;(r.1,r.2.1)
 else if headIs 47 cwd=false then(5,Pl.z)
 else
  let r:=A.walk 10 1 cwd true 8
  if r.1≠0 then(r.1,Pl.z)
  else if r.2.1.there=false then(5,Pl.z)
  else if A.kind r.2.1.ino≠2 then(8,Pl.z)
  else let r':=A.walk 10 r.2.1.ino path follow 8;(r'.1,r'.2.1)
structure IN where
 kind:Int
 mode:Int
 data:ByteArray
 links:Int
def IN.z:IN:=⟨0,0,⟨⟨[]⟩⟩,0⟩
def AN.inode (n:AN):IN:=⟨n.kind,n.mode,n.data,n.links⟩
def AT.ino (A:AT) (i:Int):IN:=((A.get i).map AN.inode).getD IN.z
def AT.with_ (A:AT) (cwd path:ByteArray) (follow:Bool):Int×Int×IN :=
 let r:=A.locate cwd path follow
 if r.1≠0 then(r.1,0,IN.z)
 else if r.2.there=false then(5,0,IN.z)
 else match A.get r.2.ino with
  | none=>(5,0,IN.z)
  | some n=>(0,r.2.ino,n.inode)
def AT.stat (A:AT) (cwd path:ByteArray) (follow:Bool):Int×IN:=let r:=A.with_ cwd path follow;(r.1,r.2.2)
def AT.read (A:AT) (cwd path:ByteArray):Int×ByteArray :=
 let r:=A.with_ cwd path true
 if r.1≠0 then(r.1,⟨⟨[]⟩⟩)else if r.2.2.kind=2 then(7,⟨⟨[]⟩⟩)else(0,r.2.2.data)
def AT.deep (A:AT):Nat->Int->Option Int
 | 0,_=>none
 | f+1,d=>if d=1 then some 1 else(AT.deep A f (A.upOf d)).map (· + 1)
def AT.within (A:AT) (ino:Int):Nat->Int->Option Bool
 | 0,_=>none
 | f+1,d=>if d=ino then some true else if d=1 then some false else AT.within A ino f (A.upOf d)
def AT.writeF (A:AT) (cwd path data:ByteArray) (more:Bool):Int×AT :=
 let r:=A.locate cwd path true
 if r.1≠0 then(r.1,A)
 else if r.2.there=false then let m:=A.makeR r.2.dir r.2.name 1 420 data;(m.2.1,m.2.2)
 else if A.kind r.2.ino=2 then(7,A)
 else A.writeR r.2.ino (if more then A.data r.2.ino++data else data)
def AT.freshP (A:AT) (cwd path:ByteArray):Int×Pl :=
 let r:=A.locate cwd path false
 if r.1≠0 then(r.1,Pl.z)else if r.2.there=true then(6,Pl.z)else(0,r.2)
def AT.mkdirF (A:AT) (cwd path:ByteArray):Int×AT :=
 let r:=A.freshP cwd path
 if r.1≠0 then(r.1,A)
 else if(A.deep 13 r.2.dir).getD 0>=12 then(3,A)
 else let m:=A.makeR r.2.dir r.2.name 2 493 ⟨⟨[]⟩⟩;(m.2.1,m.2.2)
def AT.symlinkF (A:AT) (cwd target path:ByteArray):Int×AT :=
 if linkOk target=false then(2,A)
 else
  let r:=A.freshP cwd path
  if r.1≠0 then(r.1,A)
  else let m:=A.makeR r.2.dir r.2.name 3 511 target;(m.2.1,m.2.2)
def AT.chmodF (A:AT) (cwd path:ByteArray) (mode:Int):Int×AT :=
 if mode<0\/mode>511 then(2,A)
 else
  let r:=A.with_ cwd path true
  if r.1≠0 then(r.1,A)
  else A.chmodR r.2.1 mode
def AT.listF (A:AT) (cwd path:ByteArray):Int×List ByteArray :=
 let r:=A.with_ cwd path true
 if r.1≠0 then(r.1,[])else if r.2.2.kind≠2 then(8,[])else(0,A.names r.2.1)
def AT.removeF (A:AT) (cwd path:ByteArray):Int×AT :=
 let r:=A.locate cwd path false
 if r.1≠0 then(r.1,A)
 else if r.2.there=false then(5,A)
 else if sEq r.2.name ⟨⟨[]⟩⟩=true then(2,A)
 else if(A.names r.2.ino).length>0 then(20,A)
 else A.unlinkR r.2.dir r.2.name
def AT.both (A:AT) (cwd src tq:ByteArray):Int×Pl×Pl :=
 let p:=A.locate cwd src false
 if p.1≠0 then(p.1,p.2,Pl.z)else let q:=A.locate cwd tq false;(q.1,p.2,q.2)
def AT.hardF (A:AT) (cwd src tq:ByteArray):Int×AT :=
 let r:=A.both cwd src tq
 if r.1≠0 then(r.1,A)
 else if r.2.1.there=false then(5,A)
 else if A.kind r.2.1.ino=2 then(7,A)
 else if A.kind r.2.1.ino=3 then(2,A)
 else if r.2.2.there=true then(6,A)
 else A.linkR r.2.2.dir r.2.2.name r.2.1.ino
def AT.levels (A:AT):Nat->Int->Int
 | 0,_=>0
 | f+1,i=>if A.kind i≠2 then 0 else(A.names i).foldl (fun n s=>let x:=AT.levels A f ((A.find i s).getD 0);if x>n then x else n) 0+1
def AT.overE (A:AT) (p q:Pl):Int :=
 let e:=if q.there=false then 0
  else if A.kind q.ino=2/\A.kind p.ino≠2 then 7
  else if A.kind p.ino=2/\A.kind q.ino≠2 then 8
  else if(A.names q.ino).length>0 then 20 else 0
 if e≠0 then e
 else if A.kind p.ino=2/\(A.within p.ino 13 q.dir).getD false=true then 2
 else if(A.deep 13 q.dir).getD 0+A.levels 14 p.ino>12 then 3
 else 0
def AT.renameF (A:AT) (cwd src tq:ByteArray):Int×AT :=
 let r:=A.both cwd src tq
 let p:=r.2.1
 let q:=r.2.2
 if r.1≠0 then(r.1,A)
 else if sEq p.name ⟨⟨[]⟩⟩=true\/sEq q.name ⟨⟨[]⟩⟩=true then(2,A)
 else if p.there=false then(5,A)
 else if q.there=true/\p.ino=q.ino then(0,A)
 else if A.overE p q≠0 then(A.overE p q,A)
 else if q.there=true then
  let u:=A.unlinkR q.dir q.name
  if u.1≠0 then u else u.2.moveR p.dir p.name q.dir q.name 14
 else A.moveR p.dir p.name q.dir q.name 14
end Go.Wk

