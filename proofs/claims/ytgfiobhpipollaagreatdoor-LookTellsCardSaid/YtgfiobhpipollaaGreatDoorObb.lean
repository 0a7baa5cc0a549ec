/- A part of a proof. -/
import Derived.Test.YtgfiobhpipollaaGreatDoorOba
import Derived.Test.YtgfiobhpipollaaGreatDoorChecked
import Derived.IntWalk
import Derived.Laws.StandIn
set_option maxRecDepth 100000
namespace Go.Proofs.YtgfiobhpipollaaGreatDoor
open Go Go.HL
variable {K:KH} {σ:H}
def do6:Ann:=(.q (.q (.n (.q (.h)) (.q (.q .z)))))
def g52 (v1:j1) (v2:Sl) (v3:j1) (v4:j1) (K:KH):s9 :=
 A9 (.cells ⟨[.string v1,.slice v2.base v2.len v2.cap,.string v3,.string v4]⟩ 38 (0,0)) (fun b5=>l4 (s5 b5 2) kS (fun(x6:j1)=>d8 53 [.string x6] (.tup [.agg [.str,(.int .i64),.bool,.str,.slc],.sc (.int .i64)]) (fun(x7:j1) (x8:Int) (x9:Bool) (x10:j1) (x11:Sl) (x12:Int)=>A9 (.cells ⟨[.string ⟨⟨[]⟩⟩,.int .i64 0,.bool false,.string ⟨⟨[]⟩⟩,.slice none 0 0]⟩ 75 (0,0)) (fun b13 =>
 t8 75 (.pointer (some ⟨b13,0,none⟩)) (.agg ⟨[.string x7,.int .i64 x8,.bool x9,.string x10,.slice x11.base x11.len x11.cap]⟩) (l8 ((x12:Int) != 0) (K (.bool false)) (l4 (rdA 5 b13 0) (.one (.agg [.str,(.int .i64),.bool,.str,.slc])) (fun(x14:j1) (x15:Int) (x16:Bool) (x17:j1) (x18:Sl) =>
 d8 41 [.agg ⟨[.string x14,.int .i64 x15,.bool x16,.string x17,.slice x18.base x18.len x18.cap]⟩] (.tup [.sc .str,.sc (.int .i64)]) (fun(x19:j1) (x20:Int)=>l8 ((x20:Int)==0) (l4 (s5 b5 2) kS (fun(x21:j1)=>K (.bool (B8 x19 x21)))) (K (.bool false))))))))))
theorem c52 (v1:j1) (v2:Sl) (v3:j1) (v4:j1):g52 v1 v2 v3 v4 K σ->a8 52 [.agg ⟨[.string v1,.slice v2.base v2.len v2.cap,.string v3,.string v4]⟩] K σ:=k8 do6 Tryz.func52


def do7:Ann:=(.q (.q (.q .z)))
def g54 (v1:j1) (v2:Sl) (v3:j1) (v4:j1) (K:KH):s9 :=
 A9 (.cells ⟨[.string v1,.slice v2.base v2.len v2.cap,.string v3,.string v4]⟩ 38 (0,0)) (fun b5=>l4 (s5 b5 2) kS (fun(x6:j1)=>d8 53 [.string x6] (.tup [.agg [.str,(.int .i64),.bool,.str,.slc],.sc (.int .i64)]) (fun(x7:j1) (x8:Int) (x9:Bool) (x10:j1) (x11:Sl) (_x12:Int)=>A9 (.cells ⟨[.string ⟨⟨[]⟩⟩,.int .i64 0,.bool false,.string ⟨⟨[]⟩⟩,.slice none 0 0]⟩ 75 (0,0)) (fun b13 =>
 t8 75 (.pointer (some ⟨b13,0,none⟩)) (.agg ⟨[.string x7,.int .i64 x8,.bool x9,.string x10,.slice x11.base x11.len x11.cap]⟩) (l4 (s5 b5 1) kL (fun x14=>d8 47 [.slice x14.base x14.len x14.cap,.func (.func 55) ⟨[]⟩ ⟨[.pointer (some ⟨b13,0,none⟩)]⟩] kB (fun x15=>K (.bool (!x15)))))))))
theorem c54 (v1:j1) (v2:Sl) (v3:j1) (v4:j1):g54 v1 v2 v3 v4 K σ->a8 54 [.agg ⟨[.string v1,.slice v2.base v2.len v2.cap,.string v3,.string v4]⟩] K σ:=k8 do7 Tryz.func54


def do8:Ann:=(.q (.q (.q .z)))
def g55 (v1:j1) (x2:u4) (K:KH):s9 :=
 d8 56 [.string v1] (.tup [.sc .str,.sc .str,.sc (.int .i64)]) (fun(x3:j1) (_x4:j1) (_x5:Int)=>j0 x2 (fun b6 o7=>l4 (rdA 5 b6 o7) (.one (.agg [.str,(.int .i64),.bool,.str,.slc])) (fun(x8:j1) (x9:Int) (x10:Bool) (x11:j1) (x12:Sl)=>A9 (.cells ⟨[.string x3]⟩ 9 (0,0)) (fun b13 =>
 d8 57 [.agg ⟨[.string x8,.int .i64 x9,.bool x10,.string x11,.slice x12.base x12.len x12.cap]⟩,.slice (some ⟨b13,0,none⟩) 1 1] kL (fun x14=>K (.bool (((x14.len:Nat):Int)==0)))))))
theorem c55 (v1:j1) (x2:u4):g55 v1 x2 K σ->a8 55 [.string v1,.pointer x2] K σ:=k8 do8 Tryz.func55


def do9:Ann:=(.q (.n (.seq (some [(0,.s),(12,.b)]) .r (.h)) (.n (.reg (rn 6) [[],[0],[],[2],[0,1],(rn 5)]) (.n (.seq (some [(2,.s),(3,.s),(24,.b)]) .r (.h)) (.q .z)))))
def g56 (v1:j1) (K:KH):s9 :=
 w9 (T:=j1->Bool->s9) (fun v3 x4=>l8 x4 (K (.tuple ⟨[.string ⟨⟨[]⟩⟩,.string ⟨⟨[]⟩⟩,.int .i64 4]⟩)) (w6 (A1 (some 32) v3.size/\A1 none ((32:Int).toNat)) (w6 (A1 none v3.size/\A1 (some 33) (v3.size)) (w9 (T:=j1->j1->Bool->s9) (fun v6 v7 x8=>l8 x8 (K (.tuple ⟨[.string ⟨⟨[]⟩⟩,.string ⟨⟨[]⟩⟩,.int .i64 4]⟩))
 (K (.tuple ⟨[.string v6,.string v7,.int .i64 0]⟩))) (fun j5=>d8 85 [.string (v3.extract 0 ((32:Int).toNat))] kB (fun x9=>l8 (!x9) (j5 (v3.extract 0 ((32:Int).toNat)) (v3.extract ((33:Int).toNat) v3.size) true) (d8 73 [.string (v3.extract ((33:Int).toNat) v3.size)] kI (fun(x10:Int)=>j5 (v3.extract 0 ((32:Int).toNat)) (v3.extract ((33:Int).toNat) v3.size) ((x10:Int) != 0))))))))) (fun j2 =>
 l8 (decide (((v1.size:Nat):Int)<=32)) (j2 v1 true) (B2 v1 32 (fun c11=>j2 v1 ((c11.toNat:Int) != 45))))
theorem c56 (v1:j1):g56 v1 K σ->a8 56 [.string v1] K σ:=k8 do9 Tryz.func56


def dp0:Ann:=(.q (.n (.q (.h)) (.q (.n (.q (.blk (.loop [(2,.p),(4,.l),(5,.p),(18,.l),(19,.i),(20,.i)] (.q (.n (.cond .z .z) (.seq (some [(2,.p),(4,.l),(5,.p),(18,.l),(19,.i),(20,.i)]) (.blk (.q (.q (.q (.cond .r .z))))) .r)))))) (.q (.q (.seq (some [(10,.p)]) (.q (.blk (.rf [.s] .r (.blk (.q (.blk (.loop [(5,.p),(11,.p),(12,.s),(13,.i)] (.n (.seq (some [(5,.p),(11,.p),(12,.s),(13,.i),(47,.b)]) .r (.cond .z .z)) (.n (.blk (.reg (rn 7) [[],[],[],[],[3],[1,2,3,4],(rn 6)])) .r))))))))) (.q (.q .z)))))))))
def g57 (v1:j1) (v2:Int) (v3:Bool) (v4:j1) (v5:Sl) (v6:Sl) (K:KH):s9 :=
 A9 (.cells ⟨[.string v1,.int .i64 v2,.bool v3,.string v4,.slice v5.base v5.len v5.cap]⟩ 75 (0,0)) (fun b7=>l4 (rdA 5 b7 0) (.one (.agg [.str,(.int .i64),.bool,.str,.slc])) (fun(x8:j1) (x9:Int) (x10:Bool) (x11:j1) (x12:Sl)=>d8 70 [.agg ⟨[.string x8,.int .i64 x9,.bool x10,.string x11,.slice x12.base x12.len x12.cap]⟩] kI (fun(x13:Int)=>l8 ((x13:Int) != 0) (K (.slice none 0 0)) (A9 (.map #[] 0) (fun b14 =>
 A9 (.cells ⟨[.map none]⟩ 39 (0,0)) (fun b15=>t8 39 (.pointer (some ⟨b15,0,none⟩)) (.map (some b14)) (l9 [.sc .ptr,.sc .slc,.sc .ptr,.sc .slc,.sc (.int .i64),.sc (.int .i64)] (fun(R16:u4->Sl->u4->Sl->Int->Int->s9)=>(fun(v17:u4) (x18:Sl) (v19:u4) (x20:Sl) (x21:Int) (x22:Int)=>l8 (decide ((x22:Int)<x21))
 (w9 (T:=u4->Sl->u4->Sl->Int->Int->s9) (fun v24 x25 v26 x27 x28 x29=>R16 v24 x25 v26 x27 x28 (IntKind.i64.wrap (x29+1))) (fun j23=>j0 x20.base (fun b30 o31=>w6 (0<=x22/\x22<((x20.len:Nat):Int)) (l4 (s5 b30 (o31+x22.toNat * 1)) kS (fun(x32:j1)=>d8 74 [.string x32,.string ⟨⟨[120]⟩⟩] (.tup [.sc .str,.sc (.int .i64)]) (fun(_x33:j1) (x34:Int)=>l8 ((x34:Int)==0)
 (j0 v19 (fun b35 o36=>l4 (s5 b35 o36) kM (fun(x37:Option Nat)=>aj0 39 (.map x37) (.string x32) (.int .i64 1) (j23 v17 x18 v19 x20 x21 x22)))) (j23 v17 x18 v19 x20 x21 x22))))))) (A9 (.cells ⟨[.slice none 0 0]⟩ 23 (0,0)) (fun b38=>A9 (.cells ⟨[.nilFunc]⟩ 60 (0,0)) (fun b39=>t8 60 (.pointer (some ⟨b39,0,none⟩)) (.func (.func 86) ⟨[]⟩ ⟨[.pointer v19,.pointer (some ⟨b38,0,none⟩)]⟩) (w9 (T:=u4->s9) (fun v41 =>
 j0 v41 (fun b42 o43=>l4 (s5 b42 o43) kL (fun x44=>d8 67 [.slice x44.base x44.len x44.cap] kU (j0 v41 (fun b45 o46=>l4 (s5 b45 o46) kL (fun x47=>K (.slice x47.base x47.len x47.cap))))))) (fun j40=>j0 v17 (fun b48 o49=>l4 (rdA 5 b48 o49) (.one (.agg [.str,(.int .i64),.bool,.str,.slc])) (fun(x50:j1) (x51:Int) (x52:Bool) (x53:j1) (x54:Sl) =>
 d8 87 [.agg ⟨[.string x50,.int .i64 x51,.bool x52,.string x53,.slice x54.base x54.len x54.cap]⟩] kR (fun x55=>H2 x55 (fun(g80:FuncId) (as81 cs82:List Value)=>U5 Tryz.prog none g80 as81 cs82 [.sc .str] (fun(l56:Nat) (obj57:LoopState->Option Code->Obj) (K58:Value->s9)=>(fun(x59:j1) =>
 G1 l56 obj57 (l9 [.sc .ptr,.sc .ptr,.sc .str,.sc (.int .i64)] (fun(R60:u4->u4->j1->Int->s9)=>(fun(v61:u4) (v62:u4) (v63:j1) (v64:Int)=>w9 (T:=u4->u4->j1->Int->Bool->s9) (fun v66 v67 v68 v69 x70=>l8 x70 (j0 v67 (fun b71 o72=>l4 (s5 b71 o72) kR (fun x73 =>
 w6 (A1 (some (IntKind.i64.wrap (v69+32))) v68.size/\A1 (some v69) ((IntKind.i64.wrap (v69+32)).toNat)) (y6 Tryz.prog x73 [.string (v68.extract v69.toNat ((IntKind.i64.wrap (v69+32)).toNat))] kU (R60 v66 v67 v68 (IntKind.i64.wrap (v69+1))))))) (y9 l56 obj57 K58 none true .ready)) (fun j65=>l8 (decide (((IntKind.i64.wrap (v64+32)):Int)<=((v63.size:Nat):Int))) (j0 v61 (fun b74 o75=>l4 (s5 b74 o75) kM (fun(x76:Option Nat) =>
 l4 (bc8 x76) kI (fun(x77:Int)=>j65 v61 v62 v63 v64 (decide ((x77:Int)>0)))))) (j65 v61 v62 v63 v64 false)))) (fun(R78:u4->u4->j1->Int->s9)=>R78 v19 (some ⟨b39,0,none⟩) x59 0)))) (j40 (some ⟨b38,0,none⟩)) (fun i79=>V1 i79 2 (j40 (some ⟨b38,0,none⟩)) (nW))
 (K (.slice x18.base x18.len x18.cap))))))))))))) (fun(R83:u4->Sl->u4->Sl->Int->Int->s9)=>R83 (some ⟨b7,0,none⟩) ⟨none,0,0⟩ (some ⟨b15,0,none⟩) v6 ((v6.len:Nat):Int) 0))))))))
theorem c57 (v1:j1) (v2:Int) (v3:Bool) (v4:j1) (v5:Sl) (v6:Sl):g57 v1 v2 v3 v4 v5 v6 K σ->a8 57 [.agg ⟨[.string v1,.int .i64 v2,.bool v3,.string v4,.slice v5.base v5.len v5.cap]⟩,.slice v6.base v6.len v6.cap] K σ:=k8 dp0 Tryz.func57


def dp1:Ann:=(.q (.q (.q .z)))
def g58 (v1:j1) (v2:Sl) (v3:j1) (v4:j1) (K:KH):s9 :=
 A9 (.cells ⟨[.string v1,.slice v2.base v2.len v2.cap,.string v3,.string v4]⟩ 38 (0,0)) (fun b5=>l4 (rdA 4 b5 0) (.one (.agg [.str,.slc,.str,.str])) (fun(x6:j1) (x7:Sl) (x8:j1) (x9:j1)=>d8 59 [.agg ⟨[.string x6,.slice x7.base x7.len x7.cap,.string x8,.string x9]⟩] kS (fun(x10:j1)=>l8 (!B8 x10 (⟨⟨[]⟩⟩:j1)) (l4 (s5 b5 0) kS (fun(x11:j1)=>K (.bool (B8 x10 x11)))) (K (.bool false)))))
theorem c58 (v1:j1) (v2:Sl) (v3:j1) (v4:j1):g58 v1 v2 v3 v4 K σ->a8 58 [.agg ⟨[.string v1,.slice v2.base v2.len v2.cap,.string v3,.string v4]⟩] K σ:=k8 dp1 Tryz.func58


def dp2:Ann:=(.q (.n (.q (.cond (.q (.q (.q .z))) .z)) (.q (.n (.q (.h)) (.q (.q .z))))))
def g59 (v1:j1) (v2:Sl) (v3:j1) (v4:j1) (K:KH):s9 :=
 A9 (.cells ⟨[.string v1,.slice v2.base v2.len v2.cap,.string v3,.string v4]⟩ 38 (0,0)) (fun b5=>l4 (s5 b5 3) kS (fun(x6:j1)=>l8 (B8 x6 (⟨⟨[]⟩⟩:j1)) (l4 (s5 b5 0) kS (fun(x7:j1)=>d8 56 [.string x7] (.tup [.sc .str,.sc .str,.sc (.int .i64)]) (fun(_x8:j1) (x9:j1) (_x10:Int)=>l4 (s5 b5 2) kS (fun(x11:j1) =>
 d8 42 [.string x11,.string x9] (.tup [.sc .str,.sc (.int .i64)]) (fun(x12:j1) (_x13:Int)=>K (.string x12)))))) (l4 (s5 b5 3) kS (fun(x14:j1)=>d8 88 [.string x14] (.tup [.agg [.str,.slc,.slc,.str],.sc .raw]) (fun(x15:j1) (x16:Sl) (x17:Sl) (x18:j1) (x19:Value)=>A9 (.cells ⟨[.string ⟨⟨[]⟩⟩,.slice none 0 0,.slice none 0 0,.string ⟨⟨[]⟩⟩]⟩ 113 (0,0)) (fun b20 =>
 t8 113 (.pointer (some ⟨b20,0,none⟩)) (.agg ⟨[.string x15,.slice x16.base x16.len x16.cap,.slice x17.base x17.len x17.cap,.string x18]⟩) (M7 Tryz.prog (do eqGuard .neq 115 (.tmp 36) (.const (.nilIface)) (x19) (.nilIface);binOp .neq 115 (x19) (.nilIface)) kB (fun x21=>l8 x21 (K (.string ⟨⟨[]⟩⟩)) (l4 (rdA 4 b20 0) (.one (.agg [.str,.slc,.slc,.str])) (fun(x22:j1) (x23:Sl) (x24:Sl) (x25:j1) =>
 d8 89 [.agg ⟨[.string x22,.slice x23.base x23.len x23.cap,.slice x24.base x24.len x24.cap,.string x25]⟩] (.tup [.sc .str,.sc (.int .i64)]) (fun(x26:j1) (_x27:Int)=>K (.string x26))))))))))))
theorem c59 (v1:j1) (v2:Sl) (v3:j1) (v4:j1):g59 v1 v2 v3 v4 K σ->a8 59 [.agg ⟨[.string v1,.slice v2.base v2.len v2.cap,.string v3,.string v4]⟩] K σ:=k8 dp2 Tryz.func59


def dp4:Ann:=(.q (.q (.q (.q (.n (.seq (some [(0,.s),(2,.p),(6,.p),(30,.b)]) .r (.h)) (.q (.n (.seq (some [(2,.p),(6,.p),(43,.b)]) .r (.h)) (.q .z))))))))
def g60 (v1:j1) (K:KH):s9 :=
 A9 (.cells ⟨[.string ⟨⟨[]⟩⟩,.int .i64 0,.bool false,.string ⟨⟨[]⟩⟩,.slice none 0 0]⟩ 75 (0,0)) (fun b2=>A9 (.cells ⟨[.string v1,.bool false]⟩ 121 (0,0)) (fun b3=>d8 90 [.pointer (some ⟨b3,0,none⟩)] kS (fun(x4:j1) =>
 d8 91 [.pointer (some ⟨b3,0,none⟩),.int .i64 13] (.tup [.agg [.str,(.int .i64),.bool,.str,.slc],.sc .bool]) (fun(x5:j1) (x6:Int) (x7:Bool) (x8:j1) (x9:Sl) (x10:Bool)=>A9 (.cells ⟨[.string ⟨⟨[]⟩⟩,.int .i64 0,.bool false,.string ⟨⟨[]⟩⟩,.slice none 0 0]⟩ 75 (0,0)) (fun b11 =>
 t8 75 (.pointer (some ⟨b11,0,none⟩)) (.agg ⟨[.string x5,.int .i64 x6,.bool x7,.string x8,.slice x9.base x9.len x9.cap]⟩) (w9 (T:=j1->u4->u4->Bool->s9) (fun v13 x14 v15 x16=>l8 x16 (t8 75 (.pointer x14) (.agg ⟨[.string ⟨⟨[]⟩⟩,.int .i64 0,.bool false,.string ⟨⟨[]⟩⟩,.slice none 0 0]⟩) (j0 x14 (fun b17 o18 =>
 l4 (rdA 5 b17 o18) (.one (.agg [.str,(.int .i64),.bool,.str,.slc])) (fun(r19:j1) (r20:Int) (r21:Bool) (r22:j1) (r23:Sl)=>K (.tuple ⟨[.agg ⟨[.string r19,.int .i64 r20,.bool r21,.string r22,.slice r23.base r23.len r23.cap]⟩,.int .i64 4]⟩))))) (j0 v15 (fun b24 o25=>l4 (rdA 5 b24 o25) (.one (.agg [.str,(.int .i64),.bool,.str,.slc])) (fun(x26:j1) (x27:Int) (x28:Bool) (x29:j1) (x30:Sl) =>
 d8 62 [.agg ⟨[.string x26,.int .i64 x27,.bool x28,.string x29,.slice x30.base x30.len x30.cap]⟩] (.tup [.sc .str,.sc (.int .i64)]) (fun(x31:j1) (x32:Int)=>w9 (T:=u4->u4->Bool->s9) (fun x34 v35 x36=>l8 x36 (t8 75 (.pointer x34) (.agg ⟨[.string ⟨⟨[]⟩⟩,.int .i64 0,.bool false,.string ⟨⟨[]⟩⟩,.slice none 0 0]⟩) (j0 x34 (fun b37 o38 =>
 l4 (rdA 5 b37 o38) (.one (.agg [.str,(.int .i64),.bool,.str,.slc])) (fun(r39:j1) (r40:Int) (r41:Bool) (r42:j1) (r43:Sl)=>K (.tuple ⟨[.agg ⟨[.string r39,.int .i64 r40,.bool r41,.string r42,.slice r43.base r43.len r43.cap]⟩,.int .i64 4]⟩))))) (j0 v35 (fun b44 o45=>l4 (rdA 5 b44 o45) (.one (.agg [.str,(.int .i64),.bool,.str,.slc])) (fun(x46:j1) (x47:Int) (x48:Bool) (x49:j1) (x50:Sl) =>
 t8 75 (.pointer x34) (.agg ⟨[.string x46,.int .i64 x47,.bool x48,.string x49,.slice x50.base x50.len x50.cap]⟩) (j0 x34 (fun b51 o52=>l4 (rdA 5 b51 o52) (.one (.agg [.str,(.int .i64),.bool,.str,.slc])) (fun(r53:j1) (r54:Int) (r55:Bool) (r56:j1) (r57:Sl)=>K (.tuple ⟨[.agg ⟨[.string r53,.int .i64 r54,.bool r55,.string r56,.slice r57.base r57.len r57.cap]⟩,.int .i64 0]⟩)))))))) (fun j33=>l8 ((x32:Int) != 0) (j33 x14 v15 true)
 (j33 x14 v15 (!B8 x31 v13)))))))) (fun j12=>l8 (!B8 x4 (⟨⟨[119,104,105,115,107,45,116,114,101,101]⟩⟩:j1)) (j12 v1 (some ⟨b2,0,none⟩) (some ⟨b11,0,none⟩) true) (l8 (!x10) (j12 v1 (some ⟨b2,0,none⟩) (some ⟨b11,0,none⟩) true) (d8 92 [.pointer (some ⟨b3,0,none⟩)] kB (fun x58=>j12 v1 (some ⟨b2,0,none⟩) (some ⟨b11,0,none⟩) (!x58)))))))))))
theorem c60 (v1:j1):g60 v1 K σ->a8 60 [.string v1] K σ:=k8 dp4 Tryz.func60


def dp5:Ann:=(.q (.q (.q .z)))
def g61 (v1:j1) (K:KH):s9 :=
 d8 63 [.string v1] (.tup [.sc .str,.sc .str,.sc (.int .i64)]) (fun(_x2:j1) (_x3:j1) (x4:Int)=>K (.bool ((x4:Int)==0)))
theorem c61 (v1:j1):g61 v1 K σ->a8 61 [.string v1] K σ:=k8 dp5 Tryz.func61


def dp6:Ann:=(.q (.q (.n (.q (.h)) (.n (.reg [1,0,2,3] [[],[],[0,1],[0,1,2]]) (.n (.q (.h)) (.q .z))))))
def g62 (v1:j1) (v2:Int) (v3:Bool) (v4:j1) (v5:Sl) (K:KH):s9 :=
 A9 (.cells ⟨[.string v1,.int .i64 v2,.bool v3,.string v4,.slice v5.base v5.len v5.cap]⟩ 75 (0,0)) (fun b6=>l4 (rdA 5 b6 0) (.one (.agg [.str,(.int .i64),.bool,.str,.slc])) (fun(x7:j1) (x8:Int) (x9:Bool) (x10:j1) (x11:Sl)=>d8 93 [.agg ⟨[.string x7,.int .i64 x8,.bool x9,.string x10,.slice x11.base x11.len x11.cap]⟩] kI (fun(x12:Int)=>l8 ((x12:Int) != 0) (K (.tuple ⟨[.string ⟨⟨[]⟩⟩,.int .i64 x12]⟩))
 (l4 (rdA 5 b6 0) (.one (.agg [.str,(.int .i64),.bool,.str,.slc])) (fun(x13:j1) (x14:Int) (x15:Bool) (x16:j1) (x17:Sl)=>d8 95 [.string ⟨⟨[]⟩⟩,.string ⟨⟨[119,104,105,115,107,45,116,114,101,101]⟩⟩] kS (fun(x18:j1)=>A2 (fun σ=>(rdA 5 b6 0) σ=some (.agg ⟨[.string x13,.int .i64 x14,.bool x15,.string x16,.slice x17.base x17.len x17.cap]⟩))
 (d8 94 [.string x18,.agg ⟨[.string x13,.int .i64 x14,.bool x15,.string x16,.slice x17.base x17.len x17.cap]⟩] kS (fun(x19:j1)=>l8 (decide (((x19.size:Nat):Int)>60000)) (K (.tuple ⟨[.string ⟨⟨[]⟩⟩,.int .i64 3]⟩)) (K (.tuple ⟨[.string x19,.int .i64 0]⟩))))))))))
theorem c62 (v1:j1) (v2:Int) (v3:Bool) (v4:j1) (v5:Sl):g62 v1 v2 v3 v4 v5 K σ->a8 62 [.agg ⟨[.string v1,.int .i64 v2,.bool v3,.string v4,.slice v5.base v5.len v5.cap]⟩] K σ:=k8 dp6 Tryz.func62


def dp7:Ann:=(.q (.n (.seq (some [(0,.s),(24,.b)]) .r (.h)) (.n (.reg (rn 7) [[],[0],[],[2],[0,1],(rn 5),(rn 6)]) .z)))
def g63 (v1:j1) (K:KH):s9 :=
 w9 (T:=j1->Bool->s9) (fun v3 x4=>l8 x4 (K (.tuple ⟨[.string ⟨⟨[]⟩⟩,.string ⟨⟨[]⟩⟩,.int .i64 4]⟩)) (w6 (A1 (some 32) v3.size/\A1 none ((32:Int).toNat)) (w6 (A1 none v3.size/\A1 (some 33) (v3.size)) (K (.tuple ⟨[.string (v3.extract 0 ((32:Int).toNat)),.string (v3.extract ((33:Int).toNat) v3.size),.int .i64 0]⟩))))) (fun j2=>l8 (decide (((v1.size:Nat):Int)<34))
 (j2 v1 true) (w6 (A1 (some 32) v1.size/\A1 none ((32:Int).toNat)) (d8 96 [.string (v1.extract 0 ((32:Int).toNat))] kB (fun x5=>l8 (!x5) (j2 v1 true) (B2 v1 32 (fun c6=>l8 ((c6.toNat:Int) != 45) (j2 v1 true) (w6 (A1 none v1.size/\A1 (some 33) (v1.size)) (d8 97 [.string (v1.extract ((33:Int).toNat) v1.size)] kI (fun(x7:Int)=>j2 v1 ((x7:Int) != 0))))))))))
theorem c63 (v1:j1):g63 v1 K σ->a8 63 [.string v1] K σ:=k8 dp7 Tryz.func63


def dp8:Ann:=(.q (.n (.q (.h)) (.q (.n (.q (.blk (.loop [(1,.l),(2,.p),(5,.l),(6,.i)] (.n (.q (.cond .z .z)) (.seq (some [(1,.l),(2,.p),(5,.l),(6,.i)]) (.blk (.n (.seq (some [(1,.l),(2,.p),(5,.l),(6,.i),(32,.b)]) (.reg (rn 15) [[],[],[0,1],[0,1,2],(rn 4),(rn 5),(rn 6),(rn 7),(rn 7),(rn 7),[0,1,2,3,4,5,6,8,9],[0,1,2,3,4,5,6,8,9,10],(rn 12),(rn 13),(rn 14)]) (.cond .z .z)) (.q (.n (.blk (.loop [(1,.l),(2,.p),(5,.l),(6,.i),(7,.i)] (.n (.seq (some [(1,.l),(2,.p),(5,.l),(6,.i),(7,.i),(47,.b)]) (.reg (rn 15) [[],[],[1],[0,1,2],(rn 4),(rn 5),(rn 5),(rn 7),(rn 8),(rn 5),(rn 5),[0,1,2,3,4,9,10],[0,1,2,3,4,9,10,11],(rn 13),(rn 14)]) (.cond .z .z)) (.blk .r)))) (.n (.seq (some [(1,.l),(2,.p),(5,.l),(6,.i),(7,.i),(64,.b)]) (.reg (rn 15) [[],[],[1],[0,1,2],(rn 4),(rn 5),(rn 5),(rn 7),(rn 8),(rn 5),(rn 5),[0,1,2,3,4,9,10],[0,1,2,3,4,9,10,11],(rn 13),(rn 14)]) (.cond .z .z)) (.q (.q (.q .r)))))))) .r))))) (.q .z)))))
def g64 (v1:j1) (v2:Int) (v3:Bool) (v4:j1) (v5:Sl) (v6:Sl) (K:KH):s9 :=
 A9 (.cells ⟨[.string v1,.int .i64 v2,.bool v3,.string v4,.slice v5.base v5.len v5.cap]⟩ 75 (0,0)) (fun b7=>l4 (rdA 5 b7 0) (.one (.agg [.str,(.int .i64),.bool,.str,.slc])) (fun(x8:j1) (x9:Int) (x10:Bool) (x11:j1) (x12:Sl)=>d8 93 [.agg ⟨[.string x8,.int .i64 x9,.bool x10,.string x11,.slice x12.base x12.len x12.cap]⟩] kI (fun(x13:Int)=>l8 ((x13:Int) != 0) (K (.slice none 0 0))
 (l9 [.sc .slc,.sc .ptr,.sc .slc,.sc (.int .i64)] (fun(R14:Sl->u4->Sl->Int->s9)=>(fun(v15:Sl) (v16:u4) (v17:Sl) (v18:Int)=>l8 (decide ((v18:Int)<((v15.len:Nat):Int))) (w9 (T:=Sl->u4->Sl->Int->s9) (fun v20 v21 v22 v23=>R14 v20 v21 v22 (IntKind.i64.wrap (v23+1))) (fun j19=>w9 (T:=Sl->u4->Sl->Int->Bool->s9) (fun v25 v26 v27 v28 x29=>l8 x29
 (j19 v25 v26 v27 v28) (l9 [.sc .slc,.sc .ptr,.sc .slc,.sc (.int .i64),.sc (.int .i64)] (fun(R30:Sl->u4->Sl->Int->Int->s9)=>(fun(v31:Sl) (v32:u4) (v33:Sl) (v34:Int) (v35:Int)=>w9 (T:=Sl->u4->Sl->Int->Int->Bool->s9) (fun v37 v38 v39 v40 v41 x42=>l8 x42 (R30 v37 v38 v39 v40 (IntKind.i64.wrap (v41+1)))
 (w9 (T:=Sl->u4->Sl->Int->Int->Bool->s9) (fun v44 v45 v46 v47 v48 x49=>l8 x49 (j19 v44 v45 v46 v47) (w6 (A1 (some v48) v46.cap/\A1 none v48.toNat) (Q4 .append #[23,23] 23 [false,false] [.slice none 0 0,.slice (F8 v46.base 0 v46.cap 1) (v48.toNat - 0) (v46.cap - 0)] kL (fun x50=>j0 v44.base (fun b51 o52=>w6 (0<=v47/\v47<((v44.len:Nat):Int))
 (l4 (s5 b51 (o52+v47.toNat * 1)) kS (fun(x53:j1)=>A9 (.cells ⟨[.string x53]⟩ 9 (0,0)) (fun b54=>Q4 .append #[23,23] 23 [false,false] [.slice x50.base x50.len x50.cap,.slice (some ⟨b54,0,none⟩) 1 1] kL (fun x55=>w6 (A1 none v46.cap/\A1 (some v48) v46.len)
 (Q4 .append #[23,23] 23 [false,false] [.slice x55.base x55.len x55.cap,.slice (F8 v46.base v48.toNat v46.cap 1) (v46.len - v48.toNat) (v46.cap - v48.toNat)] kL (fun x56=>j19 v44 v45 x56 v47))))))))))) (fun j43=>l8 (decide ((v41:Int)<((v39.len:Nat):Int))) (j0 v39.base (fun b57 o58=>w6 (0<=v41/\v41<((v39.len:Nat):Int)) (l4 (s5 b57 (o58+v41.toNat * 1)) kS (fun(x59:j1)=>j0 v37.base (fun b60 o61 =>
 w6 (0<=v40/\v40<((v37.len:Nat):Int)) (l4 (s5 b60 (o61+v40.toNat * 1)) kS (fun(x62:j1)=>j43 v37 v38 v39 v40 v41 (B8 x59 x62)))))))) (j43 v37 v38 v39 v40 v41 false)))) (fun j36=>l8 (decide ((v35:Int)<((v33.len:Nat):Int))) (j0 v33.base (fun b63 o64=>w6 (0<=v35/\v35<((v33.len:Nat):Int)) (l4 (s5 b63 (o64+v35.toNat * 1)) kS (fun(x65:j1)=>j0 v31.base (fun b66 o67 =>
 w6 (0<=v34/\v34<((v31.len:Nat):Int)) (l4 (s5 b66 (o67+v34.toNat * 1)) kS (fun(x68:j1)=>j36 v31 v32 v33 v34 v35 (E4 x65 x68)))))))) (j36 v31 v32 v33 v34 v35 false)))) (fun(R69:Sl->u4->Sl->Int->Int->s9)=>R69 v25 v26 v27 v28 0))) (fun j24=>j0 v15.base (fun b70 o71=>w6 (0<=v18/\v18<((v15.len:Nat):Int)) (l4 (s5 b70 (o71+v18.toNat * 1)) kS (fun(x72:j1) =>
 d8 96 [.string x72] kB (fun x73=>l8 (!x73) (j24 v15 v16 v17 v18 true) (j0 v16 (fun b74 o75=>l4 (rdA 5 b74 o75) (.one (.agg [.str,(.int .i64),.bool,.str,.slc])) (fun(x76:j1) (x77:Int) (x78:Bool) (x79:j1) (x80:Sl)=>j0 v15.base (fun b81 o82=>w6 (0<=v18/\v18<((v15.len:Nat):Int)) (l4 (s5 b81 (o82+v18.toNat * 1)) kS (fun(x83:j1) =>
 d8 98 [.agg ⟨[.string x76,.int .i64 x77,.bool x78,.string x79,.slice x80.base x80.len x80.cap]⟩,.string x83] kB (fun x84=>j24 v15 v16 v17 v18 (!x84))))))))))))))) (K (.slice v17.base v17.len v17.cap)))) (fun(R85:Sl->u4->Sl->Int->s9)=>R85 v6 (some ⟨b7,0,none⟩) ⟨none,0,0⟩ 0)))))
theorem c64 (v1:j1) (v2:Int) (v3:Bool) (v4:j1) (v5:Sl) (v6:Sl):g64 v1 v2 v3 v4 v5 v6 K σ->a8 64 [.agg ⟨[.string v1,.int .i64 v2,.bool v3,.string v4,.slice v5.base v5.len v5.cap]⟩,.slice v6.base v6.len v6.cap] K σ:=k8 dp8 Tryz.func64


def dp9:Ann:=(.q (.n (.q (.cond (.q (.q (.q .z))) .z)) (.q (.n (.q (.h)) (.q (.q .z))))))
def g65 (v1:j1) (v2:Sl) (v3:j1) (v4:j1) (K:KH):s9 :=
 A9 (.cells ⟨[.string v1,.slice v2.base v2.len v2.cap,.string v3,.string v4]⟩ 38 (0,0)) (fun b5=>l4 (s5 b5 3) kS (fun(x6:j1)=>l8 (B8 x6 (⟨⟨[]⟩⟩:j1)) (l4 (s5 b5 0) kS (fun(x7:j1)=>d8 63 [.string x7] (.tup [.sc .str,.sc .str,.sc (.int .i64)]) (fun(_x8:j1) (x9:j1) (_x10:Int)=>l4 (s5 b5 2) kS (fun(x11:j1) =>
 d8 99 [.string x11,.string x9] (.tup [.sc .str,.sc (.int .i64)]) (fun(x12:j1) (x13:Int)=>l8 ((x13:Int)==0) (l4 (s5 b5 0) kS (fun(x14:j1)=>K (.bool (B8 x12 x14)))) (K (.bool false))))))) (l4 (s5 b5 3) kS (fun(x15:j1)=>d8 100 [.string x15] (.tup [.agg [.str,.slc,.slc,.str],.agg [(.int .i64),(.int .i64)]]) (fun(x16:j1) (x17:Sl) (x18:Sl) (x19:j1) (x20:Int) (x21:Int) =>
 A9 (.cells ⟨[.string ⟨⟨[]⟩⟩,.slice none 0 0,.slice none 0 0,.string ⟨⟨[]⟩⟩]⟩ 113 (0,0)) (fun b22=>A9 (.cells ⟨[.int .i64 0,.int .i64 0]⟩ 127 (0,0)) (fun b23=>t8 113 (.pointer (some ⟨b22,0,none⟩)) (.agg ⟨[.string x16,.slice x17.base x17.len x17.cap,.slice x18.base x18.len x18.cap,.string x19]⟩) (t8 127 (.pointer (some ⟨b23,0,none⟩)) (.agg ⟨[.int .i64 x20,.int .i64 x21]⟩) (l4 (s5 b23 0) kI (fun(x24:Int) =>
 l8 ((x24:Int) != 0) (K (.bool false)) (l4 (rdA 4 b22 0) (.one (.agg [.str,.slc,.slc,.str])) (fun(x25:j1) (x26:Sl) (x27:Sl) (x28:j1)=>d8 101 [.agg ⟨[.string x25,.slice x26.base x26.len x26.cap,.slice x27.base x27.len x27.cap,.string x28]⟩] (.tup [.sc .str,.sc (.int .i64)]) (fun(x29:j1) (x30:Int)=>l8 ((x30:Int)==0) (l4 (s5 b5 0) kS (fun(x31:j1)=>K (.bool (B8 x29 x31)))) (K (.bool false)))))))))))))))
theorem c65 (v1:j1) (v2:Sl) (v3:j1) (v4:j1):g65 v1 v2 v3 v4 K σ->a8 65 [.agg ⟨[.string v1,.slice v2.base v2.len v2.cap,.string v3,.string v4]⟩] K σ:=k8 dp9 Tryz.func65


def dq0:Ann:=(.q .r)
def g67 (v1:Sl) (K:KH):s9 :=
 d8 104 [.int .u64 (IntKind.u64.wrap ((v1.len:Nat):Int))] kI (fun(x2:Int)=>d8 103 [.slice v1.base v1.len v1.cap,.int .i64 0,.int .i64 ((v1.len:Nat):Int),.int .i64 x2] kU (K (.tuple ⟨[]⟩)))
theorem c67 (v1:Sl):g67 v1 K σ->a8 67 [.slice v1.base v1.len v1.cap] K σ:=k8 dq0 Tryz.func67


def dq2:Ann:=(.q (.n (.blk (.q (.cond (.q .z) (.seq (some [(1,.p),(8,.b)]) .r (.h))))) (.n (.q (.seq (some [(27,.b)]) .r (.h))) (.q .z))))
def g70 (v1:j1) (v2:Int) (v3:Bool) (v4:j1) (v5:Sl) (K:KH):s9 :=
 A9 (.cells ⟨[.string v1,.int .i64 v2,.bool v3,.string v4,.slice v5.base v5.len v5.cap]⟩ 75 (0,0)) (fun b6=>l4 (rdA 5 b6 0) (.one (.agg [.str,(.int .i64),.bool,.str,.slc])) (fun(x7:j1) (x8:Int) (x9:Bool) (x10:j1) (x11:Sl)=>d8 105 [.agg ⟨[.string x7,.int .i64 x8,.bool x9,.string x10,.slice x11.base x11.len x11.cap]⟩] kB (fun x12=>l8 x12 (K (.int .i64 3)) (w9 (T:=u4->Bool->s9) (fun v14 x15=>l8 x15
 (K (.int .i64 2)) (j0 v14 (fun b16 o17=>l4 (rdA 5 b16 o17) (.one (.agg [.str,(.int .i64),.bool,.str,.slc])) (fun(x18:j1) (x19:Int) (x20:Bool) (x21:j1) (x22:Sl)=>d8 107 [.agg ⟨[.string x18,.int .i64 x19,.bool x20,.string x21,.slice x22.base x22.len x22.cap]⟩] (.tup [.sc (.int .i64),.sc (.int .i64)]) (fun(x23:Int) (x24:Int)=>w9 (T:=Bool->s9) (fun x26=>l8 x26 (K (.int .i64 3)) (K (.int .i64 0))) (fun j25 =>
 l8 (decide ((x23:Int)>2000)) (j25 true) (j25 (decide ((x24:Int)>100000))))))))) (fun j13=>l4 (s5 b6 0) kS (fun(x27:j1)=>l8 (!B8 x27 (⟨⟨[]⟩⟩:j1)) (j13 (some ⟨b6,0,none⟩) true) (l4 (rdA 5 b6 0) (.one (.agg [.str,(.int .i64),.bool,.str,.slc])) (fun(x28:j1) (x29:Int) (x30:Bool) (x31:j1) (x32:Sl)=>d8 106 [.agg ⟨[.string x28,.int .i64 x29,.bool x30,.string x31,.slice x32.base x32.len x32.cap]⟩] kB (fun x33 =>
 j13 (some ⟨b6,0,none⟩) (!x33))))))))))
theorem c70 (v1:j1) (v2:Int) (v3:Bool) (v4:j1) (v5:Sl):g70 v1 v2 v3 v4 v5 K σ->a8 70 [.agg ⟨[.string v1,.int .i64 v2,.bool v3,.string v4,.slice v5.base v5.len v5.cap]⟩] K σ:=k8 dq2 Tryz.func70


def dq3:Ann:=(.q (.q .z))
def g71 (v1:j1) (v2:j1) (K:KH):s9 :=
 d8 108 [.string v1,.int .u64 (IntKind.u64.wrap ((v2.size:Nat):Int))] kS (fun(x3:j1)=>w6 (x3.size+v2.size<=9223372036854775807) (K (.string (x3++v2))))
theorem c71 (v1:j1) (v2:j1):g71 v1 v2 K σ->a8 71 [.string v1,.string v2] K σ:=k8 dq3 Tryz.func71


def dq4:Ann:=(.q (.n (.reg (rn 12) [[],[],[1],[1,2],[1,2,3],[],[5],[5,6],[1,2,3,4,5,6,7],(rn 9),(rn 10),(rn 11)]) .r))
def g72 (v1:u4) (v2:j1) (v3:Int) (v4:Bool) (v5:j1) (v6:Sl) (K:KH):s9 :=
 A9 (.cells ⟨[.string v2,.int .i64 v3,.bool v4,.string v5,.slice v6.base v6.len v6.cap]⟩ 75 (0,0)) (fun b7=>j0 v1 (fun b8 o9=>l4 (s5 b8 o9) kS (fun(x10:j1)=>l4 (s5 b7 1) kI (fun(x11:Int)=>d8 108 [.string x10,.int .u64 (IntKind.u64.wrap x11)] kS (fun(x12:j1)=>j0 v1 (fun b13 o14=>t8 9 (.pointer (some ⟨b13,o14,none⟩)) (.string x12) (A9 (.map #[] 0) (fun b15 =>
 aj0 139 (.map (some b15)) (.int .i64 1) (.func (.func 109) ⟨[.pointer v1]⟩ ⟨[]⟩) (aj0 139 (.map (some b15)) (.int .i64 3) (.func (.func 110) ⟨[.pointer v1]⟩ ⟨[]⟩) (aj0 139 (.map (some b15)) (.int .i64 2) (.func (.func 111) ⟨[.pointer v1]⟩ ⟨[]⟩) (l4 (s5 b7 1) kI (fun(x16:Int)=>l4 (rdM (.int .i64) (.nilFunc) false (some b15) (.int .i64 x16)) kR (fun x17 =>
 l4 (rdA 5 b7 0) (.one (.agg [.str,(.int .i64),.bool,.str,.slc])) (fun(x18:j1) (x19:Int) (x20:Bool) (x21:j1) (x22:Sl)=>y6 Tryz.prog x17 [.agg ⟨[.string x18,.int .i64 x19,.bool x20,.string x21,.slice x22.base x22.len x22.cap]⟩] kU (K (.tuple ⟨[]⟩))))))))))))))))
theorem c72 (v1:u4) (v2:j1) (v3:Int) (v4:Bool) (v5:j1) (v6:Sl):g72 v1 v2 v3 v4 v5 v6 K σ->a8 72 [.pointer v1,.agg ⟨[.string v2,.int .i64 v3,.bool v4,.string v5,.slice v6.base v6.len v6.cap]⟩] K σ:=k8 dq4 Tryz.func72


def dq5:Ann:=(.q (.n (.q (.h)) (.q (.q (.q (.q (.n (.q (.blk (.loop [(0,.s),(3,.w),(4,.w),(5,.w),(6,.w),(12,.i),(13,.i)] (.q (.n (.cond .z .z) (.n (.blk (.q (.q (.h)))) .r)))))) (.n (.seq (some [(33,.b)]) .r (.h)) (.q .z)))))))))
def g73 (v1:j1) (K:KH):s9 :=
 l8 (decide (((v1.size:Nat):Int)>20)) (K (.int .i64 3)) (l9 [.sc .str,.sc .raw,.sc .raw,.sc .raw,.sc .raw,.sc (.int .i64),.sc (.int .i64)] (fun(R2:j1->Value->Value->Value->Value->Int->Int->s9)=>(fun(v3:j1) (v4:Value) (v5:Value) (v6:Value) (v7:Value) (x8:Int) (x9:Int)=>l8 (decide ((x9:Int)<x8)) (B2 v3 x9 (fun c10=>F2 v4 (F2 v5 (F2 v6 (F2 v7
 (A9 (.cells ⟨[v4,v5,v6,v7]⟩ 140 (0,0)) (fun b11=>d8 117 [.int .u8 (c10.toNat:Int),.slice (some ⟨b11,0,none⟩) 4 4] kB (fun x12=>l8 (!x12) (K (.int .i64 2)) (R2 v3 v4 v5 v6 v7 x8 (IntKind.i64.wrap (x9+1))))))))))) (w9 (T:=Bool->s9) (fun x14=>l8 x14 (K (.int .i64 2)) (K (.int .i64 0))) (fun j13=>l8 (B8 v3 (⟨⟨[]⟩⟩:j1)) (j13 true) (B2 v3 0 (fun c15 =>
 j13 ((c15.toNat:Int)==46))))))) (fun(R16:j1->Value->Value->Value->Value->Int->Int->s9)=>R16 v1 (.func (.func 112) ⟨[]⟩ ⟨[]⟩) (.func (.func 113) ⟨[]⟩ ⟨[]⟩) (.func (.func 114) ⟨[]⟩ ⟨[]⟩) (.func (.func 115) ⟨[]⟩ ⟨[]⟩) ((v1.size:Nat):Int) 0))
theorem c73 (v1:j1):g73 v1 K σ->a8 73 [.string v1] K σ:=k8 dq5 Tryz.func73


def dq6:Ann:=(.q (.n (.q (.h)) (.n (.q (.q (.h))) (.q .z))))
def g74 (v1:j1) (v2:j1) (K:KH):s9 :=
 d8 85 [.string v1] kB (fun x3=>l8 (!x3) (K (.tuple ⟨[.string ⟨⟨[]⟩⟩,.int .i64 2]⟩)) (d8 73 [.string v2] kI (fun(x4:Int)=>l8 ((x4:Int) != 0) (K (.tuple ⟨[.string ⟨⟨[]⟩⟩,.int .i64 x4]⟩)) (w6 (v1.size+(⟨⟨[45]⟩⟩:j1).size<=9223372036854775807) (w6 ((v1++⟨⟨[45]⟩⟩).size+v2.size<=9223372036854775807)
 (K (.tuple ⟨[.string ((v1++⟨⟨[45]⟩⟩)++v2),.int .i64 0]⟩)))))))
theorem c74 (v1:j1) (v2:j1):g74 v1 v2 K σ->a8 74 [.string v1,.string v2] K σ:=k8 dq6 Tryz.func74


def dq7:Ann:=(.q (.q (.q (.q (.n (.q (.blk (.loop [(3,.s),(4,.p),(5,.sc (.int .u64)),(6,.i),(12,.i),(13,.i)] (.q (.n (.cond .z .z) (.n (.blk (.q (.q (.n (.q (.blk (.loop [(3,.s),(4,.p),(5,.sc (.int .u64)),(6,.i),(12,.i),(13,.i)] (.n (.q (.cond .z .z)) (.blk (.q .r)))))) .r)))) .r)))))) (.q .z))))))
def g75 (v1:j1) (K:KH):s9 :=
 d8 118 [.string v1] kS (fun(x2:j1)=>A9 (.cells ⟨[.pointer none,.slice none 0 0]⟩ 145 (0,0)) (fun b3=>l9 [.sc .str,.sc .ptr,.sc (.int .u64),.sc (.int .i64),.sc (.int .i64),.sc (.int .i64)] (fun(R4:j1->u4->Int->Int->Int->Int->s9)=>(fun(v5:j1) (v6:u4) (v7:Int) (v8:Int) (x9:Int) (x10:Int)=>l8 (decide ((x10:Int)<x9)) (w6 (0<=(8:Int)) (B2 v5 x10 (fun c11 =>
 l9 [.sc .str,.sc .ptr,.sc (.int .u64),.sc (.int .i64),.sc (.int .i64),.sc (.int .i64)] (fun(R12:j1->u4->Int->Int->Int->Int->s9)=>(fun(v13:j1) (v14:u4) (v15:Int) (v16:Int) (x17:Int) (x18:Int)=>l8 (decide ((v16:Int)>=5)) (w6 (0<=(IntKind.i64.wrap (v16 - 5)))
 (B2 (⟨⟨[48,49,50,51,52,53,54,55,56,57,97,98,99,100,102,103,104,105,106,107,108,109,110,112,113,114,115,118,119,120,121,122]⟩⟩:j1) (A0 .and .u64 (Int.fdiv v15 (2 ^ min (Int.toNat (IntKind.i64.wrap (v16 - 5))) (IntKind.bits .u64))) 31) (fun c19=>d8 119 [.pointer v14,.int .u8 (c19.toNat:Int)] kR (fun _x20=>R12 v13 v14 v15 (IntKind.i64.wrap (v16 - 5)) x17 x18)))) (w6 (0<=v16)
 (R4 v13 v14 (A0 .and .u64 v15 (IntKind.u64.wrap ((IntKind.u64.wrap (1 * 2 ^ min (Int.toNat v16) (IntKind.bits .u64))) - 1))) v16 x17 (IntKind.i64.wrap (x18+1)))))) (fun(R21:j1->u4->Int->Int->Int->Int->s9)=>R21 v5 v6 (A0 .or .u64 (IntKind.u64.wrap (v7 * 2 ^ min (Int.toNat 8) (IntKind.bits .u64))) (IntKind.u64.wrap (c11.toNat:Int))) (IntKind.i64.wrap (v8+8)) x9 x10))))
 (d8 120 [.pointer v6] kS (fun(x22:j1)=>K (.string x22))))) (fun(R23:j1->u4->Int->Int->Int->Int->s9)=>R23 x2 (some ⟨b3,0,none⟩) 0 0 (if 20<((x2.size:Nat):Int)then 20 else((x2.size:Nat):Int)) 0)))
theorem c75 (v1:j1):g75 v1 K σ->a8 75 [.string v1] K σ:=k8 dq7 Tryz.func75


def dq8:Ann:=(.q (.q .z))
def g76 (v1:Sl) (v2:Value) (K:KH):s9 :=
 d8 121 [.slice v1.base v1.len v1.cap,v2] kI (fun(x3:Int)=>K (.bool (decide ((x3:Int)>=0))))
theorem c76 (v1:Sl) (v2:Value):g76 v1 v2 K σ->a8 76 [.slice v1.base v1.len v1.cap,v2] K σ:=k8 dq8 Tryz.func76


def dq9:Ann:=(.q (.q .z))
def g77 (v1:j1) (v2:Sl) (v3:j1) (v4:j1) (x5:u4) (K:KH):s9 :=
 A9 (.cells ⟨[.string v1,.slice v2.base v2.len v2.cap,.string v3,.string v4]⟩ 38 (0,0)) (fun b6=>j0 x5 (fun b7 o8=>l4 (s5 b7 o8) kR (fun x9=>l4 (rdA 4 b6 0) (.one (.agg [.str,.slc,.str,.str])) (fun(x10:j1) (x11:Sl) (x12:j1) (x13:j1)=>y6 Tryz.prog x9 [.agg ⟨[.string x10,.slice x11.base x11.len x11.cap,.string x12,.string x13]⟩] kB (fun x14=>K (.bool (!x14)))))))
theorem c77 (v1:j1) (v2:Sl) (v3:j1) (v4:j1) (x5:u4):g77 v1 v2 v3 v4 x5 K σ->a8 77 [.agg ⟨[.string v1,.slice v2.base v2.len v2.cap,.string v3,.string v4]⟩,.pointer x5] K σ:=k8 dq9 Tryz.func77


def dr0:Ann:=(.q (.n (.q (.blk (.loop [(0,.l),(1,.w),(7,.i),(8,.i)] (.q (.n (.cond .z .z) (.n (.blk (.q (.q (.h)))) .r)))))) (.q .z)))
def g78 (v1:Sl) (v2:Value) (K:KH):s9 :=
 l9 [.sc .slc,.sc .raw,.sc (.int .i64),.sc (.int .i64)] (fun(R3:Sl->Value->Int->Int->s9)=>(fun(v4:Sl) (v5:Value) (x6:Int) (x7:Int)=>l8 (decide ((x7:Int)<x6)) (j0 v4.base (fun b8 o9=>w6 (0<=x7/\x7<((v4.len:Nat):Int)) (l4 (s5 b8 (o9+x7.toNat * 1)) kS (fun(x10:j1)=>y6 Tryz.prog v5 [.string x10] kB (fun x11=>l8 x11 (K (.int .i64 x7)) (R3 v4 v5 x6 (IntKind.i64.wrap (x7+1))))))))
 (K (.int .i64 (-1))))) (fun(R12:Sl->Value->Int->Int->s9)=>R12 v1 v2 ((v1.len:Nat):Int) 0)
theorem c78 (v1:Sl) (v2:Value):g78 v1 v2 K σ->a8 78 [.slice v1.base v1.len v1.cap,v2] K σ:=k8 dr0 Tryz.func78


def dr1:Ann:=(.q (.q .z))
def g80 (v1:j1) (K:KH):s9 :=
 M7 Tryz.prog (convert 9 36 (.string v1)) kL (fun x2=>A9 (.cells ⟨[.slice x2.base x2.len x2.cap,.bool false]⟩ 149 (0,0)) (fun b3=>K (.pointer (some ⟨b3,0,none⟩))))
theorem c80 (v1:j1):g80 v1 K σ->a8 80 [.string v1] K σ:=k8 dr1 Tryz.func80


def dr2:Ann:=(.q (.q (.n (.q (.h)) (.q .z))))
def g82 (v1:u4) (K:KH):s9 :=
 d8 122 [.pointer v1] (.one (.sc (.int .u64))) (fun(x2:Int)=>A9 (.cells ⟨[.int .u64 0]⟩ 138 (0,0)) (fun b3=>t8 138 (.pointer (some ⟨b3,0,none⟩)) (.int .u64 x2) (l4 (s5 b3 0) (.one (.sc (.int .u64))) (fun(x4:Int)=>l8 ((x4:Int)==0) (K (.string ⟨⟨[]⟩⟩)) (d8 123 [.pointer v1,.func (.func 124) ⟨[]⟩ ⟨[.pointer (some ⟨b3,0,none⟩)]⟩] kL (fun x5 =>
 M7 Tryz.prog (convert 36 9 (.slice x5.base x5.len x5.cap)) kS (fun(x6:j1)=>K (.string x6))))))))
theorem c82 (v1:u4):g82 v1 K σ->a8 82 [.pointer v1] K σ:=k8 dr2 Tryz.func82


def dr3:Ann:=(.q (.q .z))
def g84 (v1:u4) (K:KH):s9 :=
 d8 128 [.pointer v1] kB (fun x2=>l8 x2 (j0 v1 (fun b3 o4=>l4 (s5 b3 o4) kL (fun x5=>K (.bool (((x5.len:Nat):Int)==0))))) (K (.bool false)))
theorem c84 (v1:u4):g84 v1 K σ->a8 84 [.pointer v1] K σ:=k8 dr3 Tryz.func84


def dr4:Ann:=(.q (.q (.n (.q (.blk (.loop [(0,.s),(3,.sc .map),(9,.i),(10,.i)] (.q (.n (.cond .z .z) (.n (.blk (.q (.q (.q (.h))))) .r)))))) (.q .z))))
def g85 (v1:j1) (K:KH):s9 :=
 d8 129 [] kM (fun(x2:Option Nat)=>l9 [.sc .str,.sc .map,.sc (.int .i64),.sc (.int .i64)] (fun(R3:j1->Option Nat->Int->Int->s9)=>(fun(v4:j1) (v5:Option Nat) (x6:Int) (x7:Int)=>l8 (decide ((x7:Int)<x6)) (B2 v4 x7 (fun c8=>l4 (rdM (.int .u8) (.int .i64 0) true v5 (.int .u8 (c8.toNat:Int))) (.tup [.sc (.int .i64),.sc .bool]) (fun(_x9:Int) (x10:Bool)=>l8 (!x10) (K (.bool false))
 (R3 v4 v5 x6 (IntKind.i64.wrap (x7+1)))))) (K (.bool (((v4.size:Nat):Int)==32))))) (fun(R11:j1->Option Nat->Int->Int->s9)=>R11 v1 x2 ((v1.size:Nat):Int) 0))
theorem c85 (v1:j1):g85 v1 K σ->a8 85 [.string v1] K σ:=k8 dr4 Tryz.func85


def dr5:Ann:=(.q (.cond (.q .r) .z))
def g86 (v1:j1) (x2:u4) (x3:u4) (K:KH):s9 :=
 j0 x2 (fun b4 o5=>l4 (s5 b4 o5) kM (fun(x6:Option Nat)=>l4 (rdM .string (.int .i64 0) false x6 (.string v1)) kI (fun(x7:Int)=>l8 (decide ((x7:Int)>0)) (j0 x3 (fun b8 o9=>l4 (s5 b8 o9) kL (fun x10=>A9 (.cells ⟨[.string v1]⟩ 9 (0,0)) (fun b11=>Q4 .append #[23,23] 23 [false,false] [.slice x10.base x10.len x10.cap,.slice (some ⟨b11,0,none⟩) 1 1] kL (fun x12 =>
 t8 23 (.pointer x3) (.slice x12.base x12.len x12.cap) (j0 x2 (fun b13 o14=>l4 (s5 b13 o14) kM (fun(x15:Option Nat)=>Q4 .delete #[39,9] 0 [false,false] [.map x15,.string v1] kU (K (.tuple ⟨[]⟩)))))))))) (K (.tuple ⟨[]⟩)))))
theorem c86 (v1:j1) (x2:u4) (x3:u4):g86 v1 x2 x3 K σ->a8 86 [.string v1,.pointer x2,.pointer x3] K σ:=k8 dr5 Tryz.func86


def dr6:Ann:=(.q (.q .z))
def g87 (v1:j1) (v2:Int) (v3:Bool) (v4:j1) (v5:Sl) (K:KH):s9 :=
 A9 (.cells ⟨[.string v1,.int .i64 v2,.bool v3,.string v4,.slice v5.base v5.len v5.cap]⟩ 75 (0,0)) (fun b6=>K (.func (.func 130) ⟨[]⟩ ⟨[.pointer (some ⟨b6,0,none⟩)]⟩))
theorem c87 (v1:j1) (v2:Int) (v3:Bool) (v4:j1) (v5:Sl):g87 v1 v2 v3 v4 v5 K σ->a8 87 [.agg ⟨[.string v1,.int .i64 v2,.bool v3,.string v4,.slice v5.base v5.len v5.cap]⟩] K σ:=k8 dr6 Tryz.func87


def dr7:Ann:=(.q (.q (.n (.q (.h)) (.n (.reg [0,1,3,4,2,5,6,7,8,9] [[],[0],[0,1],[],[3],(rn 5),(rn 6),(rn 6),(rn 8),(rn 9)]) .z))))
def g89 (v1:j1) (v2:Sl) (v3:Sl) (v4:j1) (K:KH):s9 :=
 A9 (.cells ⟨[.string v1,.slice v2.base v2.len v2.cap,.slice v3.base v3.len v3.cap,.string v4]⟩ 113 (0,0)) (fun b5=>l4 (rdA 4 b5 0) (.one (.agg [.str,.slc,.slc,.str])) (fun(x6:j1) (x7:Sl) (x8:Sl) (x9:j1)=>d8 140 [.agg ⟨[.string x6,.slice x7.base x7.len x7.cap,.slice x8.base x8.len x8.cap,.string x9]⟩] (.tup [.sc .str,.sc (.int .i64)]) (fun(x10:j1) (x11:Int)=>l8 ((x11:Int) != 0)
 (K (.tuple ⟨[.string ⟨⟨[]⟩⟩,.int .i64 x11]⟩)) (w6 ((⟨⟨[100,114,118,58]⟩⟩:j1).size+x10.size<=9223372036854775807) (l4 (s5 b5 0) kS (fun(x12:j1)=>d8 75 [.string ((⟨⟨[100,114,118,58]⟩⟩:j1)++x10)] kS (fun(x13:j1)=>A2 (fun σ=>(s5 b5 0) σ=some (.string x12)) (d8 74 [.string x13,.string x12] (.tup [.sc .str,.sc (.int .i64)]) (fun(x14:j1) (x15:Int) =>
 K (.tuple ⟨[.string x14,.int .i64 x15]⟩))))))))))
theorem c89 (v1:j1) (v2:Sl) (v3:Sl) (v4:j1):g89 v1 v2 v3 v4 K σ->a8 89 [.agg ⟨[.string v1,.slice v2.base v2.len v2.cap,.slice v3.base v3.len v3.cap,.string v4]⟩] K σ:=k8 dr7 Tryz.func89


def dr8:Ann:=(.q (.q (.n (.q (.cond (.q (.q .z)) .z)) (.q (.q (.q .z))))))
def g90 (v1:u4) (K:KH):s9 :=
 d8 141 [.pointer v1] (.one (.sc (.int .u64))) (fun(x2:Int)=>j0 v1 (fun b3 o4=>l4 (s5 b3 o4) kS (fun(x5:j1)=>l8 (decide ((x2:Int)>(IntKind.u64.wrap ((x5.size:Nat):Int)))) (d8 142 [.pointer v1] kU (K (.string ⟨⟨[]⟩⟩))) (j0 v1 (fun b6 o7=>l4 (s5 b6 o7) kS (fun(x8:j1)=>w6 (A1 (some x2) x8.size/\A1 none (x2.toNat)) (j0 v1 (fun b9 o10=>l4 (s5 b9 o10) kS (fun(x11:j1) =>
 w6 (A1 none x11.size/\A1 (some x2) (x11.size)) (j0 v1 (fun b12 o13=>t8 9 (.pointer (some ⟨b12,o13,none⟩)) (.string (x11.extract x2.toNat x11.size)) (K (.string (x8.extract 0 x2.toNat))))))))))))))
theorem c90 (v1:u4):g90 v1 K σ->a8 90 [.pointer v1] K σ:=k8 dr8 Tryz.func90


def dr9:Ann:=(.q (.q (.n (.q (.blk (.q (.cond (.q (.q (.q (.n (.reg (rn 9) [[],[],[1],[1,2],[1,2,3],[1,2,3,4],[1,2,3,4,5],(rn 6),(rn 8)]) .z)))) (.q (.cond (.q (.n (.reg (rn 5) [[],[],[1],[0,1,2],(rn 4)]) .z)) (.q (.cond (.q (.n (.seq (some [(0,.p),(1,.i),(4,.p),(6,.p),(8,.sc (.int .u64)),(59,.b)]) .r (.h)) (.n (.q (.blk (.loop [(0,.p),(1,.i),(4,.p),(6,.p),(8,.sc (.int .u64)),(9,.sc (.int .u64))] (.n (.q (.cond .z .z)) (.n (.blk (.q (.q (.n (.q (.h)) (.q .r))))) .r))))) (.n (.reg (rn 5) [[],[],[1],[0,1,2],(rn 4)]) .z)))) .z)))))))) (.q .z))))
def g91 (v1:u4) (v2:Int) (K:KH):s9 :=
 A9 (.cells ⟨[.string ⟨⟨[]⟩⟩,.int .i64 0,.bool false,.string ⟨⟨[]⟩⟩,.slice none 0 0]⟩ 75 (0,0)) (fun b3=>d8 141 [.pointer v1] (.one (.sc (.int .u64))) (fun(x4:Int)=>w6 ((1000:Int)≠0) (A9 (.cells ⟨[.string ⟨⟨[]⟩⟩,.int .i64 0,.bool false,.string ⟨⟨[]⟩⟩,.slice none 0 0]⟩ 75 (0,0)) (fun b5 =>
 t8 75 (.pointer (some ⟨b5,0,none⟩)) (.agg ⟨[.string ⟨⟨[]⟩⟩,.int .i64 (IntKind.i64.wrap (Int.tmod x4 1000)),.bool false,.string ⟨⟨[]⟩⟩,.slice none 0 0]⟩) (l4 (s5 b5 1) kI (fun(x6:Int)=>l8 ((x6:Int)==1) (d8 141 [.pointer v1] (.one (.sc (.int .u64))) (fun(x7:Int)=>t8 4 (.pointer (some ⟨b5,2,none⟩)) (.bool ((x7:Int)==1)) (d8 90 [.pointer v1] kS (fun(x8:j1) =>
 t8 9 (.pointer (some ⟨b5,3,none⟩)) (.string x8) (l4 (rdA 5 b5 0) (.one (.agg [.str,(.int .i64),.bool,.str,.slc])) (fun(x9:j1) (x10:Int) (x11:Bool) (x12:j1) (x13:Sl)=>l8 (decide ((x7:Int)<=1)) (d8 143 [.pointer v1] kB (fun x14=>A2 (fun σ=>(rdA 5 b5 0) σ=some (.agg ⟨[.string x9,.int .i64 x10,.bool x11,.string x12,.slice x13.base x13.len x13.cap]⟩))
 (t8 75 (.pointer (some ⟨b3,0,none⟩)) (.agg ⟨[.string x9,.int .i64 x10,.bool x11,.string x12,.slice x13.base x13.len x13.cap]⟩) (l4 (rdA 5 b3 0) (.one (.agg [.str,(.int .i64),.bool,.str,.slc])) (fun(r15:j1) (r16:Int) (r17:Bool) (r18:j1) (r19:Sl)=>K (.tuple ⟨[.agg ⟨[.string r15,.int .i64 r16,.bool r17,.string r18,.slice r19.base r19.len r19.cap]⟩,.bool x14]⟩))))))
 (t8 75 (.pointer (some ⟨b3,0,none⟩)) (.agg ⟨[.string x9,.int .i64 x10,.bool x11,.string x12,.slice x13.base x13.len x13.cap]⟩) (l4 (rdA 5 b3 0) (.one (.agg [.str,(.int .i64),.bool,.str,.slc])) (fun(r20:j1) (r21:Int) (r22:Bool) (r23:j1) (r24:Sl)=>K (.tuple ⟨[.agg ⟨[.string r20,.int .i64 r21,.bool r22,.string r23,.slice r24.base r24.len r24.cap]⟩,.bool false]⟩)))))))))) (l8 ((x6:Int)==3)
 (d8 90 [.pointer v1] kS (fun(x25:j1)=>t8 9 (.pointer (some ⟨b5,3,none⟩)) (.string x25) (l4 (rdA 5 b5 0) (.one (.agg [.str,(.int .i64),.bool,.str,.slc])) (fun(x26:j1) (x27:Int) (x28:Bool) (x29:j1) (x30:Sl)=>d8 143 [.pointer v1] kB (fun x31=>A2 (fun σ=>(rdA 5 b5 0) σ=some (.agg ⟨[.string x26,.int .i64 x27,.bool x28,.string x29,.slice x30.base x30.len x30.cap]⟩))
 (t8 75 (.pointer (some ⟨b3,0,none⟩)) (.agg ⟨[.string x26,.int .i64 x27,.bool x28,.string x29,.slice x30.base x30.len x30.cap]⟩) (l4 (rdA 5 b3 0) (.one (.agg [.str,(.int .i64),.bool,.str,.slc])) (fun(r32:j1) (r33:Int) (r34:Bool) (r35:j1) (r36:Sl)=>K (.tuple ⟨[.agg ⟨[.string r32,.int .i64 r33,.bool r34,.string r35,.slice r36.base r36.len r36.cap]⟩,.bool x31]⟩))))))))) (l8 ((x6:Int)==2)
 (d8 141 [.pointer v1] (.one (.sc (.int .u64))) (fun(x37:Int)=>w9 (T:=u4->Int->u4->u4->Int->Bool->s9) (fun v39 v40 x41 v42 v43 x44=>l8 x44 (j0 v42 (fun b45 o46=>l4 (rdA 5 b45 o46) (.one (.agg [.str,(.int .i64),.bool,.str,.slc])) (fun(x47:j1) (x48:Int) (x49:Bool) (x50:j1) (x51:Sl) =>
 t8 75 (.pointer x41) (.agg ⟨[.string x47,.int .i64 x48,.bool x49,.string x50,.slice x51.base x51.len x51.cap]⟩) (j0 x41 (fun b52 o53=>l4 (rdA 5 b52 o53) (.one (.agg [.str,(.int .i64),.bool,.str,.slc])) (fun(r54:j1) (r55:Int) (r56:Bool) (r57:j1) (r58:Sl)=>K (.tuple ⟨[.agg ⟨[.string r54,.int .i64 r55,.bool r56,.string r57,.slice r58.base r58.len r58.cap]⟩,.bool false]⟩)))))))
 (l9 [.sc .ptr,.sc (.int .i64),.sc .ptr,.sc .ptr,.sc (.int .u64),.sc (.int .u64)] (fun(R59:u4->Int->u4->u4->Int->Int->s9)=>(fun(v60:u4) (v61:Int) (x62:u4) (v63:u4) (v64:Int) (v65:Int)=>l8 (decide ((v65:Int)<v64)) (d8 90 [.pointer v60] kS (fun(x66:j1) =>
 d8 91 [.pointer v60,.int .i64 (IntKind.i64.wrap (v61 - 1))] (.tup [.agg [.str,(.int .i64),.bool,.str,.slc],.sc .bool]) (fun(x67:j1) (x68:Int) (x69:Bool) (x70:j1) (x71:Sl) (x72:Bool)=>A9 (.cells ⟨[.string ⟨⟨[]⟩⟩,.int .i64 0,.bool false,.string ⟨⟨[]⟩⟩,.slice none 0 0]⟩ 75 (0,0)) (fun b73 =>
 t8 75 (.pointer (some ⟨b73,0,none⟩)) (.agg ⟨[.string x67,.int .i64 x68,.bool x69,.string x70,.slice x71.base x71.len x71.cap]⟩) (l8 (!x72) (j0 v63 (fun b74 o75=>l4 (rdA 5 b74 o75) (.one (.agg [.str,(.int .i64),.bool,.str,.slc])) (fun(x76:j1) (x77:Int) (x78:Bool) (x79:j1) (x80:Sl)=>t8 75 (.pointer x62) (.agg ⟨[.string x76,.int .i64 x77,.bool x78,.string x79,.slice x80.base x80.len x80.cap]⟩) (j0 x62 (fun b81 o82 =>
 l4 (rdA 5 b81 o82) (.one (.agg [.str,(.int .i64),.bool,.str,.slc])) (fun(r83:j1) (r84:Int) (r85:Bool) (r86:j1) (r87:Sl)=>K (.tuple ⟨[.agg ⟨[.string r83,.int .i64 r84,.bool r85,.string r86,.slice r87.base r87.len r87.cap]⟩,.bool false]⟩))))))) (t8 9 (.pointer (some ⟨b73,0,none⟩)) (.string x66) (j0 v63 (fun b88 o89=>l4 (s5 b88 (o89+4)) kL (fun x90 =>
 l4 (rdA 5 b73 0) (.one (.agg [.str,(.int .i64),.bool,.str,.slc])) (fun(x91:j1) (x92:Int) (x93:Bool) (x94:j1) (x95:Sl)=>A9 (.cells ⟨[.string x91,.int .i64 x92,.bool x93,.string x94,.slice x95.base x95.len x95.cap]⟩ 75 (0,0)) (fun b96=>Q4 .append #[73,73] 73 [false,false] [.slice x90.base x90.len x90.cap,.slice (some ⟨b96,0,none⟩) 1 1] kL (fun x97=>j0 v63 (fun b98 o99 =>
 t8 73 (.pointer (some ⟨b98,o99+4,none⟩)) (.slice x97.base x97.len x97.cap) (R59 v60 v61 x62 v63 v64 (IntKind.u64.wrap (v65+1)))))))))))))))) (j0 v63 (fun b100 o101=>l4 (rdA 5 b100 o101) (.one (.agg [.str,(.int .i64),.bool,.str,.slc])) (fun(x102:j1) (x103:Int) (x104:Bool) (x105:j1) (x106:Sl)=>d8 143 [.pointer v60] kB (fun x107 =>
 A2 (fun σ=>(rdA 5 b100 o101) σ=some (.agg ⟨[.string x102,.int .i64 x103,.bool x104,.string x105,.slice x106.base x106.len x106.cap]⟩)) (t8 75 (.pointer x62) (.agg ⟨[.string x102,.int .i64 x103,.bool x104,.string x105,.slice x106.base x106.len x106.cap]⟩) (j0 x62 (fun b108 o109=>l4 (rdA 5 b108 o109) (.one (.agg [.str,(.int .i64),.bool,.str,.slc])) (fun(r110:j1) (r111:Int) (r112:Bool) (r113:j1) (r114:Sl) =>
 K (.tuple ⟨[.agg ⟨[.string r110,.int .i64 r111,.bool r112,.string r113,.slice r114.base r114.len r114.cap]⟩,.bool x107]⟩))))))))))) (fun(R115:u4->Int->u4->u4->Int->Int->s9)=>R115 v39 v40 x41 v42 v43 0))) (fun j38=>l8 ((v2:Int)==0) (j38 v1 v2 (some ⟨b3,0,none⟩) (some ⟨b5,0,none⟩) x37 true) (l8 (decide ((x37:Int)>2000)) (j38 v1 v2 (some ⟨b3,0,none⟩) (some ⟨b5,0,none⟩) x37 true)
 (d8 143 [.pointer v1] kB (fun x116=>j38 v1 v2 (some ⟨b3,0,none⟩) (some ⟨b5,0,none⟩) x37 (!x116))))))) (l4 (rdA 5 b5 0) (.one (.agg [.str,(.int .i64),.bool,.str,.slc])) (fun(x117:j1) (x118:Int) (x119:Bool) (x120:j1) (x121:Sl) =>
 t8 75 (.pointer (some ⟨b3,0,none⟩)) (.agg ⟨[.string x117,.int .i64 x118,.bool x119,.string x120,.slice x121.base x121.len x121.cap]⟩) (l4 (rdA 5 b3 0) (.one (.agg [.str,(.int .i64),.bool,.str,.slc])) (fun(r122:j1) (r123:Int) (r124:Bool) (r125:j1) (r126:Sl)=>K (.tuple ⟨[.agg ⟨[.string r122,.int .i64 r123,.bool r124,.string r125,.slice r126.base r126.len r126.cap]⟩,.bool false]⟩)))))))))))))
theorem c91 (v1:u4) (v2:Int):g91 v1 v2 K σ->a8 91 [.pointer v1,.int .i64 v2] K σ:=k8 dr9 Tryz.func91


def ds1:Ann:=(.q (.q .z))
def g92 (v1:u4) (K:KH):s9 :=
 j0 v1 (fun b2 o3=>l4 (s5 b2 (o3+1)) kB (fun x4=>l8 (!x4) (j0 v1 (fun b5 o6=>l4 (s5 b5 o6) kS (fun(x7:j1)=>K (.bool (B8 x7 (⟨⟨[]⟩⟩:j1)))))) (K (.bool false))))
theorem c92 (v1:u4):g92 v1 K σ->a8 92 [.pointer v1] K σ:=k8 ds1 Tryz.func92


def ds3:Ann:=(.q (.n (.q (.h)) (.n (.seq (some [(1,.p),(15,.b)]) .r (.h)) (.q (.n (.seq (some [(26,.b)]) .r (.h)) (.q .z))))))
def g93 (v1:j1) (v2:Int) (v3:Bool) (v4:j1) (v5:Sl) (K:KH):s9 :=
 A9 (.cells ⟨[.string v1,.int .i64 v2,.bool v3,.string v4,.slice v5.base v5.len v5.cap]⟩ 75 (0,0)) (fun b6=>l4 (rdA 5 b6 0) (.one (.agg [.str,(.int .i64),.bool,.str,.slc])) (fun(x7:j1) (x8:Int) (x9:Bool) (x10:j1) (x11:Sl)=>d8 144 [.agg ⟨[.string x7,.int .i64 x8,.bool x9,.string x10,.slice x11.base x11.len x11.cap]⟩] kI (fun(x12:Int)=>l8 (decide ((x12:Int)>12)) (K (.int .i64 3))
 (w9 (T:=u4->Bool->s9) (fun v14 x15=>l8 x15 (K (.int .i64 2)) (j0 v14 (fun b16 o17=>l4 (rdA 5 b16 o17) (.one (.agg [.str,(.int .i64),.bool,.str,.slc])) (fun(x18:j1) (x19:Int) (x20:Bool) (x21:j1) (x22:Sl)=>d8 146 [.agg ⟨[.string x18,.int .i64 x19,.bool x20,.string x21,.slice x22.base x22.len x22.cap]⟩] (.tup [.sc (.int .i64),.sc (.int .i64)]) (fun(x23:Int) (x24:Int)=>w9 (T:=Bool->s9) (fun x26 =>
 l8 x26 (K (.int .i64 3)) (K (.int .i64 0))) (fun j25=>l8 (decide ((x23:Int)>2000)) (j25 true) (j25 (decide ((x24:Int)>100000))))))))) (fun j13=>l4 (s5 b6 0) kS (fun(x27:j1)=>l8 (!B8 x27 (⟨⟨[]⟩⟩:j1)) (j13 (some ⟨b6,0,none⟩) true) (l4 (rdA 5 b6 0) (.one (.agg [.str,(.int .i64),.bool,.str,.slc])) (fun(x28:j1) (x29:Int) (x30:Bool) (x31:j1) (x32:Sl) =>
 d8 145 [.agg ⟨[.string x28,.int .i64 x29,.bool x30,.string x31,.slice x32.base x32.len x32.cap]⟩] kB (fun x33=>j13 (some ⟨b6,0,none⟩) (!x33))))))))))
theorem c93 (v1:j1) (v2:Int) (v3:Bool) (v4:j1) (v5:Sl):g93 v1 v2 v3 v4 v5 K σ->a8 93 [.agg ⟨[.string v1,.int .i64 v2,.bool v3,.string v4,.slice v5.base v5.len v5.cap]⟩] K σ:=k8 ds3 Tryz.func93


def ds4:Ann:=(.q (.q (.n (.q (.blk (.q (.cond (.q (.seq (some [(0,.s),(3,.p),(5,.sc (.int .u64))]) (.q (.cond .r .z)) (.n (.reg [0,1,3,4,2,5,6] [[],[],[0,1],[],[3],(rn 5),(rn 6)]) .z))) (.q (.h)))))) (.q (.n (.q (.blk (.loop [(0,.s),(3,.p),(6,.i)] (.n (.q (.cond .z .z)) (.n (.blk (.reg [0,1,2,3,4,5,6,8,9,10,11,12,7,13,14] [[],[],[1],[],[1,2,3],[1,2,3,4],[1,2,3,4,5],(rn 7),[],[8],[],[8,9,10],[8,9,10,11],(rn 13),(rn 14)])) .r))))) (.q .z))))))
def g94 (v1:j1) (v2:j1) (v3:Int) (v4:Bool) (v5:j1) (v6:Sl) (K:KH):s9 :=
 A9 (.cells ⟨[.string v2,.int .i64 v3,.bool v4,.string v5,.slice v6.base v6.len v6.cap]⟩ 75 (0,0)) (fun b7=>l4 (s5 b7 1) kI (fun(x8:Int)=>d8 147 [.string v1,.int .u64 (IntKind.u64.wrap x8)] kS (fun(x9:j1)=>l4 (s5 b7 1) kI (fun(x10:Int)=>l8 ((x10:Int)==1) (w9 (T:=j1->u4->Int->s9) (fun v12 v13 v14=>j0 v13 (fun b15 o16=>l4 (s5 b15 (o16+3)) kS (fun(x17:j1) =>
 d8 147 [.string v12,.int .u64 v14] kS (fun(x18:j1)=>A2 (fun σ=>(s5 b15 (o16+3)) σ=some (.string x17)) (d8 95 [.string x18,.string x17] kS (fun(x19:j1)=>K (.string x19))))))) (fun j11=>l4 (s5 b7 2) kB (fun x20=>l8 x20 (j11 x9 (some ⟨b7,0,none⟩) 1) (j11 x9 (some ⟨b7,0,none⟩) 0)))) (l8 ((x10:Int)==3) (l4 (s5 b7 3) kS (fun(x21:j1) =>
 d8 95 [.string x9,.string x21] kS (fun(x22:j1)=>K (.string x22)))) (l4 (s5 b7 4) kL (fun x23=>d8 147 [.string x9,.int .u64 (IntKind.u64.wrap ((x23.len:Nat):Int))] kS (fun(x24:j1)=>l9 [.sc .str,.sc .ptr,.sc (.int .i64)] (fun(R25:j1->u4->Int->s9)=>(fun(v26:j1) (v27:u4) (v28:Int)=>j0 v27 (fun b29 o30=>l4 (s5 b29 (o30+4)) kL (fun x31 =>
 l8 (decide ((v28:Int)<((x31.len:Nat):Int))) (j0 v27 (fun b32 o33=>l4 (s5 b32 (o33+4)) kL (fun x34=>j0 x34.base (fun b35 o36=>w6 (0<=v28/\v28<((x34.len:Nat):Int)) (l4 (s5 b35 (o36+v28.toNat * 5)) kS (fun(x37:j1)=>j0 v27 (fun b38 o39=>l4 (s5 b38 (o39+4)) kL (fun x40=>j0 x40.base (fun b41 o42=>w6 (0<=v28/\v28<((x40.len:Nat):Int))
 (l4 (rdA 5 b41 (o42+v28.toNat * 5)) (.one (.agg [.str,(.int .i64),.bool,.str,.slc])) (fun(x43:j1) (x44:Int) (x45:Bool) (x46:j1) (x47:Sl)=>d8 95 [.string v26,.string x37] kS (fun(x48:j1)=>A2 (fun σ=>(rdA 5 b41 (o42+v28.toNat * 5)) σ=some (.agg ⟨[.string x43,.int .i64 x44,.bool x45,.string x46,.slice x47.base x47.len x47.cap]⟩)) (A2 (fun σ=>(s5 b38 (o39+4)) σ=some (.slice x40.base x40.len x40.cap))
 (d8 94 [.string x48,.agg ⟨[.string x43,.int .i64 x44,.bool x45,.string x46,.slice x47.base x47.len x47.cap]⟩] kS (fun(x49:j1)=>R25 x49 v27 (IntKind.i64.wrap (v28+1))))))))))))))))) (K (.string v26)))))) (fun(R50:j1->u4->Int->s9)=>R50 x24 (some ⟨b7,0,none⟩) 0)))))))))
theorem c94 (v1:j1) (v2:j1) (v3:Int) (v4:Bool) (v5:j1) (v6:Sl):g94 v1 v2 v3 v4 v5 v6 K σ->a8 94 [.string v1,.agg ⟨[.string v2,.int .i64 v3,.bool v4,.string v5,.slice v6.base v6.len v6.cap]⟩] K σ:=k8 ds4 Tryz.func94


def ds5:Ann:=(.q (.q .z))
def g95 (v1:j1) (v2:j1) (K:KH):s9 :=
 d8 147 [.string v1,.int .u64 (IntKind.u64.wrap ((v2.size:Nat):Int))] kS (fun(x3:j1)=>w6 (x3.size+v2.size<=9223372036854775807) (K (.string (x3++v2))))
theorem c95 (v1:j1) (v2:j1):g95 v1 v2 K σ->a8 95 [.string v1,.string v2] K σ:=k8 ds5 Tryz.func95


def ds6:Ann:=(.q (.n (.q (.blk (.loop [(0,.s),(3,.i)] (.n (.q (.cond .z .z)) (.n (.blk (.n (.reg (rn 6) [[],[],[0,1],[],(rn 4),(rn 5)]) (.h))) .r))))) (.q .z)))
def g96 (v1:j1) (K:KH):s9 :=
 l9 [.sc .str,.sc (.int .i64)] (fun(R2:j1->Int->s9)=>(fun(v3:j1) (v4:Int)=>l8 (decide ((v4:Int)<((v3.size:Nat):Int))) (B2 v3 v4 (fun c5=>d8 149 [] kS (fun(x6:j1)=>d8 148 [.int .u8 (c5.toNat:Int),.string x6] kB (fun x7=>l8 (!x7) (K (.bool false)) (R2 v3 (IntKind.i64.wrap (v4+1)))))))
 (K (.bool (((v3.size:Nat):Int)==32))))) (fun(R8:j1->Int->s9)=>R8 v1 0)
theorem c96 (v1:j1):g96 v1 K σ->a8 96 [.string v1] K σ:=k8 ds6 Tryz.func96


def ds7:Ann:=(.q (.n (.q (.h)) (.n (.q (.blk (.loop [(0,.s),(3,.i)] (.n (.q (.cond .z .z)) (.n (.blk (.q (.seq (some [(0,.s),(3,.i),(43,.b)]) .r (.h)))) .r))))) (.n (.seq (some [(50,.b)]) .r (.h)) (.q .z)))))
def g97 (v1:j1) (K:KH):s9 :=
 l8 (decide (((v1.size:Nat):Int)>20)) (K (.int .i64 3)) (l9 [.sc .str,.sc (.int .i64)] (fun(R2:j1->Int->s9)=>(fun(v3:j1) (v4:Int)=>l8 (decide ((v4:Int)<((v3.size:Nat):Int))) (B2 v3 v4 (fun c5=>w9 (T:=j1->Int->Bool->s9) (fun v7 v8 x9=>l8 x9 (K (.int .i64 2)) (R2 v7 (IntKind.i64.wrap (v8+1)))) (fun j6=>l8 (decide ((c5.toNat:Int)>=97))
 (l8 (decide ((c5.toNat:Int)<=122)) (j6 v3 v4 false) (l8 (decide ((c5.toNat:Int)>=65)) (l8 (decide ((c5.toNat:Int)<=90)) (j6 v3 v4 false) (l8 (decide ((c5.toNat:Int)>=48)) (l8 (decide ((c5.toNat:Int)<=57)) (j6 v3 v4 false) (d8 148 [.int .u8 (c5.toNat:Int),.string ⟨⟨[43,45,46,95]⟩⟩] kB (fun x10=>j6 v3 v4 (!x10))))
 (d8 148 [.int .u8 (c5.toNat:Int),.string ⟨⟨[43,45,46,95]⟩⟩] kB (fun x11=>j6 v3 v4 (!x11))))) (l8 (decide ((c5.toNat:Int)>=48)) (l8 (decide ((c5.toNat:Int)<=57)) (j6 v3 v4 false) (d8 148 [.int .u8 (c5.toNat:Int),.string ⟨⟨[43,45,46,95]⟩⟩] kB (fun x12=>j6 v3 v4 (!x12)))) (d8 148 [.int .u8 (c5.toNat:Int),.string ⟨⟨[43,45,46,95]⟩⟩] kB (fun x13 =>
 j6 v3 v4 (!x13)))))) (l8 (decide ((c5.toNat:Int)>=65)) (l8 (decide ((c5.toNat:Int)<=90)) (j6 v3 v4 false) (l8 (decide ((c5.toNat:Int)>=48)) (l8 (decide ((c5.toNat:Int)<=57)) (j6 v3 v4 false) (d8 148 [.int .u8 (c5.toNat:Int),.string ⟨⟨[43,45,46,95]⟩⟩] kB (fun x14=>j6 v3 v4 (!x14)))) (d8 148 [.int .u8 (c5.toNat:Int),.string ⟨⟨[43,45,46,95]⟩⟩] kB (fun x15 =>
 j6 v3 v4 (!x15))))) (l8 (decide ((c5.toNat:Int)>=48)) (l8 (decide ((c5.toNat:Int)<=57)) (j6 v3 v4 false) (d8 148 [.int .u8 (c5.toNat:Int),.string ⟨⟨[43,45,46,95]⟩⟩] kB (fun x16=>j6 v3 v4 (!x16)))) (d8 148 [.int .u8 (c5.toNat:Int),.string ⟨⟨[43,45,46,95]⟩⟩] kB (fun x17=>j6 v3 v4 (!x17)))))))) (w9 (T:=Bool->s9) (fun x19=>l8 x19 (K (.int .i64 2))
 (K (.int .i64 0))) (fun j18=>l8 (B8 v3 (⟨⟨[]⟩⟩:j1)) (j18 true) (B2 v3 0 (fun c20=>j18 ((c20.toNat:Int)==46))))))) (fun(R21:j1->Int->s9)=>R21 v1 0))
theorem c97 (v1:j1):g97 v1 K σ->a8 97 [.string v1] K σ:=k8 ds7 Tryz.func97


def ds8:Ann:=(.q (.n (.q (.h)) (.n (.q (.blk (.loop [(1,.s),(2,.p),(5,.i)] (.n (.q (.cond .z .z)) (.n (.blk (.q (.h))) .r))))) (.q .z))))
def g98 (v1:j1) (v2:Int) (v3:Bool) (v4:j1) (v5:Sl) (v6:j1) (K:KH):s9 :=
 A9 (.cells ⟨[.string v1,.int .i64 v2,.bool v3,.string v4,.slice v5.base v5.len v5.cap]⟩ 75 (0,0)) (fun b7=>l4 (s5 b7 3) kS (fun(x8:j1)=>d8 150 [.string v6,.string x8] kB (fun x9=>l8 x9 (K (.bool true)) (l9 [.sc .str,.sc .ptr,.sc (.int .i64)] (fun(R10:j1->u4->Int->s9)=>(fun(v11:j1) (v12:u4) (v13:Int)=>j0 v12 (fun b14 o15=>l4 (s5 b14 (o15+4)) kL (fun x16 =>
 l8 (decide ((v13:Int)<((x16.len:Nat):Int))) (j0 v12 (fun b17 o18=>l4 (s5 b17 (o18+4)) kL (fun x19=>j0 x19.base (fun b20 o21=>w6 (0<=v13/\v13<((x19.len:Nat):Int)) (l4 (rdA 5 b20 (o21+v13.toNat * 5)) (.one (.agg [.str,(.int .i64),.bool,.str,.slc])) (fun(x22:j1) (x23:Int) (x24:Bool) (x25:j1) (x26:Sl) =>
 d8 98 [.agg ⟨[.string x22,.int .i64 x23,.bool x24,.string x25,.slice x26.base x26.len x26.cap]⟩,.string v11] kB (fun x27=>l8 x27 (K (.bool true)) (R10 v11 v12 (IntKind.i64.wrap (v13+1)))))))))) (K (.bool false)))))) (fun(R28:j1->u4->Int->s9)=>R28 v6 (some ⟨b7,0,none⟩) 0)))))
theorem c98 (v1:j1) (v2:Int) (v3:Bool) (v4:j1) (v5:Sl) (v6:j1):g98 v1 v2 v3 v4 v5 v6 K σ->a8 98 [.agg ⟨[.string v1,.int .i64 v2,.bool v3,.string v4,.slice v5.base v5.len v5.cap]⟩,.string v6] K σ:=k8 ds8 Tryz.func98


def ds9:Ann:=(.q (.q (.n (.q (.h)) (.q (.n (.q (.h)) (.q .z))))))
def g99 (v1:j1) (v2:j1) (K:KH):s9 :=
 d8 97 [.string v2] kI (fun(x3:Int)=>l8 ((x3:Int) != 0) (K (.tuple ⟨[.string ⟨⟨[]⟩⟩,.int .i64 x3]⟩)) (d8 60 [.string v1] (.tup [.agg [.str,(.int .i64),.bool,.str,.slc],.sc (.int .i64)]) (fun(_x4:j1) (_x5:Int) (_x6:Bool) (_x7:j1) (_x8:Sl) (x9:Int)=>l8 ((x9:Int) != 0) (K (.tuple ⟨[.string ⟨⟨[]⟩⟩,.int .i64 x9]⟩))
 (d8 95 [.string ⟨⟨[97,100,100,58]⟩⟩,.string v1] kS (fun(x10:j1)=>d8 95 [.string x10,.string v2] kS (fun(x11:j1)=>d8 152 [.string x11] kS (fun(x12:j1)=>d8 151 [.string x12,.string v2] (.tup [.sc .str,.sc (.int .i64)]) (fun(x13:j1) (x14:Int)=>K (.tuple ⟨[.string x13,.int .i64 x14]⟩)))))))))
theorem c99 (v1:j1) (v2:j1):g99 v1 v2 K σ->a8 99 [.string v1,.string v2] K σ:=k8 ds9 Tryz.func99

end Go.Proofs.YtgfiobhpipollaaGreatDoor

set_option maxRecDepth 100000
namespace Go.Proofs.YtgfiobhpipollaaGreatDoor
open Go Go.HL
variable {K:KH} {σ:H}
def cE0:Ann:=(.q (.q (.q (.q (.blk (.loop [(0,.s),(2,.p),(3,.p),(4,.p),(5,.p),(6,.i)] (.n (.blk (.q (.n (.blk (.loop [(0,.s),(2,.p),(3,.p),(4,.p),(5,.p),(6,.i),(7,.i)] (.n (.seq (some [(0,.s),(2,.p),(3,.p),(4,.p),(5,.p),(6,.i),(7,.i),(21,.b)]) .r (.cond .z .z)) (.blk .r)))) (.q (.seq (some [(0,.s),(2,.p),(3,.p),(4,.p),(5,.p),(6,.i),(7,.i),(8,.i)]) (.seq (some [(0,.s),(2,.p),(3,.p),(4,.p),(5,.p),(6,.i),(7,.i),(8,.i),(36,.b)]) .r (.cond .r .z)) (.n (.q (.h)) (.q (.q (.cond (.n (.q (.h)) (.q (.q .z))) .z))))))))) .r)))))))
def cE1 (v1:j1) (K:KH):s9 :=
 A9 (.cells ⟨[.string ⟨⟨[]⟩⟩,.slice none 0 0,.slice none 0 0,.string ⟨⟨[]⟩⟩]⟩ 113 (0,0)) (fun b2=>A9 (.cells ⟨[.int .i64 0,.int .i64 0]⟩ 127 (0,0)) (fun b3=>A9 (.cells ⟨[.string ⟨⟨[]⟩⟩,.slice none 0 0,.slice none 0 0,.string ⟨⟨[]⟩⟩]⟩ 113 (0,0)) (fun b4 =>
 t8 113 (.pointer (some ⟨b4,0,none⟩)) (.agg ⟨[.string ⟨⟨[]⟩⟩,.slice none 0 0,.slice none 0 0,.string ⟨⟨[]⟩⟩]⟩) (A9 (.cells ⟨[.int .i64 0]⟩ 3 (0,0)) (fun b5 =>
 t8 3 (.pointer (some ⟨b5,0,none⟩)) (.int .i64 0) (l9 [.sc .str,.sc .ptr,.sc .ptr,.sc .ptr,.sc .ptr,.sc (.int .i64)] (fun(R6:j1->u4->u4->u4->u4->Int->s9)=>(fun(v7:j1) (x8:u4) (x9:u4) (v10:u4) (v11:u4) (v12:Int) =>
 l9 [.sc .str,.sc .ptr,.sc .ptr,.sc .ptr,.sc .ptr,.sc (.int .i64),.sc (.int .i64)] (fun(R13:j1->u4->u4->u4->u4->Int->Int->s9)=>(fun(v14:j1) (x15:u4) (x16:u4) (v17:u4) (v18:u4) (v19:Int) (v20:Int)=>w9 (T:=j1->u4->u4->u4->u4->Int->Int->Bool->s9) (fun v22 x23 x24 v25 v26 v27 v28 x29 =>
 l8 x29 (R13 v22 x23 x24 v25 v26 v27 (IntKind.i64.wrap (v28+1))) (w6 (A1 (some v28) v22.size/\A1 none (v28.toNat)) (d8 154 [.string (v22.extract 0 v28.toNat)] kL (fun x30=>d8 153 [.pointer v25,.pointer v26,.slice x30.base x30.len x30.cap] kI (fun(x31:Int)=>w9 (T:=j1->u4->u4->u4->u4->Int->Int->Int->s9) (fun v33 x34 x35 v36 v37 v38 v39 v40 =>
 l8 ((v40:Int) != 0) (t8 113 (.pointer x34) (.agg ⟨[.string ⟨⟨[]⟩⟩,.slice none 0 0,.slice none 0 0,.string ⟨⟨[]⟩⟩]⟩) (t8 127 (.pointer x35) (.agg ⟨[.int .i64 v40,.int .i64 v38]⟩) (j0 x34 (fun b41 o42=>l4 (rdA 4 b41 o42) (.one (.agg [.str,.slc,.slc,.str])) (fun(r43:j1) (r44:Sl) (r45:Sl) (r46:j1)=>j0 x35 (fun b47 o48 =>
 l4 (rdA 2 b47 o48) (.one (.agg [(.int .i64),(.int .i64)])) (fun(r49:Int) (r50:Int)=>K (.tuple ⟨[.agg ⟨[.string r43,.slice r44.base r44.len r44.cap,.slice r45.base r45.len r45.cap,.string r46]⟩,.agg ⟨[.int .i64 r49,.int .i64 r50]⟩]⟩)))))))) (w6 (A1 none v33.size/\A1 (some (IntKind.i64.wrap (v39+1))) (v33.size)) (j0 v37 (fun b51 o52=>l4 (s5 b51 o52) kI (fun(x53:Int)=>l8 ((x53:Int)==3)
 (l8 (decide (((((v33.extract ((IntKind.i64.wrap (v39+1)).toNat) v33.size).size:Nat):Int):Int)>4000)) (t8 113 (.pointer x34) (.agg ⟨[.string ⟨⟨[]⟩⟩,.slice none 0 0,.slice none 0 0,.string ⟨⟨[]⟩⟩]⟩) (t8 127 (.pointer x35) (.agg ⟨[.int .i64 3,.int .i64 (IntKind.i64.wrap (v38+1))]⟩) (j0 x34 (fun b54 o55 =>
 l4 (rdA 4 b54 o55) (.one (.agg [.str,.slc,.slc,.str])) (fun(r56:j1) (r57:Sl) (r58:Sl) (r59:j1)=>j0 x35 (fun b60 o61=>l4 (rdA 2 b60 o61) (.one (.agg [(.int .i64),(.int .i64)])) (fun(r62:Int) (r63:Int)=>K (.tuple ⟨[.agg ⟨[.string r56,.slice r57.base r57.len r57.cap,.slice r58.base r58.len r58.cap,.string r59]⟩,.agg ⟨[.int .i64 r62,.int .i64 r63]⟩]⟩)))))))) (j0 v36 (fun b64 o65 =>
 t8 9 (.pointer (some ⟨b64,o65+3,none⟩)) (.string (v33.extract ((IntKind.i64.wrap (v39+1)).toNat) v33.size)) (j0 v36 (fun b66 o67=>l4 (rdA 4 b66 o67) (.one (.agg [.str,.slc,.slc,.str])) (fun(x68:j1) (x69:Sl) (x70:Sl) (x71:j1) =>
 t8 113 (.pointer x34) (.agg ⟨[.string x68,.slice x69.base x69.len x69.cap,.slice x70.base x70.len x70.cap,.string x71]⟩) (t8 127 (.pointer x35) (.agg ⟨[.int .i64 0,.int .i64 0]⟩) (j0 x34 (fun b72 o73=>l4 (rdA 4 b72 o73) (.one (.agg [.str,.slc,.slc,.str])) (fun(r74:j1) (r75:Sl) (r76:Sl) (r77:j1)=>j0 x35 (fun b78 o79=>l4 (rdA 2 b78 o79) (.one (.agg [(.int .i64),(.int .i64)])) (fun(r80:Int) (r81:Int) =>
 K (.tuple ⟨[.agg ⟨[.string r74,.slice r75.base r75.len r75.cap,.slice r76.base r76.len r76.cap,.string r77]⟩,.agg ⟨[.int .i64 r80,.int .i64 r81]⟩]⟩))))))))))))) (R6 (v33.extract ((IntKind.i64.wrap (v39+1)).toNat) v33.size) x34 x35 v36 v37 (IntKind.i64.wrap (v38+1)))))))) (fun j32=>w9 (T:=j1->u4->u4->u4->u4->Int->Int->Int->Bool->s9) (fun v83 x84 x85 v86 v87 v88 v89 v90 x91=>l8 x91
 (j32 v83 x84 x85 v86 v87 v88 v89 4) (j32 v83 x84 x85 v86 v87 v88 v89 v90)) (fun j82=>l8 ((x31:Int)==0) (j82 v22 x23 x24 v25 v26 v27 v28 x31 ((v28:Int)==((v22.size:Nat):Int))) (j82 v22 x23 x24 v25 v26 v27 v28 x31 false)))))))) (fun j21=>l8 (decide ((v20:Int)<((v14.size:Nat):Int))) (B2 v14 v20 (fun c92=>j21 v14 x15 x16 v17 v18 v19 v20 ((c92.toNat:Int) != 10)))
 (j21 v14 x15 x16 v17 v18 v19 v20 false)))) (fun(R93:j1->u4->u4->u4->u4->Int->Int->s9)=>R93 v7 x8 x9 v10 v11 v12 0))) (fun(R94:j1->u4->u4->u4->u4->Int->s9)=>R94 v1 (some ⟨b2,0,none⟩) (some ⟨b3,0,none⟩) (some ⟨b4,0,none⟩) (some ⟨b5,0,none⟩) 0)))))))
theorem dt0 (v1:j1):cE1 v1 K σ->a8 100 [.string v1] K σ:=k8 cE0 Tryz.func100


def cE2:Ann:=(.q (.q (.n (.q (.h)) (.n (.reg [0,1,3,4,2,5,6,7,8,9] [[],[0],[0,1],[],[3],(rn 5),(rn 6),(rn 6),(rn 8),(rn 9)]) .z))))
def cE3 (v1:j1) (v2:Sl) (v3:Sl) (v4:j1) (K:KH):s9 :=
 A9 (.cells ⟨[.string v1,.slice v2.base v2.len v2.cap,.slice v3.base v3.len v3.cap,.string v4]⟩ 113 (0,0)) (fun b5=>l4 (rdA 4 b5 0) (.one (.agg [.str,.slc,.slc,.str])) (fun(x6:j1) (x7:Sl) (x8:Sl) (x9:j1)=>d8 155 [.agg ⟨[.string x6,.slice x7.base x7.len x7.cap,.slice x8.base x8.len x8.cap,.string x9]⟩] (.tup [.sc .str,.sc (.int .i64)]) (fun(x10:j1) (x11:Int)=>l8 ((x11:Int) != 0)
 (K (.tuple ⟨[.string ⟨⟨[]⟩⟩,.int .i64 x11]⟩)) (w6 ((⟨⟨[100,114,118,58]⟩⟩:j1).size+x10.size<=9223372036854775807) (l4 (s5 b5 0) kS (fun(x12:j1)=>d8 152 [.string ((⟨⟨[100,114,118,58]⟩⟩:j1)++x10)] kS (fun(x13:j1)=>A2 (fun σ=>(s5 b5 0) σ=some (.string x12)) (d8 151 [.string x13,.string x12] (.tup [.sc .str,.sc (.int .i64)]) (fun(x14:j1) (x15:Int) =>
 K (.tuple ⟨[.string x14,.int .i64 x15]⟩))))))))))
theorem dt1 (v1:j1) (v2:Sl) (v3:Sl) (v4:j1):cE3 v1 v2 v3 v4 K σ->a8 101 [.agg ⟨[.string v1,.slice v2.base v2.len v2.cap,.slice v3.base v3.len v3.cap,.string v4]⟩] K σ:=k8 cE2 Tryz.func101


def cE4:Ann:=(.q (.q (.blk (.loop [(0,.l),(1,.i),(2,.i),(3,.i),(8,.b),(9,.b)] (.blk (.q (.n (.q (.h)) (.n (.q (.h)) (.seq (some [(0,.l),(1,.i),(2,.i),(3,.i),(8,.b),(9,.b),(10,.i)]) (.q (.cond (.q .r) .z)) (.q (.seq (some [(0,.l),(1,.i),(2,.i),(3,.i),(8,.b),(9,.b),(10,.i),(11,.i),(12,.i)]) (.q (.cond (.q (.q .r)) .z)) (.seq (some [(0,.l),(1,.i),(2,.i),(3,.i),(8,.b),(9,.b),(10,.i),(11,.i),(63,.w),(66,.w),(67,.w)]) (.seq (some [(0,.l),(1,.i),(2,.i),(3,.i),(8,.b),(9,.b),(10,.i),(11,.i),(63,.w),(66,.w),(67,.w),(68,.b)]) .r (.cond (.q (.cond .z .z)) .z)) (.n (.seq (some [(0,.l),(1,.i),(2,.i),(3,.i),(8,.b),(9,.b),(10,.i),(11,.i),(63,.w),(66,.w),(67,.w),(76,.w),(77,.w),(78,.w),(79,.w),(80,.w),(81,.w),(82,.w),(83,.w),(84,.w),(85,.w),(86,.w),(87,.b)]) (.reg (rn 15) [[],[0],[0,1],[0,1,2],[0,1,2],[0,1,2,4],(rn 6),(rn 7),[0,1,2],[0,1,2],[0,1,2,8,9],[0,1,2,8,9,10],(rn 12),(rn 13),(rn 14)]) (.cond (.q (.q .z)) .z)) (.q (.q (.q (.q (.q (.cond (.q (.q .r)) (.q (.q .r)))))))))))))))))))))
def cr4 (v1:Sl) (v2:Int) (v3:Int) (v4:Int) (K:KH):s9 :=
 l9 [.sc .slc,.sc (.int .i64),.sc (.int .i64),.sc (.int .i64),.sc .bool,.sc .bool] (fun(R5:Sl->Int->Int->Int->Bool->Bool->s9)=>(fun(v6:Sl) (v7:Int) (v8:Int) (v9:Int) (v10:Bool) (v11:Bool)=>l8 (decide (((IntKind.i64.wrap (v8 - v7)):Int)<=12)) (d8 156 [.slice v6.base v6.len v6.cap,.int .i64 v7,.int .i64 v8] kU (K (.tuple ⟨[]⟩))) (l8 ((v9:Int)==0)
 (d8 157 [.slice v6.base v6.len v6.cap,.int .i64 v7,.int .i64 v8] kU (K (.tuple ⟨[]⟩))) (w9 (T:=Sl->Int->Int->Int->Bool->Bool->Int->s9) (fun v13 v14 v15 v16 v17 v18 v19=>d8 159 [.slice v13.base v13.len v13.cap,.int .i64 v14,.int .i64 v15] (.tup [.sc (.int .i64),.sc (.int .i64)]) (fun(x20:Int) (x21:Int) =>
 w9 (T:=Sl->Int->Int->Int->Bool->Bool->Int->Int->Int->s9) (fun v23 v24 v25 v26 v27 v28 v29 v30 v31=>w9 (T:=Sl->Int->Int->Int->Bool->Bool->Int->Int->Value->Value->Value->s9) (fun v33 v34 v35 v36 v37 v38 v39 v40 x41 x42 x43 =>
 w9 (T:=Sl->Int->Int->Int->Bool->Bool->Int->Int->Value->Value->Value->Value->Value->Value->Value->Value->Value->Value->Value->Value->Value->Value->Bool->s9) (fun v45 v46 v47 v48 v49 v50 v51 v52 _x53 _x54 _x55 _x56 _x57 _x58 _x59 _x60 _x61 _x62 _x63 _x64 _x65 _x66 x67=>l8 x67
 (d8 163 [.slice v45.base v45.len v45.cap,.int .i64 v46,.int .i64 v47,.int .i64 v52] kI (fun(x68:Int)=>R5 v45 x68 v47 v48 v49 v50)) (d8 164 [.slice v45.base v45.len v45.cap,.int .i64 v46,.int .i64 v47,.int .i64 v52] (.tup [.sc (.int .i64),.sc .bool]) (fun(x69:Int) (x70:Bool)=>w6 ((8:Int)≠0)
 (l8 (decide (((IntKind.i64.wrap (x69 - v46)):Int)<(IntKind.i64.wrap (v47 - x69)))) (d8 103 [.slice v45.base v45.len v45.cap,.int .i64 v46,.int .i64 x69,.int .i64 v48] kU (R5 v45 (IntKind.i64.wrap (x69+1)) v47 v48 (decide (((IntKind.i64.wrap (x69 - v46)):Int)>=(IntKind.i64.wrap (Int.tdiv v51 8)))) x70))
 (d8 103 [.slice v45.base v45.len v45.cap,.int .i64 (IntKind.i64.wrap (x69+1)),.int .i64 v47,.int .i64 v48] kU (R5 v45 v46 x69 v48 (decide (((IntKind.i64.wrap (v47 - x69)):Int)>=(IntKind.i64.wrap (Int.tdiv v51 8)))) x70)))))) (fun j44=>l8 (decide ((v34:Int)>0)) (j0 v33.base (fun b71 o72=>w6 (0<=IntKind.i64.wrap (v34 - 1)/\IntKind.i64.wrap (v34 - 1)<((v33.len:Nat):Int))
 (l4 (s5 b71 (o72+(IntKind.i64.wrap (v34 - 1):Int).toNat * 1)) kS (fun(x73:j1)=>j0 v33.base (fun b74 o75=>w6 (0<=v40/\v40<((v33.len:Nat):Int)) (l4 (s5 b74 (o75+v40.toNat * 1)) kS (fun(x76:j1)=>d8 162 [.string x73,.string x76] kB (fun x77 =>
 j44 v33 v34 v35 v36 v37 v38 v39 v40 x41 x42 x43 (.slice v33.base v33.len v33.cap) (.int .i64 v34) (.int .i64 (IntKind.i64.wrap (v34 - 1))) (.pointer (some ⟨b71,o72+(IntKind.i64.wrap (v34 - 1):Int).toNat * 1,none⟩)) (.string x73) (.slice v33.base v33.len v33.cap) (.int .i64 v40) (.pointer (some ⟨b74,o75+v40.toNat * 1,none⟩)) (.string x76) (.bool x77) (.bool (!x77)) (!x77)))))))))
 (j44 v33 v34 v35 v36 v37 v38 v39 v40 x41 x42 x43 (.tuple ⟨[]⟩) (.tuple ⟨[]⟩) (.tuple ⟨[]⟩) (.tuple ⟨[]⟩) (.tuple ⟨[]⟩) (.tuple ⟨[]⟩) (.tuple ⟨[]⟩) (.tuple ⟨[]⟩) (.tuple ⟨[]⟩) (.tuple ⟨[]⟩) (.tuple ⟨[]⟩) false))) (fun j32=>w9 (T:=Sl->Int->Int->Int->Bool->Bool->Int->Int->Value->Value->Value->Bool->s9) (fun v79 v80 v81 v82 v83 v84 v85 v86 x87 x88 x89 x90=>l8 x90
 (d8 161 [.slice v79.base v79.len v79.cap,.int .i64 v80,.int .i64 v81] kB (fun x91=>l8 x91 (K (.tuple ⟨[]⟩)) (j32 v79 v80 v81 v82 v83 v84 v85 v86 x87 x88 x89))) (j32 v79 v80 v81 v82 v83 v84 v85 v86 x87 x88 x89)) (fun j78=>l8 v27 (l8 v28
 (j78 v23 v24 v25 v26 v27 v28 v29 v30 (.bool v28) (.int .i64 v31) (.bool ((v31:Int)==1)) ((v31:Int)==1)) (j78 v23 v24 v25 v26 v27 v28 v29 v30 (.bool v28) (.tuple ⟨[]⟩) (.tuple ⟨[]⟩) false)) (j78 v23 v24 v25 v26 v27 v28 v29 v30 (.tuple ⟨[]⟩) (.tuple ⟨[]⟩) (.tuple ⟨[]⟩) false)))) (fun j22 =>
 l8 ((x21:Int)==2) (d8 160 [.slice v13.base v13.len v13.cap,.int .i64 v14,.int .i64 v15] kU (j22 v13 v14 v15 v16 v17 v18 v19 (IntKind.i64.wrap ((IntKind.i64.wrap (v15 - 1)) - (IntKind.i64.wrap (x20 - v14)))) 1)) (j22 v13 v14 v15 v16 v17 v18 v19 x20 x21)))) (fun j12=>l8 (!v10)
 (d8 158 [.slice v6.base v6.len v6.cap,.int .i64 v7,.int .i64 v8] kU (j12 v6 v7 v8 (IntKind.i64.wrap (v9 - 1)) v10 v11 (IntKind.i64.wrap (v8 - v7)))) (j12 v6 v7 v8 v9 v10 v11 (IntKind.i64.wrap (v8 - v7)))))))) (fun(R92:Sl->Int->Int->Int->Bool->Bool->s9)=>R92 v1 v2 v3 v4 true true)
theorem cE5 (v1:Sl) (v2:Int) (v3:Int) (v4:Int):cr4 v1 v2 v3 v4 K σ->a8 103 [.slice v1.base v1.len v1.cap,.int .i64 v2,.int .i64 v3,.int .i64 v4] K σ:=k8 cE4 Tryz.func103


def cE6:Ann:=(.q (.n (.h) (.q .z)))
def cr5 (v1:Int) (K:KH):s9 :=
 d8 166 [.int .u64 v1] kI (fun(x2:Int)=>K (.int .i64 x2))
theorem cE7 (v1:Int):cr5 v1 K σ->a8 104 [.int .u64 v1] K σ:=k8 cE6 Tryz.func104


def cE8:Ann:=(.q (.q .z))
def cE9 (v1:j1) (v2:Int) (v3:Bool) (v4:j1) (v5:Sl) (K:KH):s9 :=
 A9 (.cells ⟨[.string v1,.int .i64 v2,.bool v3,.string v4,.slice v5.base v5.len v5.cap]⟩ 75 (0,0)) (fun b6=>l4 (rdA 5 b6 0) (.one (.agg [.str,(.int .i64),.bool,.str,.slc])) (fun(x7:j1) (x8:Int) (x9:Bool) (x10:j1) (x11:Sl)=>d8 167 [.agg ⟨[.string x7,.int .i64 x8,.bool x9,.string x10,.slice x11.base x11.len x11.cap]⟩] kI (fun(x12:Int)=>K (.bool (decide ((x12:Int)>12))))))
theorem dt2 (v1:j1) (v2:Int) (v3:Bool) (v4:j1) (v5:Sl):cE9 v1 v2 v3 v4 v5 K σ->a8 105 [.agg ⟨[.string v1,.int .i64 v2,.bool v3,.string v4,.slice v5.base v5.len v5.cap]⟩] K σ:=k8 cE8 Tryz.func105


def cF0:Ann:=(.q (.q (.q (.n (.q (.blk (.q (.cond (.q .z) (.q (.cond (.q .z) (.q (.h)))))))) (.q .z)))))
def cF1 (v1:j1) (v2:Int) (v3:Bool) (v4:j1) (v5:Sl) (K:KH):s9 :=
 A9 (.cells ⟨[.string v1,.int .i64 v2,.bool v3,.string v4,.slice v5.base v5.len v5.cap]⟩ 75 (0,0)) (fun b6=>l4 (s5 b6 1) kI (fun(x7:Int)=>l8 ((x7:Int)==1) (d8 168 [.pointer (some ⟨b6,0,none⟩)] kB (fun x8=>K (.bool x8))) (l8 ((x7:Int)==3) (A9 (.cells ⟨[.func (.func 168) ⟨[]⟩ ⟨[.pointer (some ⟨b6,0,none⟩)]⟩,.func (.func 169) ⟨[]⟩ ⟨[.pointer (some ⟨b6,0,none⟩)]⟩,.func (.func 171) ⟨[]⟩ ⟨[.pointer (some ⟨b6,0,none⟩)]⟩]⟩ 34 (0,0)) (fun b9 =>
 d8 170 [.slice (some ⟨b9,0,none⟩) 3 3] kB (fun x10=>K (.bool x10)))) (l8 ((x7:Int)==2) (A9 (.cells ⟨[.func (.func 169) ⟨[]⟩ ⟨[.pointer (some ⟨b6,0,none⟩)]⟩,.func (.func 172) ⟨[]⟩ ⟨[.pointer (some ⟨b6,0,none⟩)]⟩,.func (.func 173) ⟨[]⟩ ⟨[.pointer (some ⟨b6,0,none⟩)]⟩]⟩ 34 (0,0)) (fun b11=>d8 170 [.slice (some ⟨b11,0,none⟩) 3 3] kB (fun x12=>K (.bool x12)))) (K (.bool false))))))
theorem dt3 (v1:j1) (v2:Int) (v3:Bool) (v4:j1) (v5:Sl):cF1 v1 v2 v3 v4 v5 K σ->a8 106 [.agg ⟨[.string v1,.int .i64 v2,.bool v3,.string v4,.slice v5.base v5.len v5.cap]⟩] K σ:=k8 cF0 Tryz.func106


def cF2:Ann:=(.q (.n (.q (.h)) (.q .z)))
def cF3 (v1:j1) (v2:Int) (v3:Bool) (v4:j1) (v5:Sl) (K:KH):s9 :=
 A9 (.cells ⟨[.string v1,.int .i64 v2,.bool v3,.string v4,.slice v5.base v5.len v5.cap]⟩ 75 (0,0)) (fun b6=>l4 (rdA 5 b6 0) (.one (.agg [.str,(.int .i64),.bool,.str,.slc])) (fun(x7:j1) (x8:Int) (x9:Bool) (x10:j1) (x11:Sl)=>d8 105 [.agg ⟨[.string x7,.int .i64 x8,.bool x9,.string x10,.slice x11.base x11.len x11.cap]⟩] kB (fun x12=>l8 x12 (K (.tuple ⟨[.int .i64 0,.int .i64 0]⟩))
 (l4 (rdA 5 b6 0) (.one (.agg [.str,(.int .i64),.bool,.str,.slc])) (fun(x13:j1) (x14:Int) (x15:Bool) (x16:j1) (x17:Sl)=>d8 175 [.agg ⟨[.string x13,.int .i64 x14,.bool x15,.string x16,.slice x17.base x17.len x17.cap]⟩] (.tup [.sc (.int .i64),.sc (.int .i64)]) (fun(x18:Int) (x19:Int)=>K (.tuple ⟨[.int .i64 x18,.int .i64 x19]⟩)))))))
theorem dt4 (v1:j1) (v2:Int) (v3:Bool) (v4:j1) (v5:Sl):cF3 v1 v2 v3 v4 v5 K σ->a8 107 [.agg ⟨[.string v1,.int .i64 v2,.bool v3,.string v4,.slice v5.base v5.len v5.cap]⟩] K σ:=k8 cF2 Tryz.func107


def cF4:Ann:=(.q (.q (.q (.q (.n (.q (.blk (.loop [(0,.s),(1,.sc (.int .u64)),(5,.p),(6,.i)] (.n (.q (.cond .z .z)) (.n (.blk (.q .r)) .r))))) (.q (.q (.n (.reg (rn 7) [[],[],[1],[0,1,2],[],[4],(rn 6)]) (.q .z)))))))))
def cF5 (v1:j1) (v2:Int) (K:KH):s9 :=
 A9 (.cells ⟨[.int .u8 0,.int .u8 0,.int .u8 0,.int .u8 0,.int .u8 0,.int .u8 0,.int .u8 0,.int .u8 0,.int .u8 0,.int .u8 0]⟩ 191 (0,0)) (fun b3=>w6 ((128:Int)≠0) (w6 (0<=(9:Int)/\(9:Int)<((10:Nat):Int)) (t8 5 (.pointer (some ⟨b3,0+(9:Int).toNat * 1,none⟩)) (.int .u8 (IntKind.u8.wrap (Int.tmod v2 128))) (w6 ((128:Int)≠0)
 (l9 [.sc .str,.sc (.int .u64),.sc .ptr,.sc (.int .i64)] (fun(R4:j1->Int->u4->Int->s9)=>(fun(v5:j1) (v6:Int) (v7:u4) (v8:Int)=>l8 (decide ((v6:Int)>0)) (w6 ((128:Int)≠0) (j0 v7 (fun b9 o10=>w6 (0<=IntKind.i64.wrap (v8 - 1)/\IntKind.i64.wrap (v8 - 1)<((10:Nat):Int))
 (t8 5 (.pointer (some ⟨b9,o10+(IntKind.i64.wrap (v8 - 1):Int).toNat * 1,none⟩)) (.int .u8 (IntKind.u8.wrap ((IntKind.u8.wrap (Int.tmod v6 128))+128))) (w6 ((128:Int)≠0) (R4 v5 (IntKind.u64.wrap (Int.tdiv v6 128)) v7 (IntKind.i64.wrap (v8 - 1))))))))
 (M7 Tryz.prog (Instr.makeSlice 36 (.int .i64 (IntKind.i64.wrap ((IntKind.i64.wrap (((v5.size:Nat):Int)+10)) - v8))) (.int .i64 (IntKind.i64.wrap ((IntKind.i64.wrap (((v5.size:Nat):Int)+10)) - v8)))) kL (fun x11=>Q4 .copy #[36,9] 3 [false,false] [.slice x11.base x11.len x11.cap,.string v5] kI (fun(_x12:Int)=>w6 (A1 none x11.cap/\A1 (some ((v5.size:Nat):Int)) x11.len) (j0 v7 (fun b13 o14=>w6 (A1 none 10/\A1 (some v8) 10)
 (Q4 .copy #[36,36] 3 [false,false] [.slice (F8 x11.base (((v5.size:Nat):Int).toNat) x11.cap 1) (x11.len - (((v5.size:Nat):Int).toNat)) (x11.cap - (((v5.size:Nat):Int).toNat)),.slice (F8 (some ⟨b13,o14,none⟩) v8.toNat 10 1) (10 - v8.toNat) (10 - v8.toNat)] kI (fun(_x15:Int)=>M7 Tryz.prog (convert 36 9 (.slice x11.base x11.len x11.cap)) kS (fun(x16:j1) =>
 K (.string x16))))))))))) (fun(R17:j1->Int->u4->Int->s9)=>R17 v1 (IntKind.u64.wrap (Int.tdiv v2 128)) (some ⟨b3,0,none⟩) 9))))))
theorem dt5 (v1:j1) (v2:Int):cF5 v1 v2 K σ->a8 108 [.string v1,.int .u64 v2] K σ:=k8 cF4 Tryz.func108


def cF6:Ann:=(.q (.q (.seq (some [(0,.p),(3,.p),(4,.sc (.int .u64))]) (.q (.cond .r .z)) (.reg [0,1,2,3,4,5,7,8,6,9,10,11,12] [[],[],[1],[1,2],[1,2,3],[],[1,2,3,4,5],[],[7],[1,2,3,4,5,6,7,8],(rn 10),(rn 11),(rn 12)]))))
def cF7 (v1:u4) (v2:j1) (v3:Int) (v4:Bool) (v5:j1) (v6:Sl) (K:KH):s9 :=
 A9 (.cells ⟨[.string v2,.int .i64 v3,.bool v4,.string v5,.slice v6.base v6.len v6.cap]⟩ 75 (0,0)) (fun b7=>w9 (T:=u4->u4->Int->s9) (fun v9 v10 v11=>j0 v9 (fun b12 o13=>l4 (s5 b12 o13) kS (fun(x14:j1)=>j0 v10 (fun b15 o16=>l4 (s5 b15 (o16+3)) kS (fun(x17:j1)=>d8 108 [.string x14,.int .u64 v11] kS (fun(x18:j1)=>A2 (fun σ=>(s5 b15 (o16+3)) σ=some (.string x17))
 (d8 71 [.string x18,.string x17] kS (fun(x19:j1)=>j0 v9 (fun b20 o21=>t8 9 (.pointer (some ⟨b20,o21,none⟩)) (.string x19) (K (.tuple ⟨[]⟩))))))))))) (fun j8=>l4 (s5 b7 2) kB (fun x22=>l8 x22 (j8 v1 (some ⟨b7,0,none⟩) 1) (j8 v1 (some ⟨b7,0,none⟩) 0))))
theorem dt6 (v1:u4) (v2:j1) (v3:Int) (v4:Bool) (v5:j1) (v6:Sl):cF7 v1 v2 v3 v4 v5 v6 K σ->a8 109 [.pointer v1,.agg ⟨[.string v2,.int .i64 v3,.bool v4,.string v5,.slice v6.base v6.len v6.cap]⟩] K σ:=k8 cF6 Tryz.func109


def cF8:Ann:=(.q (.reg (rn 11) [[],[],[1],[1,2],[1,2,3],[],[5],[1,2,3,4,5,6],(rn 8),(rn 9),(rn 10)]))
def cF9 (v1:u4) (v2:j1) (v3:Int) (v4:Bool) (v5:j1) (v6:Sl) (K:KH):s9 :=
 A9 (.cells ⟨[.string v2,.int .i64 v3,.bool v4,.string v5,.slice v6.base v6.len v6.cap]⟩ 75 (0,0)) (fun b7=>j0 v1 (fun b8 o9=>l4 (s5 b8 o9) kS (fun(x10:j1)=>l4 (s5 b7 3) kS (fun(x11:j1)=>d8 71 [.string x10,.string x11] kS (fun(x12:j1)=>j0 v1 (fun b13 o14=>t8 9 (.pointer (some ⟨b13,o14,none⟩)) (.string x12) (K (.tuple ⟨[]⟩))))))))
theorem dt7 (v1:u4) (v2:j1) (v3:Int) (v4:Bool) (v5:j1) (v6:Sl):cF9 v1 v2 v3 v4 v5 v6 K σ->a8 110 [.pointer v1,.agg ⟨[.string v2,.int .i64 v3,.bool v4,.string v5,.slice v6.base v6.len v6.cap]⟩] K σ:=k8 cF8 Tryz.func110


def cG0:Ann:=(.q (.n (.reg (rn 13) [[],[],[1],[1,2],[1,2,3],[],[5],[5,6],[5,6,7],[1,2,3,4,5,6,7,8],(rn 10),(rn 11),(rn 12)]) (.q (.blk (.loop [(0,.p),(19,.l),(20,.i),(21,.i)] (.q (.n (.cond .z .z) (.n (.blk (.q (.n (.reg (rn 11) [[],[],[1],[1,2],[1,2,3],[],[5],[1,2,3,4,5,6],(rn 8),(rn 9),(rn 10)]) .r))) .r))))))))
def cG1 (v1:u4) (v2:j1) (v3:Int) (v4:Bool) (v5:j1) (v6:Sl) (K:KH):s9 :=
 A9 (.cells ⟨[.string v2,.int .i64 v3,.bool v4,.string v5,.slice v6.base v6.len v6.cap]⟩ 75 (0,0)) (fun b7=>j0 v1 (fun b8 o9=>l4 (s5 b8 o9) kS (fun(x10:j1)=>l4 (s5 b7 4) kL (fun x11=>d8 108 [.string x10,.int .u64 (IntKind.u64.wrap ((x11.len:Nat):Int))] kS (fun(x12:j1)=>j0 v1 (fun b13 o14=>t8 9 (.pointer (some ⟨b13,o14,none⟩)) (.string x12) (l4 (s5 b7 4) kL (fun x15 =>
 l9 [.sc .ptr,.sc .slc,.sc (.int .i64),.sc (.int .i64)] (fun(R16:u4->Sl->Int->Int->s9)=>(fun(v17:u4) (x18:Sl) (x19:Int) (x20:Int)=>l8 (decide ((x20:Int)<x19)) (j0 x18.base (fun b21 o22=>w6 (0<=x20/\x20<((x18.len:Nat):Int)) (l4 (rdA 5 b21 (o22+x20.toNat * 5)) (.one (.agg [.str,(.int .i64),.bool,.str,.slc])) (fun(x23:j1) (x24:Int) (x25:Bool) (x26:j1) (x27:Sl) =>
 A9 (.cells ⟨[.string ⟨⟨[]⟩⟩,.int .i64 0,.bool false,.string ⟨⟨[]⟩⟩,.slice none 0 0]⟩ 75 (0,0)) (fun b28=>t8 75 (.pointer (some ⟨b28,0,none⟩)) (.agg ⟨[.string x23,.int .i64 x24,.bool x25,.string x26,.slice x27.base x27.len x27.cap]⟩) (j0 v17 (fun b29 o30=>l4 (s5 b29 o30) kS (fun(x31:j1)=>l4 (s5 b28 0) kS (fun(x32:j1)=>d8 71 [.string x31,.string x32] kS (fun(x33:j1) =>
 j0 v17 (fun b34 o35=>t8 9 (.pointer (some ⟨b34,o35,none⟩)) (.string x33) (l4 (rdA 5 b28 0) (.one (.agg [.str,(.int .i64),.bool,.str,.slc])) (fun(x36:j1) (x37:Int) (x38:Bool) (x39:j1) (x40:Sl)=>d8 72 [.pointer v17,.agg ⟨[.string x36,.int .i64 x37,.bool x38,.string x39,.slice x40.base x40.len x40.cap]⟩] kU (R16 v17 x18 x19 (IntKind.i64.wrap (x20+1))))))))))))))))
 (K (.tuple ⟨[]⟩)))) (fun(R41:u4->Sl->Int->Int->s9)=>R41 v1 x15 ((x15.len:Nat):Int) 0)))))))))
theorem cr6 (v1:u4) (v2:j1) (v3:Int) (v4:Bool) (v5:j1) (v6:Sl):cG1 v1 v2 v3 v4 v5 v6 K σ->a8 111 [.pointer v1,.agg ⟨[.string v2,.int .i64 v3,.bool v4,.string v5,.slice v6.base v6.len v6.cap]⟩] K σ:=k8 cG0 Tryz.func111


def cG2:Ann:=(.q (.q .z))
def cG3 (v1:Int) (K:KH):s9 :=
 l8 (decide ((v1:Int)>=97)) (K (.bool (decide ((v1:Int)<=122)))) (K (.bool false))
theorem cr7 (v1:Int):cG3 v1 K σ->a8 112 [.int .u8 v1] K σ:=k8 cG2 Tryz.func112


def cG4:Ann:=(.q (.q .z))
def cG5 (v1:Int) (K:KH):s9 :=
 l8 (decide ((v1:Int)>=65)) (K (.bool (decide ((v1:Int)<=90)))) (K (.bool false))
theorem dt8 (v1:Int):cG5 v1 K σ->a8 113 [.int .u8 v1] K σ:=k8 cG4 Tryz.func113


def cG6:Ann:=(.q (.q .z))
def cG7 (v1:Int) (K:KH):s9 :=
 l8 (decide ((v1:Int)>=48)) (K (.bool (decide ((v1:Int)<=57)))) (K (.bool false))
theorem dt9 (v1:Int):cG7 v1 K σ->a8 114 [.int .u8 v1] K σ:=k8 cG6 Tryz.func114


def cG8:Ann:=(.q (.q .z))
def cG9 (v1:Int) (K:KH):s9 :=
 d8 116 [.string ⟨⟨[43,45,46,95]⟩⟩,.int .u8 v1] kI (fun(x2:Int)=>K (.bool (decide ((x2:Int)>=0))))
theorem du0 (v1:Int):cG9 v1 K σ->a8 115 [.int .u8 v1] K σ:=k8 cG8 Tryz.func115


def cH0:Ann:=(.q (.q .z))
def cH1 (v1:j1) (v2:Int) (K:KH):s9 :=
 d8 176 [.string v1,.int .u8 v2] kI (fun(x3:Int)=>K (.int .i64 x3))
theorem du1 (v1:j1) (v2:Int):cH1 v1 v2 K σ->a8 116 [.string v1,.int .u8 v2] K σ:=k8 cH0 Tryz.func116


def cH2:Ann:=(.q (.n (.q (.blk (.loop [(0,.sc (.int .u8)),(7,.l),(8,.i),(9,.i)] (.q (.n (.cond .z .z) (.n (.blk (.q (.q (.h)))) .r)))))) (.q .z)))
def cH3 (v1:Int) (v2:Sl) (K:KH):s9 :=
 l9 [.sc (.int .u8),.sc .slc,.sc (.int .i64),.sc (.int .i64)] (fun(R3:Int->Sl->Int->Int->s9)=>(fun(v4:Int) (x5:Sl) (x6:Int) (x7:Int)=>l8 (decide ((x7:Int)<x6)) (j0 x5.base (fun b8 o9=>w6 (0<=x7/\x7<((x5.len:Nat):Int)) (l4 (s5 b8 (o9+x7.toNat * 1)) kR (fun x10=>y6 Tryz.prog x10 [.int .u8 v4] kB (fun x11=>l8 x11 (K (.bool true)) (R3 v4 x5 x6 (IntKind.i64.wrap (x7+1))))))))
 (K (.bool false)))) (fun(R12:Int->Sl->Int->Int->s9)=>R12 v1 v2 ((v2.len:Nat):Int) 0)
theorem du2 (v1:Int) (v2:Sl):cH3 v1 v2 K σ->a8 117 [.int .u8 v1,.slice v2.base v2.len v2.cap] K σ:=k8 cH2 Tryz.func117


def cH4:Ann:=(.q (.q (.seq (some [(3,.p)]) (.q (.blk (.rf [.l] .r (.blk .r)))) (.q (.n (.q (.blk (.loop [(6,.l),(19,.agg [(.int .u32),(.int .u32),(.int .u32),(.int .u32),(.int .u32),(.int .u32),(.int .u32),(.int .u32)]),(20,.i)] (.q (.n (.cond .z .z) (.n (.blk (.q .r)) .r)))))) (.q .z))))))
def cH5 (v1:j1) (K:KH):s9 :=
 d8 177 [] (.tup [.agg [(.int .u32),(.int .u32),(.int .u32),(.int .u32),(.int .u32),(.int .u32),(.int .u32),(.int .u32)],.sc .raw]) (fun(x2:Int) (x3:Int) (x4:Int) (x5:Int) (x6:Int) (x7:Int) (x8:Int) (x9:Int) (x10:Value)=>A9 (.cells ⟨[.int .u32 0,.int .u32 0,.int .u32 0,.int .u32 0,.int .u32 0,.int .u32 0,.int .u32 0,.int .u32 0]⟩ 194 (0,0)) (fun b11 =>
 A9 (.cells ⟨(List.replicate 64 (.int .u32 0))⟩ 195 (0,0)) (fun b12 =>
 t8 194 (.pointer (some ⟨b11,0,none⟩)) (.agg ⟨[.int .u32 x2,.int .u32 x3,.int .u32 x4,.int .u32 x5,.int .u32 x6,.int .u32 x7,.int .u32 x8,.int .u32 x9]⟩) (t8 195 (.pointer (some ⟨b12,0,none⟩)) (x10) (w9 (T:=u4->s9) (fun v14=>j0 v14 (fun b15 o16 =>
 l4 (rdA 8 b15 o16) (.one (.agg [(.int .u32),(.int .u32),(.int .u32),(.int .u32),(.int .u32),(.int .u32),(.int .u32),(.int .u32)])) (fun(x17:Int) (x18:Int) (x19:Int) (x20:Int) (x21:Int) (x22:Int) (x23:Int) (x24:Int) =>
 l9 [.sc .slc,.agg [(.int .u32),(.int .u32),(.int .u32),(.int .u32),(.int .u32),(.int .u32),(.int .u32),(.int .u32)],.sc (.int .i64)] (fun(R25:Sl->Int->Int->Int->Int->Int->Int->Int->Int->Int->s9)=>(fun(v26:Sl) (x27:Int) (x28:Int) (x29:Int) (x30:Int) (x31:Int) (x32:Int) (x33:Int) (x34:Int) (x35:Int)=>l8 (decide ((x35:Int)<8))
 (l4 (rdX 8 [.int .u32 x27,.int .u32 x28,.int .u32 x29,.int .u32 x30,.int .u32 x31,.int .u32 x32,.int .u32 x33,.int .u32 x34] x35) (.one (.sc (.int .u32))) (fun(x36:Int)=>w6 (0<=(24:Int)) (w6 (0<=(16:Int)) (w6 (0<=(8:Int))
 (A9 (.cells ⟨[.int .u8 (IntKind.u8.wrap (Int.fdiv x36 (2 ^ min (Int.toNat 24) (IntKind.bits .u32)))),.int .u8 (IntKind.u8.wrap (Int.fdiv x36 (2 ^ min (Int.toNat 16) (IntKind.bits .u32)))),.int .u8 (IntKind.u8.wrap (Int.fdiv x36 (2 ^ min (Int.toNat 8) (IntKind.bits .u32)))),.int .u8 (IntKind.u8.wrap x36)]⟩ 5 (0,0)) (fun b37=>Q4 .append #[36,36] 36 [false,false] [.slice v26.base v26.len v26.cap,.slice (some ⟨b37,0,none⟩) 4 4] kL (fun x38 =>
 R25 x38 x27 x28 x29 x30 x31 x32 x33 x34 (IntKind.i64.wrap (x35+1))))))))) (M7 Tryz.prog (convert 36 9 (.slice v26.base v26.len v26.cap)) kS (fun(x39:j1)=>K (.string x39))))) (fun(R40:Sl->Int->Int->Int->Int->Int->Int->Int->Int->Int->s9)=>R40 ⟨none,0,0⟩ x17 x18 x19 x20 x21 x22 x23 x24 0)))) (fun j13=>d8 178 [.string v1] kR (fun x41=>H2 x41 (fun(g63:FuncId) (as64 cs65:List Value) =>
 U5 Tryz.prog none g63 as64 cs65 [.sc .slc] (fun(l42:Nat) (obj43:LoopState->Option Code->Obj) (K44:Value->s9)=>(fun x45=>G1 l42 obj43 (l4 (rdA 8 b11 0) (.one (.agg [(.int .u32),(.int .u32),(.int .u32),(.int .u32),(.int .u32),(.int .u32),(.int .u32),(.int .u32)])) (fun(x46:Int) (x47:Int) (x48:Int) (x49:Int) (x50:Int) (x51:Int) (x52:Int) (x53:Int) =>
 d8 179 [.agg ⟨[.int .u32 x46,.int .u32 x47,.int .u32 x48,.int .u32 x49,.int .u32 x50,.int .u32 x51,.int .u32 x52,.int .u32 x53]⟩,.slice x45.base x45.len x45.cap,.pointer (some ⟨b12,0,none⟩)] (.one (.agg [(.int .u32),(.int .u32),(.int .u32),(.int .u32),(.int .u32),(.int .u32),(.int .u32),(.int .u32)])) (fun(x54:Int) (x55:Int) (x56:Int) (x57:Int) (x58:Int) (x59:Int) (x60:Int) (x61:Int) =>
 t8 194 (.pointer (some ⟨b11,0,none⟩)) (.agg ⟨[.int .u32 x54,.int .u32 x55,.int .u32 x56,.int .u32 x57,.int .u32 x58,.int .u32 x59,.int .u32 x60,.int .u32 x61]⟩) (y9 l42 obj43 K44 none true .ready)))))) (j13 (some ⟨b11,0,none⟩)) (fun i62=>V1 i62 0 (j13 (some ⟨b11,0,none⟩)) (nW)) (K (.string ⟨⟨[]⟩⟩))))))))))
theorem du3 (v1:j1):cH5 v1 K σ->a8 118 [.string v1] K σ:=k8 cH4 Tryz.func118


def cH6:Ann:=(.q (.q (.q (.q .z))))
def cH7 (v1:u4) (v2:Int) (K:KH):s9 :=
 d8 180 [.pointer v1] kU (j0 v1 (fun b3 o4=>l4 (s5 b3 (o4+1)) kL (fun x5=>A9 (.cells ⟨[.int .u8 v2]⟩ 5 (0,0)) (fun b6=>Q4 .append #[36,36] 36 [false,false] [.slice x5.base x5.len x5.cap,.slice (some ⟨b6,0,none⟩) 1 1] kL (fun x7=>j0 v1 (fun b8 o9=>t8 36 (.pointer (some ⟨b8,o9+1,none⟩)) (.slice x7.base x7.len x7.cap) (K (.nilIface))))))))
theorem du4 (v1:u4) (v2:Int):cH7 v1 v2 K σ->a8 119 [.pointer v1,.int .u8 v2] K σ:=k8 cH6 Tryz.func119


def cH8:Ann:=(.q (.n (.reg [0,1,2,3,5,6,7,8,4,9,10,11] [[],[0],[0,1],[0,1,2],(rn 4),[],[5],[5,6],[5,6,7],[5,6,7,8],(rn 10),(rn 11)]) .z))
def cH9 (v1:u4) (K:KH):s9 :=
 j0 v1 (fun b2 o3=>l4 (s5 b2 (o3+1)) kL (fun x4=>j0 v1 (fun b5 o6=>l4 (s5 b5 (o6+1)) kL (fun x7=>Q4 .unsafeSliceData #[36] 203 [false] [.slice x4.base x4.len x4.cap] kP (fun x8=>A2 (fun σ=>(s5 b5 (o6+1)) σ=some (.slice x7.base x7.len x7.cap)) (Q4 .unsafeString #[203,3] 9 [false,false] [.pointer x8,.int .i64 ((x7.len:Nat):Int)] kS (fun(x9:j1)=>K (.string x9))))))))
theorem du5 (v1:u4):cH9 v1 K σ->a8 120 [.pointer v1] K σ:=k8 cH8 Tryz.func120


def cI0:Ann:=(.q (.n (.q (.blk (.loop [(0,.l),(1,.w),(7,.i),(8,.i)] (.q (.n (.cond .z .z) (.n (.blk (.q (.q (.h)))) .r)))))) (.q .z)))
def cI1 (v1:Sl) (v2:Value) (K:KH):s9 :=
 l9 [.sc .slc,.sc .raw,.sc (.int .i64),.sc (.int .i64)] (fun(R3:Sl->Value->Int->Int->s9)=>(fun(v4:Sl) (v5:Value) (x6:Int) (x7:Int)=>l8 (decide ((x7:Int)<x6)) (j0 v4.base (fun b8 o9=>w6 (0<=x7/\x7<((v4.len:Nat):Int)) (l4 (rdA 4 b8 (o9+x7.toNat * 4)) (.one (.agg [.str,.slc,.str,.str])) (fun(x10:j1) (x11:Sl) (x12:j1) (x13:j1) =>
 y6 Tryz.prog v5 [.agg ⟨[.string x10,.slice x11.base x11.len x11.cap,.string x12,.string x13]⟩] kB (fun x14=>l8 x14 (K (.int .i64 x7)) (R3 v4 v5 x6 (IntKind.i64.wrap (x7+1)))))))) (K (.int .i64 (-1))))) (fun(R15:Sl->Value->Int->Int->s9)=>R15 v1 v2 ((v1.len:Nat):Int) 0)
theorem du6 (v1:Sl) (v2:Value):cI1 v1 v2 K σ->a8 121 [.slice v1.base v1.len v1.cap,v2] K σ:=k8 cI0 Tryz.func121


def cI2:Ann:=(.q (.n (.q (.blk (.loop [(2,.sc (.int .u64)),(6,.l),(7,.i),(8,.i)] (.q (.n (.cond .z .z) (.n (.blk (.q .r)) .r)))))) (.q .z)))
def cI3 (v1:u4) (K:KH):s9 :=
 d8 123 [.pointer v1,.func (.func 181) ⟨[]⟩ ⟨[]⟩] kL (fun x2=>l9 [.sc (.int .u64),.sc .slc,.sc (.int .i64),.sc (.int .i64)] (fun(R3:Int->Sl->Int->Int->s9)=>(fun(v4:Int) (x5:Sl) (x6:Int) (x7:Int)=>l8 (decide ((x7:Int)<x6)) (j0 x5.base (fun b8 o9=>w6 (0<=x7/\x7<((x5.len:Nat):Int)) (l4 (s5 b8 (o9+x7.toNat * 1)) kC (fun(x10:Int)=>w6 ((128:Int)≠0)
 (R3 (IntKind.u64.wrap ((IntKind.u64.wrap (v4 * 128))+(IntKind.u64.wrap (Int.tmod x10 128)))) x5 x6 (IntKind.i64.wrap (x7+1))))))) (K (.int .u64 v4)))) (fun(R11:Int->Sl->Int->Int->s9)=>R11 0 x2 ((x2.len:Nat):Int) 0))
theorem du7 (v1:u4):cI3 v1 K σ->a8 122 [.pointer v1] K σ:=k8 cI2 Tryz.func122


def cI4:Ann:=(.q (.n (.q (.h)) (.q (.n (.seq (some [(0,.p),(5,.i),(25,.b)]) .r (.cond (.q (.q .z)) .z)) (.q (.q (.q .z)))))))
def cI5 (v1:u4) (v2:Value) (K:KH):s9 :=
 l8 v1.isNone (K (.slice none 0 0)) (j0 v1 (fun b3 o4=>l4 (s5 b3 o4) kL (fun x5=>y6 Tryz.prog v2 [.slice x5.base x5.len x5.cap] kI (fun(x6:Int)=>w9 (T:=u4->Int->Bool->s9) (fun v8 v9 x10=>l8 x10 (j0 v8 (fun b11 o12=>t8 36 (.pointer (some ⟨b11,o12,none⟩)) (.slice none 0 0) (j0 v8 (fun b13 o14=>t8 4 (.pointer (some ⟨b13,o14+1,none⟩)) (.bool true) (K (.slice none 0 0)))))) (j0 v8 (fun b15 o16 =>
 l4 (s5 b15 o16) kL (fun x17=>w6 (A1 (some v9) x17.cap/\A1 none v9.toNat) (j0 v8 (fun b18 o19=>l4 (s5 b18 o19) kL (fun x20=>w6 (A1 none x20.cap/\A1 (some v9) x20.len) (j0 v8 (fun b21 o22=>t8 36 (.pointer (some ⟨b21,o22,none⟩)) (.slice (F8 x20.base v9.toNat x20.cap 1) (x20.len - v9.toNat) (x20.cap - v9.toNat)) (K (.slice (F8 x17.base 0 x17.cap 1) (v9.toNat - 0) (x17.cap - 0)))))))))))) (fun j7=>l8 (decide ((x6:Int)<=0))
 (j7 v1 x6 true) (j0 v1 (fun b23 o24=>l4 (s5 b23 o24) kL (fun x25=>j7 v1 x6 (decide ((x6:Int)>((x25.len:Nat):Int)))))))))))
theorem du8 (v1:u4) (v2:Value):cI5 v1 v2 K σ->a8 123 [.pointer v1,v2] K σ:=k8 cI4 Tryz.func123


def cI6:Ann:=(.q (.q .z))
def cI7 (v1:Sl) (x2:u4) (K:KH):s9 :=
 j0 x2 (fun b3 o4=>l4 (s5 b3 o4) (.one (.sc (.int .u64))) (fun(x5:Int)=>K (.int .i64 (IntKind.i64.wrap (if(IntKind.u64.wrap ((IntKind.u64.wrap ((v1.len:Nat):Int))+1))<x5 then(IntKind.u64.wrap ((IntKind.u64.wrap ((v1.len:Nat):Int))+1))else x5)))))
theorem du9 (v1:Sl) (x2:u4):cI7 v1 x2 K σ->a8 124 [.slice v1.base v1.len v1.cap,.pointer x2] K σ:=k8 cI6 Tryz.func124


def cI8:Ann := .r
def cI9 (v1:u4) (v2:u4) (K:KH):s9 :=
 j0 v1 (fun b3 o4=>l4 (s5 b3 o4) kP (fun x5=>d8 82 [.pointer x5] kS (fun(x6:j1)=>j0 v2 (fun b7 o8=>t8 9 (.pointer (some ⟨b7,o8+3,none⟩)) (.string x6) (K (.tuple ⟨[]⟩))))))
theorem dv0 (v1:u4) (v2:u4):cI9 v1 v2 K σ->a8 126 [.pointer v1,.pointer v2] K σ:=k8 cI8 Tryz.func126


def cJ0:Ann:=(.q (.q .z))
def cJ1 (v1:u4) (K:KH):s9 :=
 l8 (!v1.isNone) (j0 v1 (fun b2 o3=>l4 (s5 b2 (o3+1)) kB (fun x4=>K (.bool (!x4))))) (K (.bool false))
theorem cr8 (v1:u4):cJ1 v1 K σ->a8 128 [.pointer v1] K σ:=k8 cJ0 Tryz.func128


def cJ2:Ann:=(.q (.q (.n (.q (.blk (.loop [(1,.sc .map),(4,.i)] (.q (.n (.cond .z .z) (.n (.blk (.q .r)) .r)))))) (.q .z))))
def cJ3  (K:KH):s9 :=
 A9 (.map #[] 0) (fun b1=>l9 [.sc .map,.sc (.int .i64)] (fun(R2:Option Nat->Int->s9)=>(fun(v3:Option Nat) (x4:Int)=>l8 (decide ((x4:Int)<32)) (B2 (⟨⟨[48,49,50,51,52,53,54,55,56,57,97,98,99,100,102,103,104,105,106,107,108,109,110,112,113,114,115,118,119,120,121,122]⟩⟩:j1) x4 (fun c5=>aj0 157 (.map v3) (.int .u8 (c5.toNat:Int)) (.int .i64 x4) (R2 v3 (IntKind.i64.wrap (x4+1)))))
 (K (.map v3)))) (fun(R6:Option Nat->Int->s9)=>R6 (some b1) 0))
theorem dv1 :cJ3  K σ->a8 129 [] K σ:=k8 cJ2 Tryz.func129


def cJ4:Ann := .r
def cJ5 (v1:Value) (x2:u4) (K:KH):s9 :=
 j0 x2 (fun b3 o4=>l4 (rdA 5 b3 o4) (.one (.agg [.str,(.int .i64),.bool,.str,.slc])) (fun(x5:j1) (x6:Int) (x7:Bool) (x8:j1) (x9:Sl)=>d8 131 [.agg ⟨[.string x5,.int .i64 x6,.bool x7,.string x8,.slice x9.base x9.len x9.cap]⟩,v1] kB (fun _x10=>K (.tuple ⟨[]⟩))))
theorem dv2 (v1:Value) (x2:u4):cJ5 v1 x2 K σ->a8 130 [v1,.pointer x2] K σ:=k8 cJ4 Tryz.func130


def cJ6:Ann:=(.q (.n (.q (.h)) (.n (.q (.blk (.loop [(1,.w),(13,.l),(14,.i),(15,.i)] (.q (.n (.cond .z .z) (.n (.blk (.q (.q (.h)))) .r)))))) (.q .z))))
def cJ7 (v1:j1) (v2:Int) (v3:Bool) (v4:j1) (v5:Sl) (v6:Value) (K:KH):s9 :=
 A9 (.cells ⟨[.string v1,.int .i64 v2,.bool v3,.string v4,.slice v5.base v5.len v5.cap]⟩ 75 (0,0)) (fun b7=>l4 (s5 b7 3) kS (fun(x8:j1)=>y6 Tryz.prog v6 [.string x8] kB (fun x9=>l8 (!x9) (K (.bool false)) (l4 (s5 b7 4) kL (fun x10=>l9 [.sc .raw,.sc .slc,.sc (.int .i64),.sc (.int .i64)] (fun(R11:Value->Sl->Int->Int->s9)=>(fun(v12:Value) (x13:Sl) (x14:Int) (x15:Int)=>l8 (decide ((x15:Int)<x14))
 (j0 x13.base (fun b16 o17=>w6 (0<=x15/\x15<((x13.len:Nat):Int)) (l4 (rdA 5 b16 (o17+x15.toNat * 5)) (.one (.agg [.str,(.int .i64),.bool,.str,.slc])) (fun(x18:j1) (x19:Int) (x20:Bool) (x21:j1) (x22:Sl)=>A9 (.cells ⟨[.string ⟨⟨[]⟩⟩,.int .i64 0,.bool false,.string ⟨⟨[]⟩⟩,.slice none 0 0]⟩ 75 (0,0)) (fun b23 =>
 t8 75 (.pointer (some ⟨b23,0,none⟩)) (.agg ⟨[.string x18,.int .i64 x19,.bool x20,.string x21,.slice x22.base x22.len x22.cap]⟩) (l4 (rdA 5 b23 0) (.one (.agg [.str,(.int .i64),.bool,.str,.slc])) (fun(x24:j1) (x25:Int) (x26:Bool) (x27:j1) (x28:Sl)=>d8 131 [.agg ⟨[.string x24,.int .i64 x25,.bool x26,.string x27,.slice x28.base x28.len x28.cap]⟩,v12] kB (fun x29=>l8 (!x29) (K (.bool false))
 (R11 v12 x13 x14 (IntKind.i64.wrap (x15+1))))))))))) (K (.bool true)))) (fun(R30:Value->Sl->Int->Int->s9)=>R30 v6 x10 ((x10.len:Nat):Int) 0))))))
theorem dv3 (v1:j1) (v2:Int) (v3:Bool) (v4:j1) (v5:Sl) (v6:Value):cJ7 v1 v2 v3 v4 v5 v6 K σ->a8 131 [.agg ⟨[.string v1,.int .i64 v2,.bool v3,.string v4,.slice v5.base v5.len v5.cap]⟩,v6] K σ:=k8 cJ6 Tryz.func131


def cJ8:Ann:=(.q (.q .z))
def cJ9 (v1:j1) (v2:j1) (K:KH):s9 :=
 d8 187 [.string v1,.string v2] (.tup [.sc .str,.sc .str,.sc .bool]) (fun(x3:j1) (x4:j1) (x5:Bool)=>K (.tuple ⟨[.string x3,.string x4,.bool x5]⟩))
theorem dv4 (v1:j1) (v2:j1):cJ9 v1 v2 K σ->a8 137 [.string v1,.string v2] K σ:=k8 cJ8 Tryz.func137


def cK0:Ann:=(.q (.q .z))
def cK1 (v1:j1) (v2:j1) (K:KH):s9 :=
 d8 188 [.string v1,.string v2,.int .i64 0,.int .i64 (-1)] kL (fun x3=>K (.slice x3.base x3.len x3.cap))
theorem dv5 (v1:j1) (v2:j1):cK1 v1 v2 K σ->a8 138 [.string v1,.string v2] K σ:=k8 cK0 Tryz.func138


def cK2:Ann:=(.q (.n (.q (.h)) (.q (.q (.q (.n (.q (.blk (.loop [(1,.p),(4,.p),(5,.w),(20,.l),(21,.i),(22,.i)] (.q (.n (.cond .z .z) (.n (.blk (.q .r)) .r)))))) (.n (.q (.blk (.loop [(1,.p),(4,.p),(5,.w),(32,.l),(33,.i),(34,.i)] (.q (.n (.cond .z .z) (.n (.blk (.q (.reg (rn 8) [[],[],[1],[],[3],[3,4],[1,2,3,4,5],(rn 7)]))) .r)))))) (.q (.n (.reg [1,2,0,3,4,5] [[],[],[1],[0,1,2],(rn 4),(rn 5)]) .z)))))))))
def cK3 (v1:j1) (v2:Sl) (v3:Sl) (v4:j1) (K:KH):s9 :=
 A9 (.cells ⟨[.string v1,.slice v2.base v2.len v2.cap,.slice v3.base v3.len v3.cap,.string v4]⟩ 113 (0,0)) (fun b5=>l4 (rdA 4 b5 0) (.one (.agg [.str,.slc,.slc,.str])) (fun(x6:j1) (x7:Sl) (x8:Sl) (x9:j1)=>d8 189 [.agg ⟨[.string x6,.slice x7.base x7.len x7.cap,.slice x8.base x8.len x8.cap,.string x9]⟩] kB (fun x10=>l8 (!x10) (K (.tuple ⟨[.string ⟨⟨[]⟩⟩,.int .i64 2]⟩))
 (A9 (.cells ⟨[.pointer none,.slice none 0 0]⟩ 145 (0,0)) (fun b11=>l4 (s5 b5 0) kS (fun(x12:j1)=>A9 (.cells ⟨[.string ⟨⟨[100,114,118]⟩⟩,.string x12]⟩ 9 (0,0)) (fun b13=>d8 190 [.slice (some ⟨b13,0,none⟩) 2 2,.pointer (some ⟨b11,0,none⟩)] kU (l4 (s5 b5 1) kL (fun x14 =>
 l9 [.sc .ptr,.sc .ptr,.sc .raw,.sc .slc,.sc (.int .i64),.sc (.int .i64)] (fun(R15:u4->u4->Value->Sl->Int->Int->s9)=>(fun(v16:u4) (v17:u4) (v18:Value) (x19:Sl) (x20:Int) (x21:Int)=>l8 (decide ((x21:Int)<x20)) (j0 x19.base (fun b22 o23=>w6 (0<=x21/\x21<((x19.len:Nat):Int)) (l4 (s5 b22 (o23+x21.toNat * 1)) kS (fun(x24:j1) =>
 A9 (.cells ⟨[.string ⟨⟨[105,110]⟩⟩,.string x24]⟩ 9 (0,0)) (fun b25=>y6 Tryz.prog v18 [.slice (some ⟨b25,0,none⟩) 2 2] kU (R15 v16 v17 v18 x19 x20 (IntKind.i64.wrap (x21+1)))))))) (j0 v16 (fun b26 o27=>l4 (s5 b26 (o27+2)) kL (fun x28 =>
 l9 [.sc .ptr,.sc .ptr,.sc .raw,.sc .slc,.sc (.int .i64),.sc (.int .i64)] (fun(R29:u4->u4->Value->Sl->Int->Int->s9)=>(fun(v30:u4) (v31:u4) (v32:Value) (x33:Sl) (x34:Int) (x35:Int)=>l8 (decide ((x35:Int)<x34)) (j0 x33.base (fun b36 o37=>w6 (0<=x35/\x35<((x33.len:Nat):Int)) (l4 (rdA 2 b36 (o37+x35.toNat * 2)) (.one (.agg [.str,.str])) (fun(x38:j1) (x39:j1) =>
 A9 (.cells ⟨[.string ⟨⟨[]⟩⟩,.string ⟨⟨[]⟩⟩]⟩ 206 (0,0)) (fun b40=>t8 206 (.pointer (some ⟨b40,0,none⟩)) (.agg ⟨[.string x38,.string x39]⟩) (l4 (s5 b40 0) kS (fun(x41:j1)=>l4 (s5 b40 1) kS (fun(x42:j1)=>d8 193 [.string x42] kS (fun(x43:j1)=>A2 (fun σ=>(s5 b40 0) σ=some (.string x41)) (A9 (.cells ⟨[.string ⟨⟨[101,110,118]⟩⟩,.string x41,.string x43]⟩ 9 (0,0)) (fun b44 =>
 y6 Tryz.prog v32 [.slice (some ⟨b44,0,none⟩) 3 3] kU (R29 v30 v31 v32 x33 x34 (IntKind.i64.wrap (x35+1)))))))))))))) (A9 (.cells ⟨[.string ⟨⟨[114,117,110]⟩⟩]⟩ 9 (0,0)) (fun b45=>y6 Tryz.prog v32 [.slice (some ⟨b45,0,none⟩) 1 1] kU (j0 v30 (fun b46 o47=>l4 (s5 b46 (o47+3)) kS (fun(x48:j1)=>d8 120 [.pointer v31] kS (fun(x49:j1)=>A2 (fun σ=>(s5 b46 (o47+3)) σ=some (.string x48))
 (w6 (x49.size+x48.size<=9223372036854775807) (K (.tuple ⟨[.string (x49++x48),.int .i64 0]⟩))))))))))) (fun(R50:u4->u4->Value->Sl->Int->Int->s9)=>R50 v16 v17 v18 x28 ((x28.len:Nat):Int) 0)))))) (fun(R51:u4->u4->Value->Sl->Int->Int->s9)=>R51 (some ⟨b5,0,none⟩) (some ⟨b11,0,none⟩) (.func (.func 190) ⟨[]⟩ ⟨[.pointer (some ⟨b11,0,none⟩)]⟩) x14 ((x14.len:Nat):Int) 0))))))))))
theorem dv6 (v1:j1) (v2:Sl) (v3:Sl) (v4:j1):cK3 v1 v2 v3 v4 K σ->a8 140 [.agg ⟨[.string v1,.slice v2.base v2.len v2.cap,.slice v3.base v3.len v3.cap,.string v4]⟩] K σ:=k8 cK2 Tryz.func140


def cK4:Ann:=(.q (.q (.n (.blk (.loop [(0,.p),(3,.i)] (.n (.seq (some [(0,.p),(3,.i),(21,.b)]) .r (.cond .z .z)) (.blk .r)))) (.n (.seq (some [(0,.p),(3,.i),(34,.b)]) .r (.cond (.q (.q .z)) .z)) (.q (.n (.q (.blk (.loop [(0,.p),(3,.i),(4,.sc (.int .u64)),(5,.i)] (.n (.q (.cond .z .z)) (.n (.blk .r) .r))))) (.n (.n (.reg [0,2,3,4,5,1,6,7,8,9] [[],[0],[],[2],[2,3],[2,3,4],[],[6],[2,3,4,5,6,7],(rn 9)]) (.cond (.q (.q .z)) .z)) (.q (.q .z)))))))))
def cK5 (v1:u4) (K:KH):s9 :=
 l9 [.sc .ptr,.sc (.int .i64)] (fun(R2:u4->Int->s9)=>(fun(v3:u4) (v4:Int)=>w9 (T:=u4->Int->Bool->s9) (fun v6 v7 x8=>l8 x8 (R2 v6 (IntKind.i64.wrap (v7+1))) (w9 (T:=u4->Int->Bool->s9) (fun v10 v11 x12=>l8 x12 (d8 142 [.pointer v10] kU (K (.int .u64 0)))
 (l9 [.sc .ptr,.sc (.int .i64),.sc (.int .u64),.sc (.int .i64)] (fun(R13:u4->Int->Int->Int->s9)=>(fun(v14:u4) (v15:Int) (v16:Int) (v17:Int)=>l8 (decide ((v17:Int)<=v15)) (j0 v14 (fun b18 o19=>l4 (s5 b18 o19) kS (fun(x20:j1)=>B2 x20 v17 (fun c21=>w6 ((128:Int)≠0)
 (R13 v14 v15 (IntKind.u64.wrap ((IntKind.u64.wrap (128 * v16))+(IntKind.u64.wrap (Int.tmod (c21.toNat:Int) 128)))) (IntKind.i64.wrap (v17+1))))))) (j0 v14 (fun b22 o23=>l4 (s5 b22 o23) kS (fun(x24:j1)=>d8 147 [.string ⟨⟨[]⟩⟩,.int .u64 v16] kS (fun(x25:j1)=>A2 (fun σ=>(s5 b22 o23) σ=some (.string x24)) (w6 (A1 (some (IntKind.i64.wrap (v15+1))) x24.size/\A1 none ((IntKind.i64.wrap (v15+1)).toNat))
 (l8 (!B8 x25 (x24.extract 0 ((IntKind.i64.wrap (v15+1)).toNat))) (d8 142 [.pointer v14] kU (K (.int .u64 0))) (j0 v14 (fun b26 o27=>l4 (s5 b26 o27) kS (fun(x28:j1)=>w6 (A1 none x28.size/\A1 (some (IntKind.i64.wrap (v15+1))) (x28.size)) (j0 v14 (fun b29 o30 =>
 t8 9 (.pointer (some ⟨b29,o30,none⟩)) (.string (x28.extract ((IntKind.i64.wrap (v15+1)).toNat) x28.size)) (K (.int .u64 v16))))))))))))))) (fun(R31:u4->Int->Int->Int->s9)=>R31 v10 v11 0 0))) (fun j9=>j0 v6 (fun b32 o33=>l4 (s5 b32 o33) kS (fun(x34:j1)=>l8 (decide ((v7:Int)>=((x34.size:Nat):Int))) (j9 v6 v7 true) (j9 v6 v7 (decide ((v7:Int)>9)))))))) (fun j5=>j0 v3 (fun b35 o36 =>
 l4 (s5 b35 o36) kS (fun(x37:j1)=>l8 (decide ((v4:Int)<((x37.size:Nat):Int))) (j0 v3 (fun b38 o39=>l4 (s5 b38 o39) kS (fun(x40:j1)=>B2 x40 v4 (fun c41=>j5 v3 v4 (decide ((c41.toNat:Int)>=128)))))) (j5 v3 v4 false)))))) (fun(R42:u4->Int->s9)=>R42 v1 0)
theorem dv7 (v1:u4):cK5 v1 K σ->a8 141 [.pointer v1] K σ:=k8 cK4 Tryz.func141


def cK6:Ann:=(.q .r)
def cK7 (v1:u4) (K:KH):s9 :=
 j0 v1 (fun b2 o3=>t8 9 (.pointer (some ⟨b2,o3,none⟩)) (.string ⟨⟨[]⟩⟩) (j0 v1 (fun b4 o5=>t8 4 (.pointer (some ⟨b4,o5+1,none⟩)) (.bool true) (K (.tuple ⟨[]⟩)))))
theorem dv8 (v1:u4):cK7 v1 K σ->a8 142 [.pointer v1] K σ:=k8 cK6 Tryz.func142


def cK8:Ann:=(.q (.q .z))
def cK9 (v1:u4) (K:KH):s9 :=
 j0 v1 (fun b2 o3=>l4 (s5 b2 (o3+1)) kB (fun x4=>K (.bool (!x4))))
theorem dv9 (v1:u4):cK9 v1 K σ->a8 143 [.pointer v1] K σ:=k8 cK8 Tryz.func143


def cL0:Ann:=(.q (.q .z))
def cL1 (v1:j1) (v2:Int) (v3:Bool) (v4:j1) (v5:Sl) (K:KH):s9 :=
 A9 (.cells ⟨[.string v1,.int .i64 v2,.bool v3,.string v4,.slice v5.base v5.len v5.cap]⟩ 75 (0,0)) (fun b6=>l4 (rdA 5 b6 0) (.one (.agg [.str,(.int .i64),.bool,.str,.slc])) (fun(x7:j1) (x8:Int) (x9:Bool) (x10:j1) (x11:Sl)=>d8 194 [.agg ⟨[.string x7,.int .i64 x8,.bool x9,.string x10,.slice x11.base x11.len x11.cap]⟩,.int .i64 14] kI (fun(x12:Int)=>K (.int .i64 x12))))
theorem dw0 (v1:j1) (v2:Int) (v3:Bool) (v4:j1) (v5:Sl):cL1 v1 v2 v3 v4 v5 K σ->a8 144 [.agg ⟨[.string v1,.int .i64 v2,.bool v3,.string v4,.slice v5.base v5.len v5.cap]⟩] K σ:=k8 cL0 Tryz.func144


def cL2:Ann:=(.q (.n (.q (.blk (.q (.cond (.q .z) (.q (.cond (.n (.q (.blk (.loop [(1,.p),(3,.i)] (.n (.q (.cond .z .z)) (.n (.blk (.q (.h))) .r))))) (.q .z)) (.q (.cond (.n (.q (.blk (.loop [(1,.p),(4,.i)] (.n (.q (.cond .z .z)) (.n (.blk (.seq (some [(1,.p),(4,.i),(66,.w),(67,.w),(68,.w),(69,.w),(70,.w),(71,.w),(72,.w),(75,.w),(76,.w),(77,.w),(78,.w),(79,.w),(80,.w),(81,.w),(82,.w),(83,.w),(84,.w),(85,.w),(86,.w),(87,.w),(88,.w),(89,.w),(90,.w),(91,.w),(92,.w),(93,.b)]) (.reg (rn 37) [[],[0],[],[0,1,2],(rn 4),(rn 5),(rn 6),(rn 7),(rn 8),(rn 9),(rn 10),(rn 9),(rn 12),(rn 13),(rn 14),(rn 15),(rn 16),(rn 17),(rn 18),(rn 19),(rn 20),(rn 21),(rn 22),(rn 21),[0,1,2,3,4,5,6,7,8,9,10,11,12,13,14,15,16,17,18,19,20,23],(rn 25),(rn 26),(rn 27),(rn 21),[0,1,2,3,4,5,6,7,8,9,10,11,12,13,14,15,16,17,18,19,20,28],(rn 21),[0,1,2,3,4,5,6,7,8,9,10,11,12,13,14,15,16,17,18,19,20,28,29,30],[0,1,2,3,4,5,6,7,8,9,10,11,12,13,14,15,16,17,18,19,20,28,29,30,31],[0,1,2,3,4,5,6,7,8,9,10,11,12,13,14,15,16,17,18,19,20,28,29,30,31,32],(rn 34),(rn 35),(rn 36)]) (.h))) .r))))) (.q .z)) .z)))))))) (.q .z)))
def cL3 (v1:j1) (v2:Int) (v3:Bool) (v4:j1) (v5:Sl) (K:KH):s9 :=
 A9 (.cells ⟨[.string v1,.int .i64 v2,.bool v3,.string v4,.slice v5.base v5.len v5.cap]⟩ 75 (0,0)) (fun b6=>l4 (s5 b6 1) kI (fun(x7:Int)=>l8 ((x7:Int)==1) (l4 (s5 b6 4) kL (fun x8=>K (.bool (((x8.len:Nat):Int)==0)))) (l8 ((x7:Int)==3) (l9 [.sc .ptr,.sc (.int .i64)] (fun(R9:u4->Int->s9)=>(fun(v10:u4) (v11:Int)=>j0 v10 (fun b12 o13=>l4 (s5 b12 (o13+3)) kS (fun(x14:j1) =>
 l8 (decide ((v11:Int)<((x14.size:Nat):Int))) (j0 v10 (fun b15 o16=>l4 (s5 b15 (o16+3)) kS (fun(x17:j1)=>B2 x17 v11 (fun c18=>l8 ((c18.toNat:Int)==0) (K (.bool false)) (R9 v10 (IntKind.i64.wrap (v11+1))))))) (j0 v10 (fun b19 o20=>l4 (s5 b19 (o20+2)) kB (fun x21=>l8 (!x21) (j0 v10 (fun b22 o23=>l4 (s5 b22 (o23+4)) kL (fun x24=>l8 (((x24.len:Nat):Int)==0) (j0 v10 (fun b25 o26 =>
 l4 (s5 b25 (o26+3)) kS (fun(x27:j1)=>l8 (decide (((x27.size:Nat):Int)>=1)) (j0 v10 (fun b28 o29=>l4 (s5 b28 (o29+3)) kS (fun(x30:j1)=>K (.bool (decide (((x30.size:Nat):Int)<=255)))))) (K (.bool false))))) (K (.bool false))))) (K (.bool false))))))))) (fun(R31:u4->Int->s9)=>R31 (some ⟨b6,0,none⟩) 0)) (l8 ((x7:Int)==2)
 (l9 [.sc .ptr,.sc (.int .i64)] (fun(R32:u4->Int->s9)=>(fun(v33:u4) (v34:Int)=>j0 v33 (fun b35 o36=>l4 (s5 b35 (o36+4)) kL (fun x37=>l8 (decide ((v34:Int)<((x37.len:Nat):Int)))
 (w9 (T:=u4->Int->Value->Value->Value->Value->Value->Value->Value->Value->Value->Value->Value->Value->Value->Value->Value->Value->Value->Value->Value->Value->Value->Value->Value->Value->Value->Bool->s9) (fun v39 v40 _x41 _x42 _x43 _x44 _x45 _x46 _x47 _x48 _x49 _x50 _x51 _x52 _x53 _x54 _x55 _x56 _x57 _x58 _x59 _x60 _x61 _x62 _x63 _x64 _x65 x66=>l8 x66 (K (.bool false)) (R32 v39 (IntKind.i64.wrap (v40+1)))) (fun j38 =>
 j0 v33 (fun b67 o68=>l4 (s5 b67 (o68+4)) kL (fun x69=>j0 x69.base (fun b70 o71=>w6 (0<=v34/\v34<((x69.len:Nat):Int)) (l4 (s5 b70 (o71+v34.toNat * 5)) kS (fun(x72:j1)=>d8 195 [.string x72] kB (fun x73=>l8 (!x73)
 (j38 v33 v34 (.tuple ⟨[]⟩) (.tuple ⟨[]⟩) (.tuple ⟨[]⟩) (.tuple ⟨[]⟩) (.tuple ⟨[]⟩) (.tuple ⟨[]⟩) (.tuple ⟨[]⟩) (.tuple ⟨[]⟩) (.tuple ⟨[]⟩) (.tuple ⟨[]⟩) (.tuple ⟨[]⟩) (.tuple ⟨[]⟩) (.tuple ⟨[]⟩) (.tuple ⟨[]⟩) (.tuple ⟨[]⟩) (.tuple ⟨[]⟩) (.tuple ⟨[]⟩) (.tuple ⟨[]⟩) (.tuple ⟨[]⟩) (.tuple ⟨[]⟩) (.tuple ⟨[]⟩) (.tuple ⟨[]⟩) (.tuple ⟨[]⟩) (.tuple ⟨[]⟩) (.tuple ⟨[]⟩) true) (j0 v33 (fun b74 o75=>l4 (s5 b74 (o75+4)) kL (fun x76=>j0 x76.base (fun b77 o78 =>
 w6 (0<=v34/\v34<((x76.len:Nat):Int)) (l4 (rdA 5 b77 (o78+v34.toNat * 5)) (.one (.agg [.str,(.int .i64),.bool,.str,.slc])) (fun(x79:j1) (x80:Int) (x81:Bool) (x82:j1) (x83:Sl)=>d8 145 [.agg ⟨[.string x79,.int .i64 x80,.bool x81,.string x82,.slice x83.base x83.len x83.cap]⟩] kB (fun x84=>l8 (!x84)
 (j38 v33 v34 (.pointer (some ⟨b74,o75+4,none⟩)) (.slice x76.base x76.len x76.cap) (.int .i64 v34) (.pointer (some ⟨b77,o78+v34.toNat * 5,none⟩)) (.agg ⟨[.string x79,.int .i64 x80,.bool x81,.string x82,.slice x83.base x83.len x83.cap]⟩) (.bool x84) (.bool (!x84)) (.tuple ⟨[]⟩) (.tuple ⟨[]⟩) (.tuple ⟨[]⟩) (.tuple ⟨[]⟩) (.tuple ⟨[]⟩) (.tuple ⟨[]⟩) (.tuple ⟨[]⟩) (.tuple ⟨[]⟩) (.tuple ⟨[]⟩) (.tuple ⟨[]⟩) (.tuple ⟨[]⟩) (.tuple ⟨[]⟩) (.tuple ⟨[]⟩) (.tuple ⟨[]⟩) (.tuple ⟨[]⟩) (.tuple ⟨[]⟩) (.tuple ⟨[]⟩) (.tuple ⟨[]⟩) true)
 (l8 (decide ((v34:Int)>0)) (j0 v33 (fun b85 o86=>l4 (s5 b85 (o86+4)) kL (fun x87=>j0 x87.base (fun b88 o89=>w6 (0<=IntKind.i64.wrap (v34 - 1)/\IntKind.i64.wrap (v34 - 1)<((x87.len:Nat):Int)) (l4 (s5 b88 (o89+(IntKind.i64.wrap (v34 - 1):Int).toNat * 5)) kS (fun(x90:j1)=>j0 v33 (fun b91 o92=>l4 (s5 b91 (o92+4)) kL (fun x93=>j0 x93.base (fun b94 o95=>w6 (0<=v34/\v34<((x93.len:Nat):Int))
 (l4 (s5 b94 (o95+v34.toNat * 5)) kS (fun(x96:j1) =>
 j38 v33 v34 (.pointer (some ⟨b74,o75+4,none⟩)) (.slice x76.base x76.len x76.cap) (.int .i64 v34) (.pointer (some ⟨b77,o78+v34.toNat * 5,none⟩)) (.agg ⟨[.string x79,.int .i64 x80,.bool x81,.string x82,.slice x83.base x83.len x83.cap]⟩) (.bool x84) (.bool (!x84)) (.int .i64 v34) (.bool (decide ((v34:Int)>0))) (.bool true) (.pointer (some ⟨b85,o86+4,none⟩)) (.slice x87.base x87.len x87.cap) (.int .i64 v34) (.int .i64 (IntKind.i64.wrap (v34 - 1))) (.pointer (some ⟨b88,o89+(IntKind.i64.wrap (v34 - 1):Int).toNat * 5,none⟩)) (.pointer (some ⟨b88,o89+(IntKind.i64.wrap (v34 - 1):Int).toNat * 5,none⟩)) (.string x90) (.pointer (some ⟨b91,o92+4,none⟩)) (.slice x93.base x93.len x93.cap) (.int .i64 v34) (.pointer (some ⟨b94,o95+v34.toNat * 5,none⟩)) (.pointer (some ⟨b94,o95+v34.toNat * 5,none⟩)) (.string x96) (.bool (!E4 x90 x96)) (.bool (!E4 x90 x96)) (!E4 x90 x96))))))))))))
 (j38 v33 v34 (.pointer (some ⟨b74,o75+4,none⟩)) (.slice x76.base x76.len x76.cap) (.int .i64 v34) (.pointer (some ⟨b77,o78+v34.toNat * 5,none⟩)) (.agg ⟨[.string x79,.int .i64 x80,.bool x81,.string x82,.slice x83.base x83.len x83.cap]⟩) (.bool x84) (.bool (!x84)) (.int .i64 v34) (.bool (decide ((v34:Int)>0))) (.bool false) (.tuple ⟨[]⟩) (.tuple ⟨[]⟩) (.tuple ⟨[]⟩) (.tuple ⟨[]⟩) (.tuple ⟨[]⟩) (.tuple ⟨[]⟩) (.tuple ⟨[]⟩) (.tuple ⟨[]⟩) (.tuple ⟨[]⟩) (.tuple ⟨[]⟩) (.tuple ⟨[]⟩) (.tuple ⟨[]⟩) (.tuple ⟨[]⟩) (.tuple ⟨[]⟩) (.bool false) false)))))))))))))))))
 (j0 v33 (fun b97 o98=>l4 (s5 b97 (o98+2)) kB (fun x99=>l8 (!x99) (j0 v33 (fun b100 o101=>l4 (s5 b100 (o101+3)) kS (fun(x102:j1)=>K (.bool (B8 x102 (⟨⟨[]⟩⟩:j1)))))) (K (.bool false))))))))) (fun(R103:u4->Int->s9)=>R103 (some ⟨b6,0,none⟩) 0)) (K (.bool false))))))
theorem dw1 (v1:j1) (v2:Int) (v3:Bool) (v4:j1) (v5:Sl):cL3 v1 v2 v3 v4 v5 K σ->a8 145 [.agg ⟨[.string v1,.int .i64 v2,.bool v3,.string v4,.slice v5.base v5.len v5.cap]⟩] K σ:=k8 cL2 Tryz.func145


def cL4:Ann:=(.q (.n (.q (.h)) (.n (.reg (rn 5) [[],[0],[0,1],[],(rn 4)]) (.n (.q (.blk (.loop [(1,.p),(4,.i),(5,.i),(6,.i)] (.n (.q (.cond .z .z)) (.n (.blk (.q (.q .r))) .r))))) (.q .z)))))
def cL5 (v1:j1) (v2:Int) (v3:Bool) (v4:j1) (v5:Sl) (K:KH):s9 :=
 A9 (.cells ⟨[.string v1,.int .i64 v2,.bool v3,.string v4,.slice v5.base v5.len v5.cap]⟩ 75 (0,0)) (fun b6=>l4 (rdA 5 b6 0) (.one (.agg [.str,(.int .i64),.bool,.str,.slc])) (fun(x7:j1) (x8:Int) (x9:Bool) (x10:j1) (x11:Sl)=>d8 144 [.agg ⟨[.string x7,.int .i64 x8,.bool x9,.string x10,.slice x11.base x11.len x11.cap]⟩] kI (fun(x12:Int)=>l8 (decide ((x12:Int)>12)) (K (.tuple ⟨[.int .i64 0,.int .i64 0]⟩))
 (l4 (s5 b6 3) kS (fun(x13:j1)=>l9 [.sc .ptr,.sc (.int .i64),.sc (.int .i64),.sc (.int .i64)] (fun(R14:u4->Int->Int->Int->s9)=>(fun(v15:u4) (v16:Int) (v17:Int) (v18:Int)=>j0 v15 (fun b19 o20=>l4 (s5 b19 (o20+4)) kL (fun x21=>l8 (decide ((v18:Int)<((x21.len:Nat):Int))) (j0 v15 (fun b22 o23=>l4 (s5 b22 (o23+4)) kL (fun x24=>j0 x24.base (fun b25 o26 =>
 w6 (0<=v18/\v18<((x24.len:Nat):Int)) (l4 (rdA 5 b25 (o26+v18.toNat * 5)) (.one (.agg [.str,(.int .i64),.bool,.str,.slc])) (fun(x27:j1) (x28:Int) (x29:Bool) (x30:j1) (x31:Sl)=>d8 146 [.agg ⟨[.string x27,.int .i64 x28,.bool x29,.string x30,.slice x31.base x31.len x31.cap]⟩] (.tup [.sc (.int .i64),.sc (.int .i64)]) (fun(x32:Int) (x33:Int) =>
 R14 v15 (IntKind.i64.wrap (v16+x32)) (IntKind.i64.wrap (v17+x33)) (IntKind.i64.wrap (v18+1))))))))) (K (.tuple ⟨[.int .i64 v16,.int .i64 v17]⟩)))))) (fun(R34:u4->Int->Int->Int->s9)=>R34 (some ⟨b6,0,none⟩) 1 ((x13.size:Nat):Int) 0))))))
theorem dw2 (v1:j1) (v2:Int) (v3:Bool) (v4:j1) (v5:Sl):cL5 v1 v2 v3 v4 v5 K σ->a8 146 [.agg ⟨[.string v1,.int .i64 v2,.bool v3,.string v4,.slice v5.base v5.len v5.cap]⟩] K σ:=k8 cL4 Tryz.func146


def cL6:Ann:=(.q (.q (.n (.q (.blk (.loop [(0,.s),(1,.sc (.int .u64)),(5,.s)] (.n (.q (.cond .z .z)) (.n (.blk .r) .r))))) (.q .z))))
def cL7 (v1:j1) (v2:Int) (K:KH):s9 :=
 w6 ((128:Int)≠0) (A9 (.cells ⟨[.int .u8 (IntKind.u8.wrap (Int.tmod v2 128))]⟩ 5 (0,0)) (fun b3=>M7 Tryz.prog (convert 36 9 (.slice (some ⟨b3,0,none⟩) 1 1)) kS (fun(x4:j1)=>w6 ((128:Int)≠0) (l9 [.sc .str,.sc (.int .u64),.sc .str] (fun(R5:j1->Int->j1->s9)=>(fun(v6:j1) (v7:Int) (v8:j1)=>l8 (decide ((v7:Int)>0)) (w6 ((128:Int)≠0)
 (A9 (.cells ⟨[.int .u8 (IntKind.u8.wrap ((IntKind.u8.wrap (Int.tmod v7 128))+128))]⟩ 5 (0,0)) (fun b9=>M7 Tryz.prog (convert 36 9 (.slice (some ⟨b9,0,none⟩) 1 1)) kS (fun(x10:j1)=>w6 (x10.size+v8.size<=9223372036854775807) (w6 ((128:Int)≠0) (R5 v6 (IntKind.u64.wrap (Int.tdiv v7 128)) (x10++v8))))))) (w6 (v6.size+v8.size<=9223372036854775807)
 (K (.string (v6++v8)))))) (fun(R11:j1->Int->j1->s9)=>R11 v1 (IntKind.u64.wrap (Int.tdiv v2 128)) x4)))))
theorem dw3 (v1:j1) (v2:Int):cL7 v1 v2 K σ->a8 147 [.string v1,.int .u64 v2] K σ:=k8 cL6 Tryz.func147


def cL8:Ann:=(.q (.n (.q (.blk (.loop [(0,.sc (.int .u8)),(1,.s),(5,.i)] (.n (.q (.cond .z .z)) (.n (.blk (.q (.h))) .r))))) (.q .z)))
def cL9 (v1:Int) (v2:j1) (K:KH):s9 :=
 l9 [.sc (.int .u8),.sc .str,.sc (.int .i64)] (fun(R3:Int->j1->Int->s9)=>(fun(v4:Int) (v5:j1) (v6:Int)=>l8 (decide ((v6:Int)<((v5.size:Nat):Int))) (B2 v5 v6 (fun c7=>l8 ((c7.toNat:Int)==v4) (K (.bool true)) (R3 v4 v5 (IntKind.i64.wrap (v6+1))))) (K (.bool false)))) (fun(R8:Int->j1->Int->s9)=>R8 v1 v2 0)
theorem dw4 (v1:Int) (v2:j1):cL9 v1 v2 K σ->a8 148 [.int .u8 v1,.string v2] K σ:=k8 cL8 Tryz.func148


def cM0:Ann:=(.q (.q .z))
def dw5  (K:KH):s9 :=
 K (.string ⟨⟨[48,49,50,51,52,53,54,55,56,57,97,98,99,100,102,103,104,105,106,107,108,109,110,112,113,114,115,118,119,120,121,122]⟩⟩)
theorem cM1 :dw5  K σ->a8 149 [] K σ:=k8 cM0 Tryz.func149


def cM2:Ann:=(.q (.n (.q (.blk (.loop [(0,.s),(1,.s),(5,.i)] (.n (.q (.cond .z .z)) (.n (.blk (.q (.h))) .r))))) (.q .z)))
def cM3 (v1:j1) (v2:j1) (K:KH):s9 :=
 l9 [.sc .str,.sc .str,.sc (.int .i64)] (fun(R3:j1->j1->Int->s9)=>(fun(v4:j1) (v5:j1) (v6:Int)=>l8 (decide (((IntKind.i64.wrap (v6+((v4.size:Nat):Int))):Int)<=((v5.size:Nat):Int))) (w6 (A1 (some (IntKind.i64.wrap (v6+((v4.size:Nat):Int)))) v5.size/\A1 (some v6) ((IntKind.i64.wrap (v6+((v4.size:Nat):Int))).toNat))
 (l8 (B8 (v5.extract v6.toNat ((IntKind.i64.wrap (v6+((v4.size:Nat):Int))).toNat)) v4) (K (.bool true)) (R3 v4 v5 (IntKind.i64.wrap (v6+1))))) (K (.bool false)))) (fun(R7:j1->j1->Int->s9)=>R7 v1 v2 0)
theorem dw6 (v1:j1) (v2:j1):cM3 v1 v2 K σ->a8 150 [.string v1,.string v2] K σ:=k8 cM2 Tryz.func150


def cM4:Ann:=(.q (.n (.q (.h)) (.q (.n (.q (.h)) (.q .z)))))
def cM5 (v1:j1) (v2:j1) (K:KH):s9 :=
 d8 96 [.string v1] kB (fun x3=>l8 (!x3) (K (.tuple ⟨[.string ⟨⟨[]⟩⟩,.int .i64 2]⟩)) (d8 97 [.string v2] kI (fun(x4:Int)=>l8 ((x4:Int) != 0) (K (.tuple ⟨[.string ⟨⟨[]⟩⟩,.int .i64 x4]⟩)) (w6 (v1.size+(⟨⟨[45]⟩⟩:j1).size<=9223372036854775807) (w6 ((v1++⟨⟨[45]⟩⟩).size+v2.size<=9223372036854775807)
 (K (.tuple ⟨[.string ((v1++⟨⟨[45]⟩⟩)++v2),.int .i64 0]⟩)))))))
theorem dw7 (v1:j1) (v2:j1):cM5 v1 v2 K σ->a8 151 [.string v1,.string v2] K σ:=k8 cM4 Tryz.func151


def cM6:Ann:=(.q (.q (.q (.n (.q (.blk (.loop [(3,.s),(4,.s),(5,.i)] (.n (.q (.cond .z .z)) (.n (.blk (.q (.n (.q (.blk (.loop [(3,.s),(4,.s),(5,.i),(6,.i),(7,.i)] (.n (.q (.cond .z .z)) (.n (.blk .r) .r))))) .r))) .r))))) (.q .z)))))
def cM7 (v1:j1) (K:KH):s9 :=
 d8 196 [.string v1] kS (fun(x2:j1)=>l9 [.sc .str,.sc .str,.sc (.int .i64)] (fun(R3:j1->j1->Int->s9)=>(fun(v4:j1) (v5:j1) (v6:Int)=>l8 (decide ((v6:Int)<32)) (l9 [.sc .str,.sc .str,.sc (.int .i64),.sc (.int .i64),.sc (.int .i64)] (fun(R7:j1->j1->Int->Int->Int->s9)=>(fun(v8:j1) (v9:j1) (v10:Int) (v11:Int) (v12:Int) =>
 l8 (decide ((v12:Int)<5)) (d8 197 [.string v8,.int .i64 (IntKind.i64.wrap ((IntKind.i64.wrap (5 * v10))+v12))] kI (fun(x13:Int)=>R7 v8 v9 v10 (IntKind.i64.wrap ((IntKind.i64.wrap (2 * v11))+x13)) (IntKind.i64.wrap (v12+1)))) (d8 149 [] kS (fun(x14:j1)=>w6 (A1 (some (IntKind.i64.wrap (v11+1))) x14.size/\A1 (some v11) ((IntKind.i64.wrap (v11+1)).toNat))
 (w6 (v9.size+(x14.extract v11.toNat ((IntKind.i64.wrap (v11+1)).toNat)).size<=9223372036854775807) (R3 v8 (v9++(x14.extract v11.toNat ((IntKind.i64.wrap (v11+1)).toNat))) (IntKind.i64.wrap (v10+1)))))))) (fun(R15:j1->j1->Int->Int->Int->s9)=>R15 v4 v5 v6 0 0)) (K (.string v5)))) (fun(R16:j1->j1->Int->s9)=>R16 x2 (⟨⟨[]⟩⟩:j1) 0))
theorem dw8 (v1:j1):cM7 v1 K σ->a8 152 [.string v1] K σ:=k8 cM6 Tryz.func152

end Go.Proofs.YtgfiobhpipollaaGreatDoor

set_option maxRecDepth 100000
namespace Go.Proofs.YtgfiobhpipollaaGreatDoor
open Go Go.HL
variable {K:KH} {σ:H}
def cM8:Ann:=(.q (.seq (some []) (.q (.blk (.q (.cond (.n (.seq (some [(0,.p),(1,.p),(2,.l),(31,.b)]) .r (.h)) (.q .r)) (.q (.cond (.q (.n (.seq (some [(0,.p),(2,.l),(7,.i),(80,.b)]) (.reg (rn 34) [[],[0],[0,1],[0,1,2],(rn 4),(rn 5),(rn 6),(rn 7),(rn 8),(rn 9),(rn 10),(rn 11),(rn 12),(rn 13),(rn 14),(rn 15),(rn 16),(rn 17),(rn 18),(rn 19),(rn 20),(rn 21),(rn 22),(rn 23),(rn 20),[0,1,2,3,4,5,6,7,8,9,10,11,12,13,14,15,16,17,18,19,24],(rn 26),(rn 27),(rn 20),[0,1,2,3,4,5,6,7,8,9,10,11,12,13,14,15,16,17,18,19,28],[0,1,2,3,4,5,6,7,8,9,10,11,12,13,14,15,16,17,18,19,28,29],(rn 31),(rn 32),(rn 33)]) (.h)) (.n (.q (.h)) (.reg (rn 13) [[],[],[1],[1,2],[1,2,3],[],[5],[5,6],[5,6,7],[1,2,3,4,5,6,7,8],(rn 10),(rn 11),(rn 12)])))) (.q (.cond (.q (.n (.seq (some [(0,.p),(1,.p),(2,.l),(8,.i),(136,.b)]) (.reg (rn 35) [[],[0],[0,1],[0,1,2],(rn 4),(rn 5),(rn 6),(rn 7),(rn 8),(rn 9),(rn 10),(rn 11),(rn 12),(rn 13),(rn 14),(rn 15),(rn 16),(rn 17),(rn 18),(rn 19),(rn 20),(rn 21),(rn 22),(rn 23),(rn 20),[0,1,2,3,4,5,6,7,8,9,10,11,12,13,14,15,16,17,18,19,24],(rn 26),(rn 27),(rn 28),(rn 20),[0,1,2,3,4,5,6,7,8,9,10,11,12,13,14,15,16,17,18,19,29],[0,1,2,3,4,5,6,7,8,9,10,11,12,13,14,15,16,17,18,19,29,30],(rn 32),(rn 33),(rn 34)]) (.h)) (.q (.n (.seq (some [(0,.p),(1,.p),(2,.l),(8,.i),(9,.s),(150,.b)]) .r (.h)) (.n (.q (.h)) (.n (.reg (rn 15) [[],[],[1],[1,2],[1,2,3],[],[5],[5,6],[],[5,6,7,8],[5,6,7,8,9],[1,2,3,4,5,6,7,8,9,10],(rn 12),(rn 13),(rn 14)]) .r)))))) (.q (.cond (.n (.seq (some [(1,.p),(179,.b)]) .r (.h)) .r) (.q .z))))))))))) (.q .z)))
def cM9 (v1:u4) (v2:u4) (v3:Sl) (K:KH):s9 :=
 w9 (T:=s9) (K (.int .i64 0)) (fun j4=>j0 v3.base (fun b5 o6=>w6 (0<=(0:Int)/\(0:Int)<((v3.len:Nat):Int)) (l4 (s5 b5 (o6+(0:Int).toNat * 1)) kS (fun(x7:j1)=>l8 (B8 x7 (⟨⟨[100,114,118]⟩⟩:j1)) (w9 (T:=u4->u4->Sl->Bool->s9) (fun v9 v10 v11 x12=>l8 x12 (K (.int .i64 4)) (j0 v11.base (fun b13 o14=>w6 (0<=(1:Int)/\(1:Int)<((v11.len:Nat):Int))
 (l4 (s5 b13 (o14+(1:Int).toNat * 1)) kS (fun(x15:j1)=>j0 v9 (fun b16 o17=>t8 9 (.pointer (some ⟨b16,o17,none⟩)) (.string x15) (j0 v10 (fun b18 o19=>t8 3 (.pointer (some ⟨b18,o19,none⟩)) (.int .i64 1) (j4))))))))) (fun j8=>j0 v2 (fun b20 o21=>l4 (s5 b20 o21) kI (fun(x22:Int)=>l8 ((x22:Int) != 0) (j8 v1 v2 v3 true) (l8 (((v3.len:Nat):Int) != 2) (j8 v1 v2 v3 true)
 (j0 v3.base (fun b23 o24=>w6 (0<=(1:Int)/\(1:Int)<((v3.len:Nat):Int)) (l4 (s5 b23 (o24+(1:Int).toNat * 1)) kS (fun(x25:j1)=>d8 97 [.string x25] kI (fun(x26:Int)=>j8 v1 v2 v3 ((x26:Int) != 0))))))))))) (l8 (B8 x7 (⟨⟨[105,110]⟩⟩:j1)) (j0 v1 (fun b27 o28=>l4 (s5 b27 (o28+1)) kL (fun x29=>w9 (T:=u4->Sl->Int->Bool->s9) (fun v31 v32 v33 x34=>l8 x34 (K (.int .i64 4))
 (l8 ((v33:Int)==8) (K (.int .i64 3)) (j0 v31 (fun b35 o36=>l4 (s5 b35 (o36+1)) kL (fun x37=>j0 v32.base (fun b38 o39=>w6 (0<=(1:Int)/\(1:Int)<((v32.len:Nat):Int)) (l4 (s5 b38 (o39+(1:Int).toNat * 1)) kS (fun(x40:j1)=>A9 (.cells ⟨[.string x40]⟩ 9 (0,0)) (fun b41=>Q4 .append #[23,23] 23 [false,false] [.slice x37.base x37.len x37.cap,.slice (some ⟨b41,0,none⟩) 1 1] kL (fun x42=>j0 v31 (fun b43 o44 =>
 t8 23 (.pointer (some ⟨b43,o44+1,none⟩)) (.slice x42.base x42.len x42.cap) (j4)))))))))))) (fun j30=>j0 v2 (fun b45 o46=>l4 (s5 b45 o46) kI (fun(x47:Int)=>l8 ((x47:Int) != 1) (j30 v1 v3 ((x29.len:Nat):Int) true) (l8 (((v3.len:Nat):Int) != 2) (j30 v1 v3 ((x29.len:Nat):Int) true) (j0 v3.base (fun b48 o49=>w6 (0<=(1:Int)/\(1:Int)<((v3.len:Nat):Int))
 (l4 (s5 b48 (o49+(1:Int).toNat * 1)) kS (fun(x50:j1)=>d8 198 [.string x50] kB (fun x51=>l8 (!x51) (j30 v1 v3 ((x29.len:Nat):Int) true) (l8 (decide (((x29.len:Nat):Int)>0)) (j0 v1 (fun b52 o53=>l4 (s5 b52 (o53+1)) kL (fun x54=>j0 x54.base (fun b55 o56=>w6 (0<=IntKind.i64.wrap (((x29.len:Nat):Int) - 1)/\IntKind.i64.wrap (((x29.len:Nat):Int) - 1)<((x54.len:Nat):Int))
 (l4 (s5 b55 (o56+(IntKind.i64.wrap (((x29.len:Nat):Int) - 1):Int).toNat * 1)) kS (fun(x57:j1)=>j0 v3.base (fun b58 o59=>w6 (0<=(1:Int)/\(1:Int)<((v3.len:Nat):Int)) (l4 (s5 b58 (o59+(1:Int).toNat * 1)) kS (fun(x60:j1)=>j30 v1 v3 ((x29.len:Nat):Int) (!E4 x57 x60)))))))))) (j30 v1 v3 ((x29.len:Nat):Int) false)))))))))))))) (l8 (B8 x7 (⟨⟨[101,110,118]⟩⟩:j1)) (j0 v1 (fun b61 o62 =>
 l4 (s5 b61 (o62+2)) kL (fun x63=>w9 (T:=u4->u4->Sl->Int->Bool->s9) (fun v65 v66 v67 v68 x69=>l8 x69 (K (.int .i64 4)) (j0 v67.base (fun b70 o71=>w6 (0<=(2:Int)/\(2:Int)<((v67.len:Nat):Int)) (l4 (s5 b70 (o71+(2:Int).toNat * 1)) kS (fun(x72:j1)=>d8 200 [.string x72] (.tup [.sc .str,.sc .bool]) (fun(x73:j1) (x74:Bool) =>
 w9 (T:=u4->u4->Sl->Int->j1->Bool->s9) (fun v76 v77 v78 v79 v80 x81=>l8 x81 (K (.int .i64 4)) (l8 ((v79:Int)==16) (K (.int .i64 3)) (j0 v76 (fun b82 o83=>l4 (s5 b82 (o83+2)) kL (fun x84=>j0 v78.base (fun b85 o86=>w6 (0<=(1:Int)/\(1:Int)<((v78.len:Nat):Int)) (l4 (s5 b85 (o86+(1:Int).toNat * 1)) kS (fun(x87:j1)=>A9 (.cells ⟨[.string x87,.string v80]⟩ 206 (0,0)) (fun b88 =>
 Q4 .append #[111,111] 111 [false,false] [.slice x84.base x84.len x84.cap,.slice (some ⟨b88,0,none⟩) 1 1] kL (fun x89=>j0 v76 (fun b90 o91=>t8 111 (.pointer (some ⟨b90,o91+2,none⟩)) (.slice x89.base x89.len x89.cap) (j0 v77 (fun b92 o93=>t8 3 (.pointer (some ⟨b92,o93,none⟩)) (.int .i64 2) (j4)))))))))))))) (fun j75=>l8 (!x74) (j75 v65 v66 v67 v68 x73 true)
 (j75 v65 v66 v67 v68 x73 (decide (((x73.size:Nat):Int)>200)))))))))) (fun j64=>j0 v2 (fun b94 o95=>l4 (s5 b94 o95) kI (fun(x96:Int)=>l8 (decide ((x96:Int)<1)) (j64 v1 v2 v3 ((x63.len:Nat):Int) true) (l8 (((v3.len:Nat):Int) != 3) (j64 v1 v2 v3 ((x63.len:Nat):Int) true) (j0 v3.base (fun b97 o98=>w6 (0<=(1:Int)/\(1:Int)<((v3.len:Nat):Int))
 (l4 (s5 b97 (o98+(1:Int).toNat * 1)) kS (fun(x99:j1)=>d8 199 [.string x99] kB (fun x100=>l8 (!x100) (j64 v1 v2 v3 ((x63.len:Nat):Int) true) (l8 (decide (((x63.len:Nat):Int)>0)) (j0 v1 (fun b101 o102=>l4 (s5 b101 (o102+2)) kL (fun x103=>j0 x103.base (fun b104 o105=>w6 (0<=IntKind.i64.wrap (((x63.len:Nat):Int) - 1)/\IntKind.i64.wrap (((x63.len:Nat):Int) - 1)<((x103.len:Nat):Int))
 (l4 (s5 b104 (o105+(IntKind.i64.wrap (((x63.len:Nat):Int) - 1):Int).toNat * 2)) kS (fun(x106:j1)=>j0 v3.base (fun b107 o108=>w6 (0<=(1:Int)/\(1:Int)<((v3.len:Nat):Int)) (l4 (s5 b107 (o108+(1:Int).toNat * 1)) kS (fun(x109:j1)=>j64 v1 v2 v3 ((x63.len:Nat):Int) (!E4 x106 x109)))))))))) (j64 v1 v2 v3 ((x63.len:Nat):Int) false)))))))))))))) (l8 (B8 x7 (⟨⟨[114,117,110]⟩⟩:j1))
 (w9 (T:=u4->Bool->s9) (fun v111 x112=>l8 x112 (K (.int .i64 4)) (j0 v111 (fun b113 o114=>t8 3 (.pointer (some ⟨b113,o114,none⟩)) (.int .i64 3) (j4)))) (fun j110=>j0 v2 (fun b115 o116=>l4 (s5 b115 o116) kI (fun(x117:Int)=>l8 (decide ((x117:Int)<1)) (j110 v2 true) (j110 v2 (((v3.len:Nat):Int) != 1)))))) (K (.int .i64 18)))))))))
theorem dw9 (v1:u4) (v2:u4) (v3:Sl):cM9 v1 v2 v3 K σ->a8 153 [.pointer v1,.pointer v2,.slice v3.base v3.len v3.cap] K σ:=k8 cM8 Tryz.func153


def cN0:Ann:=(.q (.q (.q (.n (.q (.blk (.loop [(0,.s),(3,.l),(4,.i),(5,.i)] (.n (.q (.cond .z .z)) (.seq (some [(0,.s),(3,.l),(4,.i),(5,.i)]) (.blk (.seq (some [(0,.s),(3,.l),(4,.i),(5,.i),(21,.b)]) .r (.cond (.q .r) .z))) .r))))) (.q .z)))))
def cN1 (v1:j1) (K:KH):s9 :=
 l9 [.sc .str,.sc .slc,.sc (.int .i64),.sc (.int .i64)] (fun(R2:j1->Sl->Int->Int->s9)=>(fun(v3:j1) (v4:Sl) (v5:Int) (v6:Int)=>l8 (decide ((v6:Int)<=((v3.size:Nat):Int))) (w9 (T:=j1->Sl->Int->Int->s9) (fun v8 v9 v10 v11=>R2 v8 v9 v10 (IntKind.i64.wrap (v11+1))) (fun j7=>w9 (T:=j1->Sl->Int->Int->Bool->s9) (fun v13 v14 v15 v16 x17=>l8 x17
 (w6 (A1 (some v16) v13.size/\A1 (some v15) (v16.toNat)) (A9 (.cells ⟨[.string (v13.extract v15.toNat v16.toNat)]⟩ 9 (0,0)) (fun b18=>Q4 .append #[23,23] 23 [false,false] [.slice v14.base v14.len v14.cap,.slice (some ⟨b18,0,none⟩) 1 1] kL (fun x19=>j7 v13 x19 (IntKind.i64.wrap (v16+1)) v16)))) (j7 v13 v14 v15 v16)) (fun j12=>l8 ((v6:Int)==((v3.size:Nat):Int)) (j12 v3 v4 v5 v6 true) (B2 v3 v6 (fun c20 =>
 j12 v3 v4 v5 v6 ((c20.toNat:Int)==32)))))) (K (.slice v4.base v4.len v4.cap)))) (fun(R21:j1->Sl->Int->Int->s9)=>R21 v1 ⟨none,0,0⟩ 0 0)
theorem dx0 (v1:j1):cN1 v1 K σ->a8 154 [.string v1] K σ:=k8 cN0 Tryz.func154


def cN2:Ann:=(.q (.n (.q (.h)) (.q (.n (.q (.blk (.loop [(1,.p),(4,.s),(5,.i)] (.n (.q (.cond .z .z)) (.n (.blk .r) .r))))) (.n (.q (.blk (.loop [(1,.p),(4,.s),(6,.i)] (.n (.q (.cond .z .z)) (.n (.blk (.reg (rn 20) [[],[0],[],[2],[],[2,3,4],[2,3,4,5],[2,3,4,5,6],(rn 8),(rn 9),[],[10],[],[10,11,12],[10,11,12,13],[10,11,12,13,14],[10,11,12,13,14,15],(rn 17),(rn 18),(rn 19)])) .r))))) (.q .z))))))
def cN3 (v1:j1) (v2:Sl) (v3:Sl) (v4:j1) (K:KH):s9 :=
 A9 (.cells ⟨[.string v1,.slice v2.base v2.len v2.cap,.slice v3.base v3.len v3.cap,.string v4]⟩ 113 (0,0)) (fun b5=>l4 (rdA 4 b5 0) (.one (.agg [.str,.slc,.slc,.str])) (fun(x6:j1) (x7:Sl) (x8:Sl) (x9:j1)=>d8 201 [.agg ⟨[.string x6,.slice x7.base x7.len x7.cap,.slice x8.base x8.len x8.cap,.string x9]⟩] kB (fun x10=>l8 (!x10) (K (.tuple ⟨[.string ⟨⟨[]⟩⟩,.int .i64 2]⟩)) (l4 (s5 b5 0) kS (fun(x11:j1) =>
 w6 ((⟨⟨[100,114,118,32]⟩⟩:j1).size+x11.size<=9223372036854775807) (w6 (((⟨⟨[100,114,118,32]⟩⟩:j1)++x11).size+(⟨⟨[10]⟩⟩:j1).size<=9223372036854775807) (l9 [.sc .ptr,.sc .str,.sc (.int .i64)] (fun(R12:u4->j1->Int->s9)=>(fun(v13:u4) (v14:j1) (v15:Int)=>j0 v13 (fun b16 o17=>l4 (s5 b16 (o17+1)) kL (fun x18=>l8 (decide ((v15:Int)<((x18.len:Nat):Int)))
 (w6 (v14.size+(⟨⟨[105,110,32]⟩⟩:j1).size<=9223372036854775807) (j0 v13 (fun b19 o20=>l4 (s5 b19 (o20+1)) kL (fun x21=>j0 x21.base (fun b22 o23=>w6 (0<=v15/\v15<((x21.len:Nat):Int)) (l4 (s5 b22 (o23+v15.toNat * 1)) kS (fun(x24:j1)=>w6 ((v14++⟨⟨[105,110,32]⟩⟩).size+x24.size<=9223372036854775807) (w6 (((v14++⟨⟨[105,110,32]⟩⟩)++x24).size+(⟨⟨[10]⟩⟩:j1).size<=9223372036854775807)
 (R12 v13 (((v14++⟨⟨[105,110,32]⟩⟩)++x24)++⟨⟨[10]⟩⟩) (IntKind.i64.wrap (v15+1))))))))))) (l9 [.sc .ptr,.sc .str,.sc (.int .i64)] (fun(R25:u4->j1->Int->s9)=>(fun(v26:u4) (v27:j1) (v28:Int)=>j0 v26 (fun b29 o30=>l4 (s5 b29 (o30+2)) kL (fun x31=>l8 (decide ((v28:Int)<((x31.len:Nat):Int))) (w6 (v27.size+(⟨⟨[101,110,118,32]⟩⟩:j1).size<=9223372036854775807)
 (j0 v26 (fun b32 o33=>l4 (s5 b32 (o33+2)) kL (fun x34=>j0 x34.base (fun b35 o36=>w6 (0<=v28/\v28<((x34.len:Nat):Int)) (l4 (s5 b35 (o36+v28.toNat * 2)) kS (fun(x37:j1)=>w6 ((v27++⟨⟨[101,110,118,32]⟩⟩).size+x37.size<=9223372036854775807) (w6 (((v27++⟨⟨[101,110,118,32]⟩⟩)++x37).size+(⟨⟨[32]⟩⟩:j1).size<=9223372036854775807) (j0 v26 (fun b38 o39=>l4 (s5 b38 (o39+2)) kL (fun x40 =>
 j0 x40.base (fun b41 o42=>w6 (0<=v28/\v28<((x40.len:Nat):Int)) (l4 (s5 b41 (o42+v28.toNat * 2+1)) kS (fun(x43:j1)=>d8 202 [.string x43] kS (fun(x44:j1)=>A2 (fun σ=>(s5 b35 (o36+v28.toNat * 2)) σ=some (.string x37)) (A2 (fun σ=>(s5 b32 (o33+2)) σ=some (.slice x34.base x34.len x34.cap)) (w6 ((((v27++⟨⟨[101,110,118,32]⟩⟩)++x37)++⟨⟨[32]⟩⟩).size+x44.size<=9223372036854775807)
 (w6 (((((v27++⟨⟨[101,110,118,32]⟩⟩)++x37)++⟨⟨[32]⟩⟩)++x44).size+(⟨⟨[10]⟩⟩:j1).size<=9223372036854775807) (R25 v26 (((((v27++⟨⟨[101,110,118,32]⟩⟩)++x37)++⟨⟨[32]⟩⟩)++x44)++⟨⟨[10]⟩⟩) (IntKind.i64.wrap (v28+1))))))))))))))))))))) (w6 (v27.size+(⟨⟨[114,117,110,10]⟩⟩:j1).size<=9223372036854775807) (j0 v26 (fun b45 o46 =>
 l4 (s5 b45 (o46+3)) kS (fun(x47:j1)=>w6 ((v27++⟨⟨[114,117,110,10]⟩⟩).size+x47.size<=9223372036854775807) (K (.tuple ⟨[.string ((v27++⟨⟨[114,117,110,10]⟩⟩)++x47),.int .i64 0]⟩)))))))))) (fun(R48:u4->j1->Int->s9)=>R48 v13 v14 0)))))) (fun(R49:u4->j1->Int->s9)=>R49 (some ⟨b5,0,none⟩) (((⟨⟨[100,114,118,32]⟩⟩:j1)++x11)++⟨⟨[10]⟩⟩) 0))))))))
theorem dx1 (v1:j1) (v2:Sl) (v3:Sl) (v4:j1):cN3 v1 v2 v3 v4 K σ->a8 155 [.agg ⟨[.string v1,.slice v2.base v2.len v2.cap,.slice v3.base v3.len v3.cap,.string v4]⟩] K σ:=k8 cN2 Tryz.func155


def cN4:Ann:=(.q (.blk (.loop [(0,.l),(1,.i),(2,.i),(6,.i)] (.n (.q (.cond .z .z)) (.n (.blk (.q (.blk (.loop [(0,.l),(1,.i),(2,.i),(6,.i),(7,.i)] (.n (.seq (some [(0,.l),(1,.i),(2,.i),(6,.i),(7,.i),(20,.w),(21,.w),(22,.w),(23,.w),(24,.w),(25,.w),(26,.w),(27,.w),(28,.w),(29,.w),(30,.b)]) (.reg (rn 15) [[],[],[0,1],[0,1,2],(rn 4),(rn 4),(rn 6),(rn 7),(rn 4),(rn 4),[0,1,2,3,9],[0,1,2,3,8,9,10],[0,1,2,3,8,9,10,11],(rn 13),(rn 14)]) (.cond .z .z)) (.n (.blk (.reg (rn 18) [[],[],[],[],[3],[],[],[6],[5,6,7],[5,6,7,8],[],[],[10,11],[10,11,12],[0,1,5,6,7,8,9,10,11,12,13],[0,1,5,6,7,8,9,10,11,12,13,14],(rn 16),(rn 17)])) .r)))))) .r)))))
def cr9 (v1:Sl) (v2:Int) (v3:Int) (K:KH):s9 :=
 l9 [.sc .slc,.sc (.int .i64),.sc (.int .i64),.sc (.int .i64)] (fun(R4:Sl->Int->Int->Int->s9)=>(fun(v5:Sl) (v6:Int) (v7:Int) (v8:Int)=>l8 (decide ((v8:Int)<v7)) (l9 [.sc .slc,.sc (.int .i64),.sc (.int .i64),.sc (.int .i64),.sc (.int .i64)] (fun(R9:Sl->Int->Int->Int->Int->s9)=>(fun(v10:Sl) (v11:Int) (v12:Int) (v13:Int) (v14:Int) =>
 w9 (T:=Sl->Int->Int->Int->Int->Value->Value->Value->Value->Value->Value->Value->Value->Value->Value->Bool->s9) (fun v16 v17 v18 v19 v20 _x21 _x22 _x23 _x24 _x25 _x26 _x27 _x28 _x29 _x30 x31=>l8 x31 (j0 v16.base (fun b32 o33=>w6 (0<=IntKind.i64.wrap (v20 - 1)/\IntKind.i64.wrap (v20 - 1)<((v16.len:Nat):Int)) (l4 (s5 b32 (o33+(IntKind.i64.wrap (v20 - 1):Int).toNat * 1)) kS (fun(x34:j1) =>
 j0 v16.base (fun b35 o36=>w6 (0<=v20/\v20<((v16.len:Nat):Int)) (l4 (s5 b35 (o36+v20.toNat * 1)) kS (fun(x37:j1)=>j0 v16.base (fun b38 o39=>w6 (0<=v20/\v20<((v16.len:Nat):Int)) (t8 9 (.pointer (some ⟨b38,o39+v20.toNat * 1,none⟩)) (.string x34) (j0 v16.base (fun b40 o41=>w6 (0<=IntKind.i64.wrap (v20 - 1)/\IntKind.i64.wrap (v20 - 1)<((v16.len:Nat):Int))
 (t8 9 (.pointer (some ⟨b40,o41+(IntKind.i64.wrap (v20 - 1):Int).toNat * 1,none⟩)) (.string x37) (R9 v16 v17 v18 v19 (IntKind.i64.wrap (v20 - 1))))))))))))))) (R4 v16 v17 v18 (IntKind.i64.wrap (v19+1)))) (fun j15=>l8 (decide ((v14:Int)>v11)) (j0 v10.base (fun b42 o43=>w6 (0<=v14/\v14<((v10.len:Nat):Int)) (l4 (s5 b42 (o43+v14.toNat * 1)) kS (fun(x44:j1)=>j0 v10.base (fun b45 o46 =>
 w6 (0<=IntKind.i64.wrap (v14 - 1)/\IntKind.i64.wrap (v14 - 1)<((v10.len:Nat):Int)) (l4 (s5 b45 (o46+(IntKind.i64.wrap (v14 - 1):Int).toNat * 1)) kS (fun(x47:j1)=>d8 162 [.string x44,.string x47] kB (fun x48 =>
 j15 v10 v11 v12 v13 v14 (.slice v10.base v10.len v10.cap) (.int .i64 v14) (.pointer (some ⟨b42,o43+v14.toNat * 1,none⟩)) (.string x44) (.slice v10.base v10.len v10.cap) (.int .i64 v14) (.int .i64 (IntKind.i64.wrap (v14 - 1))) (.pointer (some ⟨b45,o46+(IntKind.i64.wrap (v14 - 1):Int).toNat * 1,none⟩)) (.string x47) (.bool x48) x48))))))))
 (j15 v10 v11 v12 v13 v14 (.tuple ⟨[]⟩) (.tuple ⟨[]⟩) (.tuple ⟨[]⟩) (.tuple ⟨[]⟩) (.tuple ⟨[]⟩) (.tuple ⟨[]⟩) (.tuple ⟨[]⟩) (.tuple ⟨[]⟩) (.tuple ⟨[]⟩) (.tuple ⟨[]⟩) false)))) (fun(R49:Sl->Int->Int->Int->Int->s9)=>R49 v5 v6 v7 v8 v8)) (K (.tuple ⟨[]⟩)))) (fun(R50:Sl->Int->Int->Int->s9)=>R50 v1 v2 v3 (IntKind.i64.wrap (v2+1)))
theorem cN5 (v1:Sl) (v2:Int) (v3:Int):cr9 v1 v2 v3 K σ->a8 156 [.slice v1.base v1.len v1.cap,.int .i64 v2,.int .i64 v3] K σ:=k8 cN4 Tryz.func156


def cN6:Ann:=(.q (.seq (some [(0,.sc (.int .u64)),(2,.i)]) (.q (.cond (.q .r) .z)) (.seq (some [(0,.sc (.int .u64)),(2,.i)]) (.q (.cond (.q .r) .z)) (.seq (some [(0,.sc (.int .u64)),(2,.i)]) (.q (.cond (.q .r) .z)) (.q .z)))))
def cs1 (v1:Int) (K:KH):s9 :=
 w9 (T:=Int->Int->s9) (fun v3 v4=>w9 (T:=Int->Int->s9) (fun v6 v7=>w9 (T:=Int->Int->s9) (fun v9 v10 =>
 B2 (⟨⟨[0,1,2,2,3,3,3,3,4,4,4,4,4,4,4,4,5,5,5,5,5,5,5,5,5,5,5,5,5,5,5,5,6,6,6,6,6,6,6,6,6,6,6,6,6,6,6,6,6,6,6,6,6,6,6,6,6,6,6,6,6,6,6,6,7,7,7,7,7,7,7,7,7,7,7,7,7,7,7,7,7,7,7,7,7,7,7,7,7,7,7,7,7,7,7,7,7,7,7,7,7,7,7,7,7,7,7,7,7,7,7,7,7,7,7,7,7,7,7,7,7,7,7,7,7,7,7,7,8,8,8,8,8,8,8,8,8,8,8,8,8,8,8,8,8,8,8,8,8,8,8,8,8,8,8,8,8,8,8,8,8,8,8,8,8,8,8,8,8,8,8,8,8,8,8,8,8,8,8,8,8,8,8,8,8,8,8,8,8,8,8,8,8,8,8,8,8,8,8,8,8,8,8,8,8,8,8,8,8,8,8,8,8,8,8,8,8,8,8,8,8,8,8,8,8,8,8,8,8,8,8,8,8,8,8,8,8,8,8,8,8,8,8,8,8,8,8,8,8,8,8,8,8,8,8,8]⟩⟩:j1) (IntKind.u8.wrap v9) (fun c11 =>
 K (.int .i64 (IntKind.i64.wrap (v10+(IntKind.i64.wrap (c11.toNat:Int))))))) (fun j8=>l8 (decide ((v6:Int)>=256)) (w6 (0<=(8:Int)) (j8 (Int.fdiv v6 (2 ^ min (Int.toNat 8) (IntKind.bits .u64))) (IntKind.i64.wrap (v7+8)))) (j8 v6 v7))) (fun j5=>l8 (decide ((v3:Int)>=65536)) (w6 (0<=(16:Int)) (j5 (Int.fdiv v3 (2 ^ min (Int.toNat 16) (IntKind.bits .u64))) (IntKind.i64.wrap (v4+16)))) (j5 v3 v4))) (fun j2=>l8 (decide ((v1:Int)>=4294967296))
 (w6 (0<=(32:Int)) (j2 (Int.fdiv v1 (2 ^ min (Int.toNat 32) (IntKind.bits .u64))) 32)) (j2 v1 0))
theorem cN7 (v1:Int):cs1 v1 K σ->a8 166 [.int .u64 v1] K σ:=k8 cN6 Tryz.func166


def cN8:Ann:=(.q (.q .z))
def cN9 (v1:j1) (v2:Int) (v3:Bool) (v4:j1) (v5:Sl) (K:KH):s9 :=
 A9 (.cells ⟨[.string v1,.int .i64 v2,.bool v3,.string v4,.slice v5.base v5.len v5.cap]⟩ 75 (0,0)) (fun b6=>l4 (rdA 5 b6 0) (.one (.agg [.str,(.int .i64),.bool,.str,.slc])) (fun(x7:j1) (x8:Int) (x9:Bool) (x10:j1) (x11:Sl)=>d8 209 [.agg ⟨[.string x7,.int .i64 x8,.bool x9,.string x10,.slice x11.base x11.len x11.cap]⟩,.int .i64 14] kI (fun(x12:Int)=>K (.int .i64 x12))))
theorem dx2 (v1:j1) (v2:Int) (v3:Bool) (v4:j1) (v5:Sl):cN9 v1 v2 v3 v4 v5 K σ->a8 167 [.agg ⟨[.string v1,.int .i64 v2,.bool v3,.string v4,.slice v5.base v5.len v5.cap]⟩] K σ:=k8 cN8 Tryz.func167


def cO0:Ann:=(.q (.q .z))
def cO1 (x1:u4) (K:KH):s9 :=
 j0 x1 (fun b2 o3=>l4 (s5 b2 (o3+4)) kL (fun x4=>K (.bool (((x4.len:Nat):Int)==0))))
theorem dx3 (x1:u4):cO1 x1 K σ->a8 168 [.pointer x1] K σ:=k8 cO0 Tryz.func168


def cO2:Ann:=(.q (.q .z))
def cO3 (x1:u4) (K:KH):s9 :=
 j0 x1 (fun b2 o3=>l4 (s5 b2 (o3+2)) kB (fun x4=>K (.bool (!x4))))
theorem dx4 (x1:u4):cO3 x1 K σ->a8 169 [.pointer x1] K σ:=k8 cO2 Tryz.func169


def cO4:Ann:=(.q (.q .z))
def cO5 (v1:Sl) (K:KH):s9 :=
 d8 210 [.slice v1.base v1.len v1.cap,.func (.func 211) ⟨[]⟩ ⟨[]⟩] kB (fun x2=>K (.bool (!x2)))
theorem dx5 (v1:Sl):cO5 v1 K σ->a8 170 [.slice v1.base v1.len v1.cap] K σ:=k8 cO4 Tryz.func170


def cO6:Ann:=(.q (.q .z))
def cO7 (x1:u4) (K:KH):s9 :=
 j0 x1 (fun b2 o3=>l4 (s5 b2 (o3+3)) kS (fun(x4:j1)=>l8 (decide (((x4.size:Nat):Int)>=1)) (j0 x1 (fun b5 o6=>l4 (s5 b5 (o6+3)) kS (fun(x7:j1)=>l8 (decide (((x7.size:Nat):Int)<=255)) (j0 x1 (fun b8 o9=>l4 (s5 b8 (o9+3)) kS (fun(x10:j1)=>d8 116 [.string x10,.int .u8 0] kI (fun(x11:Int)=>K (.bool (decide ((x11:Int)<0))))))) (K (.bool false))))) (K (.bool false))))
theorem dx6 (x1:u4):cO7 x1 K σ->a8 171 [.pointer x1] K σ:=k8 cO6 Tryz.func171


def cO8:Ann:=(.q (.q .z))
def cO9 (x1:u4) (K:KH):s9 :=
 j0 x1 (fun b2 o3=>l4 (s5 b2 (o3+3)) kS (fun(x4:j1)=>K (.bool (B8 x4 (⟨⟨[]⟩⟩:j1)))))
theorem dx7 (x1:u4):cO9 x1 K σ->a8 172 [.pointer x1] K σ:=k8 cO8 Tryz.func172


def cP0:Ann:=(.q (.n (.q (.blk (.loop [(0,.p),(5,.l),(6,.i),(7,.i)] (.q (.n (.cond .z .z) (.n (.blk (.q (.seq (some [(0,.p),(5,.l),(6,.i),(7,.i),(17,.w),(18,.w),(19,.w),(22,.w),(23,.w),(24,.w),(25,.w),(26,.w),(27,.w),(28,.w),(29,.w),(30,.w),(31,.w),(32,.w),(33,.w),(34,.w),(35,.w),(36,.b)]) (.reg (rn 25) [[],[0],[0,1],[0,1,2],(rn 4),(rn 5),(rn 6),(rn 7),(rn 8),(rn 9),(rn 10),(rn 11),(rn 12),(rn 13),(rn 14),(rn 13),[0,1,2,3,4,5,6,7,8,9,10,11,12,15],(rn 17),(rn 18),(rn 19),(rn 13),[0,1,2,3,4,5,6,7,8,9,10,11,12,20],(rn 22),(rn 23),(rn 24)]) (.h)))) .r)))))) (.q .z)))
def cP1 (x1:u4) (K:KH):s9 :=
 j0 x1 (fun b2 o3=>l4 (s5 b2 (o3+4)) kL (fun x4=>l9 [.sc .ptr,.sc .slc,.sc (.int .i64),.sc (.int .i64)] (fun(R5:u4->Sl->Int->Int->s9)=>(fun(x6:u4) (x7:Sl) (x8:Int) (x9:Int)=>l8 (decide ((x9:Int)<x8)) (j0 x7.base (fun b10 o11=>w6 (0<=x9/\x9<((x7.len:Nat):Int))
 (l4 (rdA 5 b10 (o11+x9.toNat * 5)) (.one (.agg [.str,(.int .i64),.bool,.str,.slc])) (fun(x12:j1) (x13:Int) (x14:Bool) (x15:j1) (x16:Sl)=>A9 (.cells ⟨[.string ⟨⟨[]⟩⟩,.int .i64 0,.bool false,.string ⟨⟨[]⟩⟩,.slice none 0 0]⟩ 75 (0,0)) (fun b17 =>
 t8 75 (.pointer (some ⟨b17,0,none⟩)) (.agg ⟨[.string x12,.int .i64 x13,.bool x14,.string x15,.slice x16.base x16.len x16.cap]⟩) (w9 (T:=u4->Sl->Int->Int->Value->Value->Value->Value->Value->Value->Value->Value->Value->Value->Value->Value->Value->Value->Value->Value->Value->Bool->s9) (fun x19 x20 x21 x22 _x23 _x24 _x25 _x26 _x27 _x28 _x29 _x30 _x31 _x32 _x33 _x34 _x35 _x36 _x37 _x38 _x39 x40=>l8 x40 (K (.bool false))
 (R5 x19 x20 x21 (IntKind.i64.wrap (x22+1)))) (fun j18=>l4 (s5 b17 0) kS (fun(x41:j1)=>d8 174 [.string x41] kB (fun x42=>l8 (!x42) (j18 x6 x7 x8 x9 (.tuple ⟨[]⟩) (.tuple ⟨[]⟩) (.tuple ⟨[]⟩) (.tuple ⟨[]⟩) (.tuple ⟨[]⟩) (.tuple ⟨[]⟩) (.tuple ⟨[]⟩) (.tuple ⟨[]⟩) (.tuple ⟨[]⟩) (.tuple ⟨[]⟩) (.tuple ⟨[]⟩) (.tuple ⟨[]⟩) (.tuple ⟨[]⟩) (.tuple ⟨[]⟩) (.tuple ⟨[]⟩) (.tuple ⟨[]⟩) (.tuple ⟨[]⟩) true)
 (l4 (rdA 5 b17 0) (.one (.agg [.str,(.int .i64),.bool,.str,.slc])) (fun(x43:j1) (x44:Int) (x45:Bool) (x46:j1) (x47:Sl)=>d8 106 [.agg ⟨[.string x43,.int .i64 x44,.bool x45,.string x46,.slice x47.base x47.len x47.cap]⟩] kB (fun x48=>l8 (!x48)
 (j18 x6 x7 x8 x9 (.agg ⟨[.string x43,.int .i64 x44,.bool x45,.string x46,.slice x47.base x47.len x47.cap]⟩) (.bool x48) (.bool (!x48)) (.tuple ⟨[]⟩) (.tuple ⟨[]⟩) (.tuple ⟨[]⟩) (.tuple ⟨[]⟩) (.tuple ⟨[]⟩) (.tuple ⟨[]⟩) (.tuple ⟨[]⟩) (.tuple ⟨[]⟩) (.tuple ⟨[]⟩) (.tuple ⟨[]⟩) (.tuple ⟨[]⟩) (.tuple ⟨[]⟩) (.tuple ⟨[]⟩) (.tuple ⟨[]⟩) true) (l8 (decide ((x9:Int)>0)) (j0 x6 (fun b49 o50=>l4 (s5 b49 (o50+4)) kL (fun x51=>j0 x51.base (fun b52 o53 =>
 w6 (0<=IntKind.i64.wrap (x9 - 1)/\IntKind.i64.wrap (x9 - 1)<((x51.len:Nat):Int)) (l4 (s5 b52 (o53+(IntKind.i64.wrap (x9 - 1):Int).toNat * 5)) kS (fun(x54:j1)=>l4 (s5 b17 0) kS (fun(x55:j1) =>
 j18 x6 x7 x8 x9 (.agg ⟨[.string x43,.int .i64 x44,.bool x45,.string x46,.slice x47.base x47.len x47.cap]⟩) (.bool x48) (.bool (!x48)) (.int .i64 x9) (.bool (decide ((x9:Int)>0))) (.bool true) (.pointer (some ⟨b49,o50+4,none⟩)) (.slice x51.base x51.len x51.cap) (.int .i64 x9) (.int .i64 (IntKind.i64.wrap (x9 - 1))) (.pointer (some ⟨b52,o53+(IntKind.i64.wrap (x9 - 1):Int).toNat * 5,none⟩)) (.pointer (some ⟨b52,o53+(IntKind.i64.wrap (x9 - 1):Int).toNat * 5,none⟩)) (.string x54) (.pointer (some ⟨b17,0,none⟩)) (.string x55) (.bool (!E4 x54 x55)) (.bool (!E4 x54 x55)) (!E4 x54 x55))))))))
 (j18 x6 x7 x8 x9 (.agg ⟨[.string x43,.int .i64 x44,.bool x45,.string x46,.slice x47.base x47.len x47.cap]⟩) (.bool x48) (.bool (!x48)) (.int .i64 x9) (.bool (decide ((x9:Int)>0))) (.bool false) (.tuple ⟨[]⟩) (.tuple ⟨[]⟩) (.tuple ⟨[]⟩) (.tuple ⟨[]⟩) (.tuple ⟨[]⟩) (.tuple ⟨[]⟩) (.tuple ⟨[]⟩) (.tuple ⟨[]⟩) (.tuple ⟨[]⟩) (.tuple ⟨[]⟩) (.bool false) false)))))))))))))) (K (.bool true)))) (fun(R56:u4->Sl->Int->Int->s9)=>R56 x1 x4 ((x4.len:Nat):Int) 0)))
theorem dx8 (x1:u4):cP1 x1 K σ->a8 173 [.pointer x1] K σ:=k8 cP0 Tryz.func173


def cP2:Ann:=(.q (.q .z))
def cP3 (v1:j1) (K:KH):s9 :=
 l8 (decide (((v1.size:Nat):Int)>=1)) (l8 (decide (((v1.size:Nat):Int)<=56)) (d8 212 [.string v1,.string ⟨⟨[47,0]⟩⟩] kB (fun x2=>l8 (!x2) (l8 (!B8 v1 (⟨⟨[46]⟩⟩:j1)) (K (.bool (!B8 v1 (⟨⟨[46,46]⟩⟩:j1)))) (K (.bool false))) (K (.bool false)))) (K (.bool false))) (K (.bool false))
theorem dx9 (v1:j1):cP3 v1 K σ->a8 174 [.string v1] K σ:=k8 cP2 Tryz.func174


def cP4:Ann:=(.q (.n (.reg (rn 5) [[],[0],[0,1],[],(rn 4)]) (.n (.q (.blk (.loop [(2,.i),(3,.i),(12,.l),(13,.i),(14,.i)] (.q (.n (.cond .z .z) (.seq (some [(2,.i),(3,.i),(12,.l),(13,.i),(14,.i)]) (.blk (.q (.n (.q (.cond .z .z)) (.q .r)))) .r)))))) (.q .z))))
def cP5 (v1:j1) (v2:Int) (v3:Bool) (v4:j1) (v5:Sl) (K:KH):s9 :=
 A9 (.cells ⟨[.string v1,.int .i64 v2,.bool v3,.string v4,.slice v5.base v5.len v5.cap]⟩ 75 (0,0)) (fun b6=>l4 (s5 b6 3) kS (fun(x7:j1)=>l4 (s5 b6 4) kL (fun x8=>l9 [.sc (.int .i64),.sc (.int .i64),.sc .slc,.sc (.int .i64),.sc (.int .i64)] (fun(R9:Int->Int->Sl->Int->Int->s9)=>(fun(v10:Int) (v11:Int) (x12:Sl) (x13:Int) (x14:Int)=>l8 (decide ((x14:Int)<x13))
 (w9 (T:=Int->Int->Sl->Int->Int->s9) (fun v16 v17 x18 x19 x20=>R9 v16 v17 x18 x19 (IntKind.i64.wrap (x20+1))) (fun j15=>j0 x12.base (fun b21 o22=>w6 (0<=x14/\x14<((x12.len:Nat):Int)) (l4 (rdA 5 b21 (o22+x14.toNat * 5)) (.one (.agg [.str,(.int .i64),.bool,.str,.slc])) (fun(x23:j1) (x24:Int) (x25:Bool) (x26:j1) (x27:Sl) =>
 A9 (.cells ⟨[.string ⟨⟨[]⟩⟩,.int .i64 0,.bool false,.string ⟨⟨[]⟩⟩,.slice none 0 0]⟩ 75 (0,0)) (fun b28=>t8 75 (.pointer (some ⟨b28,0,none⟩)) (.agg ⟨[.string x23,.int .i64 x24,.bool x25,.string x26,.slice x27.base x27.len x27.cap]⟩) (l4 (rdA 5 b28 0) (.one (.agg [.str,(.int .i64),.bool,.str,.slc])) (fun(x29:j1) (x30:Int) (x31:Bool) (x32:j1) (x33:Sl) =>
 d8 105 [.agg ⟨[.string x29,.int .i64 x30,.bool x31,.string x32,.slice x33.base x33.len x33.cap]⟩] kB (fun x34=>l8 x34 (j15 v10 v11 x12 x13 x14) (l4 (rdA 5 b28 0) (.one (.agg [.str,(.int .i64),.bool,.str,.slc])) (fun(x35:j1) (x36:Int) (x37:Bool) (x38:j1) (x39:Sl) =>
 d8 175 [.agg ⟨[.string x35,.int .i64 x36,.bool x37,.string x38,.slice x39.base x39.len x39.cap]⟩] (.tup [.sc (.int .i64),.sc (.int .i64)]) (fun(x40:Int) (x41:Int)=>j15 (IntKind.i64.wrap (v10+x40)) (IntKind.i64.wrap (v11+x41)) x12 x13 x14)))))))))))) (K (.tuple ⟨[.int .i64 v10,.int .i64 v11]⟩)))) (fun(R42:Int->Int->Sl->Int->Int->s9)=>R42 1 ((x7.size:Nat):Int) x8 ((x8.len:Nat):Int) 0))))
theorem dy0 (v1:j1) (v2:Int) (v3:Bool) (v4:j1) (v5:Sl):cP5 v1 v2 v3 v4 v5 K σ->a8 175 [.agg ⟨[.string v1,.int .i64 v2,.bool v3,.string v4,.slice v5.base v5.len v5.cap]⟩] K σ:=k8 cP4 Tryz.func175


def cP6:Ann:=(.q (.q .z))
def cs2 (v1:j1) (v2:Int) (K:KH):s9 :=
 y6 Tryz.prog (.func (.func 213) ⟨[]⟩ ⟨[]⟩) [.string v1,.int .u8 v2] kI (fun(x3:Int)=>K (.int .i64 x3))
theorem cP7 (v1:j1) (v2:Int):cs2 v1 v2 K σ->a8 176 [.string v1,.int .u8 v2] K σ:=k8 cP6 Tryz.func176


def cP8:Ann:=(.q (.blk (.q (.n .z (.n (.q (.blk (.loop [(0,.p),(1,.p),(2,.l),(3,.sc (.int .u64))] (.n (.q (.cond .z .z)) (.seq (some [(0,.p),(1,.p),(2,.l),(3,.sc (.int .u64))]) (.blk (.n (.q (.blk (.loop [(0,.p),(1,.p),(2,.l),(3,.sc (.int .u64)),(14,.l),(15,.i),(16,.i)] (.q (.n (.cond .z .z) (.n (.blk (.q (.q (.cond .z .z)))) .r)))))) .r)) .r))))) (.n (.q (.blk (.loop [(0,.p),(1,.p),(2,.l),(29,.l),(30,.i),(31,.i)] (.q (.n (.cond .z .z) (.n (.blk (.q .r)) .r)))))) (.n (.q (.blk (.loop [(0,.p),(1,.p),(2,.l),(41,.i)] (.q (.n (.cond .z .z) (.n (.blk (.q .r)) .r)))))) (.n (.reg (rn 4) [[],[],[0],[0,1,2]]) .z))))))))
def cP9  (K:KH):s9 :=
 A9 (.cells ⟨[.int .u32 0,.int .u32 0,.int .u32 0,.int .u32 0,.int .u32 0,.int .u32 0,.int .u32 0,.int .u32 0]⟩ 194 (0,0)) (fun b1 =>
 A9 (.cells ⟨(List.replicate 64 (.int .u32 0))⟩ 195 (0,0)) (fun b2 =>
 l9 [.sc .ptr,.sc .ptr,.sc .slc,.sc (.int .u64)] (fun(R3:u4->u4->Sl->Int->s9)=>(fun(v4:u4) (v5:u4) (v6:Sl) (v7:Int)=>l8 (decide (((v6.len:Nat):Int)<64)) (w9 (T:=u4->u4->Sl->Int->s9) (fun v9 v10 v11 v12=>R3 v9 v10 v11 (IntKind.u64.wrap (v12+1))) (fun j8 =>
 l9 [.sc .ptr,.sc .ptr,.sc .slc,.sc (.int .u64),.sc .slc,.sc (.int .i64),.sc (.int .i64)] (fun(R13:u4->u4->Sl->Int->Sl->Int->Int->s9)=>(fun(v14:u4) (v15:u4) (v16:Sl) (v17:Int) (x18:Sl) (x19:Int) (x20:Int)=>l8 (decide ((x20:Int)<x19)) (j0 x18.base (fun b21 o22=>w6 (0<=x20/\x20<((x18.len:Nat):Int)) (l4 (s5 b21 (o22+x20.toNat * 1)) (.one (.sc (.int .u64))) (fun(x23:Int) =>
 w6 (x23≠0) (l8 (((Int.tmod v17 x23):Int)==0) (j8 v14 v15 v16 v17) (R13 v14 v15 v16 v17 x18 x19 (IntKind.i64.wrap (x20+1)))))))) (A9 (.cells ⟨[.int .u64 v17]⟩ 138 (0,0)) (fun b24=>Q4 .append #[224,224] 224 [false,false] [.slice v16.base v16.len v16.cap,.slice (some ⟨b24,0,none⟩) 1 1] kL (fun x25 =>
 j8 v14 v15 x25 v17))))) (fun(R26:u4->u4->Sl->Int->Sl->Int->Int->s9)=>R26 v4 v5 v6 v7 v6 ((v6.len:Nat):Int) 0))) (l9 [.sc .ptr,.sc .ptr,.sc .slc,.sc .slc,.sc (.int .i64),.sc (.int .i64)] (fun(R27:u4->u4->Sl->Sl->Int->Int->s9)=>(fun(v28:u4) (v29:u4) (v30:Sl) (x31:Sl) (x32:Int) (x33:Int)=>l8 (decide ((x33:Int)<x32)) (j0 x31.base (fun b34 o35 =>
 w6 (0<=x33/\x33<((x31.len:Nat):Int)) (l4 (s5 b34 (o35+x33.toNat * 1)) (.one (.sc (.int .u64))) (fun(x36:Int)=>d8 214 [.int .u64 x36,.func (.func 215) ⟨[]⟩ ⟨[]⟩] (.one (.sc (.int .u32))) (fun(x37:Int)=>j0 v29 (fun b38 o39=>w6 (0<=x33/\x33<((64:Nat):Int)) (t8 188 (.pointer (some ⟨b38,o39+x33.toNat * 1,none⟩)) (.int .u32 x37) (R27 v28 v29 v30 x31 x32 (IntKind.i64.wrap (x33+1))))))))))
 (l9 [.sc .ptr,.sc .ptr,.sc .slc,.sc (.int .i64)] (fun(R40:u4->u4->Sl->Int->s9)=>(fun(v41:u4) (v42:u4) (v43:Sl) (x44:Int)=>l8 (decide ((x44:Int)<8)) (j0 v43.base (fun b45 o46=>w6 (0<=x44/\x44<((v43.len:Nat):Int)) (l4 (s5 b45 (o46+x44.toNat * 1)) (.one (.sc (.int .u64))) (fun(x47:Int) =>
 d8 214 [.int .u64 x47,.func (.func 216) ⟨[]⟩ ⟨[]⟩] (.one (.sc (.int .u32))) (fun(x48:Int)=>j0 v41 (fun b49 o50=>w6 (0<=x44/\x44<((8:Nat):Int)) (t8 188 (.pointer (some ⟨b49,o50+x44.toNat * 1,none⟩)) (.int .u32 x48) (R40 v41 v42 v43 (IntKind.i64.wrap (x44+1)))))))))) (j0 v41 (fun b51 o52 =>
 l4 (rdA 8 b51 o52) (.one (.agg [(.int .u32),(.int .u32),(.int .u32),(.int .u32),(.int .u32),(.int .u32),(.int .u32),(.int .u32)])) (fun(x53:Int) (x54:Int) (x55:Int) (x56:Int) (x57:Int) (x58:Int) (x59:Int) (x60:Int)=>j0 v42 (fun b61 o62=>l4 (rdA 64 b61 o62) kR (fun x63 =>
 t8 194 (.pointer v41) (.agg ⟨[.int .u32 x53,.int .u32 x54,.int .u32 x55,.int .u32 x56,.int .u32 x57,.int .u32 x58,.int .u32 x59,.int .u32 x60]⟩) (A2 (fun σ=>(rdA 64 b61 o62) σ=some (x63)) (t8 195 (.pointer v42) (x63) (j0 v41 (fun b64 o65 =>
 l4 (rdA 8 b64 o65) (.one (.agg [(.int .u32),(.int .u32),(.int .u32),(.int .u32),(.int .u32),(.int .u32),(.int .u32),(.int .u32)])) (fun(r66:Int) (r67:Int) (r68:Int) (r69:Int) (r70:Int) (r71:Int) (r72:Int) (r73:Int)=>j0 v42 (fun b74 o75=>l4 (rdA 64 b74 o75) kR (fun r76 =>
 K (.tuple ⟨[.agg ⟨[.int .u32 r66,.int .u32 r67,.int .u32 r68,.int .u32 r69,.int .u32 r70,.int .u32 r71,.int .u32 r72,.int .u32 r73]⟩,r76]⟩))))))))))))))) (fun(R77:u4->u4->Sl->Int->s9)=>R77 v28 v29 v30 0)))) (fun(R78:u4->u4->Sl->Sl->Int->Int->s9)=>R78 v4 v5 v6 v6 ((v6.len:Nat):Int) 0)))) (fun(R79:u4->u4->Sl->Int->s9)=>R79 (some ⟨b1,0,none⟩) (some ⟨b2,0,none⟩) ⟨none,0,0⟩ 2)))
theorem dy1 :cP9  K σ->a8 177 [] K σ:=k8 cP8 Tryz.func177


def cQ0:Ann:=(.q (.q .z))
def cQ1 (v1:j1) (K:KH):s9 :=
 A9 (.cells ⟨[.string v1]⟩ 9 (0,0)) (fun b2=>K (.func (.func 217) ⟨[]⟩ ⟨[.pointer (some ⟨b2,0,none⟩)]⟩))
theorem dy2 (v1:j1):cQ1 v1 K σ->a8 178 [.string v1] K σ:=k8 cQ0 Tryz.func178


def cQ2:Ann:=(.q (.q (.q (.n (.q (.blk (.loop [(1,.l),(2,.p),(3,.p),(6,.p),(7,.w),(8,.p),(15,.i)] (.q (.n (.cond .z .z) (.seq (some [(1,.l),(2,.p),(3,.p),(6,.p),(7,.w),(8,.p),(15,.i)]) (.blk (.q (.n (.q (.cond (.n (.reg (rn 36) [[],[],[],[2],[1,2,3],[1,2,3,4],[1,2,3,4,5],[1,2,3,4,5,6],[],[],[9],[9,10],[8,9,10,11],[8,9,10,11,12],[8,9,10,11,12,13],[8,9,10,11,12,13,14],[1,2,3,4,5,6,7,8,9,10,11,12,13,14,15],[],[],[18],[18,19],[17,18,19,20],[17,18,19,20,21],[17,18,19,20,21,22],[17,18,19,20,21,22,23],[1,2,3,4,5,6,7,8,9,10,11,12,13,14,15,16,17,18,19,20,21,22,23,24],[],[],[27],[27,28],[26,27,28,29],[26,27,28,29,30],[26,27,28,29,30,31],[1,2,3,4,5,6,7,8,9,10,11,12,13,14,15,16,17,18,19,20,21,22,23,24,25,26,27,28,29,30,31,32],(rn 34),(rn 35)]) .z) .z)) (.reg [0,1,2,3,4,5,6,7,8,9,12,13,14,15,16,19,20,21,22,24,25,26,27,28,31,32,33,34,10,11,17,18,23,29,30,35,36,37,38,39] [[],[],[1],[1,2],[1,2,3],[],[],[6],[6,7],[6,7,8],[],[5,6,7,8,9,10],[],[12],[12,13],[12,13,14],[12,13,14,15],[5,6,7,8,9,10,11,12,13,14,15,16],[1,2,3,4,5,6,7,8,9,10,11,12,13,14,15,16,17],[],[19],[19,20],[19,20,21],[1,2,3,4,5,6,7,8,9,10,11,12,13,14,15,16,17,18,19,20,21,22],[],[],[25],[25,26],[25,26,27],[],[5,6,7,8,9,10,11,24,25,26,27,28,29],[],[31],[31,32],[31,32,33],[31,32,33,34],[5,6,7,8,9,10,11,24,25,26,27,28,29,30,31,32,33,34,35],[1,2,3,4,5,6,7,8,9,10,11,12,13,14,15,16,17,18,19,20,21,22,23,24,25,26,27,28,29,30,31,32,33,34,35,36],(rn 38),(rn 39)])))) .r)))))) (.q (.n (.q (.blk (.loop [(2,.p),(3,.p),(6,.p),(7,.w),(8,.p),(10,.p),(96,.i)] (.q (.n (.cond .z .z) (.n (.blk (.q (.n (.reg [0,1,2,3,4,8,9,10,11,12,13,14,15,16,17,18,19,21,22,23,24,25,27,28,29,5,6,7,20,26,30,31] [[],[0],[],[],[3],[],[2,3,4,5],(rn 7),[],[8],[],[10],[8,9,10,11],[],[13],[13,14],[],[16],[13,14,15,16,17],[8,9,10,11,12,13,14,15,16,17,18],(rn 20),[],[],[21],[21,22,23],[21,22,23,24],(rn 26),[],[27],[27,28],(rn 30),(rn 31)]) (.n (.reg [0,1,2,5,6,7,8,9,10,11,12,13,14,15,16,17,18,19,3,4,20,21,22,23] [[],[],[1],[],(rn 4),[],[5],[],[7],[5,6,7,8],[],[10],[],[12],[10,11,12,13],[5,6,7,8,9,10,11,12,13,14],[],[16],[],[18],[16,17,18,19],[5,6,7,8,9,10,11,12,13,14,15,16,17,18,19,20],(rn 22),(rn 23)]) .r)))) .r)))))) (.n (.q (.blk (.loop [(3,.p),(6,.p),(10,.p),(174,.i)] (.q (.n (.cond .z .z) (.n (.blk (.q (.reg (rn 9) [[],[0],[0,1],[],[3],[3,4],(rn 6),(rn 7),(rn 8)]))) .r)))))) (.q .z))))))))
def cQ3 (v1:Int) (v2:Int) (v3:Int) (v4:Int) (v5:Int) (v6:Int) (v7:Int) (v8:Int) (v9:Sl) (v10:u4) (K:KH):s9 :=
 A9 (.cells ⟨[.int .u32 v1,.int .u32 v2,.int .u32 v3,.int .u32 v4,.int .u32 v5,.int .u32 v6,.int .u32 v7,.int .u32 v8]⟩ 194 (0,0)) (fun b11=>A9 (.cells ⟨[.int .u32 0,.int .u32 0,.int .u32 0,.int .u32 0,.int .u32 0,.int .u32 0,.int .u32 0,.int .u32 0]⟩ 194 (0,0)) (fun b12 =>
 A9 (.cells ⟨(List.replicate 64 (.int .u32 0))⟩ 195 (0,0)) (fun b13 =>
 l9 [.sc .slc,.sc .ptr,.sc .ptr,.sc .ptr,.sc .raw,.sc .ptr,.sc (.int .i64)] (fun(R14:Sl->u4->u4->u4->Value->u4->Int->s9)=>(fun(v15:Sl) (v16:u4) (v17:u4) (x18:u4) (v19:Value) (v20:u4) (x21:Int)=>l8 (decide ((x21:Int)<64)) (w9 (T:=Sl->u4->u4->u4->Value->u4->Int->s9) (fun v23 v24 v25 x26 v27 v28 x29 =>
 R14 v23 v24 v25 x26 v27 v28 (IntKind.i64.wrap (x29+1))) (fun j22=>l8 (decide ((x21:Int)<16)) (j0 v15.base (fun b30 o31=>w6 (0<=IntKind.i64.wrap (4 * x21)/\IntKind.i64.wrap (4 * x21)<((v15.len:Nat):Int)) (l4 (s5 b30 (o31+(IntKind.i64.wrap (4 * x21):Int).toNat * 1)) kC (fun(x32:Int)=>w6 (0<=(24:Int)) (j0 v15.base (fun b33 o34 =>
 w6 (0<=IntKind.i64.wrap ((IntKind.i64.wrap (4 * x21))+1)/\IntKind.i64.wrap ((IntKind.i64.wrap (4 * x21))+1)<((v15.len:Nat):Int)) (l4 (s5 b33 (o34+(IntKind.i64.wrap ((IntKind.i64.wrap (4 * x21))+1):Int).toNat * 1)) kC (fun(x35:Int)=>w6 (0<=(16:Int)) (j0 v15.base (fun b36 o37=>w6 (0<=IntKind.i64.wrap ((IntKind.i64.wrap (4 * x21))+2)/\IntKind.i64.wrap ((IntKind.i64.wrap (4 * x21))+2)<((v15.len:Nat):Int))
 (l4 (s5 b36 (o37+(IntKind.i64.wrap ((IntKind.i64.wrap (4 * x21))+2):Int).toNat * 1)) kC (fun(x38:Int)=>w6 (0<=(8:Int)) (j0 v15.base (fun b39 o40=>w6 (0<=IntKind.i64.wrap ((IntKind.i64.wrap (4 * x21))+3)/\IntKind.i64.wrap ((IntKind.i64.wrap (4 * x21))+3)<((v15.len:Nat):Int)) (l4 (s5 b39 (o40+(IntKind.i64.wrap ((IntKind.i64.wrap (4 * x21))+3):Int).toNat * 1)) kC (fun(x41:Int)=>j0 v20 (fun b42 o43=>w6 (0<=x21/\x21<((64:Nat):Int))
 (t8 188 (.pointer (some ⟨b42,o43+x21.toNat * 1,none⟩)) (.int .u32 (A0 .or .u32 (A0 .or .u32 (A0 .or .u32 (IntKind.u32.wrap ((IntKind.u32.wrap x32) * 2 ^ min (Int.toNat 24) (IntKind.bits .u32))) (IntKind.u32.wrap ((IntKind.u32.wrap x35) * 2 ^ min (Int.toNat 16) (IntKind.bits .u32)))) (IntKind.u32.wrap ((IntKind.u32.wrap x38) * 2 ^ min (Int.toNat 8) (IntKind.bits .u32)))) (IntKind.u32.wrap x41))) (j22 v15 v16 v17 x18 v19 v20 x21)))))))))))))))))))
 (j0 v20 (fun b44 o45=>w6 (0<=IntKind.i64.wrap (x21 - 16)/\IntKind.i64.wrap (x21 - 16)<((64:Nat):Int)) (l4 (s5 b44 (o45+(IntKind.i64.wrap (x21 - 16):Int).toNat * 1)) (.one (.sc (.int .u32))) (fun(x46:Int)=>j0 v20 (fun b47 o48=>w6 (0<=IntKind.i64.wrap (x21 - 15)/\IntKind.i64.wrap (x21 - 15)<((64:Nat):Int)) (l4 (s5 b47 (o48+(IntKind.i64.wrap (x21 - 15):Int).toNat * 1)) (.one (.sc (.int .u32))) (fun(x49:Int)=>j0 v20 (fun b50 o51 =>
 w6 (0<=IntKind.i64.wrap (x21 - 15)/\IntKind.i64.wrap (x21 - 15)<((64:Nat):Int)) (l4 (s5 b50 (o51+(IntKind.i64.wrap (x21 - 15):Int).toNat * 1)) (.one (.sc (.int .u32))) (fun(x52:Int)=>w6 (0<=(3:Int)) (j0 v20 (fun b53 o54=>w6 (0<=IntKind.i64.wrap (x21 - 7)/\IntKind.i64.wrap (x21 - 7)<((64:Nat):Int)) (l4 (s5 b53 (o54+(IntKind.i64.wrap (x21 - 7):Int).toNat * 1)) (.one (.sc (.int .u32))) (fun(x55:Int)=>j0 v20 (fun b56 o57 =>
 w6 (0<=IntKind.i64.wrap (x21 - 2)/\IntKind.i64.wrap (x21 - 2)<((64:Nat):Int)) (l4 (s5 b56 (o57+(IntKind.i64.wrap (x21 - 2):Int).toNat * 1)) (.one (.sc (.int .u32))) (fun(x58:Int)=>j0 v20 (fun b59 o60=>w6 (0<=IntKind.i64.wrap (x21 - 2)/\IntKind.i64.wrap (x21 - 2)<((64:Nat):Int)) (l4 (s5 b59 (o60+(IntKind.i64.wrap (x21 - 2):Int).toNat * 1)) (.one (.sc (.int .u32))) (fun(x61:Int)=>A9 (.cells ⟨[.int .i64 7,.int .i64 18]⟩ 3 (0,0)) (fun b62 =>
 y6 Tryz.prog v19 [.int .u32 x49,.slice (some ⟨b62,0,none⟩) 2 2] (.one (.sc (.int .u32))) (fun(x63:Int)=>A2 (fun σ=>(s5 b59 (o60+(IntKind.i64.wrap (x21 - 2):Int).toNat * 1)) σ=some (.int .u32 x61)) (A2 (fun σ=>(s5 b56 (o57+(IntKind.i64.wrap (x21 - 2):Int).toNat * 1)) σ=some (.int .u32 x58)) (A2 (fun σ=>(s5 b53 (o54+(IntKind.i64.wrap (x21 - 7):Int).toNat * 1)) σ=some (.int .u32 x55))
 (A2 (fun σ=>(s5 b50 (o51+(IntKind.i64.wrap (x21 - 15):Int).toNat * 1)) σ=some (.int .u32 x52)) (A2 (fun σ=>(s5 b44 (o45+(IntKind.i64.wrap (x21 - 16):Int).toNat * 1)) σ=some (.int .u32 x46)) (A9 (.cells ⟨[.int .i64 17,.int .i64 19]⟩ 3 (0,0)) (fun b64=>y6 Tryz.prog v19 [.int .u32 x58,.slice (some ⟨b64,0,none⟩) 2 2] (.one (.sc (.int .u32))) (fun(x65:Int) =>
 A2 (fun σ=>(s5 b59 (o60+(IntKind.i64.wrap (x21 - 2):Int).toNat * 1)) σ=some (.int .u32 x61)) (A2 (fun σ=>(s5 b53 (o54+(IntKind.i64.wrap (x21 - 7):Int).toNat * 1)) σ=some (.int .u32 x55)) (A2 (fun σ=>(s5 b50 (o51+(IntKind.i64.wrap (x21 - 15):Int).toNat * 1)) σ=some (.int .u32 x52)) (A2 (fun σ=>(s5 b44 (o45+(IntKind.i64.wrap (x21 - 16):Int).toNat * 1)) σ=some (.int .u32 x46)) (w6 (0<=(10:Int)) (j0 v20 (fun b66 o67 =>
 w6 (0<=x21/\x21<((64:Nat):Int)) (t8 188 (.pointer (some ⟨b66,o67+x21.toNat * 1,none⟩)) (.int .u32 (IntKind.u32.wrap ((IntKind.u32.wrap ((IntKind.u32.wrap (x46+(A0 .xor .u32 x63 (Int.fdiv x52 (2 ^ min (Int.toNat 3) (IntKind.bits .u32))))))+x55))+(A0 .xor .u32 x65 (Int.fdiv x61 (2 ^ min (Int.toNat 10) (IntKind.bits .u32))))))) (j22 v15 v16 v17 x18 v19 v20 x21))))))))))))))))))))))))))))))))))))))) (j0 v17 (fun b68 o69 =>
 l4 (rdA 8 b68 o69) (.one (.agg [(.int .u32),(.int .u32),(.int .u32),(.int .u32),(.int .u32),(.int .u32),(.int .u32),(.int .u32)])) (fun(x70:Int) (x71:Int) (x72:Int) (x73:Int) (x74:Int) (x75:Int) (x76:Int) (x77:Int)=>A9 (.cells ⟨[.int .u32 0,.int .u32 0,.int .u32 0,.int .u32 0,.int .u32 0,.int .u32 0,.int .u32 0,.int .u32 0]⟩ 194 (0,0)) (fun b78 =>
 t8 194 (.pointer (some ⟨b78,0,none⟩)) (.agg ⟨[.int .u32 x70,.int .u32 x71,.int .u32 x72,.int .u32 x73,.int .u32 x74,.int .u32 x75,.int .u32 x76,.int .u32 x77]⟩) (l9 [.sc .ptr,.sc .ptr,.sc .ptr,.sc .raw,.sc .ptr,.sc .ptr,.sc (.int .i64)] (fun(R79:u4->u4->u4->Value->u4->u4->Int->s9)=>(fun(v80:u4) (v81:u4) (x82:u4) (v83:Value) (v84:u4) (v85:u4) (x86:Int) =>
 l8 (decide ((x86:Int)<64)) (j0 v85 (fun b87 o88=>w6 (0<=(7:Int)/\(7:Int)<((8:Nat):Int)) (l4 (s5 b87 (o88+(7:Int).toNat * 1)) (.one (.sc (.int .u32))) (fun(x89:Int)=>j0 v85 (fun b90 o91=>w6 (0<=(4:Int)/\(4:Int)<((8:Nat):Int)) (l4 (s5 b90 (o91+(4:Int).toNat * 1)) (.one (.sc (.int .u32))) (fun(x92:Int)=>j0 v85 (fun b93 o94=>w6 (0<=(4:Int)/\(4:Int)<((8:Nat):Int))
 (l4 (s5 b93 (o94+(4:Int).toNat * 1)) (.one (.sc (.int .u32))) (fun(x95:Int)=>j0 v85 (fun b96 o97=>w6 (0<=(5:Int)/\(5:Int)<((8:Nat):Int)) (l4 (s5 b96 (o97+(5:Int).toNat * 1)) (.one (.sc (.int .u32))) (fun(x98:Int)=>j0 v85 (fun b99 o100=>w6 (0<=(4:Int)/\(4:Int)<((8:Nat):Int)) (l4 (s5 b99 (o100+(4:Int).toNat * 1)) (.one (.sc (.int .u32))) (fun(x101:Int)=>j0 v85 (fun b102 o103 =>
 w6 (0<=(6:Int)/\(6:Int)<((8:Nat):Int)) (l4 (s5 b102 (o103+(6:Int).toNat * 1)) (.one (.sc (.int .u32))) (fun(x104:Int)=>j0 v80 (fun b105 o106=>w6 (0<=x86/\x86<((64:Nat):Int)) (l4 (s5 b105 (o106+x86.toNat * 1)) (.one (.sc (.int .u32))) (fun(x107:Int)=>j0 v84 (fun b108 o109=>w6 (0<=x86/\x86<((64:Nat):Int)) (l4 (s5 b108 (o109+x86.toNat * 1)) (.one (.sc (.int .u32))) (fun(x110:Int) =>
 A9 (.cells ⟨[.int .i64 6,.int .i64 11,.int .i64 25]⟩ 3 (0,0)) (fun b111=>y6 Tryz.prog v83 [.int .u32 x92,.slice (some ⟨b111,0,none⟩) 3 3] (.one (.sc (.int .u32))) (fun(x112:Int)=>A2 (fun σ=>(s5 b108 (o109+x86.toNat * 1)) σ=some (.int .u32 x110)) (A2 (fun σ=>(s5 b105 (o106+x86.toNat * 1)) σ=some (.int .u32 x107)) (A2 (fun σ=>(s5 b102 (o103+(6:Int).toNat * 1)) σ=some (.int .u32 x104))
 (A2 (fun σ=>(s5 b99 (o100+(4:Int).toNat * 1)) σ=some (.int .u32 x101)) (A2 (fun σ=>(s5 b96 (o97+(5:Int).toNat * 1)) σ=some (.int .u32 x98)) (A2 (fun σ=>(s5 b93 (o94+(4:Int).toNat * 1)) σ=some (.int .u32 x95)) (A2 (fun σ=>(s5 b87 (o88+(7:Int).toNat * 1)) σ=some (.int .u32 x89)) (j0 v85 (fun b113 o114=>w6 (0<=(0:Int)/\(0:Int)<((8:Nat):Int)) (l4 (s5 b113 (o114+(0:Int).toNat * 1)) (.one (.sc (.int .u32))) (fun(x115:Int) =>
 j0 v85 (fun b116 o117=>w6 (0<=(0:Int)/\(0:Int)<((8:Nat):Int)) (l4 (s5 b116 (o117+(0:Int).toNat * 1)) (.one (.sc (.int .u32))) (fun(x118:Int)=>j0 v85 (fun b119 o120=>w6 (0<=(1:Int)/\(1:Int)<((8:Nat):Int)) (l4 (s5 b119 (o120+(1:Int).toNat * 1)) (.one (.sc (.int .u32))) (fun(x121:Int)=>j0 v85 (fun b122 o123=>w6 (0<=(0:Int)/\(0:Int)<((8:Nat):Int))
 (l4 (s5 b122 (o123+(0:Int).toNat * 1)) (.one (.sc (.int .u32))) (fun(x124:Int)=>j0 v85 (fun b125 o126=>w6 (0<=(2:Int)/\(2:Int)<((8:Nat):Int)) (l4 (s5 b125 (o126+(2:Int).toNat * 1)) (.one (.sc (.int .u32))) (fun(x127:Int)=>j0 v85 (fun b128 o129=>w6 (0<=(1:Int)/\(1:Int)<((8:Nat):Int)) (l4 (s5 b128 (o129+(1:Int).toNat * 1)) (.one (.sc (.int .u32))) (fun(x130:Int)=>j0 v85 (fun b131 o132 =>
 w6 (0<=(2:Int)/\(2:Int)<((8:Nat):Int)) (l4 (s5 b131 (o132+(2:Int).toNat * 1)) (.one (.sc (.int .u32))) (fun(x133:Int)=>A9 (.cells ⟨[.int .i64 2,.int .i64 13,.int .i64 22]⟩ 3 (0,0)) (fun b134=>y6 Tryz.prog v83 [.int .u32 x115,.slice (some ⟨b134,0,none⟩) 3 3] (.one (.sc (.int .u32))) (fun(x135:Int)=>A2 (fun σ=>(s5 b131 (o132+(2:Int).toNat * 1)) σ=some (.int .u32 x133))
 (A2 (fun σ=>(s5 b128 (o129+(1:Int).toNat * 1)) σ=some (.int .u32 x130)) (A2 (fun σ=>(s5 b125 (o126+(2:Int).toNat * 1)) σ=some (.int .u32 x127)) (A2 (fun σ=>(s5 b122 (o123+(0:Int).toNat * 1)) σ=some (.int .u32 x124)) (A2 (fun σ=>(s5 b119 (o120+(1:Int).toNat * 1)) σ=some (.int .u32 x121)) (A2 (fun σ=>(s5 b116 (o117+(0:Int).toNat * 1)) σ=some (.int .u32 x118)) (j0 v85 (fun b136 o137=>w6 (0<=(0:Int)/\(0:Int)<((8:Nat):Int))
 (l4 (s5 b136 (o137+(0:Int).toNat * 1)) (.one (.sc (.int .u32))) (fun(x138:Int)=>j0 v85 (fun b139 o140=>w6 (0<=(1:Int)/\(1:Int)<((8:Nat):Int)) (l4 (s5 b139 (o140+(1:Int).toNat * 1)) (.one (.sc (.int .u32))) (fun(x141:Int)=>j0 v85 (fun b142 o143=>w6 (0<=(2:Int)/\(2:Int)<((8:Nat):Int)) (l4 (s5 b142 (o143+(2:Int).toNat * 1)) (.one (.sc (.int .u32))) (fun(x144:Int)=>j0 v85 (fun b145 o146 =>
 w6 (0<=(3:Int)/\(3:Int)<((8:Nat):Int)) (l4 (s5 b145 (o146+(3:Int).toNat * 1)) (.one (.sc (.int .u32))) (fun(x147:Int)=>j0 v85 (fun b148 o149=>w6 (0<=(4:Int)/\(4:Int)<((8:Nat):Int)) (l4 (s5 b148 (o149+(4:Int).toNat * 1)) (.one (.sc (.int .u32))) (fun(x150:Int)=>j0 v85 (fun b151 o152=>w6 (0<=(5:Int)/\(5:Int)<((8:Nat):Int)) (l4 (s5 b151 (o152+(5:Int).toNat * 1)) (.one (.sc (.int .u32))) (fun(x153:Int) =>
 j0 v85 (fun b154 o155=>w6 (0<=(6:Int)/\(6:Int)<((8:Nat):Int)) (l4 (s5 b154 (o155+(6:Int).toNat * 1)) (.one (.sc (.int .u32))) (fun(x156:Int) =>
 t8 194 (.pointer v85) (.agg ⟨[.int .u32 (IntKind.u32.wrap ((IntKind.u32.wrap ((IntKind.u32.wrap ((IntKind.u32.wrap ((IntKind.u32.wrap (x89+x112))+(A0 .xor .u32 (A0 .and .u32 x95 x98) (A0 .and .u32 (A0 .xor .u32 4294967295 x101) x104))))+x107))+x110))+(IntKind.u32.wrap (x135+(A0 .xor .u32 (A0 .xor .u32 (A0 .and .u32 x118 x121) (A0 .and .u32 x124 x127)) (A0 .and .u32 x130 x133)))))),.int .u32 x138,.int .u32 x141,.int .u32 x144,.int .u32 (IntKind.u32.wrap (x147+(IntKind.u32.wrap ((IntKind.u32.wrap ((IntKind.u32.wrap ((IntKind.u32.wrap (x89+x112))+(A0 .xor .u32 (A0 .and .u32 x95 x98) (A0 .and .u32 (A0 .xor .u32 4294967295 x101) x104))))+x107))+x110)))),.int .u32 x150,.int .u32 x153,.int .u32 x156]⟩) (R79 v80 v81 x82 v83 v84 v85 (IntKind.i64.wrap (x86+1)))))))))))))))))))))))))))))))))))))))))))))))))))))))))))))))))))))))))))))))))))))))
 (l9 [.sc .ptr,.sc .ptr,.sc .ptr,.sc (.int .i64)] (fun(R157:u4->u4->u4->Int->s9)=>(fun(v158:u4) (x159:u4) (v160:u4) (x161:Int)=>l8 (decide ((x161:Int)<8)) (j0 v158 (fun b162 o163=>w6 (0<=x161/\x161<((8:Nat):Int)) (l4 (s5 b162 (o163+x161.toNat * 1)) (.one (.sc (.int .u32))) (fun(x164:Int)=>j0 v160 (fun b165 o166=>w6 (0<=x161/\x161<((8:Nat):Int))
 (l4 (s5 b165 (o166+x161.toNat * 1)) (.one (.sc (.int .u32))) (fun(x167:Int)=>j0 v158 (fun b168 o169=>w6 (0<=x161/\x161<((8:Nat):Int)) (t8 188 (.pointer (some ⟨b168,o169+x161.toNat * 1,none⟩)) (.int .u32 (IntKind.u32.wrap (x164+x167))) (R157 v158 x159 v160 (IntKind.i64.wrap (x161+1)))))))))))) (j0 v158 (fun b170 o171 =>
 l4 (rdA 8 b170 o171) (.one (.agg [(.int .u32),(.int .u32),(.int .u32),(.int .u32),(.int .u32),(.int .u32),(.int .u32),(.int .u32)])) (fun(x172:Int) (x173:Int) (x174:Int) (x175:Int) (x176:Int) (x177:Int) (x178:Int) (x179:Int)=>t8 194 (.pointer x159) (.agg ⟨[.int .u32 x172,.int .u32 x173,.int .u32 x174,.int .u32 x175,.int .u32 x176,.int .u32 x177,.int .u32 x178,.int .u32 x179]⟩) (j0 x159 (fun b180 o181 =>
 l4 (rdA 8 b180 o181) (.one (.agg [(.int .u32),(.int .u32),(.int .u32),(.int .u32),(.int .u32),(.int .u32),(.int .u32),(.int .u32)])) (fun(r182:Int) (r183:Int) (r184:Int) (r185:Int) (r186:Int) (r187:Int) (r188:Int) (r189:Int) =>
 K (.agg ⟨[.int .u32 r182,.int .u32 r183,.int .u32 r184,.int .u32 r185,.int .u32 r186,.int .u32 r187,.int .u32 r188,.int .u32 r189]⟩))))))))) (fun(R190:u4->u4->u4->Int->s9)=>R190 v81 x82 v85 0)))) (fun(R191:u4->u4->u4->Value->u4->u4->Int->s9)=>R191 v16 v17 x18 v19 v20 (some ⟨b78,0,none⟩) 0)))))))) (fun(R192:Sl->u4->u4->u4->Value->u4->Int->s9)=>R192 v9 v10 (some ⟨b11,0,none⟩) (some ⟨b12,0,none⟩) (.func (.func 218) ⟨[]⟩ ⟨[]⟩) (some ⟨b13,0,none⟩) 0))))
theorem dy3 (v1:Int) (v2:Int) (v3:Int) (v4:Int) (v5:Int) (v6:Int) (v7:Int) (v8:Int) (v9:Sl) (v10:u4):cQ3 v1 v2 v3 v4 v5 v6 v7 v8 v9 v10 K σ->a8 179 [.agg ⟨[.int .u32 v1,.int .u32 v2,.int .u32 v3,.int .u32 v4,.int .u32 v5,.int .u32 v6,.int .u32 v7,.int .u32 v8]⟩,.slice v9.base v9.len v9.cap,.pointer v10] K σ:=k8 cQ2 Tryz.func179


def cQ4:Ann:=(.q (.cond .r (.q (.cond .z .z))))
def cQ5 (v1:u4) (K:KH):s9 :=
 j0 v1 (fun b2 o3=>l4 (s5 b2 o3) kP (fun x4=>l8 x4.isNone (M7 Tryz.prog (convert 143 231 (.pointer v1)) kR (fun x5=>y6 Tryz.prog (.func (.func 220) ⟨[]⟩ ⟨[]⟩) [x5] kR (fun x6=>M7 Tryz.prog (convert 231 143 (x6)) kP (fun x7=>j0 v1 (fun b8 o9=>t8 143 (.pointer (some ⟨b8,o9,none⟩)) (.pointer x7) (K (.tuple ⟨[]⟩))))))) (j0 v1 (fun b10 o11=>l4 (s5 b10 o11) kP (fun x12 =>
 M7 Tryz.prog (do eqGuard .neq 143 (.tmp 17) (.tmp 18) (.pointer x12) (.pointer v1);binOp .neq 143 (.pointer x12) (.pointer v1)) kB (fun x13=>l8 x13 (nW) (K (.tuple ⟨[]⟩))))))))
theorem dy4 (v1:u4):cQ5 v1 K σ->a8 180 [.pointer v1] K σ:=k8 cQ4 Tryz.func180


def cQ6:Ann:=(.q (.n (.q (.blk (.loop [(0,.l),(5,.l),(6,.i),(7,.i)] (.q (.n (.cond .z .z) (.n (.blk (.q (.blk (.seq (some [(0,.l),(3,.i),(4,.sc (.int .u8)),(5,.l),(6,.i),(7,.i),(12,.b),(16,.w),(17,.w)]) (.seq (some [(0,.l),(3,.i),(4,.sc (.int .u8)),(5,.l),(6,.i),(7,.i),(12,.b),(16,.w),(17,.w)]) .r (.cond .z (.seq (some [(0,.l),(3,.i),(4,.sc (.int .u8)),(5,.l),(6,.i),(7,.i),(12,.b),(16,.w),(17,.w),(22,.w),(23,.w),(24,.w),(25,.w)]) .r (.cond .z .r)))) (.cond (.q .z) (.q (.h))))))) .r)))))) (.q .z)))
def cQ7 (v1:Sl) (K:KH):s9 :=
 l9 [.sc .slc,.sc .slc,.sc (.int .i64),.sc (.int .i64)] (fun(R2:Sl->Sl->Int->Int->s9)=>(fun(v3:Sl) (x4:Sl) (x5:Int) (x6:Int)=>l8 (decide ((x6:Int)<x5)) (j0 x4.base (fun b7 o8=>w6 (0<=x6/\x6<((x4.len:Nat):Int)) (l4 (s5 b7 (o8+x6.toNat * 1)) kC (fun(x9:Int)=>w9 (T:=Sl->Int->Int->Sl->Int->Int->Bool->Value->Value->s9) (fun v11 v12 v13 x14 x15 x16 x17 _x18 _x19=>l8 x17 (K (.int .i64 0))
 (l8 (decide ((v13:Int)<128)) (K (.int .i64 (IntKind.i64.wrap (v12+1)))) (R2 v11 x14 x15 (IntKind.i64.wrap (x16+1))))) (fun j10=>w9 (T:=Sl->Int->Int->Sl->Int->Int->Bool->Value->Value->s9) (fun v21 v22 v23 x24 x25 x26 x27 x28 x29=>l8 x27 (j10 v21 v22 v23 x24 x25 x26 x27 x28 x29) (w9 (T:=Sl->Int->Int->Sl->Int->Int->Bool->Value->Value->Value->Value->Value->Value->s9) (fun v31 v32 v33 x34 x35 x36 x37 x38 x39 _x40 _x41 _x42 _x43 =>
 l8 x37 (j10 v31 v32 v33 x34 x35 x36 x37 x38 x39) (j10 v31 v32 v33 x34 x35 x36 ((v32:Int)==10) x38 x39)) (fun j30=>l8 ((v22:Int)==9) (j0 v21.base (fun b44 o45=>w6 (0<=(0:Int)/\(0:Int)<((v21.len:Nat):Int)) (l4 (s5 b44 (o45+(0:Int).toNat * 1)) kC (fun(x46:Int) =>
 j30 v21 v22 v23 x24 x25 x26 (decide ((x46:Int)>129)) x28 x29 (.slice v21.base v21.len v21.cap) (.pointer (some ⟨b44,o45+(0:Int).toNat * 1,none⟩)) (.int .u8 x46) (.bool (decide ((x46:Int)>129))))))) (j30 v21 v22 v23 x24 x25 x26 false x28 x29 (.tuple ⟨[]⟩) (.tuple ⟨[]⟩) (.tuple ⟨[]⟩) (.tuple ⟨[]⟩))))) (fun j20=>l8 ((x6:Int)==0) (j20 v3 x6 x9 x4 x5 x6 ((x9:Int)==128) (.int .u8 x9) (.bool ((x9:Int)==128)))
 (j20 v3 x6 x9 x4 x5 x6 false (.tuple ⟨[]⟩) (.tuple ⟨[]⟩)))))))) (K (.int .i64 0)))) (fun(R47:Sl->Sl->Int->Int->s9)=>R47 v1 v1 ((v1.len:Nat):Int) 0)
theorem dy5 (v1:Sl):cQ7 v1 K σ->a8 181 [.slice v1.base v1.len v1.cap] K σ:=k8 cQ6 Tryz.func181


def cQ8:Ann:=(.q (.q (.q .z)))
def cQ9 (v1:j1) (K:KH):s9 :=
 d8 56 [.string v1] (.tup [.sc .str,.sc .str,.sc (.int .i64)]) (fun(_x2:j1) (_x3:j1) (x4:Int)=>K (.bool ((x4:Int)==0)))
theorem dy6 (v1:j1):cQ9 v1 K σ->a8 183 [.string v1] K σ:=k8 cQ8 Tryz.func183


def cR0:Ann:=(.q (.n (.q (.blk (.loop [(0,.l),(3,.i)] (.n (.q (.cond .z .z)) (.n (.blk (.n (.reg (rn 10) [[],[],[1],[0,1,2],(rn 4),[],[],[5,6],[5,6,7],(rn 9)]) (.h))) .r))))) (.q .z)))
def cR1 (v1:Sl) (K:KH):s9 :=
 l9 [.sc .slc,.sc (.int .i64)] (fun(R2:Sl->Int->s9)=>(fun(v3:Sl) (v4:Int)=>l8 (decide ((v4:Int)<((v3.len:Nat):Int))) (j0 v3.base (fun b5 o6=>w6 (0<=IntKind.i64.wrap (v4 - 1)/\IntKind.i64.wrap (v4 - 1)<((v3.len:Nat):Int)) (l4 (s5 b5 (o6+(IntKind.i64.wrap (v4 - 1):Int).toNat * 1)) kS (fun(x7:j1)=>j0 v3.base (fun b8 o9=>w6 (0<=v4/\v4<((v3.len:Nat):Int))
 (l4 (s5 b8 (o9+v4.toNat * 1)) kS (fun(x10:j1)=>l8 (!E4 x7 x10) (K (.bool false)) (R2 v3 (IntKind.i64.wrap (v4+1)))))))))) (K (.bool true)))) (fun(R11:Sl->Int->s9)=>R11 v1 1)
theorem dy7 (v1:Sl):cR1 v1 K σ->a8 184 [.slice v1.base v1.len v1.cap] K σ:=k8 cR0 Tryz.func184


def cR2:Ann:=(.q (.q (.n (.q (.blk (.loop [(0,.s),(3,.w),(6,.i),(7,.i)] (.q (.n (.cond .z .z) (.n (.blk (.q (.seq (some [(0,.s),(3,.w),(6,.i),(7,.i),(31,.b)]) .r (.h)))) .r)))))) (.q .z))))
def cR3 (v1:j1) (K:KH):s9 :=
 l9 [.sc .str,.sc .raw,.sc (.int .i64),.sc (.int .i64)] (fun(R2:j1->Value->Int->Int->s9)=>(fun(v3:j1) (v4:Value) (x5:Int) (x6:Int)=>l8 (decide ((x6:Int)<x5)) (w9 (T:=j1->Value->Int->Int->Bool->s9) (fun v8 v9 x10 x11 x12=>l8 x12 (K (.bool false)) (R2 v8 v9 x10 (IntKind.i64.wrap (x11+1)))) (fun j7=>B2 v3 x6 (fun c13=>y6 Tryz.prog v4 [.int .u8 (c13.toNat:Int)] kB (fun x14=>l8 (!x14)
 (l8 ((x6:Int)==0) (j7 v3 v4 x5 x6 true) (B2 v3 x6 (fun c15=>l8 (decide ((c15.toNat:Int)<48)) (j7 v3 v4 x5 x6 true) (B2 v3 x6 (fun c16=>j7 v3 v4 x5 x6 (decide ((c16.toNat:Int)>57))))))) (j7 v3 v4 x5 x6 false))))) (l8 (!B8 v3 (⟨⟨[]⟩⟩:j1)) (l8 (decide (((v3.size:Nat):Int)<=56)) (l8 (!B8 v3 (⟨⟨[111,117,116]⟩⟩:j1)) (K (.bool (!B8 v3 (⟨⟨[110,97,109,101]⟩⟩:j1))))
 (K (.bool false))) (K (.bool false))) (K (.bool false))))) (fun(R17:j1->Value->Int->Int->s9)=>R17 v1 (.func (.func 222) ⟨[]⟩ ⟨[]⟩) ((v1.size:Nat):Int) 0)
theorem dy8 (v1:j1):cR3 v1 K σ->a8 185 [.string v1] K σ:=k8 cR2 Tryz.func185


def cR4:Ann:=(.q (.n (.q (.q (.cond (.n (.reg (rn 12) [[],[],[0,1],[],[],[],[5],[4,5,6],[3,4,5,6,7],[0,1,2],(rn 10),(rn 11)]) .z) .z))) (.q .z)))
def cR5 (v1:j1) (v2:j1) (K:KH):s9 :=
 d8 224 [.string v1,.string v2] kI (fun(x3:Int)=>l8 (decide ((x3:Int)>=0)) (w6 (A1 (some x3) v1.size/\A1 none (x3.toNat)) (w6 (A1 none v1.size/\A1 (some (IntKind.i64.wrap (x3+((v2.size:Nat):Int)))) (v1.size)) (K (.tuple ⟨[.string (v1.extract 0 x3.toNat),.string (v1.extract ((IntKind.i64.wrap (x3+((v2.size:Nat):Int))).toNat) v1.size),.bool true]⟩)))) (K (.tuple ⟨[.string v1,.string ⟨⟨[]⟩⟩,.bool false]⟩)))
theorem dy9 (v1:j1) (v2:j1):cR5 v1 v2 K σ->a8 187 [.string v1,.string v2] K σ:=k8 cR4 Tryz.func187


def cR6:Ann:=(.q (.n (.q (.h)) (.n (.q (.h)) (.seq (some [(0,.s),(1,.s),(2,.i),(3,.i)]) (.q (.cond .r .z)) (.q (.q (.q (.q (.seq (some [(0,.s),(9,.l),(10,.i)]) (.blk (.loop [(0,.s),(1,.s),(2,.i),(3,.i),(9,.l),(10,.i)] (.n (.q (.cond .z .z)) (.blk (.q (.n (.q (.cond .z .z)) (.q (.q .r)))))))) (.q (.q .z)))))))))))
def cR7 (v1:j1) (v2:j1) (v3:Int) (v4:Int) (K:KH):s9 :=
 l8 ((v4:Int)==0) (K (.slice none 0 0)) (l8 (B8 v2 (⟨⟨[]⟩⟩:j1)) (d8 225 [.string v1,.int .i64 v4] kL (fun x5=>K (.slice x5.base x5.len x5.cap))) (w9 (T:=j1->j1->Int->Int->s9) (fun v7 v8 v9 v10 =>
 M7 Tryz.prog (Instr.makeSlice 23 (.int .i64 (if(IntKind.i64.wrap (((v7.size:Nat):Int)+1))<v10 then(IntKind.i64.wrap (((v7.size:Nat):Int)+1))else v10)) (.int .i64 (if(IntKind.i64.wrap (((v7.size:Nat):Int)+1))<v10 then(IntKind.i64.wrap (((v7.size:Nat):Int)+1))else v10))) kL (fun x11=>w9 (T:=j1->Sl->Int->s9) (fun v13 v14 v15=>j0 v14.base (fun b16 o17=>w6 (0<=v15/\v15<((v14.len:Nat):Int))
 (t8 9 (.pointer (some ⟨b16,o17+v15.toNat * 1,none⟩)) (.string v13) (w6 (A1 (some (IntKind.i64.wrap (v15+1))) v14.cap/\A1 none ((IntKind.i64.wrap (v15+1)).toNat)) (K (.slice (F8 v14.base 0 v14.cap 1) (((IntKind.i64.wrap (v15+1)).toNat) - 0) (v14.cap - 0))))))) (fun j12 =>
 l9 [.sc .str,.sc .str,.sc (.int .i64),.sc (.int .i64),.sc .slc,.sc (.int .i64)] (fun(R18:j1->j1->Int->Int->Sl->Int->s9)=>(fun(v19:j1) (v20:j1) (v21:Int) (v22:Int) (v23:Sl) (v24:Int)=>l8 (decide ((v24:Int)<v22)) (d8 227 [.string v19,.string v20] kI (fun(x25:Int)=>l8 (decide ((x25:Int)<0)) (j12 v19 v23 v24)
 (w6 (A1 (some (IntKind.i64.wrap (x25+v21))) v19.size/\A1 none ((IntKind.i64.wrap (x25+v21)).toNat)) (j0 v23.base (fun b26 o27=>w6 (0<=v24/\v24<((v23.len:Nat):Int)) (t8 9 (.pointer (some ⟨b26,o27+v24.toNat * 1,none⟩)) (.string (v19.extract 0 ((IntKind.i64.wrap (x25+v21)).toNat))) (w6 (A1 none v19.size/\A1 (some (IntKind.i64.wrap (x25+((v20.size:Nat):Int)))) (v19.size))
 (R18 (v19.extract ((IntKind.i64.wrap (x25+((v20.size:Nat):Int))).toNat) v19.size) v20 v21 v22 v23 (IntKind.i64.wrap (v24+1)))))))))) (j12 v19 v23 v24))) (fun(R28:j1->j1->Int->Int->Sl->Int->s9)=>R28 v7 v8 v9 (IntKind.i64.wrap ((if(IntKind.i64.wrap (((v7.size:Nat):Int)+1))<v10 then(IntKind.i64.wrap (((v7.size:Nat):Int)+1))else v10) - 1)) x11 0)))) (fun j6=>l8 (decide ((v4:Int)<0))
 (d8 226 [.string v1,.string v2] kI (fun(x29:Int)=>j6 v1 v2 v3 (IntKind.i64.wrap (x29+1)))) (j6 v1 v2 v3 v4))))
theorem dz0 (v1:j1) (v2:j1) (v3:Int) (v4:Int):cR7 v1 v2 v3 v4 K σ->a8 188 [.string v1,.string v2,.int .i64 v3,.int .i64 v4] K σ:=k8 cR6 Tryz.func188


def cR8:Ann:=(.q (.q (.n (.q (.blk (.loop [(1,.p),(3,.p),(7,.l),(8,.i),(9,.i)] (.q (.n (.cond .z .z) (.n (.blk (.q .r)) .r)))))) (.q .z))))
def cR9 (v1:j1) (v2:Sl) (v3:Sl) (v4:j1) (K:KH):s9 :=
 A9 (.cells ⟨[.string v1,.slice v2.base v2.len v2.cap,.slice v3.base v3.len v3.cap,.string v4]⟩ 113 (0,0)) (fun b5=>A9 (.cells ⟨[.slice none 0 0]⟩ 23 (0,0)) (fun b6=>l4 (s5 b5 2) kL (fun x7=>l9 [.sc .ptr,.sc .ptr,.sc .slc,.sc (.int .i64),.sc (.int .i64)] (fun(R8:u4->u4->Sl->Int->Int->s9)=>(fun(v9:u4) (v10:u4) (x11:Sl) (x12:Int) (x13:Int)=>l8 (decide ((x13:Int)<x12))
 (j0 x11.base (fun b14 o15=>w6 (0<=x13/\x13<((x11.len:Nat):Int)) (l4 (rdA 2 b14 (o15+x13.toNat * 2)) (.one (.agg [.str,.str])) (fun(x16:j1) (x17:j1)=>A9 (.cells ⟨[.string ⟨⟨[]⟩⟩,.string ⟨⟨[]⟩⟩]⟩ 206 (0,0)) (fun b18=>t8 206 (.pointer (some ⟨b18,0,none⟩)) (.agg ⟨[.string x16,.string x17]⟩) (j0 v10 (fun b19 o20=>l4 (s5 b19 o20) kL (fun x21=>l4 (s5 b18 0) kS (fun(x22:j1) =>
 A9 (.cells ⟨[.string x22]⟩ 9 (0,0)) (fun b23=>Q4 .append #[23,23] 23 [false,false] [.slice x21.base x21.len x21.cap,.slice (some ⟨b23,0,none⟩) 1 1] kL (fun x24=>t8 23 (.pointer v10) (.slice x24.base x24.len x24.cap) (R8 v9 v10 x11 x12 (IntKind.i64.wrap (x13+1))))))))))))))
 (A9 (.cells ⟨[.func (.func 229) ⟨[]⟩ ⟨[.pointer v9]⟩,.func (.func 230) ⟨[]⟩ ⟨[.pointer v9]⟩,.func (.func 231) ⟨[]⟩ ⟨[.pointer v9]⟩,.func (.func 233) ⟨[]⟩ ⟨[.pointer v9,.pointer v10]⟩,.func (.func 234) ⟨[]⟩ ⟨[.pointer v9]⟩,.func (.func 237) ⟨[]⟩ ⟨[.pointer v9]⟩]⟩ 34 (0,0)) (fun b25=>d8 228 [.slice (some ⟨b25,0,none⟩) 6 6] kB (fun x26 =>
 K (.bool x26)))))) (fun(R27:u4->u4->Sl->Int->Int->s9)=>R27 (some ⟨b5,0,none⟩) (some ⟨b6,0,none⟩) x7 ((x7.len:Nat):Int) 0))))
theorem dz1 (v1:j1) (v2:Sl) (v3:Sl) (v4:j1):cR9 v1 v2 v3 v4 K σ->a8 189 [.agg ⟨[.string v1,.slice v2.base v2.len v2.cap,.slice v3.base v3.len v3.cap,.string v4]⟩] K σ:=k8 cR8 Tryz.func189


def cS0:Ann := .r
def cS1 (v1:Sl) (x2:u4) (K:KH):s9 :=
 d8 192 [.slice v1.base v1.len v1.cap,.string ⟨⟨[32]⟩⟩] kS (fun(x3:j1)=>w6 (x3.size+(⟨⟨[10]⟩⟩:j1).size<=9223372036854775807) (d8 191 [.pointer x2,.string (x3++⟨⟨[10]⟩⟩)] (.tup [.sc (.int .i64),.sc .raw]) (fun(_x4:Int) (_x5:Value)=>K (.tuple ⟨[]⟩))))
theorem dz2 (v1:Sl) (x2:u4):cS1 v1 x2 K σ->a8 190 [.slice v1.base v1.len v1.cap,.pointer x2] K σ:=k8 cS0 Tryz.func190


def cS2:Ann:=(.q (.q (.q (.q .z))))
def cS3 (v1:u4) (v2:j1) (K:KH):s9 :=
 d8 180 [.pointer v1] kU (j0 v1 (fun b3 o4=>l4 (s5 b3 (o4+1)) kL (fun x5=>Q4 .append #[36,9] 36 [false,false] [.slice x5.base x5.len x5.cap,.string v2] kL (fun x6=>j0 v1 (fun b7 o8=>t8 36 (.pointer (some ⟨b7,o8+1,none⟩)) (.slice x6.base x6.len x6.cap) (K (.tuple ⟨[.int .i64 ((v2.size:Nat):Int),.nilIface]⟩)))))))
theorem dz3 (v1:u4) (v2:j1):cS3 v1 v2 K σ->a8 191 [.pointer v1,.string v2] K σ:=k8 cS2 Tryz.func191

end Go.Proofs.YtgfiobhpipollaaGreatDoor

set_option maxRecDepth 100000
namespace Go.Proofs.YtgfiobhpipollaaGreatDoor
open Go Go.HL
variable {K:KH} {σ:H}
def cS4:Ann:=(.q (.n (.q (.blk (.q (.cond (.q .z) (.q (.h)))))) (.q (.seq (some [(0,.l),(1,.s),(5,.i)]) (.q (.cond (.n (.q (.cond .r .z)) .r) .z)) (.n (.q (.blk (.loop [(0,.l),(1,.s),(5,.i),(39,.l),(40,.i),(41,.i)] (.q (.n (.cond .z .z) (.n (.blk (.q (.n (.q (.cond .r .z)) .r))) .r)))))) (.q (.q (.q (.n (.q (.blk (.loop [(1,.s),(8,.p),(63,.l),(64,.i),(65,.i)] (.q (.n (.cond .z .z) (.n (.blk (.q (.q .r))) .r)))))) (.q .z))))))))))
def cS5 (v1:Sl) (v2:j1) (K:KH):s9 :=
 l8 (((v1.len:Nat):Int)==0) (K (.string ⟨⟨[]⟩⟩)) (l8 (((v1.len:Nat):Int)==1) (j0 v1.base (fun b3 o4=>w6 (0<=(0:Int)/\(0:Int)<((v1.len:Nat):Int)) (l4 (s5 b3 (o4+(0:Int).toNat * 1)) kS (fun(x5:j1)=>K (.string x5))))) (w9 (T:=Sl->j1->Int->s9) (fun v7 v8 v9 =>
 l9 [.sc .slc,.sc .str,.sc (.int .i64),.sc .slc,.sc (.int .i64),.sc (.int .i64)] (fun(R10:Sl->j1->Int->Sl->Int->Int->s9)=>(fun(v11:Sl) (v12:j1) (v13:Int) (x14:Sl) (x15:Int) (x16:Int)=>l8 (decide ((x16:Int)<x15)) (j0 x14.base (fun b17 o18=>w6 (0<=x16/\x16<((x14.len:Nat):Int)) (l4 (s5 b17 (o18+x16.toNat * 1)) kS (fun(x19:j1) =>
 l8 (decide (((x19.size:Nat):Int)>(IntKind.i64.wrap (9223372036854775807 - v13)))) (nW) (R10 v11 v12 (IntKind.i64.wrap (v13+((x19.size:Nat):Int))) x14 x15 (IntKind.i64.wrap (x16+1))))))) (A9 (.cells ⟨[.pointer none,.slice none 0 0]⟩ 145 (0,0)) (fun b20=>d8 238 [.pointer (some ⟨b20,0,none⟩),.int .i64 v13] kU (j0 v11.base (fun b21 o22=>w6 (0<=(0:Int)/\(0:Int)<((v11.len:Nat):Int))
 (l4 (s5 b21 (o22+(0:Int).toNat * 1)) kS (fun(x23:j1)=>d8 191 [.pointer (some ⟨b20,0,none⟩),.string x23] (.tup [.sc (.int .i64),.sc .raw]) (fun(_x24:Int) (_x25:Value)=>w6 (A1 none v11.cap/\A1 (some 1) v11.len) (l9 [.sc .str,.sc .ptr,.sc .slc,.sc (.int .i64),.sc (.int .i64)] (fun(R26:j1->u4->Sl->Int->Int->s9)=>(fun(v27:j1) (v28:u4) (x29:Sl) (x30:Int) (x31:Int) =>
 l8 (decide ((x31:Int)<x30)) (j0 x29.base (fun b32 o33=>w6 (0<=x31/\x31<((x29.len:Nat):Int)) (l4 (s5 b32 (o33+x31.toNat * 1)) kS (fun(x34:j1)=>d8 191 [.pointer v28,.string v27] (.tup [.sc (.int .i64),.sc .raw]) (fun(_x35:Int) (_x36:Value)=>d8 191 [.pointer v28,.string x34] (.tup [.sc (.int .i64),.sc .raw]) (fun(_x37:Int) (_x38:Value)=>R26 v27 v28 x29 x30 (IntKind.i64.wrap (x31+1))))))))
 (d8 120 [.pointer v28] kS (fun(x39:j1) =>
 K (.string x39))))) (fun(R40:j1->u4->Sl->Int->Int->s9)=>R40 v12 (some ⟨b20,0,none⟩) ⟨F8 v11.base ((1:Int).toNat) v11.cap 1,v11.len - ((1:Int).toNat),v11.cap - ((1:Int).toNat)⟩ ((v11.len - ((1:Int).toNat):Nat):Int) 0))))))))))) (fun(R41:Sl->j1->Int->Sl->Int->Int->s9)=>R41 v7 v8 v9 v7 ((v7.len:Nat):Int) 0)) (fun j6=>l8 (decide (((v2.size:Nat):Int)>0))
 (w6 ((IntKind.i64.wrap (((v1.len:Nat):Int) - 1))≠0) (l8 (decide (((v2.size:Nat):Int)>=(IntKind.i64.wrap (Int.tdiv 9223372036854775807 (IntKind.i64.wrap (((v1.len:Nat):Int) - 1)))))) (nW) (j6 v1 v2 (IntKind.i64.wrap (0+(IntKind.i64.wrap (((v2.size:Nat):Int) * (IntKind.i64.wrap (((v1.len:Nat):Int) - 1))))))))) (j6 v1 v2 0))))
theorem dz4 (v1:Sl) (v2:j1):cS5 v1 v2 K σ->a8 192 [.slice v1.base v1.len v1.cap,.string v2] K σ:=k8 cS4 Tryz.func192


def cS6:Ann:=(.q (.n (.q (.h)) (.q (.n (.q (.blk (.loop [(0,.s),(3,.p),(8,.i),(9,.i)] (.q (.n (.cond .z .z) (.n (.blk (.q (.q .r))) .r)))))) (.q .z)))))
def cS7 (v1:j1) (K:KH):s9 :=
 l8 (B8 v1 (⟨⟨[]⟩⟩:j1)) (K (.string ⟨⟨[45]⟩⟩)) (A9 (.cells ⟨[.pointer none,.slice none 0 0]⟩ 145 (0,0)) (fun b2=>l9 [.sc .str,.sc .ptr,.sc (.int .i64),.sc (.int .i64)] (fun(R3:j1->u4->Int->Int->s9)=>(fun(v4:j1) (v5:u4) (x6:Int) (x7:Int)=>l8 (decide ((x7:Int)<x6)) (B2 v4 x7 (fun c8=>w6 (0<=(4:Int))
 (B2 (⟨⟨[48,49,50,51,52,53,54,55,56,57,97,98,99,100,101,102]⟩⟩:j1) (Int.fdiv (c8.toNat:Int) (2 ^ min (Int.toNat 4) (IntKind.bits .u8))) (fun c9=>d8 119 [.pointer v5,.int .u8 (c9.toNat:Int)] kR (fun _x10=>B2 v4 x7 (fun c11=>B2 (⟨⟨[48,49,50,51,52,53,54,55,56,57,97,98,99,100,101,102]⟩⟩:j1) (A0 .and .u8 (c11.toNat:Int) 15) (fun c12=>d8 119 [.pointer v5,.int .u8 (c12.toNat:Int)] kR (fun _x13 =>
 R3 v4 v5 x6 (IntKind.i64.wrap (x7+1)))))))))) (d8 120 [.pointer v5] kS (fun(x14:j1)=>K (.string x14))))) (fun(R15:j1->u4->Int->Int->s9)=>R15 v1 (some ⟨b2,0,none⟩) ((v1.size:Nat):Int) 0)))
theorem dz5 (v1:j1):cS7 v1 K σ->a8 193 [.string v1] K σ:=k8 cS6 Tryz.func193


def cS8:Ann:=(.q (.n (.seq (some [(1,.i),(2,.p),(13,.b)]) .r (.h)) (.q (.n (.q (.blk (.loop [(1,.i),(2,.p),(5,.i),(6,.i)] (.n (.q (.cond .z .z)) (.n (.blk .r) .r))))) (.q .z)))))
def cs3 (v1:j1) (v2:Int) (v3:Bool) (v4:j1) (v5:Sl) (v6:Int) (K:KH):s9 :=
 A9 (.cells ⟨[.string v1,.int .i64 v2,.bool v3,.string v4,.slice v5.base v5.len v5.cap]⟩ 75 (0,0)) (fun b7=>w9 (T:=Int->u4->Bool->s9) (fun v9 v10 x11=>l8 x11 (K (.int .i64 1)) (l9 [.sc (.int .i64),.sc .ptr,.sc (.int .i64),.sc (.int .i64)] (fun(R12:Int->u4->Int->Int->s9)=>(fun(v13:Int) (v14:u4) (v15:Int) (v16:Int)=>j0 v14 (fun b17 o18=>l4 (s5 b17 (o18+4)) kL (fun x19 =>
 l8 (decide ((v16:Int)<((x19.len:Nat):Int))) (j0 v14 (fun b20 o21=>l4 (s5 b20 (o21+4)) kL (fun x22=>j0 x22.base (fun b23 o24=>w6 (0<=v16/\v16<((x22.len:Nat):Int)) (l4 (rdA 5 b23 (o24+v16.toNat * 5)) (.one (.agg [.str,(.int .i64),.bool,.str,.slc])) (fun(x25:j1) (x26:Int) (x27:Bool) (x28:j1) (x29:Sl) =>
 d8 194 [.agg ⟨[.string x25,.int .i64 x26,.bool x27,.string x28,.slice x29.base x29.len x29.cap]⟩,.int .i64 (IntKind.i64.wrap (v13 - 1))] kI (fun(x30:Int)=>R12 v13 v14 (if(IntKind.i64.wrap (1+x30))>v15 then(IntKind.i64.wrap (1+x30))else v15) (IntKind.i64.wrap (v16+1))))))))) (K (.int .i64 v15)))))) (fun(R31:Int->u4->Int->Int->s9)=>R31 v9 v10 1 0))) (fun j8=>l4 (s5 b7 1) kI (fun(x32:Int)=>l8 ((x32:Int) != 2)
 (j8 v6 (some ⟨b7,0,none⟩) true) (j8 v6 (some ⟨b7,0,none⟩) ((v6:Int)==1)))))
theorem cS9 (v1:j1) (v2:Int) (v3:Bool) (v4:j1) (v5:Sl) (v6:Int):cs3 v1 v2 v3 v4 v5 v6 K σ->a8 194 [.agg ⟨[.string v1,.int .i64 v2,.bool v3,.string v4,.slice v5.base v5.len v5.cap]⟩,.int .i64 v6] K σ:=k8 cS8 Tryz.func194


def cT0:Ann:=(.q (.n (.q (.blk (.loop [(0,.s),(3,.i)] (.n (.q (.cond .z .z)) (.n (.blk (.seq (some [(0,.s),(3,.i),(15,.w),(16,.w),(17,.w),(18,.w),(19,.b)]) .r (.h))) .r))))) (.q .z)))
def cT1 (v1:j1) (K:KH):s9 :=
 l9 [.sc .str,.sc (.int .i64)] (fun(R2:j1->Int->s9)=>(fun(v3:j1) (v4:Int)=>l8 (decide ((v4:Int)<((v3.size:Nat):Int))) (w9 (T:=j1->Int->Value->Value->Value->Value->Bool->s9) (fun v6 v7 _x8 _x9 _x10 _x11 x12=>l8 x12 (K (.bool false)) (R2 v6 (IntKind.i64.wrap (v7+1)))) (fun j5=>B2 v3 v4 (fun c13=>l8 ((c13.toNat:Int)==47) (j5 v3 v4 (.tuple ⟨[]⟩) (.tuple ⟨[]⟩) (.tuple ⟨[]⟩) (.tuple ⟨[]⟩) true)
 (B2 v3 v4 (fun c14=>j5 v3 v4 (.string v3) (.int .i64 v4) (.int .u8 (c14.toNat:Int)) (.bool ((c14.toNat:Int)==0)) ((c14.toNat:Int)==0)))))) (l8 (decide (((v3.size:Nat):Int)>=1)) (l8 (decide (((v3.size:Nat):Int)<=56)) (l8 (!B8 v3 (⟨⟨[46]⟩⟩:j1)) (K (.bool (!B8 v3 (⟨⟨[46,46]⟩⟩:j1)))) (K (.bool false))) (K (.bool false))) (K (.bool false))))) (fun(R15:j1->Int->s9)=>R15 v1 0)
theorem dz6 (v1:j1):cT1 v1 K σ->a8 195 [.string v1] K σ:=k8 cT0 Tryz.func195


def cT2:Ann:=(.q (.q (.q (.q (.n (.q (.blk (.loop [(0,.s),(3,.l),(4,.p),(5,.p),(6,.i)] (.n (.q (.cond .z .z)) (.seq (some [(0,.s),(3,.l),(4,.p),(5,.p),(6,.i)]) (.blk (.q (.q (.cond .r .z)))) .r))))) (.q (.n (.q (.blk (.loop [(4,.p),(5,.p),(7,.s),(8,.i)] (.n (.q (.cond .z .z)) (.n (.blk (.reg (rn 9) [[],[],[],[],[3],[1,2,3,4],[],(rn 7),(rn 8)])) .r))))) (.q (.n (.q (.blk (.loop [(4,.p),(9,.l),(10,.i)] (.n (.q (.cond .z .z)) (.n (.blk (.reg (rn 23) [[],[],[1],[1,2],[1,2,3],[1,2,3,4],[],[6],[6,7],[6,7,8],[6,7,8,9],[],[11],[11,12],[11,12,13],[11,12,13,14],[],[16],[16,17],[16,17,18],[1,2,3,4,5,6,7,8,9,10,11,12,13,14,15,16,17,18,19],(rn 21),(rn 22)])) .r))))) (.q .z))))))))))
def cT3 (v1:j1) (K:KH):s9 :=
 d8 239 [.int .i64 64] kL (fun x2=>A9 (.cells ⟨[.int .u32 0,.int .u32 0,.int .u32 0,.int .u32 0,.int .u32 0,.int .u32 0,.int .u32 0,.int .u32 0]⟩ 193 (0,0)) (fun b3 =>
 A9 (.cells ⟨(List.replicate 64 (.int .u32 0))⟩ 195 (0,0)) (fun b4 =>
 l9 [.sc .str,.sc .slc,.sc .ptr,.sc .ptr,.sc (.int .i64)] (fun(R5:j1->Sl->u4->u4->Int->s9)=>(fun(v6:j1) (v7:Sl) (v8:u4) (v9:u4) (v10:Int)=>l8 (decide ((v10:Int)<64)) (w9 (T:=j1->Sl->u4->u4->Int->s9) (fun v12 v13 v14 v15 v16=>R5 v12 v13 v14 v15 (IntKind.i64.wrap (v16+1))) (fun j11=>j0 v7.base (fun b17 o18 =>
 w6 (0<=v10/\v10<((v7.len:Nat):Int)) (l4 (s5 b17 (o18+v10.toNat * 1)) (.one (.sc (.int .u64))) (fun(x19:Int)=>d8 240 [.int .u64 x19] (.one (.sc (.int .u32))) (fun(x20:Int)=>j0 v9 (fun b21 o22=>w6 (0<=v10/\v10<((64:Nat):Int)) (t8 188 (.pointer (some ⟨b21,o22+v10.toNat * 1,none⟩)) (.int .u32 x20) (l8 (decide ((v10:Int)<8)) (j0 v7.base (fun b23 o24=>w6 (0<=v10/\v10<((v7.len:Nat):Int))
 (l4 (s5 b23 (o24+v10.toNat * 1)) (.one (.sc (.int .u64))) (fun(x25:Int)=>d8 241 [.int .u64 x25] (.one (.sc (.int .u32))) (fun(x26:Int)=>j0 v8 (fun b27 o28=>w6 (0<=v10/\v10<((8:Nat):Int)) (t8 188 (.pointer (some ⟨b27,o28+v10.toNat * 1,none⟩)) (.int .u32 x26) (j11 v6 v7 v8 v9 v10)))))))) (j11 v6 v7 v8 v9 v10)))))))))) (d8 242 [.string v6] kS (fun(x29:j1) =>
 l9 [.sc .ptr,.sc .ptr,.sc .str,.sc (.int .i64)] (fun(R30:u4->u4->j1->Int->s9)=>(fun(v31:u4) (v32:u4) (v33:j1) (v34:Int)=>l8 (decide ((v34:Int)<((v33.size:Nat):Int))) (j0 v31 (fun b35 o36 =>
 l4 (rdA 8 b35 o36) (.one (.agg [(.int .u32),(.int .u32),(.int .u32),(.int .u32),(.int .u32),(.int .u32),(.int .u32),(.int .u32)])) (fun(x37:Int) (x38:Int) (x39:Int) (x40:Int) (x41:Int) (x42:Int) (x43:Int) (x44:Int)=>w6 (A1 (some (IntKind.i64.wrap (v34+64))) v33.size/\A1 (some v34) ((IntKind.i64.wrap (v34+64)).toNat)) (j0 v32 (fun b45 o46=>l4 (rdA 64 b45 o46) kR (fun x47 =>
 d8 243 [.agg ⟨[.int .u32 x37,.int .u32 x38,.int .u32 x39,.int .u32 x40,.int .u32 x41,.int .u32 x42,.int .u32 x43,.int .u32 x44]⟩,.string (v33.extract v34.toNat ((IntKind.i64.wrap (v34+64)).toNat)),x47] (.one (.agg [(.int .u32),(.int .u32),(.int .u32),(.int .u32),(.int .u32),(.int .u32),(.int .u32),(.int .u32)])) (fun(x48:Int) (x49:Int) (x50:Int) (x51:Int) (x52:Int) (x53:Int) (x54:Int) (x55:Int) =>
 t8 193 (.pointer v31) (.agg ⟨[.int .u32 x48,.int .u32 x49,.int .u32 x50,.int .u32 x51,.int .u32 x52,.int .u32 x53,.int .u32 x54,.int .u32 x55]⟩) (R30 v31 v32 v33 (IntKind.i64.wrap (v34+64)))))))))) (M7 Tryz.prog (Instr.makeSlice 36 (.int .i64 0) (.int .i64 32)) kL (fun x56=>l9 [.sc .ptr,.sc .slc,.sc (.int .i64)] (fun(R57:u4->Sl->Int->s9)=>(fun(v58:u4) (v59:Sl) (v60:Int)=>l8 (decide ((v60:Int)<8))
 (j0 v58 (fun b61 o62=>w6 (0<=v60/\v60<((8:Nat):Int)) (l4 (s5 b61 (o62+v60.toNat * 1)) (.one (.sc (.int .u32))) (fun(x63:Int)=>w6 (0<=(24:Int)) (j0 v58 (fun b64 o65=>w6 (0<=v60/\v60<((8:Nat):Int)) (l4 (s5 b64 (o65+v60.toNat * 1)) (.one (.sc (.int .u32))) (fun(x66:Int)=>w6 (0<=(16:Int)) (j0 v58 (fun b67 o68=>w6 (0<=v60/\v60<((8:Nat):Int)) (l4 (s5 b67 (o68+v60.toNat * 1)) (.one (.sc (.int .u32))) (fun(x69:Int) =>
 w6 (0<=(8:Int)) (j0 v58 (fun b70 o71=>w6 (0<=v60/\v60<((8:Nat):Int)) (l4 (s5 b70 (o71+v60.toNat * 1)) (.one (.sc (.int .u32))) (fun(x72:Int) =>
 A9 (.cells ⟨[.int .u8 (IntKind.u8.wrap (Int.fdiv x63 (2 ^ min (Int.toNat 24) (IntKind.bits .u32)))),.int .u8 (IntKind.u8.wrap (Int.fdiv x66 (2 ^ min (Int.toNat 16) (IntKind.bits .u32)))),.int .u8 (IntKind.u8.wrap (Int.fdiv x69 (2 ^ min (Int.toNat 8) (IntKind.bits .u32)))),.int .u8 (IntKind.u8.wrap x72)]⟩ 5 (0,0)) (fun b73=>Q4 .append #[36,36] 36 [false,false] [.slice v59.base v59.len v59.cap,.slice (some ⟨b73,0,none⟩) 4 4] kL (fun x74 =>
 R57 v58 x74 (IntKind.i64.wrap (v60+1)))))))))))))))))))) (M7 Tryz.prog (convert 36 9 (.slice v59.base v59.len v59.cap)) kS (fun(x75:j1)=>K (.string x75))))) (fun(R76:u4->Sl->Int->s9)=>R76 v31 x56 0))))) (fun(R77:u4->u4->j1->Int->s9)=>R77 v8 v9 x29 0))))) (fun(R78:j1->Sl->u4->u4->Int->s9)=>R78 v1 x2 (some ⟨b3,0,none⟩) (some ⟨b4,0,none⟩) 0))))
theorem dz7 (v1:j1):cT3 v1 K σ->a8 196 [.string v1] K σ:=k8 cT2 Tryz.func196


def cT4:Ann:=(.q (.q .z))
def cT5 (v1:j1) (v2:Int) (K:KH):s9 :=
 w6 ((8:Int)≠0) (B2 v1 (IntKind.i64.wrap (Int.tdiv v2 8)) (fun c3=>w6 ((8:Int)≠0) (w6 (0<=(IntKind.i64.wrap (7 - (Int.tmod v2 8)))) (K (.int .i64 (A0 .and .i64 (Int.fdiv (IntKind.i64.wrap (c3.toNat:Int)) (2 ^ min (Int.toNat (IntKind.i64.wrap (7 - (Int.tmod v2 8)))) (IntKind.bits .i64))) 1))))))
theorem dz8 (v1:j1) (v2:Int):cT5 v1 v2 K σ->a8 197 [.string v1,.int .i64 v2] K σ:=k8 cT4 Tryz.func197


def cT6:Ann:=(.q (.q (.q .z)))
def cT7 (v1:j1) (K:KH):s9 :=
 d8 63 [.string v1] (.tup [.sc .str,.sc .str,.sc (.int .i64)]) (fun(_x2:j1) (_x3:j1) (x4:Int)=>K (.bool ((x4:Int)==0)))
theorem dz9 (v1:j1):cT7 v1 K σ->a8 198 [.string v1] K σ:=k8 cT6 Tryz.func198


def cT8:Ann:=(.q (.n (.q (.blk (.loop [(0,.s),(3,.i)] (.n (.q (.cond .z .z)) (.n (.blk (.q (.seq (some [(0,.s),(3,.i),(44,.b)]) .r (.h)))) .r))))) (.q .z)))
def cT9 (v1:j1) (K:KH):s9 :=
 l9 [.sc .str,.sc (.int .i64)] (fun(R2:j1->Int->s9)=>(fun(v3:j1) (v4:Int)=>l8 (decide ((v4:Int)<((v3.size:Nat):Int))) (B2 v3 v4 (fun c5=>w9 (T:=j1->Int->Bool->s9) (fun v7 v8 x9=>l8 x9 (K (.bool false)) (R2 v7 (IntKind.i64.wrap (v8+1)))) (fun j6=>l8 (decide ((c5.toNat:Int)>=97)) (l8 (decide ((c5.toNat:Int)<=122)) (j6 v3 v4 false) (l8 (decide ((c5.toNat:Int)>=65))
 (l8 (decide ((c5.toNat:Int)<=90)) (j6 v3 v4 false) (l8 ((c5.toNat:Int)==95) (j6 v3 v4 false) (l8 (decide ((v4:Int)>0)) (l8 (decide ((c5.toNat:Int)>=48)) (j6 v3 v4 (!(decide ((c5.toNat:Int)<=57)))) (j6 v3 v4 true)) (j6 v3 v4 true)))) (l8 ((c5.toNat:Int)==95) (j6 v3 v4 false) (l8 (decide ((v4:Int)>0)) (l8 (decide ((c5.toNat:Int)>=48)) (j6 v3 v4 (!(decide ((c5.toNat:Int)<=57))))
 (j6 v3 v4 true)) (j6 v3 v4 true))))) (l8 (decide ((c5.toNat:Int)>=65)) (l8 (decide ((c5.toNat:Int)<=90)) (j6 v3 v4 false) (l8 ((c5.toNat:Int)==95) (j6 v3 v4 false) (l8 (decide ((v4:Int)>0)) (l8 (decide ((c5.toNat:Int)>=48)) (j6 v3 v4 (!(decide ((c5.toNat:Int)<=57)))) (j6 v3 v4 true)) (j6 v3 v4 true)))) (l8 ((c5.toNat:Int)==95) (j6 v3 v4 false) (l8 (decide ((v4:Int)>0))
 (l8 (decide ((c5.toNat:Int)>=48)) (j6 v3 v4 (!(decide ((c5.toNat:Int)<=57)))) (j6 v3 v4 true)) (j6 v3 v4 true))))))) (l8 (!B8 v3 (⟨⟨[]⟩⟩:j1)) (l8 (decide (((v3.size:Nat):Int)<=56)) (l8 (!B8 v3 (⟨⟨[111,117,116]⟩⟩:j1)) (K (.bool (!B8 v3 (⟨⟨[110,97,109,101]⟩⟩:j1)))) (K (.bool false))) (K (.bool false))) (K (.bool false))))) (fun(R10:j1->Int->s9)=>R10 v1 0)
theorem dA0 (v1:j1):cT9 v1 K σ->a8 199 [.string v1] K σ:=k8 cT8 Tryz.func199


def cU0:Ann:=(.q (.n (.q (.h)) (.q (.n (.q (.blk (.loop [(0,.s),(4,.l),(5,.i)] (.n (.q (.cond .z .z)) (.n (.blk (.n (.reg (rn 11) [[],[],[0,1],[0,1,2],[],[],[5],[4,5,6],(rn 8),(rn 9),(rn 10)]) (.n (.seq (some [(0,.s),(4,.l),(5,.i),(6,.i),(7,.i),(31,.b)]) .r (.h)) .r))) .r))))) (.q .z)))))
def cU1 (v1:j1) (K:KH):s9 :=
 l8 (B8 v1 (⟨⟨[45]⟩⟩:j1)) (K (.tuple ⟨[.string ⟨⟨[]⟩⟩,.bool true]⟩)) (l9 [.sc .str,.sc .slc,.sc (.int .i64)] (fun(R2:j1->Sl->Int->s9)=>(fun(v3:j1) (v4:Sl) (v5:Int)=>l8 (decide (((IntKind.i64.wrap (v5+1)):Int)<((v3.size:Nat):Int))) (B2 v3 v5 (fun c6=>d8 244 [.int .u8 (c6.toNat:Int)] kI (fun(x7:Int)=>B2 v3 (IntKind.i64.wrap (v5+1)) (fun c8 =>
 d8 244 [.int .u8 (c8.toNat:Int)] kI (fun(x9:Int)=>w9 (T:=j1->Sl->Int->Int->Int->Bool->s9) (fun v11 v12 v13 v14 v15 x16=>l8 x16 (K (.tuple ⟨[.string ⟨⟨[]⟩⟩,.bool false]⟩)) (A9 (.cells ⟨[.int .u8 (IntKind.u8.wrap (IntKind.i64.wrap ((IntKind.i64.wrap (16 * v14))+v15)))]⟩ 5 (0,0)) (fun b17 =>
 Q4 .append #[36,36] 36 [false,false] [.slice v12.base v12.len v12.cap,.slice (some ⟨b17,0,none⟩) 1 1] kL (fun x18=>R2 v11 x18 (IntKind.i64.wrap (v13+2)))))) (fun j10=>l8 (decide ((x7:Int)<0)) (j10 v3 v4 v5 x7 x9 true) (j10 v3 v4 v5 x7 x9 (decide ((x9:Int)<0))))))))) (M7 Tryz.prog (convert 36 9 (.slice v4.base v4.len v4.cap)) kS (fun(x19:j1)=>l8 (!B8 v3 (⟨⟨[]⟩⟩:j1)) (w6 ((2:Int)≠0)
 (K (.tuple ⟨[.string x19,.bool (((Int.tmod ((v3.size:Nat):Int) 2):Int)==0)]⟩))) (K (.tuple ⟨[.string x19,.bool false]⟩)))))) (fun(R20:j1->Sl->Int->s9)=>R20 v1 ⟨none,0,0⟩ 0))
theorem dA1 (v1:j1):cU1 v1 K σ->a8 200 [.string v1] K σ:=k8 cU0 Tryz.func200


def cU2:Ann:=(.q (.n (.seq (some [(1,.p),(26,.b)]) .r (.h)) (.n (.q (.blk (.loop [(1,.p),(3,.i)] (.n (.q (.cond .z .z)) (.n (.blk (.seq (some [(1,.p),(3,.i),(58,.b)]) (.reg (rn 25) [[],[0],[],[0,1,2],(rn 4),(rn 5),(rn 6),(rn 7),(rn 8),(rn 9),(rn 10),(rn 11),(rn 12),(rn 11),[0,1,2,3,4,5,6,7,8,9,10,13],(rn 15),(rn 16),(rn 11),[0,1,2,3,4,5,6,7,8,9,10,17],(rn 11),[0,1,2,3,4,5,6,7,8,9,10,17,18,19],[0,1,2,3,4,5,6,7,8,9,10,17,18,19,20],(rn 22),(rn 23),(rn 24)]) (.h))) .r))))) (.n (.q (.blk (.loop [(1,.p),(4,.i)] (.n (.q (.cond .z .z)) (.n (.blk (.seq (some [(1,.p),(4,.i),(103,.b)]) (.reg (rn 38) [[],[0],[],[0,1,2],(rn 4),(rn 5),(rn 6),(rn 7),(rn 8),(rn 9),(rn 10),(rn 9),(rn 12),(rn 13),(rn 14),(rn 15),(rn 16),(rn 17),(rn 18),(rn 19),(rn 20),(rn 21),(rn 22),(rn 23),(rn 22),[0,1,2,3,4,5,6,7,8,9,10,11,12,13,14,15,16,17,18,19,20,21,24],(rn 26),(rn 27),(rn 28),(rn 22),[0,1,2,3,4,5,6,7,8,9,10,11,12,13,14,15,16,17,18,19,20,21,29],(rn 22),[0,1,2,3,4,5,6,7,8,9,10,11,12,13,14,15,16,17,18,19,20,21,29,30,31],[0,1,2,3,4,5,6,7,8,9,10,11,12,13,14,15,16,17,18,19,20,21,29,30,31,32],[0,1,2,3,4,5,6,7,8,9,10,11,12,13,14,15,16,17,18,19,20,21,29,30,31,32,33],(rn 35),(rn 36),(rn 37)]) (.h))) .r))))) (.q .z)))))
def cU3 (v1:j1) (v2:Sl) (v3:Sl) (v4:j1) (K:KH):s9 :=
 A9 (.cells ⟨[.string v1,.slice v2.base v2.len v2.cap,.slice v3.base v3.len v3.cap,.string v4]⟩ 113 (0,0)) (fun b5=>w9 (T:=u4->Bool->s9) (fun v7 x8=>l8 x8 (K (.bool false)) (l9 [.sc .ptr,.sc (.int .i64)] (fun(R9:u4->Int->s9)=>(fun(v10:u4) (v11:Int)=>j0 v10 (fun b12 o13=>l4 (s5 b12 (o13+1)) kL (fun x14=>l8 (decide ((v11:Int)<((x14.len:Nat):Int)))
 (w9 (T:=u4->Int->Bool->s9) (fun v16 v17 x18=>l8 x18 (K (.bool false)) (R9 v16 (IntKind.i64.wrap (v17+1)))) (fun j15=>j0 v10 (fun b19 o20=>l4 (s5 b19 (o20+1)) kL (fun x21=>j0 x21.base (fun b22 o23=>w6 (0<=v11/\v11<((x21.len:Nat):Int)) (l4 (s5 b22 (o23+v11.toNat * 1)) kS (fun(x24:j1)=>d8 198 [.string x24] kB (fun x25=>l8 (!x25) (j15 v10 v11 true) (l8 (decide ((v11:Int)>0))
 (j0 v10 (fun b26 o27=>l4 (s5 b26 (o27+1)) kL (fun x28=>j0 x28.base (fun b29 o30=>w6 (0<=IntKind.i64.wrap (v11 - 1)/\IntKind.i64.wrap (v11 - 1)<((x28.len:Nat):Int)) (l4 (s5 b29 (o30+(IntKind.i64.wrap (v11 - 1):Int).toNat * 1)) kS (fun(x31:j1)=>j0 v10 (fun b32 o33=>l4 (s5 b32 (o33+1)) kL (fun x34=>j0 x34.base (fun b35 o36=>w6 (0<=v11/\v11<((x34.len:Nat):Int)) (l4 (s5 b35 (o36+v11.toNat * 1)) kS (fun(x37:j1) =>
 j15 v10 v11 (!E4 x31 x37)))))))))))) (j15 v10 v11 false)))))))))) (l9 [.sc .ptr,.sc (.int .i64)] (fun(R38:u4->Int->s9)=>(fun(v39:u4) (v40:Int)=>j0 v39 (fun b41 o42=>l4 (s5 b41 (o42+2)) kL (fun x43=>l8 (decide ((v40:Int)<((x43.len:Nat):Int))) (w9 (T:=u4->Int->Bool->s9) (fun v45 v46 x47=>l8 x47 (K (.bool false)) (R38 v45 (IntKind.i64.wrap (v46+1)))) (fun j44=>j0 v39 (fun b48 o49 =>
 l4 (s5 b48 (o49+2)) kL (fun x50=>j0 x50.base (fun b51 o52=>w6 (0<=v40/\v40<((x50.len:Nat):Int)) (l4 (s5 b51 (o52+v40.toNat * 2)) kS (fun(x53:j1)=>d8 199 [.string x53] kB (fun x54=>l8 (!x54) (j44 v39 v40 true) (j0 v39 (fun b55 o56=>l4 (s5 b55 (o56+2)) kL (fun x57=>j0 x57.base (fun b58 o59=>w6 (0<=v40/\v40<((x57.len:Nat):Int)) (l4 (s5 b58 (o59+v40.toNat * 2+1)) kS (fun(x60:j1) =>
 l8 (decide (((x60.size:Nat):Int)>200)) (j44 v39 v40 true) (l8 (decide ((v40:Int)>0)) (j0 v39 (fun b61 o62=>l4 (s5 b61 (o62+2)) kL (fun x63=>j0 x63.base (fun b64 o65=>w6 (0<=IntKind.i64.wrap (v40 - 1)/\IntKind.i64.wrap (v40 - 1)<((x63.len:Nat):Int)) (l4 (s5 b64 (o65+(IntKind.i64.wrap (v40 - 1):Int).toNat * 2)) kS (fun(x66:j1)=>j0 v39 (fun b67 o68=>l4 (s5 b67 (o68+2)) kL (fun x69=>j0 x69.base (fun b70 o71 =>
 w6 (0<=v40/\v40<((x69.len:Nat):Int)) (l4 (s5 b70 (o71+v40.toNat * 2)) kS (fun(x72:j1)=>j44 v39 v40 (!E4 x66 x72)))))))))))) (j44 v39 v40 false)))))))))))))))) (K (.bool true)))))) (fun(R73:u4->Int->s9)=>R73 v10 0)))))) (fun(R74:u4->Int->s9)=>R74 v7 0))) (fun j6=>l4 (s5 b5 0) kS (fun(x75:j1)=>d8 97 [.string x75] kI (fun(x76:Int)=>l8 ((x76:Int) != 0)
 (j6 (some ⟨b5,0,none⟩) true) (l4 (s5 b5 1) kL (fun x77=>l8 (decide (((x77.len:Nat):Int)>8)) (j6 (some ⟨b5,0,none⟩) true) (l4 (s5 b5 2) kL (fun x78=>l8 (decide (((x78.len:Nat):Int)>16)) (j6 (some ⟨b5,0,none⟩) true) (l4 (s5 b5 3) kS (fun(x79:j1)=>j6 (some ⟨b5,0,none⟩) (decide (((x79.size:Nat):Int)>4000))))))))))))
theorem dA2 (v1:j1) (v2:Sl) (v3:Sl) (v4:j1):cU3 v1 v2 v3 v4 K σ->a8 201 [.agg ⟨[.string v1,.slice v2.base v2.len v2.cap,.slice v3.base v3.len v3.cap,.string v4]⟩] K σ:=k8 cU2 Tryz.func201


def cU4:Ann:=(.q (.q (.n (.q (.blk (.loop [(0,.s),(3,.s),(4,.i)] (.n (.q (.cond .z .z)) (.n (.blk (.n (.reg (rn 12) [[],[],[0,1],[0,1,2],(rn 4),[],[],[5,6],[5,6,7],[5,6,7,8],(rn 5),(rn 11)]) (.reg (rn 12) [[],[],[],[2],[1,2,3],(rn 5),[],[],[7],[6,7,8],(rn 10),(rn 11)]))) .r))))) (.n (.q (.h)) (.q .z)))))
def cU5 (v1:j1) (K:KH):s9 :=
 l9 [.sc .str,.sc .str,.sc (.int .i64)] (fun(R2:j1->j1->Int->s9)=>(fun(v3:j1) (v4:j1) (v5:Int)=>l8 (decide ((v5:Int)<((v3.size:Nat):Int))) (B2 v3 v5 (fun c6=>w6 ((16:Int)≠0) (B2 v3 v5 (fun c7=>w6 ((16:Int)≠0)
 (w6 (A1 (some (IntKind.i64.wrap ((IntKind.i64.wrap (Int.tdiv (IntKind.i64.wrap (c6.toNat:Int)) 16))+1))) (⟨⟨[48,49,50,51,52,53,54,55,56,57,97,98,99,100,101,102]⟩⟩:j1).size/\A1 (some (IntKind.i64.wrap (Int.tdiv (IntKind.i64.wrap (c6.toNat:Int)) 16))) ((IntKind.i64.wrap ((IntKind.i64.wrap (Int.tdiv (IntKind.i64.wrap (c6.toNat:Int)) 16))+1)).toNat))
 (w6 (v4.size+((⟨⟨[48,49,50,51,52,53,54,55,56,57,97,98,99,100,101,102]⟩⟩:j1).extract ((IntKind.i64.wrap (Int.tdiv (IntKind.i64.wrap (c6.toNat:Int)) 16)).toNat) ((IntKind.i64.wrap ((IntKind.i64.wrap (Int.tdiv (IntKind.i64.wrap (c6.toNat:Int)) 16))+1)).toNat)).size<=9223372036854775807)
 (w6 (A1 (some (IntKind.i64.wrap ((Int.tmod (IntKind.i64.wrap (c7.toNat:Int)) 16)+1))) (⟨⟨[48,49,50,51,52,53,54,55,56,57,97,98,99,100,101,102]⟩⟩:j1).size/\A1 (some (Int.tmod (IntKind.i64.wrap (c7.toNat:Int)) 16)) ((IntKind.i64.wrap ((Int.tmod (IntKind.i64.wrap (c7.toNat:Int)) 16)+1)).toNat))
 (w6 ((v4++((⟨⟨[48,49,50,51,52,53,54,55,56,57,97,98,99,100,101,102]⟩⟩:j1).extract ((IntKind.i64.wrap (Int.tdiv (IntKind.i64.wrap (c6.toNat:Int)) 16)).toNat) ((IntKind.i64.wrap ((IntKind.i64.wrap (Int.tdiv (IntKind.i64.wrap (c6.toNat:Int)) 16))+1)).toNat))).size+((⟨⟨[48,49,50,51,52,53,54,55,56,57,97,98,99,100,101,102]⟩⟩:j1).extract ((Int.tmod (IntKind.i64.wrap (c7.toNat:Int)) 16).toNat) ((IntKind.i64.wrap ((Int.tmod (IntKind.i64.wrap (c7.toNat:Int)) 16)+1)).toNat)).size<=9223372036854775807)
 (R2 v3 ((v4++((⟨⟨[48,49,50,51,52,53,54,55,56,57,97,98,99,100,101,102]⟩⟩:j1).extract ((IntKind.i64.wrap (Int.tdiv (IntKind.i64.wrap (c6.toNat:Int)) 16)).toNat) ((IntKind.i64.wrap ((IntKind.i64.wrap (Int.tdiv (IntKind.i64.wrap (c6.toNat:Int)) 16))+1)).toNat)))++((⟨⟨[48,49,50,51,52,53,54,55,56,57,97,98,99,100,101,102]⟩⟩:j1).extract ((Int.tmod (IntKind.i64.wrap (c7.toNat:Int)) 16).toNat) ((IntKind.i64.wrap ((Int.tmod (IntKind.i64.wrap (c7.toNat:Int)) 16)+1)).toNat))) (IntKind.i64.wrap (v5+1)))))))))))
 (l8 (B8 v4 (⟨⟨[]⟩⟩:j1)) (K (.string ⟨⟨[45]⟩⟩)) (K (.string v4))))) (fun(R8:j1->j1->Int->s9)=>R8 v1 (⟨⟨[]⟩⟩:j1) 0)
theorem dA3 (v1:j1):cU5 v1 K σ->a8 202 [.string v1] K σ:=k8 cU4 Tryz.func202


def cU6:Ann:=(.q (.q (.n (.seq (some [(1,.i),(2,.p),(5,.i),(14,.b)]) .r (.h)) (.n (.q (.blk (.loop [(1,.i),(5,.i),(17,.l),(18,.i),(19,.i)] (.q (.n (.cond .z .z) (.n (.blk (.q .r)) .r)))))) (.q .z)))))
def cs4 (v1:j1) (v2:Int) (v3:Bool) (v4:j1) (v5:Sl) (v6:Int) (K:KH):s9 :=
 A9 (.cells ⟨[.string v1,.int .i64 v2,.bool v3,.string v4,.slice v5.base v5.len v5.cap]⟩ 75 (0,0)) (fun b7=>w9 (T:=Int->u4->Int->Bool->s9) (fun v9 v10 v11 x12=>l8 x12 (K (.int .i64 v11)) (j0 v10 (fun b13 o14=>l4 (s5 b13 (o14+4)) kL (fun x15 =>
 l9 [.sc (.int .i64),.sc (.int .i64),.sc .slc,.sc (.int .i64),.sc (.int .i64)] (fun(R16:Int->Int->Sl->Int->Int->s9)=>(fun(v17:Int) (v18:Int) (x19:Sl) (x20:Int) (x21:Int)=>l8 (decide ((x21:Int)<x20)) (j0 x19.base (fun b22 o23=>w6 (0<=x21/\x21<((x19.len:Nat):Int)) (l4 (rdA 5 b22 (o23+x21.toNat * 5)) (.one (.agg [.str,(.int .i64),.bool,.str,.slc])) (fun(x24:j1) (x25:Int) (x26:Bool) (x27:j1) (x28:Sl) =>
 A9 (.cells ⟨[.string ⟨⟨[]⟩⟩,.int .i64 0,.bool false,.string ⟨⟨[]⟩⟩,.slice none 0 0]⟩ 75 (0,0)) (fun b29=>t8 75 (.pointer (some ⟨b29,0,none⟩)) (.agg ⟨[.string x24,.int .i64 x25,.bool x26,.string x27,.slice x28.base x28.len x28.cap]⟩) (l4 (rdA 5 b29 0) (.one (.agg [.str,(.int .i64),.bool,.str,.slc])) (fun(x30:j1) (x31:Int) (x32:Bool) (x33:j1) (x34:Sl) =>
 d8 209 [.agg ⟨[.string x30,.int .i64 x31,.bool x32,.string x33,.slice x34.base x34.len x34.cap]⟩,.int .i64 (IntKind.i64.wrap (v17 - 1))] kI (fun(x35:Int)=>R16 v17 (if(IntKind.i64.wrap (1+x35))>v18 then(IntKind.i64.wrap (1+x35))else v18) x19 x20 (IntKind.i64.wrap (x21+1)))))))))) (K (.int .i64 v18)))) (fun(R36:Int->Int->Sl->Int->Int->s9)=>R36 v9 v11 x15 ((x15.len:Nat):Int) 0))))) (fun j8 =>
 l4 (s5 b7 1) kI (fun(x37:Int)=>l8 ((x37:Int) != 2) (j8 v6 (some ⟨b7,0,none⟩) 1 true) (j8 v6 (some ⟨b7,0,none⟩) 1 ((v6:Int)==1)))))
theorem cU7 (v1:j1) (v2:Int) (v3:Bool) (v4:j1) (v5:Sl) (v6:Int):cs4 v1 v2 v3 v4 v5 v6 K σ->a8 209 [.agg ⟨[.string v1,.int .i64 v2,.bool v3,.string v4,.slice v5.base v5.len v5.cap]⟩,.int .i64 v6] K σ:=k8 cU6 Tryz.func209


def cU8:Ann:=(.q (.q .z))
def cs5 (v1:Sl) (v2:Value) (K:KH):s9 :=
 d8 246 [.slice v1.base v1.len v1.cap,v2] kI (fun(x3:Int)=>K (.bool (decide ((x3:Int)>=0))))
theorem cU9 (v1:Sl) (v2:Value):cs5 v1 v2 K σ->a8 210 [.slice v1.base v1.len v1.cap,v2] K σ:=k8 cU8 Tryz.func210


def cV0:Ann:=(.q (.q .z))
def cV1 (v1:Value) (K:KH):s9 :=
 y6 Tryz.prog v1 [] kB (fun x2=>K (.bool (!x2)))
theorem dA4 (v1:Value):cV1 v1 K σ->a8 211 [v1] K σ:=k8 cV0 Tryz.func211


def cV2:Ann:=(.q (.q .z))
def cV3 (v1:j1) (v2:j1) (K:KH):s9 :=
 d8 247 [.string v1,.string v2] kI (fun(x3:Int)=>K (.bool (decide ((x3:Int)>=0))))
theorem dA5 (v1:j1) (v2:j1):cV3 v1 v2 K σ->a8 212 [.string v1,.string v2] K σ:=k8 cV2 Tryz.func212


def cV4:Ann:=(.q (.q (.n (.blk (.loop [(0,.sc (.int .u64)),(1,.w),(5,.sc (.int .u64)),(6,.sc (.int .u64))] (.n (.q (.cond .z .z)) (.blk (.q (.q (.cond .r .r))))))) (.q .z))))
def cV5 (v1:Int) (v2:Value) (K:KH):s9 :=
 l9 [.sc (.int .u64),.sc .raw,.sc (.int .u64),.sc (.int .u64)] (fun(R3:Int->Value->Int->Int->s9)=>(fun(v4:Int) (v5:Value) (v6:Int) (v7:Int)=>l8 (decide (((IntKind.u64.wrap (v7 - v6)):Int)>1)) (w6 ((2:Int)≠0) (y6 Tryz.prog v5 [.int .u64 (IntKind.u64.wrap (Int.tdiv (IntKind.u64.wrap (v6+v7)) 2)),.int .u64 v4] kB (fun x8=>l8 x8
 (R3 v4 v5 v6 (IntKind.u64.wrap (Int.tdiv (IntKind.u64.wrap (v6+v7)) 2))) (R3 v4 v5 (IntKind.u64.wrap (Int.tdiv (IntKind.u64.wrap (v6+v7)) 2)) v7)))) (K (.int .u32 (IntKind.u32.wrap v6))))) (fun(R9:Int->Value->Int->Int->s9)=>R9 v1 v2 0 68719476736)
theorem dA6 (v1:Int) (v2:Value):cV5 v1 v2 K σ->a8 214 [.int .u64 v1,v2] K σ:=k8 cV4 Tryz.func214


def cV6:Ann:=(.q (.q (.q (.q (.q (.n (.q (.h)) (.q .z)))))))
def cV7 (v1:Int) (v2:Int) (K:KH):s9 :=
 d8 248 [.int .u64 v1,.int .u64 v1] (.tup [.sc (.int .u64),.sc (.int .u64)]) (fun(x3:Int) (x4:Int)=>d8 248 [.int .u64 x4,.int .u64 v1] (.tup [.sc (.int .u64),.sc (.int .u64)]) (fun(x5:Int) (x6:Int)=>d8 248 [.int .u64 x3,.int .u64 v1] (.tup [.sc (.int .u64),.sc (.int .u64)]) (fun(x7:Int) (x8:Int) =>
 y6 Tryz.prog (.func (.func 249) ⟨[]⟩ ⟨[]⟩) [.int .u64 x5,.int .u64 x8,.int .u64 0] (.tup [.sc (.int .u64),.sc (.int .u64)]) (fun(x9:Int) (x10:Int)=>l8 (decide (((IntKind.u64.wrap (x7+x10)):Int)>0)) (K (.bool true)) (w6 (0<=(32:Int)) (l8 (decide ((x9:Int)>(IntKind.u64.wrap (v2 * 2 ^ min (Int.toNat 32) (IntKind.bits .u64))))) (K (.bool true)) (w6 (0<=(32:Int)) (l8 ((x9:Int)==(IntKind.u64.wrap (v2 * 2 ^ min (Int.toNat 32) (IntKind.bits .u64))))
 (K (.bool (decide ((x6:Int)>0)))) (K (.bool false))))))))))
theorem dA7 (v1:Int) (v2:Int):cV7 v1 v2 K σ->a8 215 [.int .u64 v1,.int .u64 v2] K σ:=k8 cV6 Tryz.func215


def cV8:Ann:=(.q (.q (.q .z)))
def cV9 (v1:Int) (v2:Int) (K:KH):s9 :=
 d8 248 [.int .u64 v1,.int .u64 v1] (.tup [.sc (.int .u64),.sc (.int .u64)]) (fun(x3:Int) (x4:Int)=>l8 (decide ((x3:Int)>v2)) (K (.bool true)) (l8 ((x3:Int)==v2) (K (.bool (decide ((x4:Int)>0)))) (K (.bool false))))
theorem dA8 (v1:Int) (v2:Int):cV9 v1 v2 K σ->a8 216 [.int .u64 v1,.int .u64 v2] K σ:=k8 cV8 Tryz.func216


def cW0:Ann:=(.q (.n (.blk (.loop [(0,.w),(1,.p),(3,.l)] (.n (.q (.cond .z .z)) (.blk .r)))) (.n (.q (.blk (.loop [(0,.w),(1,.p),(3,.l),(16,.i)] (.q (.n (.cond .z .z) (.n (.blk (.q .r)) .r)))))) (.blk (.loop [(0,.w),(3,.l)] (.n (.q (.cond .z .z)) (.blk (.n (.q (.cond .z .z)) .r))))))))
def cW1 (v1:Value) (x2:u4) (K:KH):s9 :=
 j0 x2 (fun b3 o4=>l4 (s5 b3 o4) kS (fun(x5:j1)=>M7 Tryz.prog (convert 9 36 (.string x5)) kL (fun x6=>A9 (.cells ⟨[.int .u8 128]⟩ 5 (0,0)) (fun b7=>Q4 .append #[36,36] 36 [false,false] [.slice x6.base x6.len x6.cap,.slice (some ⟨b7,0,none⟩) 1 1] kL (fun x8=>l9 [.sc .raw,.sc .ptr,.sc .slc] (fun(R9:Value->u4->Sl->s9)=>(fun v10 x11 v12=>w6 ((64:Int)≠0) (l8 (((Int.tmod ((v12.len:Nat):Int) 64):Int) != 56)
 (A9 (.cells ⟨[.int .u8 0]⟩ 5 (0,0)) (fun b13=>Q4 .append #[36,36] 36 [false,false] [.slice v12.base v12.len v12.cap,.slice (some ⟨b13,0,none⟩) 1 1] kL (fun x14=>R9 v10 x11 x14))) (l9 [.sc .raw,.sc .ptr,.sc .slc,.sc (.int .i64)] (fun(R15:Value->u4->Sl->Int->s9)=>(fun(v16:Value) (x17:u4) (v18:Sl) (x19:Int)=>l8 (decide ((x19:Int)<8)) (j0 x17 (fun b20 o21=>l4 (s5 b20 o21) kS (fun(x22:j1) =>
 w6 (0<=(IntKind.i64.wrap (8 * (IntKind.i64.wrap (7 - x19))))) (A9 (.cells ⟨[.int .u8 (IntKind.u8.wrap (Int.fdiv (IntKind.u64.wrap ((IntKind.u64.wrap ((x22.size:Nat):Int)) * 8)) (2 ^ min (Int.toNat (IntKind.i64.wrap (8 * (IntKind.i64.wrap (7 - x19))))) (IntKind.bits .u64))))]⟩ 5 (0,0)) (fun b23=>Q4 .append #[36,36] 36 [false,false] [.slice v18.base v18.len v18.cap,.slice (some ⟨b23,0,none⟩) 1 1] kL (fun x24=>R15 v16 x17 x24 (IntKind.i64.wrap (x19+1))))))))
 (l9 [.sc .raw,.sc .slc] (fun(R25:Value->Sl->s9)=>(fun v26 v27=>l8 (decide (((v27.len:Nat):Int)>0)) (w6 (A1 (some 64) v27.cap/\A1 none ((64:Int).toNat)) (y6 Tryz.prog v26 [.slice (F8 v27.base 0 v27.cap 1) (((64:Int).toNat) - 0) (v27.cap - 0)] kB (fun x28=>l8 (!x28) (K (.tuple ⟨[]⟩)) (w6 (A1 none v27.cap/\A1 (some 64) v27.len)
 (R25 v26 ⟨F8 v27.base ((64:Int).toNat) v27.cap 1,v27.len - ((64:Int).toNat),v27.cap - ((64:Int).toNat)⟩))))) (K (.tuple ⟨[]⟩)))) (fun(R29:Value->Sl->s9)=>R29 v16 v18)))) (fun(R30:Value->u4->Sl->Int->s9)=>R30 v10 x11 v12 0))))) (fun(R31:Value->u4->Sl->s9)=>R31 v1 x2 x8))))))
theorem dA9 (v1:Value) (x2:u4):cW1 v1 x2 K σ->a8 217 [v1,.pointer x2] K σ:=k8 cW0 Tryz.func217


def cW2:Ann:=(.q (.n (.q (.blk (.loop [(0,.sc (.int .u32)),(4,.sc (.int .u32)),(7,.l),(8,.i),(9,.i)] (.q (.n (.cond .z .z) (.n (.blk (.q .r)) .r)))))) (.q .z)))
def cW3 (v1:Int) (v2:Sl) (K:KH):s9 :=
 l9 [.sc (.int .u32),.sc (.int .u32),.sc .slc,.sc (.int .i64),.sc (.int .i64)] (fun(R3:Int->Int->Sl->Int->Int->s9)=>(fun(v4:Int) (v5:Int) (x6:Sl) (x7:Int) (x8:Int)=>l8 (decide ((x8:Int)<x7)) (j0 x6.base (fun b9 o10=>w6 (0<=x8/\x8<((x6.len:Nat):Int)) (l4 (s5 b9 (o10+x8.toNat * 1)) kI (fun(x11:Int)=>d8 219 [.int .u32 v4,.int .i64 (IntKind.i64.wrap (0 - x11))] (.one (.sc (.int .u32))) (fun(x12:Int) =>
 R3 v4 (A0 .xor .u32 v5 x12) x6 x7 (IntKind.i64.wrap (x8+1))))))) (K (.int .u32 v5)))) (fun(R13:Int->Int->Sl->Int->Int->s9)=>R13 v1 0 v2 ((v2.len:Nat):Int) 0)
theorem dB0 (v1:Int) (v2:Sl):cW3 v1 v2 K σ->a8 218 [.int .u32 v1,.slice v2.base v2.len v2.cap] K σ:=k8 cW2 Tryz.func218


def cW4:Ann:=(.q (.q (.q .z)))
def cW5 (v1:Int) (v2:Int) (K:KH):s9 :=
 w6 (0<=(A0 .and .u64 (IntKind.u64.wrap v2) 31)) (w6 (0<=(IntKind.u64.wrap (32 - (A0 .and .u64 (IntKind.u64.wrap v2) 31)))) (K (.int .u32 (A0 .or .u32 (IntKind.u32.wrap (v1 * 2 ^ min (Int.toNat (A0 .and .u64 (IntKind.u64.wrap v2) 31)) (IntKind.bits .u32))) (Int.fdiv v1 (2 ^ min (Int.toNat (IntKind.u64.wrap (32 - (A0 .and .u64 (IntKind.u64.wrap v2) 31)))) (IntKind.bits .u32)))))))
theorem dB1 (v1:Int) (v2:Int):cW5 v1 v2 K σ->a8 219 [.int .u32 v1,.int .i64 v2] K σ:=k8 cW4 Tryz.func219


def cW6:Ann:=(.q (.q .z))
def cW7 (v1:Sl) (v2:j1) (K:KH):s9 :=
 d8 250 [.slice v1.base v1.len v1.cap,.string v2] kI (fun(x3:Int)=>K (.bool (decide ((x3:Int)>=0))))
theorem dB2 (v1:Sl) (v2:j1):cW7 v1 v2 K σ->a8 221 [.slice v1.base v1.len v1.cap,.string v2] K σ:=k8 cW6 Tryz.func221


def cW8:Ann:=(.q (.q .z))
def cW9 (v1:Int) (K:KH):s9 :=
 l8 ((v1:Int)==95) (K (.bool true)) (l8 (decide ((v1:Int)>=97)) (l8 (decide ((v1:Int)<=122)) (K (.bool true)) (l8 (decide ((v1:Int)>=65)) (K (.bool (decide ((v1:Int)<=90)))) (K (.bool false)))) (l8 (decide ((v1:Int)>=65)) (K (.bool (decide ((v1:Int)<=90)))) (K (.bool false))))
theorem dB3 (v1:Int):cW9 v1 K σ->a8 222 [.int .u8 v1] K σ:=k8 cW8 Tryz.func222


def cX0:Ann:=(.q (.q (.n (.blk (.seq (some [(0,.s),(1,.s),(5,.i),(16,.b)]) .r (.cond (.q .z) (.q (.cond (.q .z) (.q (.cond (.q .z) (.seq (some [(0,.s),(1,.s),(5,.i),(36,.b)]) .r (.h))))))))) (.q (.q (.q (.q (.q (.n (.blk (.loop [(0,.s),(1,.s),(5,.i),(6,.sc (.int .u8)),(7,.sc (.int .u8)),(8,.i),(9,.i),(10,.i)] (.n (.q (.cond .z .z)) (.blk (.seq (some [(0,.s),(1,.s),(5,.i),(6,.sc (.int .u8)),(7,.sc (.int .u8)),(8,.i),(9,.i),(10,.i)]) (.q (.cond (.q (.n (.q (.h)) .r)) .z)) (.n (.seq (some [(0,.s),(1,.s),(5,.i),(6,.sc (.int .u8)),(7,.sc (.int .u8)),(8,.i),(9,.i),(10,.i),(85,.w),(86,.w),(87,.w),(88,.w),(89,.w),(90,.w),(91,.w),(92,.w),(93,.b)]) .r (.h)) (.q (.q (.seq (some [(0,.s),(1,.s),(5,.i),(6,.sc (.int .u8)),(7,.sc (.int .u8)),(8,.i),(9,.i),(10,.i),(85,.w),(86,.w),(87,.w),(88,.w),(89,.w),(90,.w),(91,.w),(92,.w),(103,.w),(104,.w),(105,.w),(106,.w),(107,.b)]) .r (.cond (.q (.n (.q (.h)) (.q .z))) (.seq (some [(0,.s),(1,.s),(5,.i),(6,.sc (.int .u8)),(7,.sc (.int .u8)),(8,.i),(9,.i),(10,.i),(85,.w),(86,.w),(87,.w),(88,.w),(89,.w),(90,.w),(91,.w),(92,.w),(103,.w),(104,.w),(105,.w),(106,.w),(122,.w),(123,.w),(124,.w),(125,.w),(126,.w),(129,.w),(130,.w),(131,.w),(132,.b)]) .r (.cond (.q (.n (.q (.h)) (.q .z))) .z)))))))))))) (.q .z))))))))))
def cs6 (v1:j1) (v2:j1) (K:KH):s9 :=
 w9 (T:=j1->j1->Int->Bool->s9) (fun v4 v5 v6 x7=>l8 x7 (K (.int .i64 0)) (l8 ((v6:Int)==1) (B2 v5 0 (fun c8=>d8 176 [.string v4,.int .u8 (c8.toNat:Int)] kI (fun(x9:Int)=>K (.int .i64 x9)))) (l8 (decide ((v6:Int)>=((v4.size:Nat):Int))) (K (.int .i64 (-1))) (w9 (T:=j1->j1->Int->Bool->s9) (fun v11 v12 v13 x14=>l8 x14
 (y6 Tryz.prog (.func (.func 258) ⟨[]⟩ ⟨[]⟩) [.string v11,.string v12] kI (fun(x15:Int)=>K (.int .i64 x15))) (B2 v12 0 (fun c16=>B2 v12 1 (fun c17 =>
 l9 [.sc .str,.sc .str,.sc (.int .i64),.sc (.int .u8),.sc (.int .u8),.sc (.int .i64),.sc (.int .i64),.sc (.int .i64)] (fun(R18:j1->j1->Int->Int->Int->Int->Int->Int->s9)=>(fun(v19:j1) (v20:j1) (v21:Int) (c0_22:Int) (c1_23:Int) (v24:Int) (v25:Int) (v26:Int)=>l8 (decide ((v24:Int)<v25))
 (w9 (T:=j1->j1->Int->Int->Int->Int->Int->Int->s9) (fun v28 v29 v30 c0_31 c1_32 v33 v34 v35=>w9 (T:=j1->j1->Int->Int->Int->Int->Int->Int->Value->Value->Value->Value->Value->Value->Value->Value->Bool->s9) (fun v37 v38 v39 c0_40 c1_41 v42 v43 v44 x45 x46 x47 x48 x49 x50 x51 x52 x53=>l8 x53 (K (.int .i64 v42))
 (w9 (T:=j1->j1->Int->Int->Int->Int->Int->Int->Value->Value->Value->Value->Value->Value->Value->Value->Value->Value->Value->Value->Bool->s9) (fun v55 v56 v57 c0_58 c1_59 v60 v61 v62 x63 x64 x65 x66 x67 x68 x69 x70 x71 x72 x73 x74 x75=>l8 x75 (w6 (A1 none v55.size/\A1 (some v60) (v55.size)) (y6 Tryz.prog (.func (.func 258) ⟨[]⟩ ⟨[]⟩) [.string (v55.extract v60.toNat v55.size),.string v56] kI (fun(x76:Int) =>
 l8 (decide ((x76:Int)>=0)) (K (.int .i64 (IntKind.i64.wrap (x76+v60)))) (K (.int .i64 (-1))))))
 (w9 (T:=j1->j1->Int->Int->Int->Int->Int->Int->Value->Value->Value->Value->Value->Value->Value->Value->Value->Value->Value->Value->Value->Value->Value->Value->Value->Value->Value->Value->Bool->s9) (fun v78 v79 v80 c0_81 c1_82 v83 v84 v85 _x86 _x87 _x88 _x89 _x90 _x91 _x92 _x93 _x94 _x95 _x96 _x97 _x98 _x99 _x100 _x101 _x102 _x103 _x104 _x105 x106=>l8 x106 (w6 (A1 none v78.size/\A1 (some v83) (v78.size))
 (d8 260 [.string (v78.extract v83.toNat v78.size),.string v79] kI (fun(x107:Int)=>l8 (decide ((x107:Int)<0)) (K (.int .i64 (-1))) (K (.int .i64 (IntKind.i64.wrap (v83+x107))))))) (R18 v78 v79 v80 c0_81 c1_82 v83 v84 v85)) (fun j77=>l4 (s5 0 0) kI (fun(x108:Int)=>l8 (decide ((v57:Int)>x108)) (w6 (0<=(4:Int)) (l8 (decide ((v62:Int)>=(IntKind.i64.wrap (4+(Int.fdiv v60 (2 ^ min (Int.toNat 4) (IntKind.bits .i64)))))))
 (j77 v55 v56 v57 c0_58 c1_59 v60 v61 v62 x63 x64 x65 x66 x67 x68 x69 x70 x71 x72 x73 x74 (.int .i64 v62) (.int .i64 v60) (.int .i64 (Int.fdiv v60 (2 ^ min (Int.toNat 4) (IntKind.bits .i64)))) (.int .i64 (IntKind.i64.wrap (4+(Int.fdiv v60 (2 ^ min (Int.toNat 4) (IntKind.bits .i64)))))) (.bool (decide ((v62:Int)>=(IntKind.i64.wrap (4+(Int.fdiv v60 (2 ^ min (Int.toNat 4) (IntKind.bits .i64)))))))) (.int .i64 v60) (.int .i64 v61) (.bool (decide ((v60:Int)<v61))) (decide ((v60:Int)<v61)))
 (j77 v55 v56 v57 c0_58 c1_59 v60 v61 v62 x63 x64 x65 x66 x67 x68 x69 x70 x71 x72 x73 x74 (.int .i64 v62) (.int .i64 v60) (.int .i64 (Int.fdiv v60 (2 ^ min (Int.toNat 4) (IntKind.bits .i64)))) (.int .i64 (IntKind.i64.wrap (4+(Int.fdiv v60 (2 ^ min (Int.toNat 4) (IntKind.bits .i64)))))) (.bool (decide ((v62:Int)>=(IntKind.i64.wrap (4+(Int.fdiv v60 (2 ^ min (Int.toNat 4) (IntKind.bits .i64)))))))) (.tuple ⟨[]⟩) (.tuple ⟨[]⟩) (.tuple ⟨[]⟩) false)))
 (j77 v55 v56 v57 c0_58 c1_59 v60 v61 v62 x63 x64 x65 x66 x67 x68 x69 x70 x71 x72 x73 x74 (.tuple ⟨[]⟩) (.tuple ⟨[]⟩) (.tuple ⟨[]⟩) (.tuple ⟨[]⟩) (.tuple ⟨[]⟩) (.tuple ⟨[]⟩) (.tuple ⟨[]⟩) (.tuple ⟨[]⟩) false))))) (fun j54=>l4 (s5 0 0) kI (fun(x109:Int)=>l8 (decide ((v39:Int)<=x109)) (d8 259 [.int .i64 (IntKind.i64.wrap (v42+1))] kI (fun(x110:Int) =>
 j54 v37 v38 v39 c0_40 c1_41 (IntKind.i64.wrap (v42+1)) v43 (IntKind.i64.wrap (v44+1)) x45 x46 x47 x48 x49 x50 x51 x52 (.int .i64 (IntKind.i64.wrap (v44+1))) (.int .i64 (IntKind.i64.wrap (v42+1))) (.int .i64 x110) (.bool (decide (((IntKind.i64.wrap (v44+1)):Int)>x110))) (decide (((IntKind.i64.wrap (v44+1)):Int)>x110))))
 (j54 v37 v38 v39 c0_40 c1_41 (IntKind.i64.wrap (v42+1)) v43 (IntKind.i64.wrap (v44+1)) x45 x46 x47 x48 x49 x50 x51 x52 (.tuple ⟨[]⟩) (.tuple ⟨[]⟩) (.tuple ⟨[]⟩) (.tuple ⟨[]⟩) false))))) (fun j36=>B2 v28 (IntKind.i64.wrap (v33+1)) (fun cr6=>l8 ((cr6.toNat:Int)==c1_32) (w6 (A1 (some (IntKind.i64.wrap (v33+v30))) v28.size/\A1 (some v33) ((IntKind.i64.wrap (v33+v30)).toNat))
 (j36 v28 v29 v30 c0_31 c1_32 v33 v34 v35 (.string v28) (.int .i64 v33) (.int .i64 v33) (.int .i64 v30) (.int .i64 (IntKind.i64.wrap (v33+v30))) (.string (v28.extract v33.toNat ((IntKind.i64.wrap (v33+v30)).toNat))) (.string v29) (.bool (B8 (v28.extract v33.toNat ((IntKind.i64.wrap (v33+v30)).toNat)) v29)) (B8 (v28.extract v33.toNat ((IntKind.i64.wrap (v33+v30)).toNat)) v29)))
 (j36 v28 v29 v30 c0_31 c1_32 v33 v34 v35 (.tuple ⟨[]⟩) (.tuple ⟨[]⟩) (.tuple ⟨[]⟩) (.tuple ⟨[]⟩) (.tuple ⟨[]⟩) (.tuple ⟨[]⟩) (.tuple ⟨[]⟩) (.tuple ⟨[]⟩) false)))) (fun j27=>B2 v19 v24 (fun cr7=>l8 ((cr7.toNat:Int) != c0_22) (w6 (A1 (some v25) v19.size/\A1 (some (IntKind.i64.wrap (v24+1))) (v25.toNat)) (d8 176 [.string (v19.extract ((IntKind.i64.wrap (v24+1)).toNat) v25.toNat),.int .u8 c0_22] kI (fun(x113:Int) =>
 l8 (decide ((x113:Int)<0)) (K (.int .i64 (-1))) (j27 v19 v20 v21 c0_22 c1_23 (IntKind.i64.wrap (v24+(IntKind.i64.wrap (x113+1)))) v25 v26)))) (j27 v19 v20 v21 c0_22 c1_23 v24 v25 v26)))) (K (.int .i64 (-1))))) (fun(R114:j1->j1->Int->Int->Int->Int->Int->Int->s9)=>R114 v11 v12 v13 (c16.toNat:Int) (c17.toNat:Int) 0 (IntKind.i64.wrap ((IntKind.i64.wrap (((v11.size:Nat):Int) - v13))+1)) 0))))) (fun j10 =>
 l4 (s5 0 0) kI (fun(x115:Int)=>l8 (decide ((v6:Int)<=x115)) (j10 v4 v5 v6 (decide (((v4.size:Nat):Int)<=64))) (j10 v4 v5 v6 false))))))) (fun j3=>l8 (((v2.size:Nat):Int)==0) (j3 v1 v2 ((v2.size:Nat):Int) true) (j3 v1 v2 ((v2.size:Nat):Int) (B8 v2 v1)))
theorem cX1 (v1:j1) (v2:j1):cs6 v1 v2 K σ->a8 224 [.string v1,.string v2] K σ:=k8 cX0 Tryz.func224


def cX2:Ann:=(.q (.n (.q (.h)) (.n (.q (.h)) (.q (.blk (.loop [(0,.s),(1,.s),(5,.i)] (.blk (.q (.n (.q (.h)) (.q .r))))))))))
def cX3 (v1:j1) (v2:j1) (K:KH):s9 :=
 l8 (((v2.size:Nat):Int)==0) (d8 261 [.string v1] kI (fun(x3:Int)=>K (.int .i64 (IntKind.i64.wrap (x3+1))))) (l8 (((v2.size:Nat):Int)==1) (B2 v2 0 (fun c4=>y6 Tryz.prog (.func (.func 263) ⟨[]⟩ ⟨[]⟩) [.string v1,.int .u8 (c4.toNat:Int)] kI (fun(x5:Int)=>K (.int .i64 x5))))
 (l9 [.sc .str,.sc .str,.sc (.int .i64)] (fun(R6:j1->j1->Int->s9)=>(fun(v7:j1) (v8:j1) (v9:Int)=>d8 227 [.string v7,.string v8] kI (fun(x10:Int)=>l8 ((x10:Int)==(-1)) (K (.int .i64 v9)) (w6 (A1 none v7.size/\A1 (some (IntKind.i64.wrap (x10+((v8.size:Nat):Int)))) (v7.size))
 (R6 (v7.extract ((IntKind.i64.wrap (x10+((v8.size:Nat):Int))).toNat) v7.size) v8 (IntKind.i64.wrap (v9+1))))))) (fun(R11:j1->j1->Int->s9)=>R11 v1 v2 0)))
theorem dB4 (v1:j1) (v2:j1):cX3 v1 v2 K σ->a8 226 [.string v1,.string v2] K σ:=k8 cX2 Tryz.func226


def cX4:Ann:=(.q (.q .z))
def cX5 (v1:j1) (v2:j1) (K:KH):s9 :=
 d8 224 [.string v1,.string v2] kI (fun(x3:Int)=>K (.int .i64 x3))
theorem dB5 (v1:j1) (v2:j1):cX5 v1 v2 K σ->a8 227 [.string v1,.string v2] K σ:=k8 cX4 Tryz.func227


def cX6:Ann:=(.q (.q .z))
def cX7 (v1:Sl) (K:KH):s9 :=
 d8 210 [.slice v1.base v1.len v1.cap,.func (.func 264) ⟨[]⟩ ⟨[]⟩] kB (fun x2=>K (.bool (!x2)))
theorem dB6 (v1:Sl):cX7 v1 K σ->a8 228 [.slice v1.base v1.len v1.cap] K σ:=k8 cX6 Tryz.func228


def cX8:Ann:=(.q (.q .z))
def cX9 (x1:u4) (K:KH):s9 :=
 j0 x1 (fun b2 o3=>l4 (s5 b2 o3) kS (fun(x4:j1)=>d8 73 [.string x4] kI (fun(x5:Int)=>K (.bool ((x5:Int)==0)))))
theorem dB7 (x1:u4):cX9 x1 K σ->a8 229 [.pointer x1] K σ:=k8 cX8 Tryz.func229


def cY0:Ann:=(.q (.q .z))
def cY1 (x1:u4) (K:KH):s9 :=
 j0 x1 (fun b2 o3=>l4 (s5 b2 (o3+1)) kL (fun x4=>l8 (decide (((x4.len:Nat):Int)<=8)) (j0 x1 (fun b5 o6=>l4 (s5 b5 (o6+2)) kL (fun x7=>K (.bool (decide (((x7.len:Nat):Int)<=16)))))) (K (.bool false))))
theorem dB8 (x1:u4):cY1 x1 K σ->a8 230 [.pointer x1] K σ:=k8 cY0 Tryz.func230


def cY2:Ann:=(.q (.q .z))
def cY3 (x1:u4) (K:KH):s9 :=
 j0 x1 (fun b2 o3=>l4 (s5 b2 (o3+1)) kL (fun x4=>d8 47 [.slice x4.base x4.len x4.cap,.func (.func 232) ⟨[]⟩ ⟨[]⟩] kB (fun x5=>K (.bool (!x5)))))
theorem dB9 (x1:u4):cY3 x1 K σ->a8 231 [.pointer x1] K σ:=k8 cY2 Tryz.func231


def cY4:Ann:=(.q (.q .z))
def cY5 (v1:j1) (K:KH):s9 :=
 d8 183 [.string v1] kB (fun x2=>K (.bool (!x2)))
theorem dC0 (v1:j1):cY5 v1 K σ->a8 232 [.string v1] K σ:=k8 cY4 Tryz.func232


def cY6:Ann:=(.q (.q .z))
def cY7 (x1:u4) (x2:u4) (K:KH):s9 :=
 j0 x1 (fun b3 o4=>l4 (s5 b3 (o4+1)) kL (fun x5=>d8 184 [.slice x5.base x5.len x5.cap] kB (fun x6=>l8 x6 (j0 x2 (fun b7 o8=>l4 (s5 b7 o8) kL (fun x9=>d8 184 [.slice x9.base x9.len x9.cap] kB (fun x10=>K (.bool x10))))) (K (.bool false)))))
theorem dC1 (x1:u4) (x2:u4):cY7 x1 x2 K σ->a8 233 [.pointer x1,.pointer x2] K σ:=k8 cY6 Tryz.func233


def cY8:Ann:=(.q (.q .z))
def cY9 (x1:u4) (K:KH):s9 :=
 j0 x1 (fun b2 o3=>l4 (s5 b2 (o3+2)) kL (fun x4=>d8 235 [.slice x4.base x4.len x4.cap,.func (.func 236) ⟨[]⟩ ⟨[]⟩] kB (fun x5=>K (.bool (!x5)))))
theorem dC2 (x1:u4):cY9 x1 K σ->a8 234 [.pointer x1] K σ:=k8 cY8 Tryz.func234


def cZ0:Ann:=(.q (.q .z))
def cZ1 (v1:Sl) (v2:Value) (K:KH):s9 :=
 d8 265 [.slice v1.base v1.len v1.cap,v2] kI (fun(x3:Int)=>K (.bool (decide ((x3:Int)>=0))))
theorem dC3 (v1:Sl) (v2:Value):cZ1 v1 v2 K σ->a8 235 [.slice v1.base v1.len v1.cap,v2] K σ:=k8 cZ0 Tryz.func235


def cZ2:Ann:=(.q (.q .z))
def cZ3 (v1:j1) (v2:j1) (K:KH):s9 :=
 A9 (.cells ⟨[.string v1,.string v2]⟩ 206 (0,0)) (fun b3=>l4 (s5 b3 0) kS (fun(x4:j1)=>d8 185 [.string x4] kB (fun x5=>l8 (!x5) (K (.bool true)) (l4 (s5 b3 1) kS (fun(x6:j1)=>K (.bool (decide (((x6.size:Nat):Int)>200))))))))
theorem dC4 (v1:j1) (v2:j1):cZ3 v1 v2 K σ->a8 236 [.agg ⟨[.string v1,.string v2]⟩] K σ:=k8 cZ2 Tryz.func236


def cZ4:Ann:=(.q (.q .z))
def cZ5 (x1:u4) (K:KH):s9 :=
 j0 x1 (fun b2 o3=>l4 (s5 b2 (o3+3)) kS (fun(x4:j1)=>K (.bool (decide (((x4.size:Nat):Int)<=4000)))))
theorem dC5 (x1:u4):cZ5 x1 K σ->a8 237 [.pointer x1] K σ:=k8 cZ4 Tryz.func237


def cZ6:Ann:=(.q (.n (.q (.cond .r .z)) (.n (.reg (rn 13) [[],[0],[0,1],[0,1,2],(rn 4),[],[5],[5,6],[5,6,7],[5,6,7,8],(rn 10),[],(rn 12)]) (.cond .r .z))))
def cZ7 (v1:u4) (v2:Int) (K:KH):s9 :=
 d8 180 [.pointer v1] kU (l8 (decide ((v2:Int)<0)) (nW) (j0 v1 (fun b3 o4=>l4 (s5 b3 (o4+1)) kL (fun x5=>j0 v1 (fun b6 o7=>l4 (s5 b6 (o7+1)) kL (fun x8=>l8 (decide (((IntKind.i64.wrap (((x5.cap:Nat):Int) - ((x8.len:Nat):Int))):Int)<v2)) (d8 266 [.pointer v1,.int .i64 v2] kU (K (.tuple ⟨[]⟩))) (K (.tuple ⟨[]⟩))))))))
theorem dC6 (v1:u4) (v2:Int):cZ7 v1 v2 K σ->a8 238 [.pointer v1,.int .i64 v2] K σ:=k8 cZ6 Tryz.func238


def cZ8:Ann:=(.q (.q (.n (.q (.blk (.loop [(0,.i),(3,.l),(4,.sc (.int .u64))] (.n (.q (.cond .z .z)) (.seq (some [(0,.i),(3,.l),(4,.sc (.int .u64))]) (.blk (.q (.n (.q (.blk (.loop [(0,.i),(3,.l),(4,.sc (.int .u64)),(5,.b),(6,.i)] (.n (.q (.cond .z .z)) (.seq (some [(0,.i),(3,.l),(4,.sc (.int .u64)),(5,.b),(6,.i)]) (.blk .r) .r))))) (.q (.cond .r .z))))) .r))))) (.q .z))))
def cZ9 (v1:Int) (K:KH):s9 :=
 l9 [.sc (.int .i64),.sc .slc,.sc (.int .u64)] (fun(R2:Int->Sl->Int->s9)=>(fun(v3:Int) (v4:Sl) (v5:Int)=>l8 (decide (((v4.len:Nat):Int)<v3)) (w9 (T:=Int->Sl->Int->s9) (fun v7 v8 v9=>R2 v7 v8 (IntKind.u64.wrap (v9+1))) (fun j6 =>
 l9 [.sc (.int .i64),.sc .slc,.sc (.int .u64),.sc .bool,.sc (.int .i64)] (fun(R10:Int->Sl->Int->Bool->Int->s9)=>(fun(v11:Int) (v12:Sl) (v13:Int) (v14:Bool) (v15:Int)=>l8 (decide ((v15:Int)<((v12.len:Nat):Int))) (w9 (T:=Int->Sl->Int->Bool->Int->s9) (fun v17 v18 v19 v20 v21=>R10 v17 v18 v19 v20 (IntKind.i64.wrap (v21+1))) (fun j16=>l8 v14 (j0 v12.base (fun b22 o23 =>
 w6 (0<=v15/\v15<((v12.len:Nat):Int)) (l4 (s5 b22 (o23+v15.toNat * 1)) (.one (.sc (.int .u64))) (fun(x24:Int)=>w6 (x24≠0) (j16 v11 v12 v13 (((Int.tmod v13 x24):Int) != 0) v15))))) (j16 v11 v12 v13 false v15))) (l8 v14 (A9 (.cells ⟨[.int .u64 v13]⟩ 138 (0,0)) (fun b25=>Q4 .append #[224,224] 224 [false,false] [.slice v12.base v12.len v12.cap,.slice (some ⟨b25,0,none⟩) 1 1] kL (fun x26=>j6 v11 x26 v13)))
 (j6 v11 v12 v13)))) (fun(R27:Int->Sl->Int->Bool->Int->s9)=>R27 v3 v4 v5 true 0))) (K (.slice v4.base v4.len v4.cap)))) (fun(R28:Int->Sl->Int->s9)=>R28 v1 ⟨none,0,0⟩ 2)
theorem dC7 (v1:Int):cZ9 v1 K σ->a8 239 [.int .i64 v1] K σ:=k8 cZ8 Tryz.func239


def da0:Ann:=(.q (.q (.n (.blk (.loop [(0,.sc (.int .u64)),(3,.sc (.int .u64)),(4,.sc (.int .u64))] (.n (.q (.cond .z .z)) (.blk (.q (.q (.cond .r .r))))))) (.q .z))))
def da1 (v1:Int) (K:KH):s9 :=
 l9 [.sc (.int .u64),.sc (.int .u64),.sc (.int .u64)] (fun(R2:Int->Int->Int->s9)=>(fun(v3:Int) (v4:Int) (v5:Int)=>l8 (decide (((IntKind.u64.wrap (v5 - v4)):Int)>1)) (w6 ((2:Int)≠0) (d8 267 [.int .u64 (IntKind.u64.wrap (Int.tdiv (IntKind.u64.wrap (v4+v5)) 2)),.int .u64 v3] kB (fun x6=>l8 x6 (R2 v3 v4 (IntKind.u64.wrap (Int.tdiv (IntKind.u64.wrap (v4+v5)) 2)))
 (R2 v3 (IntKind.u64.wrap (Int.tdiv (IntKind.u64.wrap (v4+v5)) 2)) v5)))) (K (.int .u32 (IntKind.u32.wrap v4))))) (fun(R7:Int->Int->Int->s9)=>R7 v1 0 68719476736)
theorem dC8 (v1:Int):da1 v1 K σ->a8 240 [.int .u64 v1] K σ:=k8 da0 Tryz.func240


def da2:Ann:=(.q (.q (.n (.blk (.loop [(0,.sc (.int .u64)),(3,.sc (.int .u64)),(4,.sc (.int .u64))] (.n (.q (.cond .z .z)) (.blk (.q (.q (.seq (some [(0,.sc (.int .u64)),(3,.sc (.int .u64)),(4,.sc (.int .u64)),(5,.sc (.int .u64)),(33,.b)]) .r (.cond .r .r)))))))) (.q .z))))
def da3 (v1:Int) (K:KH):s9 :=
 l9 [.sc (.int .u64),.sc (.int .u64),.sc (.int .u64)] (fun(R2:Int->Int->Int->s9)=>(fun(v3:Int) (v4:Int) (v5:Int)=>l8 (decide (((IntKind.u64.wrap (v5 - v4)):Int)>1)) (w6 ((2:Int)≠0) (d8 268 [.int .u64 (IntKind.u64.wrap (Int.tdiv (IntKind.u64.wrap (v4+v5)) 2)),.int .u64 (IntKind.u64.wrap (Int.tdiv (IntKind.u64.wrap (v4+v5)) 2))] (.tup [.sc (.int .u64),.sc (.int .u64)]) (fun(x6:Int) (x7:Int) =>
 w9 (T:=Int->Int->Int->Int->Bool->s9) (fun v9 v10 v11 v12 x13=>l8 x13 (R2 v9 v10 v12) (R2 v9 v12 v11)) (fun j8=>l8 (decide ((x6:Int)>v3)) (j8 v3 v4 v5 (IntKind.u64.wrap (Int.tdiv (IntKind.u64.wrap (v4+v5)) 2)) true) (l8 ((x6:Int)==v3) (j8 v3 v4 v5 (IntKind.u64.wrap (Int.tdiv (IntKind.u64.wrap (v4+v5)) 2)) (decide ((x7:Int)>0)))
 (j8 v3 v4 v5 (IntKind.u64.wrap (Int.tdiv (IntKind.u64.wrap (v4+v5)) 2)) false)))))) (K (.int .u32 (IntKind.u32.wrap v4))))) (fun(R14:Int->Int->Int->s9)=>R14 v1 0 68719476736)
theorem dC9 (v1:Int):da3 v1 K σ->a8 241 [.int .u64 v1] K σ:=k8 da2 Tryz.func241


def da4:Ann:=(.q (.q (.q (.n (.blk (.loop [(0,.s),(3,.sc (.int .u64))] (.n (.q (.cond .z .z)) (.blk .r)))) (.n (.q (.blk (.loop [(0,.s),(3,.sc (.int .u64)),(4,.i)] (.n (.q (.cond .z .z)) (.n (.blk .r) .r))))) (.q .z))))))
def da5 (v1:j1) (K:KH):s9 :=
 w6 (v1.size+(⟨⟨[128]⟩⟩:j1).size<=9223372036854775807) (l9 [.sc .str,.sc (.int .u64)] (fun(R2:j1->Int->s9)=>(fun(v3:j1) (v4:Int)=>w6 ((64:Int)≠0) (l8 (((Int.tmod ((v3.size:Nat):Int) 64):Int) != 56) (w6 (v3.size+(⟨⟨[0]⟩⟩:j1).size<=9223372036854775807) (R2 (v3++⟨⟨[0]⟩⟩) v4))
 (l9 [.sc .str,.sc (.int .u64),.sc (.int .i64)] (fun(R5:j1->Int->Int->s9)=>(fun(v6:j1) (v7:Int) (v8:Int)=>l8 (decide ((v8:Int)>=0)) (w6 (0<=(IntKind.i64.wrap (8 * v8))) (A9 (.cells ⟨[.int .u8 (IntKind.u8.wrap (Int.fdiv v7 (2 ^ min (Int.toNat (IntKind.i64.wrap (8 * v8))) (IntKind.bits .u64))))]⟩ 5 (0,0)) (fun b9=>M7 Tryz.prog (convert 36 9 (.slice (some ⟨b9,0,none⟩) 1 1)) kS (fun(x10:j1) =>
 w6 (v6.size+x10.size<=9223372036854775807) (R5 (v6++x10) v7 (IntKind.i64.wrap (v8 - 1))))))) (K (.string v6)))) (fun(R11:j1->Int->Int->s9)=>R11 v3 v4 7))))) (fun(R12:j1->Int->s9)=>R12 (v1++⟨⟨[128]⟩⟩) (IntKind.u64.wrap ((IntKind.u64.wrap ((v1.size:Nat):Int)) * 8))))
theorem dD0 (v1:j1):da5 v1 K σ->a8 242 [.string v1] K σ:=k8 da4 Tryz.func242

end Go.Proofs.YtgfiobhpipollaaGreatDoor

set_option maxRecDepth 100000
namespace Go.Proofs.YtgfiobhpipollaaGreatDoor
open Go Go.HL
variable {K:KH} {σ:H}
def da6:Ann:=(.q (.q (.n (.q (.blk (.loop [(1,.s),(3,.p),(5,.p),(6,.p),(7,.p),(8,.i)] (.n (.q (.cond .z .z)) (.seq (some [(1,.s),(3,.p),(5,.p),(6,.p),(7,.p),(8,.i)]) (.blk (.n (.q (.cond (.n (.reg (rn 32) [[],[],[],[2],[1,2,3],[1,2,3,4],[1,2,3,4,5],[],[],[8],[8,9],[7,8,9,10],[7,8,9,10,11],[7,8,9,10,11,12],[1,2,3,4,5,6,7,8,9,10,11,12,13],[],[],[16],[16,17],[15,16,17,18],[15,16,17,18,19],[15,16,17,18,19,20],[1,2,3,4,5,6,7,8,9,10,11,12,13,14,15,16,17,18,19,20,21],[],[],[24],[24,25],[23,24,25,26],[23,24,25,26,27],[1,2,3,4,5,6,7,8,9,10,11,12,13,14,15,16,17,18,19,20,21,22,23,24,25,26,27,28],(rn 30),(rn 31)]) .z) .z)) (.n (.reg (rn 10) [[],[0],[0,1],[0,1,2],[],[4],[4,5],[4,5,6],(rn 4),(rn 9)]) (.reg [0,1,2,3,4,5,7,10,11,14,15,16,17,6,8,9,12,13,18,19,20,21,22,23,24,25,26,27,28,29] [[],[],[1],[1,2],[1,2,3],[],[5],[],[5,6,7],[5,6,7,8],[],[10],[5,6,7,8,9,10,11],[1,2,3,4,5,6,7,8,9,10,11,12],[],[14],[14,15],[14,15,16],[1,2,3,4,5,6,7,8,9,10,11,12,13,14,15,16,17],[],[5,6,7,8,19],[],[5,6,7,8,19,20,21],[5,6,7,8,19,20,21,22],[],[24],[5,6,7,8,19,20,21,22,23,24,25],[1,2,3,4,5,6,7,8,9,10,11,12,13,14,15,16,17,18,19,20,21,22,23,24,25,26],(rn 28),(rn 29)])))) .r))))) (.q (.n (.q (.blk (.loop [(3,.p),(5,.p),(6,.p),(7,.p),(11,.p),(12,.i)] (.n (.q (.cond .z .z)) (.n (.blk (.n (.reg (rn 6) [[],[0],[],[2],[0,1],(rn 5)]) (.n (.reg [0,1,2,4,7,11,12,13,14,15,16,17,18,19,20,22,23,24,26,27,28,3,5,6,8,9,10,21,25,29,30] [[],[0],[],[2],[],[2,3,4],[2,3,4,5],[],[2,3,4,5,7],[2,3,4,5,6,7,8],(rn 10),[],[],[12],[11,12,13],[],[15],[],[17],[15,16,17,18],[11,12,13,14,15,16,17,18,19],(rn 21),[],[22],[22,23],(rn 25),[],[26],[26,27],(rn 29),(rn 30)]) (.n (.reg [0,2,5,8,9,10,11,12,13,14,15,16,17,18,19,20,1,3,4,6,7,21,22,23,24] [[],[0],[],[0,1,2],(rn 4),[],[0,1,2,3,5],(rn 7),[],[],[9],[8,9,10],[],[],[13],[12,13,14],[8,9,10,11,12,13,14,15],[],[17],[],[19],[17,18,19,20],[8,9,10,11,12,13,14,15,16,17,18,19,20,21],(rn 23),(rn 24)]) .r)))) .r))))) (.n (.q (.blk (.loop [(3,.p),(6,.p),(11,.p),(17,.i)] (.n (.q (.cond .z .z)) (.n (.blk (.reg (rn 10) [[],[],[1],[1,2],[],[4],[4,5],[1,2,3,4,5,6],(rn 8),(rn 9)])) .r))))) (.q .z)))))))
def da7 (v1:Int) (v2:Int) (v3:Int) (v4:Int) (v5:Int) (v6:Int) (v7:Int) (v8:Int) (v9:j1) (v10:Value) (K:KH):s9 :=
 A9 (.cells ⟨[.int .u32 v1,.int .u32 v2,.int .u32 v3,.int .u32 v4,.int .u32 v5,.int .u32 v6,.int .u32 v7,.int .u32 v8]⟩ 193 (0,0)) (fun b11=>A9 (.cells ⟨L5 (Value.cells v10)⟩ 195 (0,0)) (fun b12=>A9 (.cells ⟨[.int .u32 0,.int .u32 0,.int .u32 0,.int .u32 0,.int .u32 0,.int .u32 0,.int .u32 0,.int .u32 0]⟩ 193 (0,0)) (fun b13 =>
 A9 (.cells ⟨(List.replicate 64 (.int .u32 0))⟩ 195 (0,0)) (fun b14 =>
 l9 [.sc .str,.sc .ptr,.sc .ptr,.sc .ptr,.sc .ptr,.sc (.int .i64)] (fun(R15:j1->u4->u4->u4->u4->Int->s9)=>(fun(v16:j1) (v17:u4) (v18:u4) (x19:u4) (v20:u4) (v21:Int)=>l8 (decide ((v21:Int)<64)) (w9 (T:=j1->u4->u4->u4->u4->Int->s9) (fun v23 v24 v25 x26 v27 v28 =>
 R15 v23 v24 v25 x26 v27 (IntKind.i64.wrap (v28+1))) (fun j22=>l8 (decide ((v21:Int)<16)) (B2 v16 (IntKind.i64.wrap (4 * v21)) (fun c29=>w6 (0<=(24:Int)) (B2 v16 (IntKind.i64.wrap ((IntKind.i64.wrap (4 * v21))+1)) (fun c30=>w6 (0<=(16:Int)) (B2 v16 (IntKind.i64.wrap ((IntKind.i64.wrap (4 * v21))+2)) (fun c31=>w6 (0<=(8:Int)) (B2 v16 (IntKind.i64.wrap ((IntKind.i64.wrap (4 * v21))+3)) (fun c32=>j0 v20 (fun b33 o34 =>
 w6 (0<=v21/\v21<((64:Nat):Int))
 (t8 188 (.pointer (some ⟨b33,o34+v21.toNat * 1,none⟩)) (.int .u32 (A0 .or .u32 (A0 .or .u32 (A0 .or .u32 (IntKind.u32.wrap ((IntKind.u32.wrap (c29.toNat:Int)) * 2 ^ min (Int.toNat 24) (IntKind.bits .u32))) (IntKind.u32.wrap ((IntKind.u32.wrap (c30.toNat:Int)) * 2 ^ min (Int.toNat 16) (IntKind.bits .u32)))) (IntKind.u32.wrap ((IntKind.u32.wrap (c31.toNat:Int)) * 2 ^ min (Int.toNat 8) (IntKind.bits .u32)))) (IntKind.u32.wrap (c32.toNat:Int)))) (j22 v16 v17 v18 x19 v20 v21)))))))))))
 (j0 v20 (fun b35 o36=>w6 (0<=IntKind.i64.wrap (v21 - 15)/\IntKind.i64.wrap (v21 - 15)<((64:Nat):Int)) (l4 (s5 b35 (o36+(IntKind.i64.wrap (v21 - 15):Int).toNat * 1)) (.one (.sc (.int .u32))) (fun(x37:Int)=>j0 v20 (fun b38 o39=>w6 (0<=IntKind.i64.wrap (v21 - 2)/\IntKind.i64.wrap (v21 - 2)<((64:Nat):Int)) (l4 (s5 b38 (o39+(IntKind.i64.wrap (v21 - 2):Int).toNat * 1)) (.one (.sc (.int .u32))) (fun(x40:Int)=>j0 v20 (fun b41 o42 =>
 w6 (0<=IntKind.i64.wrap (v21 - 16)/\IntKind.i64.wrap (v21 - 16)<((64:Nat):Int)) (l4 (s5 b41 (o42+(IntKind.i64.wrap (v21 - 16):Int).toNat * 1)) (.one (.sc (.int .u32))) (fun(x43:Int)=>w6 (0<=(3:Int)) (j0 v20 (fun b44 o45=>w6 (0<=IntKind.i64.wrap (v21 - 7)/\IntKind.i64.wrap (v21 - 7)<((64:Nat):Int)) (l4 (s5 b44 (o45+(IntKind.i64.wrap (v21 - 7):Int).toNat * 1)) (.one (.sc (.int .u32))) (fun(x46:Int) =>
 d8 269 [.int .u32 x37,.int .i64 7] (.one (.sc (.int .u32))) (fun(x47:Int)=>A2 (fun σ=>(s5 b44 (o45+(IntKind.i64.wrap (v21 - 7):Int).toNat * 1)) σ=some (.int .u32 x46)) (A2 (fun σ=>(s5 b41 (o42+(IntKind.i64.wrap (v21 - 16):Int).toNat * 1)) σ=some (.int .u32 x43)) (d8 269 [.int .u32 x37,.int .i64 18] (.one (.sc (.int .u32))) (fun(x48:Int) =>
 A2 (fun σ=>(s5 b44 (o45+(IntKind.i64.wrap (v21 - 7):Int).toNat * 1)) σ=some (.int .u32 x46)) (A2 (fun σ=>(s5 b41 (o42+(IntKind.i64.wrap (v21 - 16):Int).toNat * 1)) σ=some (.int .u32 x43)) (d8 269 [.int .u32 x40,.int .i64 17] (.one (.sc (.int .u32))) (fun(x49:Int)=>A2 (fun σ=>(s5 b44 (o45+(IntKind.i64.wrap (v21 - 7):Int).toNat * 1)) σ=some (.int .u32 x46))
 (A2 (fun σ=>(s5 b41 (o42+(IntKind.i64.wrap (v21 - 16):Int).toNat * 1)) σ=some (.int .u32 x43)) (d8 269 [.int .u32 x40,.int .i64 19] (.one (.sc (.int .u32))) (fun(x50:Int)=>A2 (fun σ=>(s5 b44 (o45+(IntKind.i64.wrap (v21 - 7):Int).toNat * 1)) σ=some (.int .u32 x46)) (A2 (fun σ=>(s5 b41 (o42+(IntKind.i64.wrap (v21 - 16):Int).toNat * 1)) σ=some (.int .u32 x43)) (w6 (0<=(10:Int)) (j0 v20 (fun b51 o52 =>
 w6 (0<=v21/\v21<((64:Nat):Int)) (t8 188 (.pointer (some ⟨b51,o52+v21.toNat * 1,none⟩)) (.int .u32 (IntKind.u32.wrap ((IntKind.u32.wrap ((IntKind.u32.wrap (x43+(A0 .xor .u32 (A0 .xor .u32 x47 x48) (Int.fdiv x37 (2 ^ min (Int.toNat 3) (IntKind.bits .u32))))))+x46))+(A0 .xor .u32 (A0 .xor .u32 x49 x50) (Int.fdiv x40 (2 ^ min (Int.toNat 10) (IntKind.bits .u32))))))) (j22 v16 v17 v18 x19 v20 v21)))))))))))))))))))))))))))))))) (j0 v17 (fun b53 o54 =>
 l4 (rdA 8 b53 o54) (.one (.agg [(.int .u32),(.int .u32),(.int .u32),(.int .u32),(.int .u32),(.int .u32),(.int .u32),(.int .u32)])) (fun(x55:Int) (x56:Int) (x57:Int) (x58:Int) (x59:Int) (x60:Int) (x61:Int) (x62:Int)=>A9 (.cells ⟨[.int .u32 0,.int .u32 0,.int .u32 0,.int .u32 0,.int .u32 0,.int .u32 0,.int .u32 0,.int .u32 0]⟩ 193 (0,0)) (fun b63 =>
 t8 193 (.pointer (some ⟨b63,0,none⟩)) (.agg ⟨[.int .u32 x55,.int .u32 x56,.int .u32 x57,.int .u32 x58,.int .u32 x59,.int .u32 x60,.int .u32 x61,.int .u32 x62]⟩) (l9 [.sc .ptr,.sc .ptr,.sc .ptr,.sc .ptr,.sc .ptr,.sc (.int .i64)] (fun(R64:u4->u4->u4->u4->u4->Int->s9)=>(fun(v65:u4) (v66:u4) (x67:u4) (v68:u4) (v69:u4) (v70:Int) =>
 l8 (decide ((v70:Int)<64)) (j0 v69 (fun b71 o72=>w6 (0<=(4:Int)/\(4:Int)<((8:Nat):Int)) (l4 (s5 b71 (o72+(4:Int).toNat * 1)) (.one (.sc (.int .u32))) (fun(x73:Int)=>j0 v69 (fun b74 o75=>w6 (0<=(0:Int)/\(0:Int)<((8:Nat):Int)) (l4 (s5 b74 (o75+(0:Int).toNat * 1)) (.one (.sc (.int .u32))) (fun(x76:Int)=>j0 v69 (fun b77 o78=>w6 (0<=(7:Int)/\(7:Int)<((8:Nat):Int))
 (l4 (s5 b77 (o78+(7:Int).toNat * 1)) (.one (.sc (.int .u32))) (fun(x79:Int)=>j0 v69 (fun b80 o81=>w6 (0<=(5:Int)/\(5:Int)<((8:Nat):Int)) (l4 (s5 b80 (o81+(5:Int).toNat * 1)) (.one (.sc (.int .u32))) (fun(x82:Int)=>j0 v69 (fun b83 o84=>w6 (0<=(6:Int)/\(6:Int)<((8:Nat):Int)) (l4 (s5 b83 (o84+(6:Int).toNat * 1)) (.one (.sc (.int .u32))) (fun(x85:Int)=>j0 v66 (fun b86 o87=>w6 (0<=v70/\v70<((64:Nat):Int))
 (l4 (s5 b86 (o87+v70.toNat * 1)) (.one (.sc (.int .u32))) (fun(x88:Int)=>j0 v68 (fun b89 o90=>w6 (0<=v70/\v70<((64:Nat):Int)) (l4 (s5 b89 (o90+v70.toNat * 1)) (.one (.sc (.int .u32))) (fun(x91:Int)=>d8 269 [.int .u32 x73,.int .i64 6] (.one (.sc (.int .u32))) (fun(x92:Int)=>A2 (fun σ=>(s5 b89 (o90+v70.toNat * 1)) σ=some (.int .u32 x91)) (A2 (fun σ=>(s5 b86 (o87+v70.toNat * 1)) σ=some (.int .u32 x88))
 (A2 (fun σ=>(s5 b83 (o84+(6:Int).toNat * 1)) σ=some (.int .u32 x85)) (A2 (fun σ=>(s5 b80 (o81+(5:Int).toNat * 1)) σ=some (.int .u32 x82)) (A2 (fun σ=>(s5 b77 (o78+(7:Int).toNat * 1)) σ=some (.int .u32 x79)) (d8 269 [.int .u32 x73,.int .i64 11] (.one (.sc (.int .u32))) (fun(x93:Int)=>A2 (fun σ=>(s5 b89 (o90+v70.toNat * 1)) σ=some (.int .u32 x91)) (A2 (fun σ=>(s5 b86 (o87+v70.toNat * 1)) σ=some (.int .u32 x88))
 (A2 (fun σ=>(s5 b83 (o84+(6:Int).toNat * 1)) σ=some (.int .u32 x85)) (A2 (fun σ=>(s5 b80 (o81+(5:Int).toNat * 1)) σ=some (.int .u32 x82)) (A2 (fun σ=>(s5 b77 (o78+(7:Int).toNat * 1)) σ=some (.int .u32 x79)) (d8 269 [.int .u32 x73,.int .i64 25] (.one (.sc (.int .u32))) (fun(x94:Int)=>A2 (fun σ=>(s5 b89 (o90+v70.toNat * 1)) σ=some (.int .u32 x91)) (A2 (fun σ=>(s5 b86 (o87+v70.toNat * 1)) σ=some (.int .u32 x88))
 (A2 (fun σ=>(s5 b83 (o84+(6:Int).toNat * 1)) σ=some (.int .u32 x85)) (A2 (fun σ=>(s5 b80 (o81+(5:Int).toNat * 1)) σ=some (.int .u32 x82)) (A2 (fun σ=>(s5 b77 (o78+(7:Int).toNat * 1)) σ=some (.int .u32 x79)) (j0 v69 (fun b95 o96=>w6 (0<=(1:Int)/\(1:Int)<((8:Nat):Int)) (l4 (s5 b95 (o96+(1:Int).toNat * 1)) (.one (.sc (.int .u32))) (fun(x97:Int)=>j0 v69 (fun b98 o99=>w6 (0<=(2:Int)/\(2:Int)<((8:Nat):Int))
 (l4 (s5 b98 (o99+(2:Int).toNat * 1)) (.one (.sc (.int .u32))) (fun(x100:Int)=>j0 v69 (fun b101 o102=>w6 (0<=(1:Int)/\(1:Int)<((8:Nat):Int)) (l4 (s5 b101 (o102+(1:Int).toNat * 1)) (.one (.sc (.int .u32))) (fun(x103:Int)=>j0 v69 (fun b104 o105=>w6 (0<=(2:Int)/\(2:Int)<((8:Nat):Int)) (l4 (s5 b104 (o105+(2:Int).toNat * 1)) (.one (.sc (.int .u32))) (fun(x106:Int) =>
 d8 269 [.int .u32 x76,.int .i64 2] (.one (.sc (.int .u32))) (fun(x107:Int)=>A2 (fun σ=>(s5 b104 (o105+(2:Int).toNat * 1)) σ=some (.int .u32 x106)) (A2 (fun σ=>(s5 b101 (o102+(1:Int).toNat * 1)) σ=some (.int .u32 x103)) (A2 (fun σ=>(s5 b98 (o99+(2:Int).toNat * 1)) σ=some (.int .u32 x100)) (A2 (fun σ=>(s5 b95 (o96+(1:Int).toNat * 1)) σ=some (.int .u32 x97))
 (d8 269 [.int .u32 x76,.int .i64 13] (.one (.sc (.int .u32))) (fun(x108:Int)=>A2 (fun σ=>(s5 b104 (o105+(2:Int).toNat * 1)) σ=some (.int .u32 x106)) (A2 (fun σ=>(s5 b101 (o102+(1:Int).toNat * 1)) σ=some (.int .u32 x103)) (A2 (fun σ=>(s5 b98 (o99+(2:Int).toNat * 1)) σ=some (.int .u32 x100)) (A2 (fun σ=>(s5 b95 (o96+(1:Int).toNat * 1)) σ=some (.int .u32 x97))
 (d8 269 [.int .u32 x76,.int .i64 22] (.one (.sc (.int .u32))) (fun(x109:Int)=>A2 (fun σ=>(s5 b104 (o105+(2:Int).toNat * 1)) σ=some (.int .u32 x106)) (A2 (fun σ=>(s5 b101 (o102+(1:Int).toNat * 1)) σ=some (.int .u32 x103)) (A2 (fun σ=>(s5 b98 (o99+(2:Int).toNat * 1)) σ=some (.int .u32 x100)) (A2 (fun σ=>(s5 b95 (o96+(1:Int).toNat * 1)) σ=some (.int .u32 x97)) (j0 v69 (fun b110 o111 =>
 w6 (0<=(0:Int)/\(0:Int)<((8:Nat):Int)) (l4 (s5 b110 (o111+(0:Int).toNat * 1)) (.one (.sc (.int .u32))) (fun(x112:Int)=>j0 v69 (fun b113 o114=>w6 (0<=(1:Int)/\(1:Int)<((8:Nat):Int)) (l4 (s5 b113 (o114+(1:Int).toNat * 1)) (.one (.sc (.int .u32))) (fun(x115:Int)=>j0 v69 (fun b116 o117=>w6 (0<=(2:Int)/\(2:Int)<((8:Nat):Int)) (l4 (s5 b116 (o117+(2:Int).toNat * 1)) (.one (.sc (.int .u32))) (fun(x118:Int) =>
 j0 v69 (fun b119 o120=>w6 (0<=(3:Int)/\(3:Int)<((8:Nat):Int)) (l4 (s5 b119 (o120+(3:Int).toNat * 1)) (.one (.sc (.int .u32))) (fun(x121:Int)=>j0 v69 (fun b122 o123=>w6 (0<=(4:Int)/\(4:Int)<((8:Nat):Int)) (l4 (s5 b122 (o123+(4:Int).toNat * 1)) (.one (.sc (.int .u32))) (fun(x124:Int)=>j0 v69 (fun b125 o126=>w6 (0<=(5:Int)/\(5:Int)<((8:Nat):Int))
 (l4 (s5 b125 (o126+(5:Int).toNat * 1)) (.one (.sc (.int .u32))) (fun(x127:Int)=>j0 v69 (fun b128 o129=>w6 (0<=(6:Int)/\(6:Int)<((8:Nat):Int)) (l4 (s5 b128 (o129+(6:Int).toNat * 1)) (.one (.sc (.int .u32))) (fun(x130:Int) =>
 t8 193 (.pointer v69) (.agg ⟨[.int .u32 (IntKind.u32.wrap ((IntKind.u32.wrap ((IntKind.u32.wrap ((IntKind.u32.wrap ((IntKind.u32.wrap (x79+(A0 .xor .u32 (A0 .xor .u32 x92 x93) x94)))+(A0 .xor .u32 (A0 .and .u32 x73 x82) (A0 .and .u32 (A0 .xor .u32 4294967295 x73) x85))))+x88))+x91))+(IntKind.u32.wrap ((A0 .xor .u32 (A0 .xor .u32 x107 x108) x109)+(A0 .xor .u32 (A0 .xor .u32 (A0 .and .u32 x76 x97) (A0 .and .u32 x76 x100)) (A0 .and .u32 x103 x106)))))),.int .u32 x112,.int .u32 x115,.int .u32 x118,.int .u32 (IntKind.u32.wrap (x121+(IntKind.u32.wrap ((IntKind.u32.wrap ((IntKind.u32.wrap ((IntKind.u32.wrap (x79+(A0 .xor .u32 (A0 .xor .u32 x92 x93) x94)))+(A0 .xor .u32 (A0 .and .u32 x73 x82) (A0 .and .u32 (A0 .xor .u32 4294967295 x73) x85))))+x88))+x91)))),.int .u32 x124,.int .u32 x127,.int .u32 x130]⟩) (R64 v65 v66 x67 v68 v69 (IntKind.i64.wrap (v70+1)))))))))))))))))))))))))))))))))))))))))))))))))))))))))))))))))))))))))))))))))))))))))))
 (l9 [.sc .ptr,.sc .ptr,.sc .ptr,.sc (.int .i64)] (fun(R131:u4->u4->u4->Int->s9)=>(fun(v132:u4) (x133:u4) (v134:u4) (v135:Int)=>l8 (decide ((v135:Int)<8)) (j0 v132 (fun b136 o137=>w6 (0<=v135/\v135<((8:Nat):Int)) (l4 (s5 b136 (o137+v135.toNat * 1)) (.one (.sc (.int .u32))) (fun(x138:Int)=>j0 v134 (fun b139 o140=>w6 (0<=v135/\v135<((8:Nat):Int))
 (l4 (s5 b139 (o140+v135.toNat * 1)) (.one (.sc (.int .u32))) (fun(x141:Int)=>j0 v132 (fun b142 o143=>w6 (0<=v135/\v135<((8:Nat):Int)) (t8 188 (.pointer (some ⟨b142,o143+v135.toNat * 1,none⟩)) (.int .u32 (IntKind.u32.wrap (x138+x141))) (R131 v132 x133 v134 (IntKind.i64.wrap (v135+1)))))))))))) (j0 v132 (fun b144 o145 =>
 l4 (rdA 8 b144 o145) (.one (.agg [(.int .u32),(.int .u32),(.int .u32),(.int .u32),(.int .u32),(.int .u32),(.int .u32),(.int .u32)])) (fun(x146:Int) (x147:Int) (x148:Int) (x149:Int) (x150:Int) (x151:Int) (x152:Int) (x153:Int)=>t8 193 (.pointer x133) (.agg ⟨[.int .u32 x146,.int .u32 x147,.int .u32 x148,.int .u32 x149,.int .u32 x150,.int .u32 x151,.int .u32 x152,.int .u32 x153]⟩) (j0 x133 (fun b154 o155 =>
 l4 (rdA 8 b154 o155) (.one (.agg [(.int .u32),(.int .u32),(.int .u32),(.int .u32),(.int .u32),(.int .u32),(.int .u32),(.int .u32)])) (fun(r156:Int) (r157:Int) (r158:Int) (r159:Int) (r160:Int) (r161:Int) (r162:Int) (r163:Int) =>
 K (.agg ⟨[.int .u32 r156,.int .u32 r157,.int .u32 r158,.int .u32 r159,.int .u32 r160,.int .u32 r161,.int .u32 r162,.int .u32 r163]⟩))))))))) (fun(R164:u4->u4->u4->Int->s9)=>R164 v65 x67 v69 0)))) (fun(R165:u4->u4->u4->u4->u4->Int->s9)=>R165 v17 v18 x19 v20 (some ⟨b63,0,none⟩) 0)))))))) (fun(R166:j1->u4->u4->u4->u4->Int->s9)=>R166 v9 (some ⟨b11,0,none⟩) (some ⟨b12,0,none⟩) (some ⟨b13,0,none⟩) (some ⟨b14,0,none⟩) 0)))))
theorem dD1 (v1:Int) (v2:Int) (v3:Int) (v4:Int) (v5:Int) (v6:Int) (v7:Int) (v8:Int) (v9:j1) (v10:Value):da7 v1 v2 v3 v4 v5 v6 v7 v8 v9 v10 K σ->a8 243 [.agg ⟨[.int .u32 v1,.int .u32 v2,.int .u32 v3,.int .u32 v4,.int .u32 v5,.int .u32 v6,.int .u32 v7,.int .u32 v8]⟩,.string v9,v10] K σ:=k8 da6 Tryz.func243


def da8:Ann:=(.q (.n (.seq (some [(0,.sc (.int .u8)),(8,.b)]) .r (.h)) (.n (.seq (some [(0,.sc (.int .u8)),(17,.b)]) .r (.h)) (.q .z))))
def da9 (v1:Int) (K:KH):s9 :=
 w9 (T:=Int->Bool->s9) (fun v3 x4=>l8 x4 (K (.int .i64 (IntKind.i64.wrap (IntKind.u8.wrap (v3 - 48))))) (w9 (T:=Int->Bool->s9) (fun v6 x7=>l8 x7 (K (.int .i64 (IntKind.i64.wrap ((IntKind.i64.wrap (IntKind.u8.wrap (v6 - 97)))+10)))) (K (.int .i64 (-1)))) (fun j5=>l8 (decide ((v3:Int)>=97)) (j5 v3 (decide ((v3:Int)<=102))) (j5 v3 false)))) (fun j2=>l8 (decide ((v1:Int)>=48)) (j2 v1 (decide ((v1:Int)<=57))) (j2 v1 false))
theorem dD2 (v1:Int):da9 v1 K σ->a8 244 [.int .u8 v1] K σ:=k8 da8 Tryz.func244


def db0:Ann:=(.q (.n (.q (.blk (.loop [(0,.l),(1,.w),(7,.i),(8,.i)] (.q (.n (.cond .z .z) (.n (.blk (.q (.q (.h)))) .r)))))) (.q .z)))
def cs7 (v1:Sl) (v2:Value) (K:KH):s9 :=
 l9 [.sc .slc,.sc .raw,.sc (.int .i64),.sc (.int .i64)] (fun(R3:Sl->Value->Int->Int->s9)=>(fun(v4:Sl) (v5:Value) (x6:Int) (x7:Int)=>l8 (decide ((x7:Int)<x6)) (j0 v4.base (fun b8 o9=>w6 (0<=x7/\x7<((v4.len:Nat):Int)) (l4 (s5 b8 (o9+x7.toNat * 1)) kR (fun x10=>y6 Tryz.prog v5 [x10] kB (fun x11=>l8 x11 (K (.int .i64 x7)) (R3 v4 v5 x6 (IntKind.i64.wrap (x7+1))))))))
 (K (.int .i64 (-1))))) (fun(R12:Sl->Value->Int->Int->s9)=>R12 v1 v2 ((v1.len:Nat):Int) 0)
theorem db1 (v1:Sl) (v2:Value):cs7 v1 v2 K σ->a8 246 [.slice v1.base v1.len v1.cap,v2] K σ:=k8 db0 Tryz.func246


def db2:Ann:=(.q (.n (.q (.h)) (.n (.q (.cond (.q (.seq (some [(0,.s),(5,.sc (.int .i32))]) (.q (.cond .r .z)) (.q .z))) .z)) (.seq (some [(0,.s),(1,.s)]) (.q (.cond (.q (.q (.cond (.n (.q (.blk (.loop [(0,.s),(6,.p),(8,.i)] (.n (.q (.cond .z .z)) (.n (.blk (.q (.h))) .r))))) (.q .z)) .z))) .z)) (.n (.q (.blk (.loop [(1,.s),(45,.p)] (.q (.n (.cond .z .z) (.blk (.q (.q (.h))))))))) (.q .z))))))
def db3 (v1:j1) (v2:j1) (K:KH):s9 :=
 l8 (B8 v2 (⟨⟨[]⟩⟩:j1)) (K (.int .i64 (-1))) (l8 (((v2.size:Nat):Int)==1) (B2 v2 0 (fun c3=>w9 (T:=j1->Int->s9) (fun v5 v6=>d8 270 [.string v5,.int .i32 v6] kI (fun(x7:Int)=>K (.int .i64 x7))) (fun j4=>l8 (decide (((IntKind.i32.wrap (c3.toNat:Int)):Int)>=128)) (j4 v1 65533) (j4 v1 (IntKind.i32.wrap (c3.toNat:Int)))))) (w9 (T:=j1->j1->s9) (fun v9 v10 =>
 M7 Tryz.prog (Instr.range 9 (.string v9)) kP (fun x11=>l9 [.sc .str,.sc .ptr] (fun(R12:j1->u4->s9)=>(fun(v13:j1) (x14:u4)=>M7 Tryz.prog (Instr.next (.pointer x14) true 0) (.opt [.sc (.int .i64),.sc (.int .i32)]) (K (.int .i64 (-1)),(fun(x15:Int) (x16:Int)=>d8 270 [.string v13,.int .i32 x16] kI (fun(x17:Int)=>l8 (decide ((x17:Int)>=0)) (K (.int .i64 x15))
 (R12 v13 x14)))))) (fun(R18:j1->u4->s9)=>R18 v10 x11))) (fun j8=>d8 271 [.int .i64 ((v1.size:Nat):Int)] kB (fun x19=>l8 x19 (d8 253 [.string v2] (.tup [.sc .raw,.sc .bool]) (fun x20 x21 =>
 A9 (.cells ⟨(List.replicate 256 (.bool false))⟩ 251 (0,0)) (fun b22 =>
 t8 251 (.pointer (some ⟨b22,0,none⟩)) (x20) (l8 x21 (l9 [.sc .str,.sc .ptr,.sc (.int .i64)] (fun(R23:j1->u4->Int->s9)=>(fun(v24:j1) (v25:u4) (v26:Int)=>l8 (decide ((v26:Int)<((v24.size:Nat):Int))) (B2 v24 v26 (fun c27=>d8 272 [.pointer v25,.int .u8 (c27.toNat:Int)] kB (fun x28=>l8 x28 (K (.int .i64 v26)) (R23 v24 v25 (IntKind.i64.wrap (v26+1))))))
 (K (.int .i64 (-1))))) (fun(R29:j1->u4->Int->s9)=>R29 v1 (some ⟨b22,0,none⟩) 0)) (j8 v1 v2))))) (j8 v1 v2)))))
theorem dD3 (v1:j1) (v2:j1):db3 v1 v2 K σ->a8 247 [.string v1,.string v2] K σ:=k8 db2 Tryz.func247


def db4:Ann:=(.q (.q (.q (.q (.q (.q (.q (.q (.q (.q (.q (.q .z))))))))))))
def db5 (v1:Int) (v2:Int) (K:KH):s9 :=
 w6 (0<=(32:Int)) (w6 (0<=(32:Int)) (w6 (0<=(32:Int)) (w6 (0<=(32:Int)) (w6 (0<=(32:Int))
 (K (.tuple ⟨[.int .u64 (IntKind.u64.wrap ((IntKind.u64.wrap ((IntKind.u64.wrap ((Int.fdiv v1 (2 ^ min (Int.toNat 32) (IntKind.bits .u64))) * (Int.fdiv v2 (2 ^ min (Int.toNat 32) (IntKind.bits .u64)))))+(Int.fdiv (IntKind.u64.wrap ((IntKind.u64.wrap ((Int.fdiv v1 (2 ^ min (Int.toNat 32) (IntKind.bits .u64))) * (A0 .and .u64 v2 4294967295)))+(Int.fdiv (IntKind.u64.wrap ((A0 .and .u64 v1 4294967295) * (A0 .and .u64 v2 4294967295))) (2 ^ min (Int.toNat 32) (IntKind.bits .u64))))) (2 ^ min (Int.toNat 32) (IntKind.bits .u64)))))+(Int.fdiv (IntKind.u64.wrap ((A0 .and .u64 (IntKind.u64.wrap ((IntKind.u64.wrap ((Int.fdiv v1 (2 ^ min (Int.toNat 32) (IntKind.bits .u64))) * (A0 .and .u64 v2 4294967295)))+(Int.fdiv (IntKind.u64.wrap ((A0 .and .u64 v1 4294967295) * (A0 .and .u64 v2 4294967295))) (2 ^ min (Int.toNat 32) (IntKind.bits .u64))))) 4294967295)+(IntKind.u64.wrap ((A0 .and .u64 v1 4294967295) * (Int.fdiv v2 (2 ^ min (Int.toNat 32) (IntKind.bits .u64))))))) (2 ^ min (Int.toNat 32) (IntKind.bits .u64))))),.int .u64 (IntKind.u64.wrap (v1 * v2))]⟩))))))
theorem dD4 (v1:Int) (v2:Int):db5 v1 v2 K σ->a8 248 [.int .u64 v1,.int .u64 v2] K σ:=k8 db4 Tryz.func248


def db6:Ann:=(.q (.n (.q (.blk (.loop [(0,.l),(1,.s),(7,.i),(8,.i)] (.q (.n (.cond .z .z) (.n (.blk (.q (.q (.h)))) .r)))))) (.q .z)))
def db7 (v1:Sl) (v2:j1) (K:KH):s9 :=
 l9 [.sc .slc,.sc .str,.sc (.int .i64),.sc (.int .i64)] (fun(R3:Sl->j1->Int->Int->s9)=>(fun(v4:Sl) (v5:j1) (x6:Int) (x7:Int)=>l8 (decide ((x7:Int)<x6)) (j0 v4.base (fun b8 o9=>w6 (0<=x7/\x7<((v4.len:Nat):Int)) (l4 (s5 b8 (o9+x7.toNat * 1)) kS (fun(x10:j1)=>l8 (B8 v5 x10) (K (.int .i64 x7)) (R3 v4 v5 x6 (IntKind.i64.wrap (x7+1)))))))
 (K (.int .i64 (-1))))) (fun(R11:Sl->j1->Int->Int->s9)=>R11 v1 v2 ((v1.len:Nat):Int) 0)
theorem dD5 (v1:Sl) (v2:j1):db7 v1 v2 K σ->a8 250 [.slice v1.base v1.len v1.cap,.string v2] K σ:=k8 db6 Tryz.func250


def db8:Ann:=(.q (.n (.q (.blk (.loop [(0,.s),(2,.p),(4,.i)] (.n (.q (.cond .z .z)) (.n (.blk (.q (.n (.q (.h)) .r))) .r))))) (.q .z)))
def db9 (v1:j1) (K:KH):s9 :=
 A9 (.cells ⟨(List.replicate 256 (.bool false))⟩ 251 (0,0)) (fun b2 =>
 l9 [.sc .str,.sc .ptr,.sc (.int .i64)] (fun(R3:j1->u4->Int->s9)=>(fun(v4:j1) (v5:u4) (v6:Int)=>l8 (decide ((v6:Int)<((v4.size:Nat):Int))) (B2 v4 v6 (fun c7=>l8 (decide ((c7.toNat:Int)>=128)) (j0 v5 (fun b8 o9=>l4 (rdA 256 b8 o9) kR (fun x10=>t8 251 (.pointer v5) (x10) (j0 v5 (fun b11 o12=>l4 (rdA 256 b11 o12) kR (fun r13=>K (.tuple ⟨[r13,.bool false]⟩)))))))
 (j0 v5 (fun b14 o15=>w6 (0<=(c7.toNat:Int)/\(c7.toNat:Int)<((256:Nat):Int)) (t8 4 (.pointer (some ⟨b14,o15+(c7.toNat:Int).toNat * 1,none⟩)) (.bool true) (R3 v4 v5 (IntKind.i64.wrap (v6+1)))))))) (j0 v5 (fun b16 o17=>l4 (rdA 256 b16 o17) kR (fun x18=>t8 251 (.pointer v5) (x18) (j0 v5 (fun b19 o20=>l4 (rdA 256 b19 o20) kR (fun r21 =>
 K (.tuple ⟨[r21,.bool true]⟩))))))))) (fun(R22:j1->u4->Int->s9)=>R22 v1 (some ⟨b2,0,none⟩) 0))
theorem dD6 (v1:j1):db9 v1 K σ->a8 253 [.string v1] K σ:=k8 db8 Tryz.func253


def dc0:Ann:=(.q (.q .z))
def dc1 (v1:Value) (K:KH):s9 :=
 y6 Tryz.prog v1 [] kB (fun x2=>K (.bool (!x2)))
theorem dD7 (v1:Value):dc1 v1 K σ->a8 264 [v1] K σ:=k8 dc0 Tryz.func264


def dc2:Ann:=(.q (.n (.q (.blk (.loop [(0,.l),(1,.w),(7,.i),(8,.i)] (.q (.n (.cond .z .z) (.n (.blk (.q (.q (.h)))) .r)))))) (.q .z)))
def dc3 (v1:Sl) (v2:Value) (K:KH):s9 :=
 l9 [.sc .slc,.sc .raw,.sc (.int .i64),.sc (.int .i64)] (fun(R3:Sl->Value->Int->Int->s9)=>(fun(v4:Sl) (v5:Value) (x6:Int) (x7:Int)=>l8 (decide ((x7:Int)<x6)) (j0 v4.base (fun b8 o9=>w6 (0<=x7/\x7<((v4.len:Nat):Int)) (l4 (rdA 2 b8 (o9+x7.toNat * 2)) (.one (.agg [.str,.str])) (fun(x10:j1) (x11:j1)=>y6 Tryz.prog v5 [.agg ⟨[.string x10,.string x11]⟩] kB (fun x12=>l8 x12 (K (.int .i64 x7))
 (R3 v4 v5 x6 (IntKind.i64.wrap (x7+1)))))))) (K (.int .i64 (-1))))) (fun(R13:Sl->Value->Int->Int->s9)=>R13 v1 v2 ((v1.len:Nat):Int) 0)
theorem dD8 (v1:Sl) (v2:Value):dc3 v1 v2 K σ->a8 265 [.slice v1.base v1.len v1.cap,v2] K σ:=k8 dc2 Tryz.func265


def dc4:Ann:=(.n (.reg [0,1,2,3,4,5,6,7,9,10,11,12,8,13,14,15] [[],[0],[0,1],[0,1,2],(rn 4),(rn 5),[],(rn 7),(rn 8),[],[9],[9,10],[9,10,11],[9,10,11,12],(rn 14),(rn 15)]) (.q .r))
def dc5 (v1:u4) (v2:Int) (K:KH):s9 :=
 j0 v1 (fun b3 o4=>l4 (s5 b3 (o4+1)) kL (fun x5=>j0 v1 (fun b6 o7=>l4 (s5 b6 (o7+1)) kL (fun x8=>y6 Tryz.prog (.func (.func 277) ⟨[]⟩ ⟨[]⟩) [.int .i64 (IntKind.i64.wrap ((IntKind.i64.wrap (2 * ((x5.cap:Nat):Int)))+v2))] kL (fun x9=>A2 (fun σ=>(s5 b6 (o7+1)) σ=some (.slice x8.base x8.len x8.cap)) (w6 (A1 (some ((x8.len:Nat):Int)) x9.cap/\A1 none (((x8.len:Nat):Int).toNat)) (j0 v1 (fun b10 o11=>l4 (s5 b10 (o11+1)) kL (fun x12 =>
 Q4 .copy #[36,36] 3 [false,false] [.slice (F8 x9.base 0 x9.cap 1) ((((x8.len:Nat):Int).toNat) - 0) (x9.cap - 0),.slice x12.base x12.len x12.cap] kI (fun(_x13:Int)=>j0 v1 (fun b14 o15=>t8 36 (.pointer (some ⟨b14,o15+1,none⟩)) (.slice (F8 x9.base 0 x9.cap 1) ((((x8.len:Nat):Int).toNat) - 0) (x9.cap - 0)) (K (.tuple ⟨[]⟩)))))))))))))
theorem dD9 (v1:u4) (v2:Int):dc5 v1 v2 K σ->a8 266 [.pointer v1,.int .i64 v2] K σ:=k8 dc4 Tryz.func266


def dc6:Ann:=(.q (.q (.q (.q (.q (.q (.seq (some [(1,.sc (.int .u64)),(8,.sc (.int .u64)),(9,.sc (.int .u64)),(11,.sc (.int .u64)),(12,.sc (.int .u64))]) (.q (.cond .r .z)) (.q (.n (.q (.h)) (.q (.q .z)))))))))))
def dc7 (v1:Int) (v2:Int) (K:KH):s9 :=
 d8 268 [.int .u64 v1,.int .u64 v1] (.tup [.sc (.int .u64),.sc (.int .u64)]) (fun(x3:Int) (x4:Int)=>d8 268 [.int .u64 x4,.int .u64 v1] (.tup [.sc (.int .u64),.sc (.int .u64)]) (fun(x5:Int) (x6:Int)=>d8 268 [.int .u64 x3,.int .u64 v1] (.tup [.sc (.int .u64),.sc (.int .u64)]) (fun(x7:Int) (x8:Int)=>w9 (T:=Int->Int->Int->Int->Int->s9) (fun v10 l1_11 h2_12 v13 v14 =>
 l8 (decide (((IntKind.u64.wrap (h2_12+v14)):Int)>0)) (K (.bool true)) (w6 (0<=(32:Int)) (l8 (decide ((v13:Int)>(IntKind.u64.wrap (v10 * 2 ^ min (Int.toNat 32) (IntKind.bits .u64))))) (K (.bool true)) (l8 ((v13:Int)==(IntKind.u64.wrap (v10 * 2 ^ min (Int.toNat 32) (IntKind.bits .u64)))) (K (.bool (decide ((l1_11:Int)>0)))) (K (.bool false)))))) (fun j9=>l8 (decide (((IntKind.u64.wrap (x5+x8)):Int)<x5)) (j9 v2 x6 x7 (IntKind.u64.wrap (x5+x8)) 1)
 (j9 v2 x6 x7 (IntKind.u64.wrap (x5+x8)) 0)))))
theorem dE0 (v1:Int) (v2:Int):dc7 v1 v2 K σ->a8 267 [.int .u64 v1,.int .u64 v2] K σ:=k8 dc6 Tryz.func267


def dc8:Ann:=(.q (.q (.q (.q (.q (.q (.q (.q .z))))))))
def dc9 (v1:Int) (v2:Int) (K:KH):s9 :=
 w6 (0<=(32:Int)) (w6 (0<=(32:Int)) (w6 (0<=(32:Int)) (w6 (0<=(32:Int)) (w6 (0<=(32:Int)) (w6 (0<=(32:Int)) (w6 (0<=(32:Int))
 (K (.tuple ⟨[.int .u64 (IntKind.u64.wrap ((IntKind.u64.wrap ((IntKind.u64.wrap ((IntKind.u64.wrap ((Int.fdiv v1 (2 ^ min (Int.toNat 32) (IntKind.bits .u64))) * (Int.fdiv v2 (2 ^ min (Int.toNat 32) (IntKind.bits .u64)))))+(Int.fdiv (IntKind.u64.wrap ((A0 .and .u64 v1 4294967295) * (Int.fdiv v2 (2 ^ min (Int.toNat 32) (IntKind.bits .u64))))) (2 ^ min (Int.toNat 32) (IntKind.bits .u64)))))+(Int.fdiv (IntKind.u64.wrap ((Int.fdiv v1 (2 ^ min (Int.toNat 32) (IntKind.bits .u64))) * (A0 .and .u64 v2 4294967295))) (2 ^ min (Int.toNat 32) (IntKind.bits .u64)))))+(Int.fdiv (IntKind.u64.wrap ((IntKind.u64.wrap ((Int.fdiv (IntKind.u64.wrap ((A0 .and .u64 v1 4294967295) * (A0 .and .u64 v2 4294967295))) (2 ^ min (Int.toNat 32) (IntKind.bits .u64)))+(A0 .and .u64 (IntKind.u64.wrap ((A0 .and .u64 v1 4294967295) * (Int.fdiv v2 (2 ^ min (Int.toNat 32) (IntKind.bits .u64))))) 4294967295)))+(A0 .and .u64 (IntKind.u64.wrap ((Int.fdiv v1 (2 ^ min (Int.toNat 32) (IntKind.bits .u64))) * (A0 .and .u64 v2 4294967295))) 4294967295))) (2 ^ min (Int.toNat 32) (IntKind.bits .u64))))),.int .u64 (A0 .or .u64 (IntKind.u64.wrap ((IntKind.u64.wrap ((IntKind.u64.wrap ((Int.fdiv (IntKind.u64.wrap ((A0 .and .u64 v1 4294967295) * (A0 .and .u64 v2 4294967295))) (2 ^ min (Int.toNat 32) (IntKind.bits .u64)))+(A0 .and .u64 (IntKind.u64.wrap ((A0 .and .u64 v1 4294967295) * (Int.fdiv v2 (2 ^ min (Int.toNat 32) (IntKind.bits .u64))))) 4294967295)))+(A0 .and .u64 (IntKind.u64.wrap ((Int.fdiv v1 (2 ^ min (Int.toNat 32) (IntKind.bits .u64))) * (A0 .and .u64 v2 4294967295))) 4294967295))) * 2 ^ min (Int.toNat 32) (IntKind.bits .u64))) (A0 .and .u64 (IntKind.u64.wrap ((A0 .and .u64 v1 4294967295) * (A0 .and .u64 v2 4294967295))) 4294967295))]⟩))))))))
theorem dE1 (v1:Int) (v2:Int):dc9 v1 v2 K σ->a8 268 [.int .u64 v1,.int .u64 v2] K σ:=k8 dc8 Tryz.func268


def dd0:Ann:=(.q (.n (.reg (rn 9) [[],[],[0,1],[],[],[4],[3,4,5],(rn 7),(rn 8)]) .z))
def dd1 (v1:Int) (v2:Int) (K:KH):s9 :=
 w6 (0<=v2) (w6 (0<=(IntKind.i64.wrap (32 - v2))) (K (.int .u32 (A0 .or .u32 (Int.fdiv v1 (2 ^ min (Int.toNat v2) (IntKind.bits .u32))) (IntKind.u32.wrap (v1 * 2 ^ min (Int.toNat (IntKind.i64.wrap (32 - v2))) (IntKind.bits .u32)))))))
theorem dE2 (v1:Int) (v2:Int):dd1 v1 v2 K σ->a8 269 [.int .u32 v1,.int .i64 v2] K σ:=k8 dd0 Tryz.func269


def dd2:Ann:=(.q (.blk (.seq (some [(0,.s),(1,.sc (.int .i32)),(160,.b)]) .r (.cond (.q .z) (.q (.cond (.n (.q (.blk (.loop [(175,.p)] (.q (.n (.cond .z .z) (.blk (.q (.q (.h))))))))) (.q .z)) (.q (.cond (.q .z) (.blk (.q (.q (.q (.q (.n (.blk (.loop [(0,.s),(7,.s),(8,.i),(9,.i)] (.n (.q (.cond .z .z)) (.blk (.blk (.seq (some [(0,.s),(7,.s),(8,.i),(9,.i)]) (.n (.reg (rn 7) [[],[],[0,1],[],[],[3,4],(rn 6)]) (.cond (.n (.reg (rn 9) [[],[],[1],[0,1,2],[],[],[4,5],(rn 7),(rn 8)]) (.n (.q (.h)) .r)) .z)) (.n (.q (.blk (.loop [(0,.s),(7,.s),(8,.i),(9,.i),(12,.i)] (.n (.q (.cond .z .z)) (.n (.blk (.n (.reg (rn 11) [[],[],[],[1,2],(rn 4),[],[],[],[6,7],[5,6,7,8],(rn 10)]) (.cond .z .z))) .r))))) (.n (.q .z) (.n .z (.q (.q (.q (.cond .z .z))))))))))))) (.n (.q .z) (.n .z (.n (.cond (.q (.q (.h))) (.blk (.q (.q (.n .z (.blk (.loop [] (.n (.q (.cond .z .z)) (.n (.blk (.q (.cond (.n (.q (.blk (.loop [] (.n (.q (.cond .z .z)) (.n (.blk (.q (.cond .z .z))) .r))))) (.q .z)) .z))) .r))))))))) (.q .z))))))))))))))))))
def dd3 (v1:j1) (v2:Int) (K:KH):s9 :=
 w9 (T:=j1->Int->Bool->s9) (fun v4 v5 x6=>l8 x6 (d8 116 [.string v4,.int .u8 (IntKind.u8.wrap v5)] kI (fun(x7:Int)=>K (.int .i64 x7))) (l8 ((v5:Int)==65533) (M7 Tryz.prog (Instr.range 9 (.string v4)) kP (fun x8=>l9 [.sc .ptr] (fun(R9:u4->s9)=>(fun x10=>M7 Tryz.prog (Instr.next (.pointer x10) true 0) (.opt [.sc (.int .i64),.sc (.int .i32)]) (K (.int .i64 (-1)),(fun(x11:Int) (x12:Int) =>
 l8 ((x12:Int)==65533) (K (.int .i64 x11)) (R9 x10))))) (fun(R13:u4->s9)=>R13 x8))) (d8 278 [.int .i32 v5] kB (fun x14=>l8 (!x14) (K (.int .i64 (-1))) (M7 Tryz.prog (convert 21 9 (.int .i32 v5)) kS (fun(x15:j1)=>l9 [.sc .str,.sc .str,.sc (.int .i64),.sc (.int .i64)] (fun(R16:j1->j1->Int->Int->s9)=>(fun(v17:j1) (v18:j1) (v19:Int) (v20:Int) =>
 l8 (decide ((v20:Int)<((v17.size:Nat):Int))) (w9 (T:=j1->j1->Int->Int->s9) (fun v22 v23 v24 v25=>l9 [.sc .str,.sc .str,.sc (.int .i64),.sc (.int .i64),.sc (.int .i64)] (fun(R26:j1->j1->Int->Int->Int->s9)=>(fun(v27:j1) (v28:j1) (v29:Int) (v30:Int) (v31:Int)=>l8 (decide ((v31:Int)<((v28.size:Nat):Int))) (B2 v27 (IntKind.i64.wrap (v30 - v31)) (fun c32 =>
 B2 v28 (IntKind.i64.wrap (v29 - v31)) (fun c33=>l8 ((c32.toNat:Int) != (c33.toNat:Int)) (nW) (R26 v27 v28 v29 v30 (IntKind.i64.wrap (v31+1)))))) (K (.int .i64 (IntKind.i64.wrap (v30 - v29)))))) (fun(R34:j1->j1->Int->Int->Int->s9)=>R34 v22 v23 v24 v25 1)) (fun j21=>B2 v17 v20 (fun c35=>B2 v18 v19 (fun c36=>l8 ((c35.toNat:Int) != (c36.toNat:Int))
 (w6 (A1 none v17.size/\A1 (some (IntKind.i64.wrap (v20+1))) (v17.size)) (B2 v18 v19 (fun c37=>d8 116 [.string (v17.extract ((IntKind.i64.wrap (v20+1)).toNat) v17.size),.int .u8 (c37.toNat:Int)] kI (fun(x38:Int)=>l8 (decide ((x38:Int)<0)) (K (.int .i64 (-1))) (j21 v17 v18 v19 (IntKind.i64.wrap (v20+(IntKind.i64.wrap (x38+1))))))))) (j21 v17 v18 v19 v20)))))
 (K (.int .i64 (-1))))) (fun(R39:j1->j1->Int->Int->s9)=>R39 v4 x15 (IntKind.i64.wrap (((x15.size:Nat):Int) - 1)) (IntKind.i64.wrap (((x15.size:Nat):Int) - 1))))))))) (fun j3=>l8 (decide ((0:Int)<=v2)) (j3 v1 v2 (decide ((v2:Int)<128))) (j3 v1 v2 false))
theorem dE3 (v1:j1) (v2:Int):dd3 v1 v2 K σ->a8 270 [.string v1,.int .i32 v2] K σ:=k8 dd2 Tryz.func270


def dd4:Ann:=(.q (.q .z))
def dd5 (v1:Int) (K:KH):s9 :=
 K (.bool (decide ((v1:Int)>8)))
theorem dE4 (v1:Int):dd5 v1 K σ->a8 271 [.int .i64 v1] K σ:=k8 dd4 Tryz.func271


def dd6:Ann:=(.q (.q .z))
def dd7 (v1:u4) (v2:Int) (K:KH):s9 :=
 j0 v1 (fun b3 o4=>w6 (0<=v2/\v2<((256:Nat):Int)) (l4 (s5 b3 (o4+v2.toNat * 1)) kB (fun x5=>K (.bool x5))))
theorem dE5 (v1:u4) (v2:Int):dd7 v1 v2 K σ->a8 272 [.pointer v1,.int .u8 v2] K σ:=k8 dd6 Tryz.func272


def dd8:Ann:=(.q (.n (.blk (.seq (some [(0,.sc (.int .i32)),(3,.b)]) .r (.cond (.q .z) (.seq (some [(10,.b)]) .r (.h))))) (.q .z)))
def dd9 (v1:Int) (K:KH):s9 :=
 w9 (T:=Int->Bool->s9) (fun v3 x4=>l8 x4 (K (.bool true)) (w9 (T:=Bool->s9) (fun x6=>l8 x6 (K (.bool true)) (K (.bool false))) (fun j5=>l8 (decide ((57343:Int)<v3)) (j5 (decide ((v3:Int)<=1114111))) (j5 false)))) (fun j2=>l8 (decide ((0:Int)<=v1)) (j2 v1 (decide ((v1:Int)<55296))) (j2 v1 false))
theorem dE6 (v1:Int):dd9 v1 K σ->a8 278 [.int .i32 v1] K σ:=k8 dd8 Tryz.func278

end Go.Proofs.YtgfiobhpipollaaGreatDoor

namespace Go.Proofs.YtgfiobhpipollaaGreatDoor
open Go Go.HL
end Go.Proofs.YtgfiobhpipollaaGreatDoor

set_option maxRecDepth 100000
namespace Go.Proofs.YtgfiobhpipollaaGreatDoor
open Go Go.HL Go.Wk
attribute [local irreducible] j0 w6 l8 A2 l4 A9 w9 U3 V0 R1 M7 V2 C1 y6 app A4 C9 u7 sizeT oW H8 F2 l9 U5 H2 G1 y9 V1 B2 Gr L6
structure Nd where
 blk:Nat
 kind:Int
 mode:Int
 data:ByteArray
 links:Int
 up:Int
 eb:Option Nat
 ents:List (ByteArray×Int)
structure Tb where
 qi:Int
 qb:Int
 ui:Int
 ub:Int
 last:Int
 mb:Nat
 nodes:List (Int×Nd)
def aj9 (n:Int):Value := .int .i64 n
def Tb.get (T:Tb) (ino:Int):Option Nd:=lk ino T.nodes
def Tb.find (T:Tb) (dir:Int) (name:ByteArray):Option Int:=(T.get dir).bind fun n=>lk name n.ents
def Tb.up (T:Tb) (dir:Int):Int:=((T.get dir).map (·.up)).getD 0
theorem bP7:sizeT Tryz.prog 3=some 1:=by kernel_rfl
theorem aI7:sizeT Tryz.prog 4=some 1:=by kernel_rfl
theorem n0 {x:Int} (h1:-9223372036854775808<=x) (h2:x<=9223372036854775807):IntKind.i64.wrap x=x:=by
 rw[IntKind.wrap_i64];omega
theorem ap0:Tryz.prog.underlying 9=some .string:=by kernel_rfl
def de0:Prop := ∀ (s:ByteArray) (σ:H) (K:KH),(∀n:Int,(decide (n<0) = !aj2 s)->K (.int .i64 n) σ)->a8 116 [.string s,.int .u8 0] K σ
def dE7:Prop := ∀ (s:ByteArray) (_:s.size<=1000000) (σ:H) (K:KH),K (.bool (P1 s)) σ->a8 212 [.string s,.string ⟨⟨[47,0]⟩⟩] K σ
theorem C7 {i:Nat} (h:i<9000000000000000000:=by omega):IntKind.i64.wrap ((i:Int)+1)=((i+1:Nat):Int):=by rw[n0 (by omega) (by omega)];omega
structure Own (T:Tb):Prop where
 blk : ∀i j n m,T.get i=some n->T.get j=some m->n.blk=m.blk->i=j
 eb : ∀i j n m e,T.get i=some n->T.get j=some m->n.eb=some e->m.eb=some e->i=j
 mb : ∀i n,T.get i=some n->n.eb≠some T.mb
def Tb.set (T:Tb) (i:Int) (n:Nd):Tb:={ T with nodes:=HL.up i n T.nodes }
theorem get_set (T:Tb) (i j:Int) (n:Nd):(T.set i n).get j=if j=i then some n else T.get j:=by
 unfold Tb.set Tb.get;simp only[aL2]
 by_cases h:j=i<;>simp[h]
section
variable {σ σ' : H} {bt : Nat} {T : Tb} {b : Nat} {o : Obj}
theorem Own.same {T':Tb} (h:Own T) (h1:T'.mb=T.mb) (h2:T'.nodes=T.nodes):Own T':=by
 have hg : ∀i,T'.get i=T.get i:=by intro i;unfold Tb.get;rw[h2]
 refine⟨?_,?_,?_⟩
 ·intro i j n m;rw[hg,hg];exact h.blk i j n m
 ·intro i j n m e;rw[hg,hg];exact h.eb i j n m e
 ·intro i n;rw[hg,h1];exact h.mb i n
theorem Own.set (ho:Own T) {i:Int} {n n':Nd} (hn:T.get i=some n) (h1:n'.blk=n.blk) (h2:n'.eb=n.eb):Own (T.set i n'):=by
 have key : ∀j m,(T.set i n').get j=some m -> ∃m',T.get j=some m'/\m.blk=m'.blk/\m.eb=m'.eb:=by
  intro j m hm
  rw[get_set]at hm
  by_cases e:j=i
  ·rw[d9 e]at hm;cases hm;subst e;exact⟨n,hn,h1,h2⟩
  ·rw[c0 e]at hm;exact⟨m,hm,rfl,rfl⟩
 refine⟨?_,?_,?_⟩
 ·intro a c x y hx hy hb
  obtain⟨x',hx',e1,_⟩:=key a x hx
  obtain⟨y',hy',e2,_⟩:=key c y hy
  exact ho.blk a c x' y' hx' hy' (by rw[<-e1,<- e2];exact hb)
 ·intro a c x y e hx hy h3 h4
  obtain⟨x',hx',_,e1⟩:=key a x hx
  obtain⟨y',hy',_,e2⟩:=key c y hy
  exact ho.eb a c x' y' e hx' hy' (by rw[<-e1];exact h3) (by rw[<-e2];exact h4)
 ·intro a x hx
  obtain⟨x',hx',_,e1⟩:=key a x hx
  rw[e1];exact ho.mb a x' hx'
end
end Go.Proofs.YtgfiobhpipollaaGreatDoor

set_option maxRecDepth 100000
namespace Go.Proofs.YtgfiobhpipollaaGreatDoor
open Go Go.HL Go.Wk
theorem cs8:I3 Tryz.prog 213=false:=by kernel_rfl
theorem cs9 : (Tryz.prog.funcs[213]?).map (fun fn => ((fn.name == "runtime.NumGoroutine"), fn.body.isNone)) = some (false, true) := by kernel_rfl
theorem ct0:(Tryz.prog.funcs[213]?).bind (fun fn=>Extern.find fn)=some Extern.BytealgIndexByte.indexByte:=by kernel_rfl
theorem ct3:(Tryz.prog.funcs[213]?).map (fun fn=>(Extern.findNext fn).isNone)=some true:=by kernel_rfl
theorem cm5 (s:ByteArray) (c:Int) {σ:H} {F:Int->H->Prop} (hF:F (firstIdx s c.toNat.toUInt8) σ):y6 Tryz.prog (.func (.func 213) ⟨[]⟩ ⟨[]⟩) [.string s,.int .u8 c] kI F σ:=by
 unfold y6 u7
 simp only[cs8]
 intro w hw
 have h1:=cs9
 have h2:=ct0
 have h3:=ct3
 cases hf:Tryz.prog.funcs[213]? with
 | none=>rw[hf]at h1;cases h1
 | some fn =>
  rw[hf]at h1 h2 h3
  simp only[Option.map_some,Option.some.injEq,Prod.mk.injEq,Option.bind_some]at h1 h2 h3
  have hr:=run_callFunc_indexByte hf h1.1 h1.2 (Option.isNone_iff_eq_none.1 h3) h2 #[.string s,.int .u8 c] w
  rw[run_indexByte_string]at hr
  have:(Y0 (.func (.func 213) ⟨[]⟩ ⟨[]⟩) [.string s,.int .u8 c]).run Tryz.prog w = .ok (.value (.int .i64 (firstIdx s c.toNat.toUInt8))) w:=by
   refine Eq.trans ?_ hr
   simp[Y0,Deferred.ofValue,invoke]
  rw[this]
  exact⟨σ,I0.refl hw,B6 hF⟩
theorem aG9 (s:ByteArray) (c:UInt8):decide (firstIdx s c<0) = !(s.toList.any fun x=>x==c):=by
 have key:(∃i,i<s.size/\s[i]! = c)↔c∈s.toList:=by
  rw[ByteArray.toList_eq]
  constructor
  ·rintro ⟨i,hi,he⟩
   rw[getElem!_pos s i hi]at he
   rw[<-he]
   exact Array.getElem_mem_toList (xs:=s.data) hi
  ·intro h
   obtain⟨i,hi,he⟩:=List.getElem_of_mem h
   have hi':i<s.data.size:=by simpa using hi
   refine⟨i,hi',?_⟩
   rw[getElem!_pos s i hi',<- he]
   simp[ByteArray.getElem_eq_getElem_data]
 unfold firstIdx
 cases hf:(List.range s.size).find? fun i=>s[i]! == c with
 | some i =>
  have h1:=List.find?_some hf
  have h2:=List.mem_of_find?_eq_some hf
  have:c∈s.toList:=key.1 ⟨i,by simpa using h2,by simpa using h1⟩
  have h3:(s.toList.any fun x=>x==c)=true:=List.any_eq_true.2 ⟨c,this,by simp⟩
  rw[h3]
  simp
 | none =>
  have h1:=List.find?_eq_none.1 hf
  have h3:(s.toList.any fun x=>x==c)=false:=by
   rw[List.any_eq_false]
   intro x hx hxc
   have:x=c:=by simpa using hxc
   subst this
   obtain⟨i,hi,he⟩:=key.2 hx
   exact h1 i (by simpa using hi) (by simpa using he)
  rw[h3];rfl
theorem aa1 (s:ByteArray) (c:Int) {σ:H} {K:KH} (hK:K (.int .i64 (firstIdx s c.toNat.toUInt8)) σ):a8 116 [.string s,.int .u8 c] K σ:=by
 refine du1 _ _ ?_
 unfold cH1
 refine i7 ?_
 refine cP7 _ _ ?_
 unfold cs2
 exact cm5 s c (B6 hK)
theorem de1:de0:=by
 intro s σ K hK
 refine aa1 s 0 (hK _ ?_)
 have:=aG9 s 0
 rw[ByteArray.toList_eq]at this
 exact this
end Go.Proofs.YtgfiobhpipollaaGreatDoor

