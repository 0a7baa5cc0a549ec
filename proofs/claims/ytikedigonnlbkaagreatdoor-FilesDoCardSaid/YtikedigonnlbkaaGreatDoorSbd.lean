/- A part of a proof. -/
import Derived.Test.YtikedigonnlbkaaGreatDoorSbc
import Derived.Test.YtikedigonnlbkaaGreatDoorChecked
import Derived.IntWalk
import Derived.Laws.StandIn
set_option maxRecDepth 100000
namespace Go.Proofs.YtikedigonnlbkaaGreatDoor
open Go Go.HL
section
variable {K:KH} {Y:H}
def cH2:Ann:=(.q (.n (.q (.blk (.loop (dlN 0x39034013009002) (.n (.q (.cond .z .z)) (.seq (some (dlN 0x39034013009002)) (.blk (.q (.cond .r .z))) .r))))) .r))
def cH3(O:m9)(P:Int)(Q:d9)(K:KH):C2 :=
 C9 [.p,.i,.s,.l,.i] (fun o=>(fun c d e b (a:Int)=>dQ4 c 2 kL (fun f=>dR2 f.base f.len d kP (fun q=>dQ4 q 3 kL (fun r=>A0 (decide (a<(r.len:Int))) (C0 (T:=m9->Int->d9->Sl->Int->C2) (fun t u v w x=>o t u v w (IntKind.i64.wrap (x+1))) (fun g=>dQ4 c 2 kL (fun h=>dR2 h.base h.len d kP (fun y=>dQ4 y 3 kL (fun j=>i9 j.base (fun z A=>E3 (0<=a/\a<(j.len:Int)) (l8 (m8 z (A+a.toNat*2)) kS (fun B=>A0 (!C3 B e) (dQ4 c 2 kL (fun k=>dR2 k.base k.len d kP (fun C=>dQ4 C 3 kL (fun m=>i9 m.base (fun D E=>E3 (0<=a/\a<(m.len:Int)) (l8 (rdA 2 D (E+a.toNat*2)) dT1 (fun F G=>H0 (.c [.s F,.i G] 140) (fun H=>ac9 .append #[76,76] 76 [false,false] [.slice b.base b.len b.cap,.slice (gp H) 1 1] kL (fun I=>g c d e I a))))))))) (g c d e b a))))))))) (dQ4 c 2 kL (fun n=>dR2 n.base n.len d kP (fun J=>i9 J (fun L M=>A3 76 (.p (some ⟨L,M+3,none⟩)) (.slice b.base b.len b.cap) (K (.t []))))))))))) (fun N=>N O P Q ⟨none,0,0⟩ 0)
theorem dp6(v1:m9)(v2:Int)(v3:d9):cH3 v1 v2 v3 K Y->i7 100 [.p v1,.i v2,.s v3] K Y:=q9 cH2 Tryz.func100


def cH4:Ann:=(.q (.cond .r .z))
def cH5(c:m9)(a:Int)(K:KH):C2 :=
 i6 110 [.p c,.i a] kI (fun (d:Int)=>A0 (d==0) (dQ4 c 2 kL (fun b=>i9 b.base (fun e f=>E3 (0<=a/\a<(b.len:Int)) (A3 75 (.p (some ⟨e,f+a.toNat*1,none⟩)) (.p none) (K (.t [])))))) (K (.t [])))
theorem dp7(v1:m9)(v2:Int):cH5 v1 v2 K Y->i7 101 [.p v1,.i v2] K Y:=q9 cH4 Tryz.func101


def cH6:Ann:=(.k 2 (.n (.q (.blk (.loop (dlN 0x5104d044019013009002) (.n (.q (.cond .z .z)) (.n (.blk (.q (.seq (some (dlN 0x17616e16615e05a05104d044019013009002)) (.o (dlN 0x17d17616e16615e05a05104d044019013009002) (.cond (.q .r) .z)) .r))) .r))))) (.seq (some (dlN 0x44019009002)) (.q (.cond .r .z)) (.k 2 (.cond .r .z)))))
def cH7(bf:m9)(bg:Int)(bh:d9)(bi:Int)(K:KH):C2 :=
 C9 [.p,.i,.s,.i,.l,.b,.i] (fun O=>(fun a c d g e j (f:Int)=>dQ4 a 2 kL (fun u=>dR2 u.base u.len c kP (fun P=>dQ4 P 3 kL (fun Q=>A0 (decide (f<(Q.len:Int))) (dQ4 a 2 kL (fun v=>dR2 v.base v.len c kP (fun R=>dQ4 R 3 kL (fun w=>i9 w.base (fun S U=>E3 (0<=f/\f<(w.len:Int)) (l8 (rdA 2 S (U+f.toNat*2)) dT1 (fun W X=>H0 (.c [.s gq,.i 0] 140) (fun h=>A3 140 (.q h) (.g [.s W,.i X]) (C0 (T:=m9->Int->d9->Int->Sl->Bool->Int->m9->u9->u9->u9->u9->C2) (fun Z aa ab ac m ad ae af bb bc bd be=>dR0 af 2 dT1 (fun ag ah=>H0 (.c [.s ag,.i ah] 140) (fun ai=>ac9 .append #[76,76] 76 [false,false] [.slice m.base m.len m.cap,.slice (gp ai) 1 1] kL (fun aj=>O Z aa ab ac aj ad (IntKind.i64.wrap (ae+1)))))) (fun x=>C0 (T:=m9->Int->d9->Int->Sl->Bool->Int->m9->u9->u9->u9->u9->Bool->C2) (fun y z n o k ak A B C D E F al=>A0 al (H0 (.c [.s n,.i o] 140) (fun am=>ac9 .append #[76,76] 76 [false,false] [.slice k.base k.len k.cap,.slice (gp am) 1 1] kL (fun an=>x y z n o an true A B C D E F))) (x y z n o k ak A B C D E F)) (fun G=>A0 (!j) (l8 (m8 h 0) kS (fun q=>G a c d g e j f (gp h) (.s d) (.q h) (.s q) (.bool (aC4 d q)) (aC4 d q))) (G a c d g e j f (gp h) (.t []) (.t []) (.t []) (.t []) false)))))))))))) (C0 (T:=m9->Int->Int->Sl->C2) (fun r H I t=>dQ4 r 2 kL (fun J=>dR2 J.base J.len H kP (fun ao=>i9 ao (fun ap aq=>A3 76 (.p (some ⟨ap,aq+3,none⟩)) (.slice t.base t.len t.cap) (dQ4 r 2 kL (fun L=>dR2 L.base L.len I kP (fun ar=>dQ6 ar kI (fun (au:Int)=>A0 (au==2) (dQ4 r 2 kL (fun M=>dR2 M.base M.len I kP (fun av=>i9 av (fun aw ax=>A3 3 (.p (some ⟨aw,ax+4,none⟩)) (.i H) (K (.t [])))))) (K (.t [])))))))))) (fun N=>A0 (!j) (H0 (.c [.s d,.i g] 140) (fun ay=>ac9 .append #[76,76] 76 [false,false] [.slice e.base e.len e.cap,.slice (gp ay) 1 1] kL (fun az=>N a c g az))) (N a c g e)))))))) (fun ba=>ba bf bg bh bi ⟨none,0,0⟩ false 0)
theorem dp8(v1:m9)(v2:Int)(v3:d9)(v4:Int):cH7 v1 v2 v3 v4 K Y->i7 102 [.p v1,.i v2,.s v3,.i v4] K Y:=q9 cH6 Tryz.func102


def cH8:Ann:=(.k 2 (.n (.q .h) (.n (.q .h) (.q .z))))
def cH9(a:m9)(k:d9)(l:d9)(K:KH):C2 :=
 i6 67 [.p a,.s k,.s l,.bool true] dT0 (fun (b:Int) (c:Int)=>A0 (c != 0) (K (.t [.s gq,.i c])) (dQ4 a 2 kL (fun d=>dR2 d.base d.len b kP (fun f=>dQ6 f kI (fun (g:Int)=>A0 (g==2) (K (.t [.s gq,.i 7])) (dQ4 a 2 kL (fun e=>dR2 e.base e.len b kP (fun h=>dQ4 h 2 kS (fun j=>K (.t [.s j,.i 0]))))))))))
theorem dp9(v1:m9)(v2:d9)(v3:d9):cH9 v1 v2 v3 K Y->i7 103 [.p v1,.s v2,.s v3] K Y:=q9 cH8 Tryz.func103


def cI0:Ann:=(.q (.n (.reg (rn 16) (mkR [0,1,3,7,0,16,48,112,240,0,1023,2047,4095,4095,8191,32767])) (.n (.reg (rn 16) (mkR [0,1,3,7,0,16,48,112,240,0,1023,2047,4095,4095,8191,32767])) (.seq (some (dlN 0x5104b04103b)) (.q (.cond (.reg (rn 17) (mkR [0,1,3,7,0,16,48,112,240,0,512,2047,4095,8191,8191,16383,65535])) .z)) (.n (.o (dlN 0x1ed04b03b) .h) (.q .z))))))
def cI1(b:m9)(E:d9)(r:d9)(K:KH):C2 :=
 dQ6 b kP (fun n=>dQ4 b 4 kS (fun o=>i6 157 [.p n,.s o,.s E] dS8 (fun d e=>dQ6 b kP (fun p=>dQ4 b 4 kS (fun q=>i6 157 [.p p,.s q,.s r] dS8 (fun t (f:Int)=>C0 (T:=d9->Int->d9->Int->C2) (fun g u h v=>C0 (T:=dY0) (fun a c w=>A0 w (K (.bool false)) (A0 (C3 a c) (K (.bool true)) (A0 (C3 a ((bs [47]):d9)) (K (.bool true)) (A0 (decide ((c.size:Int)>(a.size:Int))) (E3 (E1 (some (IntKind.i64.wrap ((a.size:Int)+1))) c.size/\E1 none ((IntKind.i64.wrap ((a.size:Int)+1)).toNat)) (E3 (a.size+((bs [47]):d9).size<=9223372036854775807) (K (.bool (C3 (c.extract 0 ((IntKind.i64.wrap ((a.size:Int)+1)).toNat)) (a++(bs [47]))))))) (K (.bool false)))))) (fun j=>A0 ((u:Int) != 0) (j g h true) (j g h ((v:Int) != 0)))) (fun k=>A0 (f != 0) (dQ7 b kP (fun x y l=>dQ5 b 4 kS (fun z A m=>i6 158 [.s r] kS (fun B=>I9 (fun Y=>(m8 z (A+4)) Y=some (.s m)) (I9 (fun Y=>(m8 x y) Y=some (.p l)) (i6 157 [.p l,.s m,.s B] dS8 (fun C D=>k d e C D))))))) (k d e t f))))))))
theorem dq0(v1:m9)(v2:d9)(v3:d9):cI1 v1 v2 v3 K Y->i7 104 [.p v1,.s v2,.s v3] K Y:=q9 cI0 Tryz.func104


def cI2:Ann:=(.q (.n (.reg (rn 12) (mkR [0,1,3,7,0,16,48,112,240,0,1023,2047])) (.n (.o (dlN 0xbd029) .h) (.q .z))))
def cI3(b:m9)(f:d9)(K:KH):C2 :=
 dQ6 b kP (fun d=>dQ4 b 4 kS (fun e=>i6 15 [.p d,.s e,.s f] kI (fun (a:Int)=>C0 (T:=dV2) (fun g h=>A0 h (K (.i 0)) (K (.i g))) (fun c=>A0 (a==6) (i6 96 [.p b,.s f,.bool true] kB (fun i=>c a i)) (c a false)))))
theorem dq1(v1:m9)(v2:d9):cI3 v1 v2 K Y->i7 105 [.p v1,.s v2] K Y:=q9 cI2 Tryz.func105


def cI4:Ann:=(.k 2 (.n (.q (.blk (.loop (dlN 0x2101c004) (.n (.q (.cond .z .z)) (.n (.blk (.q (.n (.blk (.loop (dlN 0x2902101c004) (.n (.seq (some (dlN 0xdd02902101c004)) (.reg (rn 15) (mkR [0,0,2,7,15,31,31,127,255,31,31,1567,3615,8191,16383])) (.cond .z .z)) (.blk .r)))) (.k 3 .r)))) .r))))) (.q .z)))
def cI5(A:Sl)(K:KH):C2 :=
 C9 [.l,.l,.i] (fun s=>(fun n d (o:Int)=>A0 (decide (o<(n.len:Int))) (C9 [.l,.l,.i,.i] (fun t=>(fun e c (h:Int) (f:Int)=>C0 (T:=Sl->Sl->Int->Int->Bool->C2) (fun g a j b u=>A0 u (t g a j (IntKind.i64.wrap (b+1))) (E3 (E1 (some b) a.cap/\E1 none b.toNat) (ac9 .append #[30,30] 30 [false,false] [.slice none 0 0,.slice (N6 a.base 0 a.cap 1) (b.toNat-0) (a.cap-0)] kL (fun k=>dR2 g.base g.len j kS (fun v=>H0 (.c [.s v] 9) (fun w=>ac9 .append #[30,30] 30 [false,false] [.slice k.base k.len k.cap,.slice (gp w) 1 1] kL (fun m=>E3 (E1 none a.cap/\E1 (some b) a.len) (ac9 .append #[30,30] 30 [false,false] [.slice m.base m.len m.cap,.slice (N6 a.base b.toNat a.cap 1) (a.len-b.toNat) (a.cap-b.toNat)] kL (fun x=>s g x (IntKind.i64.wrap (j+1))))))))))) (fun p=>A0 (decide (f<(c.len:Int))) (dR2 c.base c.len f kS (fun q=>dR2 e.base e.len h kS (fun r=>p e c h f (aC4 q r||C3 q r)))) (p e c h f false)))) (fun y=>y n d o 0)) (K (.slice d.base d.len d.cap)))) (fun z=>z A ⟨none,0,0⟩ 0)
theorem dq2(v1:Sl):cI5 v1 K Y->i7 106 [.slice v1.base v1.len v1.cap] K Y:=q9 cI4 Tryz.func106


def cI6:Ann:=(.q (.n (.q (.cond (.n (.reg (rn 12) (mkR [0,1,3,7,0,16,48,112,240,0,1023,2047])) .z) .z)) (.n (.q (.blk (.loop (dlN 0x3900b002) (.n (.q (.cond .z .z)) (.seq (some (dlN 0x3900b002)) (.blk (.o (dlN 0x13503900b002) (.cond (.k 2 .h) .z))) .r))))) (.q .z))))
def cI7(g:m9)(n:d9)(y:Bool)(K:KH):C2 :=
 A0 (!y) (dQ6 g kP (fun l=>dQ4 g 4 kS (fun m=>i6 15 [.p l,.s m,.s n] kI (fun o=>K (.i o))))) (C9 [.p,.s,.i] (fun q=>(fun e a (b:Int)=>A0 (decide (b<(a.size:Int))) (C0 (T:=dV5) (fun r t u=>q r t (IntKind.i64.wrap (u+1))) (fun h=>C0 (T:=m9->d9->Int->Bool->C2) (fun f d c v=>A0 v (E3 (E1 (some c) d.size/\E1 none (c.toNat)) (i6 105 [.p f,.s (d.extract 0 c.toNat)] kI (fun (j:Int)=>A0 (j != 0) (K (.i j)) (h f d c)))) (h f d c)) (fun k=>I2 a b (fun c25=>A0 ((c25.toNat:Int)==47) (I2 a (IntKind.i64.wrap (b-1)) (fun c26=>k e a b ((c26.toNat:Int) != 47))) (k e a b false))))) (i6 105 [.p e,.s a] kI (fun w=>K (.i w))))) (fun x=>x g n 1))
theorem dq3(v1:m9)(v2:d9)(v3:Bool):cI7 v1 v2 v3 K Y->i7 107 [.p v1,.s v2,.bool v3] K Y:=q9 cI6 Tryz.func107


def cI8:Ann:=(.n (.reg (rn 17) (mkR [0,1,3,7,0,16,48,112,240,0,1023,2047,4095,4095,0,24575,65535])) (.n (.o (dlN 0xf503903201300b002) (.cond .z .z)) (.n (.q (.cond .z .z)) (.seq (some (dlN 0x13002)) (.q (.cond (.n (.q .h) (.n (.reg (rn 16) (mkR [0,1,3,7,0,16,48,112,240,0,1023,2047,4095,4095,8191,32767])) (.q (.blk (.loop (dlN 0x5104401300b002) (.n (.q (.cond .z .z)) (.n (.blk .r) .r))))))) .z)) (.reg (rn 14) (mkR [0,0,0,4,12,28,0,64,192,448,960,0,4092,8191]))))))
def cI9(e:m9)(v:d9)(m:d9)(K:KH):C2 :=
 dQ6 e kP (fun w=>dQ4 e 4 kS (fun x=>i6 48 [.p w,.s x,.s m,.bool false] dR4 (fun y z A B (f:Int)=>H0 (.c [.i 0,.i 0,.s gq,.i 0] 80) (fun g=>A3 80 (.q g) (.g [.i y,.i z,.s A,.i B]) (C0 (T:=dW3) (fun a n b C D E=>A0 E (K (.t [])) (i6 37 [.p a,.s b,.i D] kB (fun F=>A0 F (K (.t [])) (C0 (T:=m9->d9->C2) (fun h o=>dQ6 h kP (fun G=>dQ4 h 4 kS (fun H=>i6 94 [.p G,.s H,.s o] kI (fun I=>i6 37 [.p h,.s o,.i I] kB (fun S=>K (.t [])))))) (fun q=>dQ6 C kI (fun (J:Int)=>A0 (J==2) (i6 34 [.s n,.int .u8 114] kB (fun L=>A0 (!L) (i6 37 [.p a,.s b,.i 7] kB (fun U=>K (.t []))) (dQ6 a kP (fun M=>dQ4 a 4 kS (fun N=>i6 50 [.p M,.s N,.s b] dS6 (fun O W=>C9 [.p,.s,.s,.l,.i] (fun P=>(fun j r c d (k:Int)=>A0 (decide (k<(d.len:Int))) (E3 (c.size+((bs [47]):d9).size<=9223372036854775807) (dR2 d.base d.len k kS (fun t=>E3 ((c++(bs [47])).size+t.size<=9223372036854775807) (i6 108 [.p j,.s r,.s ((c++(bs [47]))++t)] kU (P j r c d (IntKind.i64.wrap (k+1))))))) (q j c))) (fun Q=>Q a n b O 0))))))) (q a b))))))) (fun u=>A0 (f==5) (i6 34 [.s v,.int .u8 102] kB (fun R=>u e v m (gp g) f R)) (u e v m (gp g) f false)))))))
theorem dq7(v1:m9)(v2:d9)(v3:d9):cI9 v1 v2 v3 K Y->i7 108 [.p v1,.s v2,.s v3] K Y:=q9 cI8 Tryz.func108


def cJ0:Ann:=(.k 3 .z)
def cJ1(__1:Int)(v2:Int)(v3:Int)(v4:d9)(v5:Int)(x6:m9)(K:KH):C2 :=
 H0 (.c [.i v2,.i v3,.s v4,.i v5] 80) (fun b7=>l8 (rdA 4 b7 0) dR9 (fun(x8:Int) (x9:Int) (x10:d9) (x11:Int)=>A3 80 (.p x6) (.g [.i x8,.i x9,.s x10,.i x11]) (K (.i 0))))
theorem dq8(__1:Int)(v2:Int)(v3:Int)(v4:d9)(v5:Int)(x6:m9):cJ1 __1 v2 v3 v4 v5 x6 K Y->i7 109 [.i __1,.g [.i v2,.i v3,.s v4,.i v5],.p x6] K Y:=q9 cJ0 Tryz.func109


def cJ2:Ann:=(.k 2 (.seq (some (dlN 0x29009002)) (.q (.cond .r .z)) (.n (.q (.blk (.loop (dlN 0x31029009002) (.n (.q (.cond .z .z)) (.n (.blk (.q (.blk (.loop (dlN 0x39031029009002) (.n (.o (dlN 0x14d14613e13612e12611e11610e1060fe0f60ee0e6039031029009002) (.cond .z .z)) (.seq (some (dlN 0x14613e13612e12611e11610e1060fe0f60ee0e6039031029009002)) (.blk (.q (.cond .r .z))) .r)))))) .r))))) (.q .z))))
def cJ3(aq:m9)(Q:Int)(K:KH):C2 :=
 C0 (T:=m9->Int->Int->C2) (fun R S U=>C9 [.p,.i,.i,.i] (fun W=>(fun l X m (n:Int)=>dQ4 l 2 kL (fun Z=>A0 (decide (n<(Z.len:Int))) (C9 [.p,.i,.i,.i,.i] (fun aa=>(fun c o q (a:Int) (d:Int)=>C0 (T:=m9->Int->Int->Int->Int->u9->u9->u9->u9->u9->u9->u9->u9->u9->u9->u9->u9->u9->Bool->C2) (fun g h k j e r s t u v w x y z A B C D ab=>A0 ab (C0 (T:=m9->Int->Int->Int->Int->u9->u9->u9->u9->u9->u9->u9->u9->u9->u9->u9->u9->u9->C2) (fun ac ad ae af ag ar au av aw ax ay az ba bb bc bd be bf=>aa ac ad ae af (IntKind.i64.wrap (ag+1))) (fun E=>dQ4 g 2 kL (fun F=>dR2 F.base F.len j kP (fun ah=>dQ4 ah 3 kL (fun G=>i9 G.base (fun ai aj=>E3 (0<=e/\e<(G.len:Int)) (l8 (m8 ai (aj+e.toNat*2+1)) kI (fun (ak:Int)=>A0 (ak==h) (E g h (IntKind.i64.wrap (k+1)) j e r s t u v w x y z A B C D) (E g h k j e r s t u v w x y z A B C D))))))))) (W g h k (IntKind.i64.wrap (j+1)))) (fun H=>dQ4 c 2 kL (fun I=>dR2 I.base I.len a kP (fun al=>A0 (!al.isNone) (dQ5 c 2 kL (fun J L f=>dR3 f.base f.len a kP (fun am an M=>dQ5 M 3 kL (fun N O b=>H c o q a d (.i d) (.p c) (.p (some ⟨J,L,none⟩)) (.p (some ⟨J,L+2,none⟩)) (.slice f.base f.len f.cap) (.i a) (.p (some ⟨am,an+a.toNat*1,none⟩)) (.p M) (.p (some ⟨N,O,none⟩)) (.p (some ⟨N,O+3,none⟩)) (.slice b.base b.len b.cap) (.i (b.len:Int)) (.bool (decide (d<(b.len:Int)))) (decide (d<(b.len:Int))))))) (H c o q a d (.t []) (.t []) (.t []) (.t []) (.t []) (.t []) (.t []) (.t []) (.t []) (.t []) (.t []) (.t []) (.t []) false)))))) (fun ao=>ao l X m n 0)) (K (.i m))))) (fun ap=>ap R S U 0)) (fun P=>A0 ((Q:Int)==0) (P aq Q 1) (P aq Q 0))
theorem dq9(v1:m9)(v2:Int):cJ3 v1 v2 K Y->i7 110 [.p v1,.i v2] K Y:=q9 cJ2 Tryz.func110


def cJ4:Ann:=(.q (.n (.q .h) (.k 2 .z)))
def cJ5(k:Int)(f:Int)(g:Int)(h:d9)(i:Int)(j:m9)(l:m9)(K:KH):C2 :=
 H0 (.c [.i f,.i g,.s h,.i i] 80) (fun b=>l8 (m8 b 0) kI (fun (c:Int)=>A0 (c != 2) (K (.i 8)) (dQ6 j kP (fun d=>dQ6 d kP (fun e=>i6 112 [.p e,.i k] kL (fun a=>A3 30 (.p l) (.slice a.base a.len a.cap) (K (.i 0))))))))
theorem cx8(v1:Int)(v2:Int)(v3:Int)(v4:d9)(v5:Int)(x6:m9)(x7:m9):cJ5 v1 v2 v3 v4 v5 x6 x7 K Y->i7 111 [.i v1,.g [.i v2,.i v3,.s v4,.i v5],.p x6,.p x7] K Y:=q9 cJ4 Tryz.func111


def cJ6:Ann:=(.k 2 (.n (.q .h) (.q .z)))
def cJ7(e:m9)(f:Int)(K:KH):C2 :=
 i6 128 [.p e,.i f] kP (fun b=>A0 b.isNone (K (.slice none 0 0)) (dQ4 b 5 kM (fun c=>i6 160 [.map c] kR (fun d=>i6 159 [d] kL (fun a=>K (.slice a.base a.len a.cap))))))
theorem cx9(v1:m9)(v2:Int):cJ7 v1 v2 K Y->i7 112 [.p v1,.i v2] K Y:=q9 cJ6 Tryz.func112


def cJ8:Ann:=(.q (.n (.q .h) (.q .z)))
def cJ9(a:m9)(K:KH):C2 :=
 A0 a.isNone (K (.i 0)) (K (.i 1))
theorem dr0(v1:m9):cJ9 v1 K Y->i7 113 [.p v1] K Y:=q9 cJ8 Tryz.func113


def cK0:Ann:=(.k 2 (.n (.q .h) (.q .z)))
def cK1(c:m9)(d:Int)(K:KH):C2 :=
 i6 128 [.p c,.i d] kP (fun a=>A0 a.isNone (K (.i 0)) (dQ4 a 4 kI (fun b=>K (.i b))))
theorem dr1(v1:m9)(v2:Int):cK1 v1 v2 K Y->i7 114 [.p v1,.i v2] K Y:=q9 cK0 Tryz.func114


def cK2:Ann:=(.q (.o (dlN 0x2501200a002) (.k 2 .z)))
def cK3(x1:m9)(x2:m9)(x3:m9)(K:KH):C2 :=
 C0 (T:=dU3) (fun x5 x6 x7 v8=>H0 (.map #[] 0) (fun b9=>ae9 147 (.map (some b9)) (.i 1) (.bool true) (i9 x5 (fun b10 o11=>l8 (m8 b10 o11) kS (fun(x12:d9)=>ae9 147 (.map (some b9)) (.i 2) (.bool (C3 x12 (gq:d9))) (ae9 147 (.map (some b9)) (.i 3) (.bool v8) (i9 x6 (fun b13 o14=>l8 (m8 b13 o14) kI (fun(x15:Int) =>
 l8 (rdM (.int .i64) (.bool false) false (some b9) (.i x15)) kB (fun x16=>A0 x16 (i9 x7 (fun b17 o18=>l8 (m8 b17 o18) kI (fun(x19:Int)=>A0 (decide ((x19:Int)>=0)) (i9 x7 (fun b20 o21=>l8 (m8 b20 o21) kI (fun(x22:Int)=>i6 116 [.bool (decide ((x22:Int)<=511)),.i 2] kI (fun(x23:Int)=>K (.i x23))))) (i6 116 [.bool false,.i 2] kI (fun(x24:Int)=>K (.i x24))))))
 (i6 116 [.bool false,.i 2] kI (fun(x25:Int)=>K (.i x25))))))))))))) (fun j4=>i9 x1 (fun b26 o27=>l8 (m8 b26 o27) kS (fun(x28:d9)=>A0 (!C3 x28 (gq:d9)) (i9 x1 (fun b29 o30=>l8 (m8 b29 o30) kS (fun(x31:d9)=>A0 (decide (((x31.size:Nat):Int)<=255)) (i9 x1 (fun b32 o33=>l8 (m8 b32 o33) kS (fun(x34:d9)=>i6 68 [.s x34,.int .u8 0] kI (fun(x35:Int) =>
 j4 x1 x2 x3 (decide ((x35:Int)<0)))))) (j4 x1 x2 x3 false)))) (j4 x1 x2 x3 false))))
theorem dr2(x1:m9)(x2:m9)(x3:m9):cK3 x1 x2 x3 K Y->i7 115 [.p x1,.p x2,.p x3] K Y:=q9 cK2 Tryz.func115


def cK4:Ann:=(.q (.n (.q .h) (.q .z)))
def cK5(a:Bool)(b:Int)(K:KH):C2 :=
 A0 (!a) (K (.i b)) (K (.i 0))
theorem dr3(v1:Bool)(v2:Int):cK5 v1 v2 K Y->i7 116 [.bool v1,.i v2] K Y:=q9 cK4 Tryz.func116


def cK6:Ann:=(.q (.n (.q (.blk (.loop (dlN 0x41039034) (.q (.n (.cond .z .z) (.n (.blk (.k 3 .h)) .r)))))) (.q .z)))
def cK7(h:Sl)(K:KH):C2 :=
 C9 [.l,.i,.i] (fun e=>(fun a (c:Int) (b:Int)=>A0 (decide (b<c)) (dR2 a.base a.len b kR (fun f=>G8 Tryz.prog f [] kI (fun (d:Int)=>A0 (d != 0) (K (.i d)) (e a c (IntKind.i64.wrap (b+1)))))) (K (.i 0)))) (fun g=>g h (h.len:Int) 0)
theorem dr4(v1:Sl):cK7 v1 K Y->i7 117 [.slice v1.base v1.len v1.cap] K Y:=q9 cK6 Tryz.func117


def cK8:Ann:=(.k 2 .z)
def cK9(b:m9)(K:KH):C2 :=
 i6 116 [.bool (!b.isNone),.i 1] kI (fun a=>K (.i a))
theorem dr5(v1:m9):cK9 v1 K Y->i7 118 [.p v1] K Y:=q9 cK8 Tryz.func118


def cL0:Ann:=(.k 2 .z)
def cL1(c:m9)(d:Int)(K:KH):C2 :=
 H0 (.c [.p c] 69) (fun a=>H0 (.c [.i d] 3) (fun b=>K (.func (.func 161) ⟨[]⟩ ⟨[.q a,.q b]⟩)))
theorem dr6(v1:m9)(v2:Int):cL1 v1 v2 K Y->i7 119 [.p v1,.i v2] K Y:=q9 cL0 Tryz.func119


def cL2:Ann:=(.k 2 .z)
def cL3(b:d9)(K:KH):C2 :=
 H0 (.c [.s b] 9) (fun a=>K (.func (.func 162) ⟨[]⟩ ⟨[.q a]⟩))
theorem dr7(v1:d9):cL3 v1 K Y->i7 120 [.s v1] K Y:=q9 cL2 Tryz.func120


def cL4:Ann:=(.k 2 .z)
def cL5(d:m9)(e:Int)(f:d9)(K:KH):C2 :=
 H0 (.c [.p d] 69) (fun a=>H0 (.c [.i e] 3) (fun b=>H0 (.c [.s f] 9) (fun c=>K (.func (.func 164) ⟨[]⟩ ⟨[.q a,.q b,.q c]⟩))))
theorem dr8(v1:m9)(v2:Int)(v3:d9):cL5 v1 v2 v3 K Y->i7 121 [.p v1,.i v2,.s v3] K Y:=q9 cL4 Tryz.func121


def cL6:Ann:=(.k 2 .z)
def cL7(x1:m9)(x2:m9)(K:KH):C2 :=
 i9 x1 (fun b3 o4=>l8 (m8 b3 o4) kP (fun x5=>i9 x2 (fun b6 o7=>l8 (m8 b6 o7) kS (fun(x8:d9)=>i6 123 [.p x5,.i 1,.i ((x8.size:Nat):Int)] kR (fun x9=>G8 Tryz.prog x9 [] kI (fun(x10:Int)=>K (.i x10)))))))
theorem dr9(x1:m9)(x2:m9):cL7 x1 x2 K Y->i7 122 [.p x1,.p x2] K Y:=q9 cL6 Tryz.func122


def cL8:Ann:=(.k 2 .z)
def cL9(d:m9)(e:Int)(f:Int)(K:KH):C2 :=
 H0 (.c [.p d] 69) (fun a=>H0 (.c [.i e] 3) (fun b=>H0 (.c [.i f] 3) (fun c=>K (.func (.func 166) ⟨[]⟩ ⟨[.q a,.q b,.q c]⟩))))
theorem ds2(v1:m9)(v2:Int)(v3:Int):cL9 v1 v2 v3 K Y->i7 123 [.p v1,.i v2,.i v3] K Y:=q9 cL8 Tryz.func123


def cM0:Ann:=(.q (.n (.q .h) (.n (.q .h) (.n (.q (.blk (.loop (dlN 0x6105202201d013009002) (.n (.q (.cond .z .z)) (.n (.blk (.q .h)) .r))))) (.seq (some (dlN 0x5202201d013009002)) (.q (.cond .r .z)) (.k 2 (.n (.q (.blk (.loop (dlN 0x7907406a05202201d002) (.n (.q (.cond .z .z)) (.seq (some (dlN 0x2fe2f62ee2e62de2d62ce2c62be2b62ae2a628e28627e26607907406a05202201d002)) (.blk (.n (.q .h) (.n (.reg (rn 14) (mkR [0,0,2,0,0,24,56,127,255,511,511,0,3071,8191])) (.n (.q .h) (.q (.seq (some (dlN 0x3052fe2f62ee2e62de2d62ce2c62be2b62ae2a628e28627e26607907406a05202201d002)) (.reg (rn 27) (mkR [0,1,0,4,15,31,63,127,255,511,1023,2047,4095,8191,16383,32767,65535,131071,16383,278527,1048575,2097151,4194303,8388607,16777215,33554431,67108863])) (.cond (.q (.n (.q .h) (.n (.reg (rn 21) (mkR [0,0,2,0,8,24,56,0,128,504,1016,2040,4088,8184,0,32767,65535,131071,131071,262143,1048575])) (.q .h)))) .z))))))) .r))))) (.q .z))))))))
def cM1(er:m9)(es:Int)(G:d9)(et:Bool)(eu:m9)(K:KH):C2 :=
 H0 (.c [.i 0,.s gq,.i 0] 95) (fun m=>A0 (C3 G (gq:d9)) (A3 95 (.q m) (.g [.i 0,.s gq,.i 0]) (l8 (rdA 3 m 0) dR5 (fun bd be bf=>K (.t [.g [.i bd,.s be,.i bf],.i 5])))) (A0 (decide ((G.size:Int)>255)) (A3 95 (.q m) (.g [.i 0,.s gq,.i 0]) (l8 (rdA 3 m 0) dR5 (fun bg bh bi=>K (.t [.g [.i bg,.s bh,.i bi],.i 3])))) (C9 [.p,.i,.s,.b,.p,.p,.i] (fun bj=>(fun y H h z A n (B:Int)=>A0 (decide (B<(h.size:Int))) (I2 h B (fun c21=>A0 ((c21.toNat:Int)==0) (A3 95 (.p n) (.g [.i 0,.s gq,.i 0]) (dR0 n 3 dR5 (fun bk bl bm=>K (.t [.g [.i bk,.s bl,.i bm],.i 2])))) (bj y H h z A n (IntKind.i64.wrap (B+1))))) (C0 (T:=m9->Int->d9->Bool->m9->m9->C2) (fun bn I bo bp bq br=>H0 (.c [.i 0,.s gq,.i 0] 95) (fun J=>A3 95 (.q J) (.g [.i I,.s gq,.i I]) (i6 167 [.s bo] kL (fun bt=>C9 [.p,.b,.p,.p,.p,.l,.i] (fun bu=>(fun d e o c a f (g:Int)=>A0 (decide (g<(f.len:Int))) (C0 (T:=m9->Bool->m9->m9->m9->Sl->Int->u9->u9->u9->u9->u9->u9->u9->u9->u9->u9->u9->u9->u9->u9->u9->u9->C2) (fun bv bw bx bz ca cb cc eb ec ed ee ef eg eh ei ej ek el em en eo ep eq=>bu bv bw bx bz ca cb (IntKind.i64.wrap (cc+1))) (fun L=>dQ4 a 2 kI (fun (cd:Int)=>A0 (decide (cd<0)) (A3 95 (.p c) (.g [.i 0,.s gq,.i 0]) (dR0 c 3 dR5 (fun ce cf cg=>K (.t [.g [.i ce,.s cf,.i cg],.i 5])))) (dQ4 a 2 kI (fun ch=>dR2 f.base f.len g kS (fun ci=>i6 168 [.p d,.i ch,.s ci] dR7 (fun cj ck cl (M:Int)=>H0 (.c [.i 0,.s gq,.i 0] 95) (fun N=>A3 95 (.q N) (.g [.i cj,.s ck,.i cl]) (A0 (M != 0) (A3 95 (.p c) (.g [.i 0,.s gq,.i 0]) (dR0 c 3 dR5 (fun cm cn co=>K (.t [.g [.i cm,.s cn,.i co],.i M])))) (l8 (rdA 3 N 0) dR5 (fun cp cq cr=>A3 95 (.p a) (.g [.i cp,.s cq,.i cr]) (C0 (T:=m9->Bool->m9->m9->m9->Sl->Int->u9->u9->u9->u9->u9->u9->u9->u9->u9->u9->u9->u9->u9->u9->u9->u9->Bool->C2) (fun x O j k q P Q R S U W X Z aa ab ac ad ae af ag ah ai aj cs=>A0 cs (dQ6 j kI (fun (ct:Int)=>i9 j (fun cu cv=>A3 3 (.p (some ⟨cu,cv,none⟩)) (.i (IntKind.i64.wrap (ct-1))) (dQ6 j kI (fun (cw:Int)=>A0 (decide (cw<0)) (A3 95 (.p k) (.g [.i 0,.s gq,.i 0]) (dR0 k 3 dR5 (fun cx cy cz=>K (.t [.g [.i cx,.s cy,.i cz],.i 9])))) (dQ6 q kI (fun da=>dQ4 x 2 kL (fun ak=>dQ4 q 2 kI (fun (db:Int)=>dR2 ak.base ak.len db kP (fun dc=>dQ4 dc 2 kS (fun dd=>i6 124 [.p x,.i da,.s dd,.bool true,.p j] dR7 (fun de df dg (al:Int)=>A3 95 (.p q) (.g [.i de,.s df,.i dg]) (A0 (al != 0) (A3 95 (.p k) (.g [.i 0,.s gq,.i 0]) (dR0 k 3 dR5 (fun dh di dj=>K (.t [.g [.i dh,.s di,.i dj],.i al])))) (L x O j k q P Q R S U W X Z aa ab ac ad ae af ag ah ai aj)))))))))))))) (L x O j k q P Q R S U W X Z aa ab ac ad ae af ag ah ai aj)) (fun r=>A0 (decide (((IntKind.i64.wrap (g+1)):Int)<(f.len:Int))) (dQ5 a 2 kI (fun am an (t:Int)=>A0 (decide (t>=0)) (dQ5 d 2 kL (fun ao ap u=>dQ5 a 2 kI (fun dk dl (C:Int)=>dR3 u.base u.len C kP (fun dm dn aq=>dQ7 aq kI (fun ar au (D:Int)=>r d e o c a f g (.t []) (.p (some ⟨am,an+2,none⟩)) (.i t) (.bool (decide (t>=0))) (.p d) (.p (some ⟨ao,ap,none⟩)) (.p (some ⟨ao,ap+2,none⟩)) (.slice u.base u.len u.cap) (.p (some ⟨dk,dl+2,none⟩)) (.i C) (.p (some ⟨dm,dn+C.toNat*1,none⟩)) (.p aq) (.p (some ⟨ar,au,none⟩)) (.p (some ⟨ar,au,none⟩)) (.i D) (.bool (D==3)) (D==3)))))) (r d e o c a f g (.t []) (.p (some ⟨am,an+2,none⟩)) (.i t) (.bool (decide (t>=0))) (.t []) (.t []) (.t []) (.t []) (.t []) (.t []) (.t []) (.t []) (.t []) (.t []) (.t []) (.t []) false))) (A0 e (dQ5 a 2 kI (fun av aw (v:Int)=>A0 (decide (v>=0)) (dQ5 d 2 kL (fun ax ay w=>dQ5 a 2 kI (fun dp dq (E:Int)=>dR3 w.base w.len E kP (fun dr ds az=>dQ7 az kI (fun ba bb (F:Int)=>r d e o c a f g (.bool e) (.p (some ⟨av,aw+2,none⟩)) (.i v) (.bool (decide (v>=0))) (.p d) (.p (some ⟨ax,ay,none⟩)) (.p (some ⟨ax,ay+2,none⟩)) (.slice w.base w.len w.cap) (.p (some ⟨dp,dq+2,none⟩)) (.i E) (.p (some ⟨dr,ds+E.toNat*1,none⟩)) (.p az) (.p (some ⟨ba,bb,none⟩)) (.p (some ⟨ba,bb,none⟩)) (.i F) (.bool (F==3)) (F==3)))))) (r d e o c a f g (.bool e) (.p (some ⟨av,aw+2,none⟩)) (.i v) (.bool (decide (v>=0))) (.t []) (.t []) (.t []) (.t []) (.t []) (.t []) (.t []) (.t []) (.t []) (.t []) (.t []) (.t []) false))) (r d e o c a f g (.bool e) (.t []) (.t []) (.t []) (.t []) (.t []) (.t []) (.t []) (.t []) (.t []) (.t []) (.t []) (.t []) (.t []) (.t []) (.t []) false))))))))))))))) (dR0 a 3 dR5 (fun dt du dv=>A3 95 (.p c) (.g [.i dt,.s du,.i dv]) (dR0 c 3 dR5 (fun dw dx dy=>K (.t [.g [.i dw,.s dx,.i dy],.i 0]))))))) (fun dz=>dz bn bp bq br (gp J) bt 0))))) (fun bc=>I2 h 0 (fun c198=>A0 ((c198.toNat:Int)==47) (bc y 0 h z A n) (bc y H h z A n)))))) (fun ea=>ea er es G et eu (gp m) 0))))
theorem ds3(v1:m9)(v2:Int)(v3:d9)(v4:Bool)(v5:m9):cM1 v1 v2 v3 v4 v5 K Y->i7 124 [.p v1,.i v2,.s v3,.bool v4,.p v5] K Y:=q9 cM0 Tryz.func124


def cM2:Ann:=(.k 2 .z)
def cM3(b:d9)(c:d9)(K:KH):C2 :=
 i6 169 [.s b,.s c] kB (fun a=>K (.bool a))
theorem ds4(v1:d9)(v2:d9):cM3 v1 v2 K Y->i7 125 [.s v1,.s v2] K Y:=q9 cM2 Tryz.func125


def cM4:Ann:=(.q (.n (.k 2 .h) (.seq (some (dlN 0x5a05204a04202a013009)) (.q (.cond .r .z)) (.q (.seq (some (dlN 0x6a05a052)) (.q (.blk (.rf [.s,.b] (.q .r) (.blk (.n (.blk (.q (.cond (.q .z) (.q (.cond (.q .z) (.q (.cond (.n (.reg (rn 8) (mkR [0,1,3,7,0,16,63,127])) (.q .z)) (.q .h)))))))) (.q (.n (.reg (rn 15) (mkR [0,1,3,7,0,16,0,127,255,511,511,1023,3071,8191,16383])) (.n (.o (dlN 0x34d06a05a05204a02a) (.cond .z .z)) (.n (.k 2 .h) (.n (.reg (rn 13) (mkR [0,1,3,7,0,16,63,127,255,255,0,1535,4095])) (.q (.n (.q .h) .r)))))))))))) (.q .z))))))
def cM5(cj:m9)(cn:Int)(m:d9)(ck:Bool)(cl:m9)(K:KH):C2 :=
 H0 (.c [.p cj] 24) (fun l=>H0 (.c [.bool ck] 4) (fun p=>H0 (.c [.p cl] 156) (fun q=>H0 (.c [.i 0,.s gq,.i 0,.bool false] 89) (fun f=>H0 (.c [.i 0] 45) (fun g=>i6 170 [.s m] kI (fun (r:Int)=>A0 (r != 0) (A3 89 (.q f) (.g [.i 0,.s gq,.i 0,.bool false]) (A3 45 (.q g) (.i r) (l8 (rdA 4 f 0) dR6 (fun G H I J=>l8 (m8 g 0) kI (fun L=>K (.t [.g [.i G,.s H,.i I,.bool J],.i L])))))) (C0 (T:=Int->d9->m9->m9->m9->m9->m9->C2) (fun t M e N h c d=>H0 (.c [.i 0,.s gq,.i 0,.bool false] 89) (fun a=>A3 89 (.q a) (.g [.i t,.s gq,.i t,.bool true]) (C0 (T:=dW6) (fun u v O=>dR0 O 4 dR6 (fun P Q R S=>A3 89 (.p u) (.g [.i P,.s Q,.i R,.bool S]) (A3 45 (.p v) (.i 0) (dR0 u 4 dR6 (fun U W X Z=>dQ6 v kI (fun aa=>K (.t [.g [.i U,.s W,.i X,.bool Z],.i aa]))))))) (fun w=>i6 171 [.s M] kR (fun ab=>N5 ab (fun(g146:FuncId) (as147 cs148:List u9)=>rfW Tryz.prog none g146 as147 cs148 [.s,.b] (fun(l46:Nat) (obj47:LoopState->Option Code->Obj) K48=>(fun j ac=>M9 l46 obj47 (l8 (m8 a 3) kB (fun ad=>A0 (!ad) (A3 89 (.p c) (.g [.i 0,.s gq,.i 0,.bool false]) (A3 45 (.p d) (.i 5) (D5 l46 obj47 K48 (some .ret) false .done))) (dQ6 e kP (fun ae=>l8 (m8 a 2) kI (fun af=>i6 127 [.p ae,.i af] kI (fun (ag:Int)=>A0 (ag != 2) (A3 89 (.p c) (.g [.i 0,.s gq,.i 0,.bool false]) (A3 45 (.p d) (.i 8) (D5 l46 obj47 K48 (some .ret) false .done))) (A0 (C3 j ((bs [46,46]):d9)) (dQ6 e kP (fun ah=>dQ6 ah kP (fun ai=>l8 (m8 a 2) kI (fun aj=>i6 114 [.p ai,.i aj] kI (fun x=>A3 89 (.q a) (.g [.i x,.s gq,.i x,.bool true]) (D5 l46 obj47 K48 none true .ready)))))) (A0 (decide ((j.size:Int)>56)) (A3 89 (.p c) (.g [.i 0,.s gq,.i 0,.bool false]) (A3 45 (.p d) (.i 3) (D5 l46 obj47 K48 (some .ret) false .done))) (l8 (m8 a 2) kI (fun ak=>A3 89 (.q a) (.g [.i ak,.s j,.i 0,.bool false]) (dQ6 e kP (fun al=>dQ6 al kP (fun am=>l8 (m8 a 0) kI (fun an=>i6 165 [.p am,.i an,.s j] dS7 (fun ao ap=>A3 3 (.p (some ⟨a,2,none⟩)) (.i ao) (A3 4 (.p (some ⟨a,3,none⟩)) (.bool ap) (C0 (T:=m9->m9->m9->m9->m9->Bool->C2) (fun y n z A o aq=>A0 aq (D5 l46 obj47 K48 none true .ready) (dQ6 n kP (fun B=>dQ6 B kI (fun (ar:Int)=>i9 B (fun au av=>A3 3 (.p (some ⟨au,av,none⟩)) (.i (IntKind.i64.wrap (ar-1))) (dQ6 n kP (fun aw=>dQ6 aw kI (fun (ax:Int)=>A0 (decide (ax<0)) (A3 89 (.p z) (.g [.i 0,.s gq,.i 0,.bool false]) (A3 45 (.p A) (.i 9) (D5 l46 obj47 K48 (some .ret) false .done))) (dQ6 y kP (fun ay=>dQ6 ay kP (fun az=>dQ4 o 2 kI (fun ba=>i6 61 [.p az,.i ba] dS3 (fun bb bc bd be cm=>H0 (.c [.i 0,.i 0,.s gq,.i 0] 80) (fun C=>A3 80 (.q C) (.g [.i bb,.i bc,.s bd,.i be]) (dQ6 y kP (fun bf=>dQ6 o kI (fun bg=>l8 (m8 C 2) kS (fun bh=>dQ6 n kP (fun bi=>i6 126 [.p bf,.i bg,.s bh,.bool true,.p bi] dS0 (fun bj bk bl bm (D:Int)=>H0 (.c [.i 0,.s gq,.i 0,.bool false] 89) (fun E=>A3 89 (.q E) (.g [.i bj,.s bk,.i bl,.bool bm]) (A0 (D != 0) (A3 89 (.p z) (.g [.i 0,.s gq,.i 0,.bool false]) (A3 45 (.p A) (.i D) (D5 l46 obj47 K48 (some .ret) false .done))) (l8 (rdA 4 E 0) dR6 (fun bn bo bp bq=>A3 89 (.p o) (.g [.i bn,.s bo,.i bp,.bool bq]) (D5 l46 obj47 K48 none true .ready))))))))))))))))))))))))) (fun k=>l8 (m8 a 3) kB (fun br=>A0 (!br) (k e h c d (gp a) true) (A0 ac (dQ6 N kB (fun bt=>A0 (!bt) (k e h c d (gp a) true) (dQ6 e kP (fun bu=>l8 (m8 a 2) kI (fun bv=>i6 127 [.p bu,.i bv] kI (fun (bw:Int)=>k e h c d (gp a) (bw != 3))))))) (dQ6 e kP (fun bx=>l8 (m8 a 2) kI (fun bz=>i6 127 [.p bx,.i bz] kI (fun (ca:Int)=>k e h c d (gp a) (ca != 3))))))))))))))))))))))))))) (w c d (gp a)) (fun i145=>exW i145 0 (w c d (gp a)) (nW)) (dR0 c 4 dR6 (fun cb cc cd ce=>dQ6 d kI (fun cf=>K (.t [.g [.i cb,.s cc,.i cd,.bool ce],.i cf])))))))))) (fun F=>I2 m 0 (fun cy2=>A0 ((cy2.toNat:Int)==47) (l8 (m8 l 0) kP (fun cg=>dQ6 cg kP (fun ch=>i6 113 [.p ch] kI (fun ci=>F ci m (gp l) (gp p) (gp q) (gp f) (gp g))))) (F cn m (gp l) (gp p) (gp q) (gp f) (gp g)))))))))))
theorem ds5(v1:m9)(v2:Int)(v3:d9)(v4:Bool)(v5:m9):cM5 v1 v2 v3 v4 v5 K Y->i7 126 [.p v1,.i v2,.s v3,.bool v4,.p v5] K Y:=q9 cM4 Tryz.func126


def cM6:Ann:=(.k 3 .z)
def cM7(i:m9)(j:Int)(K:KH):C2 :=
 dQ6 i kP (fun c=>i6 61 [.p c,.i j] dS3 (fun d e f g k=>H0 (.c [.i 0,.i 0,.s gq,.i 0] 80) (fun a=>A3 80 (.q a) (.g [.i d,.i e,.s f,.i g]) (l8 (m8 a 0) kI (fun h=>K (.i h))))))
theorem ds6(v1:m9)(v2:Int):cM7 v1 v2 K Y->i7 127 [.p v1,.i v2] K Y:=q9 cM6 Tryz.func127


def cM8:Ann:=(.q (.n (.q .h) (.q .z)))
def cM9(a:m9)(d:Int)(K:KH):C2 :=
 A0 a.isNone (K (.p none)) (dQ4 a 4 kM (fun b=>l8 (rdM (.int .i64) (.p none) false b (.i d)) kP (fun c=>K (.p c))))
theorem ds7(v1:m9)(v2:Int):cM9 v1 v2 K Y->i7 128 [.p v1,.i v2] K Y:=q9 cM8 Tryz.func128


def cN0:Ann:=(.q (.n (.reg (rn 18) (mkR [0,0,2,0,8,24,56,0,248,504,1016,2040,4088,8184,16382,32767,65535,131071])) .z))
def cN1(x1:m9)(x2:m9)(x3:m9)(K:KH):C2 :=
 i9 x1 (fun b4 o5=>l8 (m8 b4 o5) kP (fun x6=>i9 x2 (fun b7 o8=>l8 (m8 b7 o8) kS (fun(x9:d9)=>i9 x1 (fun b10 o11=>l8 (m8 b10 o11) kP (fun x12=>i9 x12 (fun b13 o14=>l8 (m8 b13 (o14+4)) kM (fun(x15:Option Nat)=>i9 x3 (fun b16 o17=>l8 (m8 b16 o17) kI (fun(x18:Int)=>l8 (rdM (.int .i64) (.p none) false x15 (.i x18)) kP (fun x19=>i9 x19 (fun b20 o21=>l8 (m8 b20 (o21+2)) kS (fun(x22:d9) =>
 i6 123 [.p x6,.i 0,.i (IntKind.i64.wrap (((x9.size:Nat):Int)-((x22.size:Nat):Int)))] kR (fun x23=>G8 Tryz.prog x23 [] kI (fun(x24:Int)=>K (.i x24))))))))))))))))
theorem ds8(x1:m9)(x2:m9)(x3:m9):cN1 x1 x2 x3 K Y->i7 129 [.p x1,.p x2,.p x3] K Y:=q9 cN0 Tryz.func129


def cN2:Ann:=(.k 2 .z)
def cN3(c:m9)(d:Int)(K:KH):C2 :=
 H0 (.c [.p c] 69) (fun a=>H0 (.c [.i d] 3) (fun b=>K (.func (.func 172) ⟨[]⟩ ⟨[.q a,.q b]⟩)))
theorem ds9(v1:m9)(v2:Int):cN3 v1 v2 K Y->i7 130 [.p v1,.i v2] K Y:=q9 cN2 Tryz.func130


def cN4:Ann:=(.k 2 .z)
def cN5(x1:m9)(K:KH):C2 :=
 i9 x1 (fun b2 o3=>l8 (m8 b2 o3) kI (fun(x4:Int)=>A0 (decide ((x4:Int)>=0)) (i9 x1 (fun b5 o6=>l8 (m8 b5 o6) kI (fun(x7:Int)=>i6 116 [.bool (decide ((x7:Int)<=511)),.i 2] kI (fun(x8:Int)=>K (.i x8))))) (i6 116 [.bool false,.i 2] kI (fun(x9:Int)=>K (.i x9)))))
theorem dt0(x1:m9):cN5 x1 K Y->i7 131 [.p x1] K Y:=q9 cN4 Tryz.func131


def cN6:Ann:=(.k 2 .z)
def cN7(x1:m9)(x2:m9)(K:KH):C2 :=
 i9 x1 (fun b3 o4=>l8 (m8 b3 o4) kP (fun x5=>i9 x2 (fun b6 o7=>l8 (m8 b6 o7) kI (fun(x8:Int)=>i6 128 [.p x5,.i x8] kP (fun x9=>i6 116 [.bool (!x9.isNone),.i 5] kI (fun(x10:Int)=>K (.i x10)))))))
theorem dt1(x1:m9)(x2:m9):cN7 x1 x2 K Y->i7 132 [.p x1,.p x2] K Y:=q9 cN6 Tryz.func132


def cN8:Ann:=(.k 2 .z)
def cy0(b:d9)(c:Int)(K:KH):C2 :=
 G8 Tryz.prog (.func (.func 173) ⟨[]⟩ ⟨[]⟩) [.s b,.int .u8 c] kI (fun a=>K (.i a))
theorem cN9(v1:d9)(v2:Int):cy0 v1 v2 K Y->i7 133 [.s v1,.int .u8 v2] K Y:=q9 cN8 Tryz.func133


def cO0:Ann:=(.q (.n (.q .h) (.n (.reg (rn 23) (mkR [0,1,3,7,15,0,32,96,224,480,992,0,4064,8160,0,16384,65504,131040,262143,524287,1048575,2097151,4194303])) (.q (.seq (some []) (.q (.cond .r .z)) (.q .z))))))
def cO1(b:m9)(c:d9)(f:Int)(K:KH):C2 :=
 A0 ((f:Int)==0) (K (.bool false)) (dQ5 b 6 kS (fun i j e=>dQ7 b kS (fun k l a=>E3 (a.size+((bs [58,32]):d9).size<=9223372036854775807) (E3 ((a++(bs [58,32])).size+c.size<=9223372036854775807) (E3 (((a++(bs [58,32]))++c).size+((bs [58,32]):d9).size<=9223372036854775807) (i6 93 [.i f] kS (fun d=>I9 (fun Y=>(m8 k l) Y=some (.s a)) (I9 (fun Y=>(m8 i (j+6)) Y=some (.s e)) (E3 ((((a++(bs [58,32]))++c)++(bs [58,32])).size+d.size<=9223372036854775807) (E3 (((((a++(bs [58,32]))++c)++(bs [58,32]))++d).size+((bs [10]):d9).size<=9223372036854775807) (E3 (e.size+(((((a++(bs [58,32]))++c)++(bs [58,32]))++d)++(bs [10])).size<=9223372036854775807) (i9 b (fun m n=>A3 9 (.p (some ⟨m,n+6,none⟩)) (.s (e++(((((a++(bs [58,32]))++c)++(bs [58,32]))++d)++(bs [10])))) (dQ4 b 7 kI (fun (g:Int)=>i9 b (fun o p=>A3 3 (.p (some ⟨o,p+7,none⟩)) (.i (if 1>g then 1 else g)) (C0 (T:=C2) (K (.bool true)) (fun h=>A0 ((f:Int)==10) (i9 b (fun q r=>A3 4 (.p (some ⟨q,r+10,none⟩)) (.bool true) (i9 b (fun s t=>A3 3 (.p (some ⟨s,t+7,none⟩)) (.i 3) (h))))) (h)))))))))))))))))))
theorem dt2(v1:m9)(v2:d9)(v3:Int):cO1 v1 v2 v3 K Y->i7 134 [.p v1,.s v2,.i v3] K Y:=q9 cO0 Tryz.func134


def cO2:Ann:=(.q (.blk (.loop (dlN 0x1900a006) (.n (.q (.cond .z .z)) (.n (.blk (.o (dlN 0xe501900a006) (.cond .z .z))) .r)))))
def cO3(r:u9)(s:m9)(K:KH):C2 :=
 C9 [.w,.p,.i] (fun f=>(fun c b (a:Int)=>dQ6 b kS (fun g=>A0 (decide (a<(g.size:Int))) (C0 (T:=u9->m9->Int->Bool->C2) (fun h j k l=>A0 l (K (.t [])) (f h j (IntKind.i64.wrap (k+1)))) (fun d=>dQ6 b kS (fun m=>I2 m a (fun c18=>A0 ((c18.toNat:Int)==47) (dQ6 b kS (fun n=>I2 n (IntKind.i64.wrap (a-1)) (fun c22=>A0 ((c22.toNat:Int) != 47) (dQ6 b kS (fun e=>E3 (E1 (some a) e.size/\E1 none (a.toNat)) (G8 Tryz.prog c [.s (e.extract 0 a.toNat)] kB (fun o=>d c b a (!o))))) (d c b a false)))) (d c b a false))))) (K (.t []))))) (fun q=>q r s 1)
theorem dt3(v1:u9)(x2:m9):cO3 v1 x2 K Y->i7 135 [v1,.p x2] K Y:=q9 cO2 Tryz.func135


def cO4:Ann:=(.k 2 (.n (.n (.reg [0,1,2,3,5,6,7,4,8,9,10,11,12] (mkR [0,1,0,0,12,0,0,0,252,0,1023,2047,4095])) (.q .h)) (.q (.n (.reg (rn 11) (mkR [0,1,3,7,0,31,63,127,255,0,1023])) (.q (.seq (some []) (.k 2 (.cond (.k 2 (.reg (rn 16) (mkR [0,1,3,7,15,0,32,96,224,480,992,2047,4095,8191,16383,32767]))) .z)) (.q .z)))))))
def cO5(U:m9)(W:Int)(X:d9)(K:KH):C2 :=
 H0 (.c [.p U] 69) (fun a=>H0 (.c [.i W] 3) (fun c=>H0 (.c [.s X] 9) (fun d=>l8 (m8 a 0) kP (fun f=>l8 (m8 a 0) kP (fun r=>l8 (m8 c 0) kI (fun s=>l8 (m8 a 0) kP (fun g=>l8 (m8 c 0) kI (fun h=>l8 (m8 d 0) kS (fun j=>i6 119 [.p r,.i s] kR (fun k=>I9 (fun Y=>(m8 d 0) Y=some (.s j)) (I9 (fun Y=>(m8 c 0) Y=some (.i h)) (I9 (fun Y=>(m8 a 0) Y=some (.p g)) (I9 (fun Y=>(m8 a 0) Y=some (.p f)) (i6 175 [.p g,.i h,.s j] kR (fun l=>I9 (fun Y=>(m8 a 0) Y=some (.p f)) (J5 k (J5 l (H0 (.c [.func (.func 118) ⟨[.p f]⟩ ⟨[]⟩,k,l,.func (.func 174) ⟨[]⟩ ⟨[.q a,.q c,.q d]⟩] 149) (fun t=>i6 117 [.slice (gp t) 4 4] kI (fun (m:Int)=>A0 (m != 0) (K (.i m)) (l8 (m8 a 0) kP (fun u=>l8 (m8 c 0) kI (fun v=>l8 (m8 d 0) kS (fun w=>i6 165 [.p u,.i v,.s w] dS7 (fun n Z=>l8 (m8 a 0) kP (fun x=>dQ4 x 4 kM (fun y=>l8 (m8 c 0) kI (fun z=>l8 (rdM (.int .i64) (.p none) false y (.i z)) kP (fun A=>dQ4 A 5 kM (fun B=>l8 (m8 d 0) kS (fun C=>ac9 .delete #[143,9] 0 [false,false] [.map B,.s C] kU (l8 (m8 a 0) kP (fun D=>dQ4 D 4 kM (fun E=>l8 (rdM (.int .i64) (.p none) false E (.i n)) kP (fun e=>C0 (T:=C2) (K (.i 0)) (fun o=>dQ4 e 3 kI (fun (F:Int)=>i9 e (fun G H=>A3 3 (.p (some ⟨G,H+3,none⟩)) (.i (IntKind.i64.wrap (F-1))) (dQ4 e 3 kI (fun (I:Int)=>A0 (I==0) (l8 (m8 a 0) kP (fun J=>dQ4 J 4 kM (fun L=>ac9 .delete #[135,3] 0 [false,false] [.map L,.i n] kU (l8 (m8 a 0) kP (fun p=>dQ4 p 2 kI (fun (M:Int)=>i9 p (fun N O=>A3 3 (.p (some ⟨N,O+2,none⟩)) (.i (IntKind.i64.wrap (M-1))) (l8 (m8 a 0) kP (fun q=>dQ4 q 3 kI (fun (P:Int)=>dQ4 e 2 kS (fun Q=>i9 q (fun R S=>A3 3 (.p (some ⟨R,S+3,none⟩)) (.i (IntKind.i64.wrap (P-(Q.size:Int)))) (o))))))))))))) (o)))))))))))))))))))))))))))))))))))))))))
theorem dt4(v1:m9)(v2:Int)(v3:d9):cO5 v1 v2 v3 K Y->i7 136 [.p v1,.i v2,.s v3] K Y:=q9 cO4 Tryz.func136


def cO6:Ann:=(.k 2 (.n (.q .h) (.q .z)))
def cy1(c:d9)(d:Int)(e:Int)(K:KH):C2 :=
 i6 176 [.s c,.i d,.i e] (.tup [.i,.w]) (fun b a=>W7 Tryz.prog (do eqGuard .neq 160 (.tmp 16) (.const (.nilIface)) (a) (.nilIface);binOp .neq 160 (a) (.nilIface)) kB (fun f=>A0 f (i6 177 [.s (bs [80,97,114,115,101,73,110,116]),.s c,.i d,.i e,a] kR (fun g=>K (.t [.i b,g]))) (K (.t [.i b,.nilIface]))))
theorem cO7(v1:d9)(v2:Int)(v3:Int):cy1 v1 v2 v3 K Y->i7 137 [.s v1,.i v2,.i v3] K Y:=q9 cO6 Tryz.func137
end
section
variable {K:KH} {Y:H}
def cO8:Ann:=(.q (.seq (some (dlN 0x5104a042)) (.k 2 (.cond .r .z)) (.n (.reg (rn 6) (mkR [0,0,0,1,11,31])) .z)))
def cO9(A:m9)(B:d9)(M:d9)(N:d9)(K:KH):C2 :=
 H0 (.c [.i 0,.s gq,.i 0,.bool false] 89) (fun a=>H0 (.c [.i 0,.s gq,.i 0,.bool false] 89) (fun b=>C0 (T:=m9->m9->Int->C2) (fun c d l=>dR0 c 4 dR6 (fun m n o p=>dR1 d 4 dR6 (fun q r e f g h=>A3 89 (.p c) (.g [.i m,.s n,.i o,.bool p]) (I9 (fun Y=>(rdA 4 q r) Y=some (.g [.i e,.s f,.i g,.bool h])) (A3 89 (.p d) (.g [.i e,.s f,.i g,.bool h]) (dR0 c 4 dR6 (fun s t u v=>dR0 d 4 dR6 (fun w x y z=>K (.t [.g [.i s,.s t,.i u,.bool v],.g [.i w,.s x,.i y,.bool z],.i l]))))))))) (fun j=>i6 60 [.p A,.s B,.s M,.bool false] dS0 (fun C D E F (k:Int)=>A3 89 (.q a) (.g [.i C,.s D,.i E,.bool F]) (A0 (k==0) (i6 60 [.p A,.s B,.s N,.bool false] dS0 (fun G H I J L=>A3 89 (.q b) (.g [.i G,.s H,.i I,.bool J]) (j (gp a) (gp b) L))) (j (gp a) (gp b) k))))))
theorem dt5(v1:m9)(v2:d9)(v3:d9)(v4:d9):cO9 v1 v2 v3 v4 K Y->i7 138 [.p v1,.s v2,.s v3,.s v4] K Y:=q9 cO8 Tryz.func138


def cP0:Ann:=(.q (.n (.k 2 .h) (.k 3 .z)))
def cP1(a:m9)(b:Int)(d:d9)(f:Int)(K:KH):C2 :=
 i6 119 [.p a,.i b] kR (fun c=>i6 120 [.s d] kR (fun e=>i6 130 [.p a,.i f] kR (fun g=>i6 121 [.p a,.i b,.s d] kR (fun h=>J5 c (J5 e (J5 g (J5 h (H0 (.c [.func (.func 118) ⟨[.p a]⟩ ⟨[]⟩,c,e,g,h] 149) (fun k=>i6 117 [.slice (gp k) 5 5] kI (fun (i:Int)=>A0 (i != 0) (K (.i i)) (dQ4 a 4 kM (fun l=>l8 (rdM (.int .i64) (.p none) false l (.i b)) kP (fun m=>dQ4 m 5 kM (fun n=>ae9 143 (.map n) (.s d) (.i f) (dQ4 a 4 kM (fun o=>l8 (rdM (.int .i64) (.p none) false o (.i f)) kP (fun j=>dQ4 j 3 kI (fun (p:Int)=>i9 j (fun q r=>A3 3 (.p (some ⟨q,r+3,none⟩)) (.i (IntKind.i64.wrap (p+1))) (K (.i 0)))))))))))))))))))))
theorem dt6(v1:m9)(v2:Int)(v3:d9)(v4:Int):cP1 v1 v2 v3 v4 K Y->i7 139 [.p v1,.i v2,.s v3,.i v4] K Y:=q9 cP0 Tryz.func139


def cP2:Ann:=(.q (.n (.q (.cond (.n (.reg (rn 9) (mkR [0,0,0,4,0,16,60,127,255])) .z) .z)) (.q .z)))
def cP3(c:d9)(p:m9)(f:m9)(i:m9)(K:KH):C2 :=
 dQ6 p kB (fun e=>A0 e (dQ7 f kR (fun g h b=>dQ7 i kS (fun j k a=>E3 (a.size+((bs [47]):d9).size<=9223372036854775807) (i6 141 [.s c] kS (fun d=>I9 (fun Y=>(m8 j k) Y=some (.s a)) (I9 (fun Y=>(m8 g h) Y=some (b)) (E3 ((a++(bs [47])).size+d.size<=9223372036854775807) (G8 Tryz.prog b [.s c,.s ((a++(bs [47]))++d)] kI (fun l=>K (.i l)))))))))) (dQ6 f kR (fun m=>dQ6 i kS (fun n=>G8 Tryz.prog m [.s c,.s n] kI (fun o=>K (.i o))))))
theorem dt7(v1:d9)(x2:m9)(x3:m9)(x4:m9):cP3 v1 x2 x3 x4 K Y->i7 140 [.s v1,.p x2,.p x3,.p x4] K Y:=q9 cP2 Tryz.func140


def cP4:Ann:=(.k 3 .z)
def cP5(c:d9)(K:KH):C2 :=
 i6 178 [.s c,.s (bs [47])] kS (fun a=>i6 179 [.s a,.int .u8 47] kI (fun (b:Int)=>E3 (E1 none a.size/\E1 (some (IntKind.i64.wrap (b+1))) (a.size)) (K (.s (a.extract ((IntKind.i64.wrap (b+1)).toNat) a.size)))))
theorem dt8(v1:d9):cP5 v1 K Y->i7 141 [.s v1] K Y:=q9 cP4 Tryz.func141


def cP6:Ann:=(.q (.n (.reg [0,1,2,5,6,7,3,4,8,9,10,11] (mkR [0,0,2,7,15,0,0,64,239,495,511,2047])) (.seq (some (dlN 0x3d02a022002)) (.blk (.q (.cond .z (.o (dlN 0xbd04503d02a022002) (.cond (.q .z) (.o (dlN 0xed03d02a022002) (.cond (.q .z) (.n (.reg (rn 10) (mkR [0,1,3,7,0,16,63,127,255,511])) .h)))))))) (.n (.o (dlN 0x1ad02a022002) .h) (.n (.n (.reg [0,1,2,4,5,6,3,7,8,9] (mkR [0,0,2,7,0,0,32,127,255,511])) .h) (.q .z))))))
def cP7(c:m9)(S:Int)(U:d9)(W:Int)(X:Bool)(Z:Int)(aa:d9)(ab:Int)(ac:Bool)(K:KH):C2 :=
 H0 (.c [.i S,.s U,.i W,.bool X] 89) (fun b=>H0 (.c [.i Z,.s aa,.i ab,.bool ac] 89) (fun a=>l8 (m8 b 2) kI (fun v=>l8 (m8 a 2) kI (fun j=>i6 127 [.p c,.i v] kI (fun (d:Int)=>I9 (fun Y=>(m8 a 2) Y=some (.i j)) (i6 127 [.p c,.i j] kI (fun (e:Int)=>C0 (T:=dU3) (fun f g h w=>C0 (T:=dU3) (fun k x y z=>A0 z (K (.i 2)) (dQ6 y kI (fun A=>dQ5 x 2 kI (fun B C l=>i6 55 [.p k,.i A] kI (fun (D:Int)=>I9 (fun Y=>(m8 B (C+2)) Y=some (.i l)) (i6 181 [.p k,.i l] kI (fun (E:Int)=>A0 (decide (((IntKind.i64.wrap (D+E)):Int)>12)) (K (.i 3)) (K (.i 0))))))))) (fun m=>A0 w (dQ6 h kI (fun F=>dQ4 g 2 kI (fun G=>i6 180 [.p f,.i F,.i G] kB (fun H=>m f g h H)))) (m f g h false))) (fun n=>l8 (m8 a 3) kB (fun I=>A0 (!I) (n c (gp b) (gp a) (d==2)) (C0 (T:=dW0) (fun o p q i J L=>A0 L (K (.i 7)) (C0 (T:=m9->m9->m9->Bool->Bool->C2) (fun r M s N O=>A0 O (K (.i 8)) (dQ6 r kP (fun P=>dQ4 s 2 kI (fun Q=>i6 112 [.p P,.i Q] kL (fun R=>A0 (decide ((R.len:Int)>0)) (K (.i 20)) (n r M s N)))))) (fun t=>A0 i (t o p q i (!J)) (t o p q i false)))) (fun u=>A0 (e==2) (u c (gp b) (gp a) (d==2) (e==2) (!(d==2))) (u c (gp b) (gp a) (d==2) (e==2) false))))))))))))
theorem dt9(v1:m9)(v2:Int)(v3:d9)(v4:Int)(v5:Bool)(v6:Int)(v7:d9)(v8:Int)(v9:Bool):cP7 v1 v2 v3 v4 v5 v6 v7 v8 v9 K Y->i7 142 [.p v1,.g [.i v2,.s v3,.i v4,.bool v5],.g [.i v6,.s v7,.i v8,.bool v9]] K Y:=q9 cP6 Tryz.func142


def cP8:Ann:=(.q (.n (.reg [0,1,2,3,5,6,8,10,4,7,9,11,12,13,14,15,16] (mkR [0,1,0,0,12,0,0,124,0,508,0,0,0,8188,16383,32767,65535])) (.n (.o (dlN 0x16505904202a023013009) .h) (.k 2 (.n (.k 2 .h) (.q (.n (.reg (rn 12) (mkR [0,1,3,7,0,31,63,127,255,0,0,2047])) (.seq (some []) (.n (.reg (rn 7) (mkR [0,1,3,7,0,31,63])) (.q (.cond .r .z))) (.q .z)))))))))
def cP9(ag:m9)(f:Int)(j:d9)(ah:Int)(h:d9)(K:KH):C2 :=
 H0 (.c [.p ag] 69) (fun a=>H0 (.c [.i ah] 3) (fun c=>l8 (m8 a 0) kP (fun e=>l8 (m8 a 0) kP (fun B=>l8 (m8 a 0) kP (fun o=>l8 (m8 c 0) kI (fun p=>l8 (m8 a 0) kP (fun g=>i6 119 [.p B,.i f] kR (fun q=>I9 (fun Y=>(m8 a 0) Y=some (.p g)) (I9 (fun Y=>(m8 c 0) Y=some (.i p)) (I9 (fun Y=>(m8 a 0) Y=some (.p o)) (I9 (fun Y=>(m8 a 0) Y=some (.p e)) (i6 119 [.p o,.i p] kR (fun r=>I9 (fun Y=>(m8 a 0) Y=some (.p g)) (I9 (fun Y=>(m8 a 0) Y=some (.p e)) (i6 120 [.s h] kR (fun s=>I9 (fun Y=>(m8 a 0) Y=some (.p g)) (I9 (fun Y=>(m8 a 0) Y=some (.p e)) (i6 175 [.p g,.i f,.s j] kR (fun t=>I9 (fun Y=>(m8 a 0) Y=some (.p e)) (J5 q (J5 r (J5 s (J5 t (H0 (.c [.func (.func 118) ⟨[.p e]⟩ ⟨[]⟩,q,r,s,t] 149) (fun C=>i6 117 [.slice (gp C) 5 5] kI (fun (k:Int)=>C0 (T:=Int->d9->d9->m9->m9->Int->Bool->C2) (fun u v w d l D E=>A0 E (K (.i D)) (dQ6 d kP (fun F=>i6 165 [.p F,.i u,.s v] dS7 (fun G ai=>H0 (.c [.i 0] 3) (fun m=>A3 3 (.q m) (.i G) (dQ6 d kP (fun H=>dQ6 l kI (fun I=>i6 121 [.p H,.i I,.s w] kR (fun x=>J5 x (H0 (.c [x,.func (.func 182) ⟨[]⟩ ⟨[.p l,.p d,.q m]⟩] 149) (fun J=>i6 117 [.slice (gp J) 2 2] kI (fun (y:Int)=>A0 (y != 0) (K (.i y)) (dQ6 d kP (fun L=>dQ4 L 4 kM (fun M=>l8 (rdM (.int .i64) (.p none) false M (.i u)) kP (fun N=>dQ4 N 5 kM (fun O=>ac9 .delete #[143,9] 0 [false,false] [.map O,.s v] kU (dQ6 d kP (fun P=>dQ4 P 4 kM (fun Q=>dQ6 l kI (fun R=>l8 (rdM (.int .i64) (.p none) false Q (.i R)) kP (fun S=>dQ4 S 5 kM (fun U=>l8 (m8 m 0) kI (fun W=>ae9 143 (.map U) (.s w) (.i W) (C0 (T:=C2) (K (.i 0)) (fun z=>dQ6 d kP (fun X=>dQ4 X 4 kM (fun Z=>l8 (m8 m 0) kI (fun aa=>l8 (rdM (.int .i64) (.p none) false Z (.i aa)) kP (fun A=>dQ6 A kI (fun (ab:Int)=>A0 (ab==2) (dQ6 l kI (fun ac=>i9 A (fun ad ae=>A3 3 (.p (some ⟨ad,ae+4,none⟩)) (.i ac) (z)))) (z)))))))))))))))))))))))))))))))) (fun n=>A0 (k != 0) (n f j h (gp a) (gp c) k true) (l8 (m8 c 0) kI (fun (af:Int)=>A0 ((f:Int)==af) (n f j h (gp a) (gp c) k (C3 j h)) (n f j h (gp a) (gp c) k false))))))))))))))))))))))))))))))
theorem du0(v1:m9)(v2:Int)(v3:d9)(v4:Int)(v5:d9):cP9 v1 v2 v3 v4 v5 K Y->i7 143 [.p v1,.i v2,.s v3,.i v4,.s v5] K Y:=q9 cP8 Tryz.func143


def cQ0:Ann:=(.k 2 (.n (.reg (rn 16) (mkR [0,1,3,7,0,16,48,112,240,0,1023,2047,4095,4095,8191,32767])) (.seq (some (dlN 0x61051019013002)) (.q (.cond (.reg (rn 13) (mkR [0,1,3,7,0,16,48,112,240,0,0,2047,4095])) .z)) (.seq (some (dlN 0x61)) (.o (dlN 0x1a5061019013002) (.cond (.reg (rn 13) (mkR [0,1,3,7,0,16,48,112,240,0,0,2047,4095])) .z)) (.q .z)))))
def cQ1(a:m9)(J:d9)(b:d9)(I:Int)(K:KH):C2 :=
 i6 76 [.p a,.s b,.bool true] dR4 (fun n o p q d=>H0 (.c [.i 0,.i 0,.s gq,.i 0] 80) (fun r=>A3 80 (.q r) (.g [.i n,.i o,.s p,.i q]) (dQ4 a 4 kP (fun t=>dQ4 a 3 kS (fun u=>i6 183 [.p t,.s u,.s J] dS8 (fun v (e:Int)=>C0 (T:=m9->d9->Int->Int->Int->C2) (fun f g h w c=>C0 (T:=Int->C2) (fun x=>K (.i x)) (fun j=>C0 (T:=m9->d9->Int->Int->Bool->C2) (fun k y z A B=>A0 B (dQ4 k 4 kP (fun C=>dQ4 k 3 kS (fun D=>i6 18 [.p C,.s D,.s y,.i z] kI (fun E=>j E)))) (j A)) (fun l=>A0 ((c:Int)==0) (l f g h c ((w:Int) != 0)) (l f g h c false)))) (fun m=>A0 (e==0) (dQ4 a 4 kP (fun F=>dQ4 a 3 kS (fun G=>i6 16 [.p F,.s G,.s b,.s v,.bool false] kI (fun H=>m a b I d H)))) (m a b I d e))))))))
theorem du1(v1:m9)(v2:d9)(v3:d9)(v4:Int):cQ1 v1 v2 v3 v4 K Y->i7 144 [.p v1,.s v2,.s v3,.i v4] K Y:=q9 cQ0 Tryz.func144


def cQ2:Ann:=(.q (.n (.reg (rn 16) (mkR [0,1,3,7,0,16,48,112,240,0,1023,2047,4095,4095,8191,32767])) (.n (.reg (rn 16) (mkR [0,1,3,7,0,16,48,112,240,0,1023,2047,4095,4095,8191,32767])) (.seq (some (dlN 0x5104b04103b)) (.q (.cond (.reg (rn 17) (mkR [0,1,3,7,0,16,48,112,240,0,512,2047,4095,8191,8191,16383,65535])) .z)) (.q .z)))))
def cQ3(a:m9)(C:d9)(p:d9)(K:KH):C2 :=
 dQ4 a 4 kP (fun l=>dQ4 a 3 kS (fun m=>i6 184 [.p l,.s m,.s C] dS8 (fun b c=>dQ4 a 4 kP (fun n=>dQ4 a 3 kS (fun o=>i6 184 [.p n,.s o,.s p] dS8 (fun q (d:Int)=>C0 (T:=d9->Int->d9->Int->C2) (fun e r f t=>A0 ((r:Int)==0) (A0 ((t:Int)==0) (A0 (C3 e f) (K (.bool true)) (i6 178 [.s e,.s (bs [47])] kS (fun g=>E3 (g.size+((bs [47]):d9).size<=9223372036854775807) (i6 125 [.s f,.s (g++(bs [47]))] kB (fun u=>K (.bool u)))))) (K (.bool false))) (K (.bool false))) (fun h=>A0 (d != 0) (dQ5 a 4 kP (fun v w j=>dQ5 a 3 kS (fun x y k=>i6 185 [.s p] kS (fun z=>I9 (fun Y=>(m8 x (y+3)) Y=some (.s k)) (I9 (fun Y=>(m8 v (w+4)) Y=some (.p j)) (i6 184 [.p j,.s k,.s z] dS8 (fun A B=>h b c A B))))))) (h b c q d))))))))
theorem du2(v1:m9)(v2:d9)(v3:d9):cQ3 v1 v2 v3 K Y->i7 145 [.p v1,.s v2,.s v3] K Y:=q9 cQ2 Tryz.func145


def cQ4:Ann:=(.q (.n (.blk (.loop [(0,.s),(1,.sc (.int .u8))] (.n (.seq (some [(0,.s),(1,.sc (.int .u8)),(9,.w),(10,.w),(11,.w),(12,.w),(13,.w),(14,.w),(15,.w),(16,.b)]) .r (.cond .z .z)) (.blk .r)))) (.q .z)))
def cQ5(p:d9)(q:Int)(K:KH):C2 :=
 C9 [.s,.sc (.int .u8)] (fun e=>(fun a (c:Int)=>C0 (T:=d9->Int->u9->u9->u9->u9->u9->u9->u9->Bool->C2) (fun b f i j k l m n o g=>A0 g (E3 (E1 (some (IntKind.i64.wrap ((b.size:Int)-1))) b.size/\E1 none ((IntKind.i64.wrap ((b.size:Int)-1)).toNat)) (e (b.extract 0 ((IntKind.i64.wrap ((b.size:Int)-1)).toNat)) f)) (K (.s b))) (fun d=>A0 (decide ((a.size:Int)>0)) (I2 a (IntKind.i64.wrap ((a.size:Int)-1)) (fun c17=>d a c (.s a) (.s a) (.i (a.size:Int)) (.i (IntKind.i64.wrap ((a.size:Int)-1))) (.int .u8 (c17.toNat:Int)) (.int .u8 c) (.bool ((c17.toNat:Int)==c)) ((c17.toNat:Int)==c))) (d a c (.t []) (.t []) (.t []) (.t []) (.t []) (.t []) (.t []) false)))) (fun h=>h p q)
theorem du3(v1:d9)(v2:Int):cQ5 v1 v2 K Y->i7 149 [.s v1,.int .u8 v2] K Y:=q9 cQ4 Tryz.func149


def cQ6:Ann:=(.q (.n (.q (.blk (.loop (dlN 0x21012003) (.n (.q (.cond .z .z)) (.n (.blk (.q (.n (.q .h) .r))) .r))))) (.q .z)))
def cQ7(n:d9)(K:KH):C2 :=
 H0 (.cells ⟨(List.replicate 256 (.bool false))⟩ 173 (0,0)) (fun d=>C9 [.s,.p,.i] (fun e=>(fun b a (c:Int)=>A0 (decide (c<(b.size:Int))) (I2 b c (fun c7=>A0 (decide ((c7.toNat:Int)>=128)) (dR0 a 256 kR (fun f=>A3 173 (.p a) (f) (dR0 a 256 kR (fun g=>K (.t [g,.bool false]))))) (i9 a (fun h j=>E3 (0<=(c7.toNat:Int)/\(c7.toNat:Int)<(256:Int)) (A3 4 (.p (some ⟨h,j+(c7.toNat:Int).toNat*1,none⟩)) (.bool true) (e b a (IntKind.i64.wrap (c+1)))))))) (dR0 a 256 kR (fun k=>A3 173 (.p a) (k) (dR0 a 256 kR (fun l=>K (.t [l,.bool true]))))))) (fun m=>m n (gp d) 0))
theorem du4(v1:d9):cQ7 v1 K Y->i7 150 [.s v1] K Y:=q9 cQ6 Tryz.func150


def cQ8:Ann:=(.k 2 .z)
def cQ9(b:Int)(K:KH):C2 :=
 i6 201 [.i b,.i 10] kS (fun a=>K (.s a))
theorem du5(v1:Int):cQ9 v1 K Y->i7 155 [.i v1] K Y:=q9 cQ8 Tryz.func155


def cR0:Ann:=(.q (.n (.blk (.loop (dlN 0x3) (.n (.o (dlN 0x6d003) (.cond .z .z)) (.blk .r)))) (.q .z)))
def cR1(g:d9)(K:KH):C2 :=
 C9 [.s] (fun d=>(fun b=>C0 (T:=d9->Bool->C2) (fun a e=>A0 e (E3 (E1 (some (IntKind.i64.wrap ((a.size:Int)-1))) a.size/\E1 none ((IntKind.i64.wrap ((a.size:Int)-1)).toNat)) (d (a.extract 0 ((IntKind.i64.wrap ((a.size:Int)-1)).toNat)))) (K (.s a))) (fun c=>A0 (decide ((b.size:Int)>0)) (I2 b (IntKind.i64.wrap ((b.size:Int)-1)) (fun c7=>c b ((c7.toNat:Int)==47))) (c b false)))) (fun f=>f g)
theorem du6(v1:d9):cR1 v1 K Y->i7 156 [.s v1] K Y:=q9 cR0 Tryz.func156


def cR2:Ann:=(.k 2 (.n (.q .h) (.n (.q .h) (.k 2 (.seq (some (dlN 0x59053002)) (.seq (some (dlN 0x16d059053042002)) (.reg (rn 17) (mkR [0,1,3,7,15,31,63,127,15,271,1023,2047,4095,8191,16383,32767,65535])) (.cond (.q .r) .z)) (.n (.blk (.loop (dlN 0x59053002) (.n (.q (.cond .z .z)) (.blk (.q (.n (.q (.blk (.loop (dlN 0x69061059053002) (.n (.q (.cond .z .z)) (.seq (some (dlN 0x69061059053002)) (.blk (.q (.cond .r .z))) .r))))) .r)))))) (.seq (some (dlN 0x53)) (.q (.cond .r .z)) (.q .z))))))))
def cR3(f:m9)(au:d9)(av:d9)(K:KH):C2 :=
 i6 57 [.p f,.s au,.s av,.bool true] dR7 (fun E F G (l:Int)=>H0 (.c [.i 0,.s gq,.i 0] 95) (fun b=>A3 95 (.q b) (.g [.i E,.s F,.i G]) (A0 (l != 0) (K (.t [.s gq,.i l])) (l8 (m8 b 2) kI (fun (H:Int)=>A0 (decide (H<0)) (K (.t [.s gq,.i 5])) (l8 (m8 b 2) kI (fun m=>C0 (T:=dV5) (fun I J L=>C9 [.p,.s,.i] (fun M=>(fun n g (h:Int)=>A0 (h != 0) (dQ4 n 2 kL (fun o=>dR2 o.base o.len h kP (fun N=>dQ4 N 4 kI (fun O=>C9 [.p,.s,.i,.i,.i] (fun P=>(fun c e (j:Int) (d:Int) (a:Int)=>dQ4 c 2 kL (fun q=>dR2 q.base q.len d kP (fun Q=>dQ4 Q 3 kL (fun R=>A0 (decide (a<(R.len:Int))) (C0 (T:=m9->d9->Int->Int->Int->C2) (fun S U W X Z=>P S U W X (IntKind.i64.wrap (Z+1))) (fun r=>dQ4 c 2 kL (fun t=>dR2 t.base t.len d kP (fun aa=>dQ4 aa 3 kL (fun u=>i9 u.base (fun ab ac=>E3 (0<=a/\a<(u.len:Int)) (l8 (m8 ab (ac+a.toNat*2+1)) kI (fun (ad:Int)=>A0 (ad==j) (dQ4 c 2 kL (fun v=>dR2 v.base v.len d kP (fun ae=>dQ4 ae 3 kL (fun w=>i9 w.base (fun af ag=>E3 (0<=a/\a<(w.len:Int)) (l8 (m8 af (ag+a.toNat*2)) kS (fun k=>E3 (((bs [47]):d9).size+k.size<=9223372036854775807) (E3 ((((bs [47]):d9)++k).size+e.size<=9223372036854775807) (r c ((((bs [47]):d9)++k)++e) j d a))))))))) (r c e j d a))))))))) (M c e d)))))) (fun ah=>ah n g h O 0))))) (C0 (T:=d9->C2) (fun ai=>K (.t [.s ai,.i 0])) (fun x=>A0 (C3 g (gq:d9)) (x ((bs [47]):d9)) (x g))))) (fun aj=>aj I J L)) (fun y=>C0 (T:=m9->m9->d9->Int->Bool->C2) (fun z A ak al am=>A0 am (dQ4 A 1 kS (fun B=>E3 (((bs [47]):d9).size+B.size<=9223372036854775807) (dQ6 A kI (fun an=>y z (((bs [47]):d9)++B) an)))) (y z ak al)) (fun C=>l8 (m8 b 1) kS (fun ao=>A0 (!C3 ao (gq:d9)) (dQ4 f 2 kL (fun D=>l8 (m8 b 2) kI (fun (ap:Int)=>dR2 D.base D.len ap kP (fun aq=>dQ6 aq kI (fun (ar:Int)=>C f (gp b) (gq:d9) m (ar != 2)))))) (C f (gp b) (gq:d9) m false)))))))))))
theorem du7(v1:m9)(v2:d9)(v3:d9):cR3 v1 v2 v3 K Y->i7 157 [.p v1,.s v2,.s v3] K Y:=q9 cR2 Tryz.func157


def cR4:Ann:=(.k 3 (.n (.o (dlN 0xcd01b) .h) (.n (.q .h) (.q .z))))
def cR5(d:d9)(K:KH):C2 :=
 i6 156 [.s d] kS (fun a=>i6 97 [.s a] kS (fun b=>E3 (E1 (some (IntKind.i64.wrap ((a.size:Int)-(b.size:Int)))) a.size/\E1 none ((IntKind.i64.wrap ((a.size:Int)-(b.size:Int))).toNat)) (C0 (T:=d9->Bool->C2) (fun e f=>A0 f (K (.s (bs [47]))) (A0 (C3 e (gq:d9)) (K (.s (bs [46]))) (K (.s e)))) (fun c=>A0 (C3 (a.extract 0 ((IntKind.i64.wrap ((a.size:Int)-(b.size:Int))).toNat)) (gq:d9)) (A0 (decide ((d.size:Int)>0)) (I2 d 0 (fun c7=>c (a.extract 0 ((IntKind.i64.wrap ((a.size:Int)-(b.size:Int))).toNat)) ((c7.toNat:Int)==47))) (c (a.extract 0 ((IntKind.i64.wrap ((a.size:Int)-(b.size:Int))).toNat)) false)) (c (a.extract 0 ((IntKind.i64.wrap ((a.size:Int)-(b.size:Int))).toNat)) false)))))
theorem cy2(v1:d9):cR5 v1 K Y->i7 158 [.s v1] K Y:=q9 cR4 Tryz.func158


def cR6:Ann:=(.k 2 .z)
def cR7(b:Option Nat)(K:KH):C2 :=
 H0 (.c [.map b] 143) (fun a=>K (.func (.func 203) ⟨[]⟩ ⟨[.q a]⟩))
theorem du8(v1:Option Nat):cR7 v1 K Y->i7 160 [.map v1] K Y:=q9 cR6 Tryz.func160


def cR8:Ann:=(.k 2 (.n (.q .h) (.q .z)))
def cR9(x1:m9)(x2:m9)(K:KH):C2 :=
 i9 x1 (fun b3 o4=>l8 (m8 b3 o4) kP (fun x5=>i9 x2 (fun b6 o7=>l8 (m8 b6 o7) kI (fun(x8:Int)=>i6 128 [.p x5,.i x8] kP (fun x9=>A0 x9.isNone (K (.i 5)) (i9 x9 (fun b10 o11=>l8 (m8 b10 o11) kI (fun(x12:Int)=>i6 116 [.bool ((x12:Int)==2),.i 8] kI (fun(x13:Int)=>K (.i x13))))))))))
theorem du9(x1:m9)(x2:m9):cR9 x1 x2 K Y->i7 161 [.p x1,.p x2] K Y:=q9 cR8 Tryz.func161


def cS0:Ann:=(.q (.n (.q .h) (.q .z)))
def cS1(x1:m9)(K:KH):C2 :=
 i9 x1 (fun b2 o3=>l8 (m8 b2 o3) kS (fun(x4:d9)=>A0 (decide (((x4.size:Nat):Int)>56)) (K (.i 3)) (i9 x1 (fun b5 o6=>l8 (m8 b5 o6) kS (fun(x7:d9)=>A0 (!C3 x7 (gq:d9)) (i9 x1 (fun b8 o9=>l8 (m8 b8 o9) kS (fun(x10:d9)=>A0 (!C3 x10 ((bs [46]):d9)) (i9 x1 (fun b11 o12=>l8 (m8 b11 o12) kS (fun(x13:d9)=>A0 (!C3 x13 ((bs [46,46]):d9)) (i9 x1 (fun b14 o15 =>
 l8 (m8 b14 o15) kS (fun(x16:d9)=>i6 163 [.s x16,.s (bs [47,0])] kB (fun x17=>i6 116 [.bool (!x17),.i 2] kI (fun(x18:Int)=>K (.i x18)))))) (i6 116 [.bool false,.i 2] kI (fun(x19:Int)=>K (.i x19)))))) (i6 116 [.bool false,.i 2] kI (fun(x20:Int)=>K (.i x20)))))) (i6 116 [.bool false,.i 2] kI (fun(x21:Int) =>
 K (.i x21))))))))
theorem dv0(x1:m9):cS1 x1 K Y->i7 162 [.p x1] K Y:=q9 cS0 Tryz.func162


def cS2:Ann:=(.k 2 .z)
def cS3(b:d9)(c:d9)(K:KH):C2 :=
 i6 204 [.s b,.s c] kI (fun (a:Int)=>K (.bool (decide (a>=0))))
theorem dv1(v1:d9)(v2:d9):cS3 v1 v2 K Y->i7 163 [.s v1,.s v2] K Y:=q9 cS2 Tryz.func163


def cS4:Ann:=(.k 3 .z)
def cS5(x1:m9)(x2:m9)(x3:m9)(K:KH):C2 :=
 i9 x1 (fun b4 o5=>l8 (m8 b4 o5) kP (fun x6=>i9 x2 (fun b7 o8=>l8 (m8 b7 o8) kI (fun(x9:Int)=>i9 x3 (fun b10 o11=>l8 (m8 b10 o11) kS (fun(x12:d9)=>i6 165 [.p x6,.i x9,.s x12] dS9 (fun(_x13:Int) (x14:Bool)=>i6 116 [.bool (!x14),.i 6] kI (fun(x15:Int)=>K (.i x15)))))))))
theorem dv2(x1:m9)(x2:m9)(x3:m9):cS5 x1 x2 x3 K Y->i7 164 [.p x1,.p x2,.p x3] K Y:=q9 cS4 Tryz.func164


def cS6:Ann:=(.k 2 (.n (.q .h) (.k 2 .z)))
def cS7(f:m9)(g:Int)(h:d9)(K:KH):C2 :=
 i6 128 [.p f,.i g] kP (fun a=>A0 a.isNone (K (.t [.i 0,.bool false])) (dQ4 a 5 kM (fun c=>l8 (rdM .string (.i 0) true c (.s h)) dS7 (fun d e=>K (.t [.i d,.bool e])))))
theorem dv3(v1:m9)(v2:Int)(v3:d9):cS7 v1 v2 v3 K Y->i7 165 [.p v1,.i v2,.s v3] K Y:=q9 cS6 Tryz.func165


def cS8:Ann:=(.q (.n (.reg (rn 30) (mkR [0,1,3,7,15,0,63,0,128,384,896,1920,4095,8191,16383,32767,65535,131071,262143,16383,1048575,16383,2113535,6307839,14696447,31473663,67108863,134217727,268435455,536870911])) .z))
def cS9(x1:m9)(x2:m9)(x3:m9)(K:KH):C2 :=
 i9 x1 (fun b4 o5=>l8 (m8 b4 o5) kP (fun x6=>i9 x6 (fun b7 o8=>l8 (m8 b7 (o8+2)) kI (fun(x9:Int)=>i9 x2 (fun b10 o11=>l8 (m8 b10 o11) kI (fun(x12:Int)=>i9 x1 (fun b13 o14=>l8 (m8 b13 o14) kP (fun x15=>i9 x15 (fun b16 o17=>l8 (m8 b16 o17) kI (fun(x18:Int)=>A0 (decide (((IntKind.i64.wrap (x9+x12)):Int)<=x18)) (i9 x1 (fun b19 o20=>l8 (m8 b19 o20) kP (fun x21=>i9 x21 (fun b22 o23=>l8 (m8 b22 (o23+3)) kI (fun(x24:Int) =>
 i9 x3 (fun b25 o26=>l8 (m8 b25 o26) kI (fun(x27:Int)=>i9 x1 (fun b28 o29=>l8 (m8 b28 o29) kP (fun x30=>i9 x30 (fun b31 o32=>l8 (m8 b31 (o32+1)) kI (fun(x33:Int)=>i6 116 [.bool (decide (((IntKind.i64.wrap (x24+x27)):Int)<=x33)),.i 10] kI (fun(x34:Int)=>K (.i x34))))))))))))) (i6 116 [.bool false,.i 10] kI (fun(x35:Int)=>K (.i x35)))))))))))))
theorem dv4(x1:m9)(x2:m9)(x3:m9):cS9 x1 x2 x3 K Y->i7 166 [.p x1,.p x2,.p x3] K Y:=q9 cS8 Tryz.func166


def cT0:Ann:=(.k 3 (.n (.q (.blk (.loop (dlN 0x2902101c003) (.n (.q (.cond .z .z)) (.seq (some (dlN 0xae0a609e09602902101c003)) (.blk (.n (.o (dlN 0xb50ae0a609e09602902101c003) (.cond .z .z)) (.q (.seq (some (dlN 0xfe0f60ae0a609e09602901c003)) (.o (dlN 0x1050fe0f60ae0a609e09603302901c003) (.cond .r .z)) .r)))) .r))))) (.q .z)))
def cT1(ae:d9)(K:KH):C2 :=
 C9 [.s,.l,.i,.i] (fun D=>(fun d f o (e:Int)=>A0 (decide (e<=(d.size:Int))) (C0 (T:=d9->Sl->Int->Int->u9->u9->u9->u9->C2) (fun E F G H X Z aa ab=>D E F G (IntKind.i64.wrap (H+1))) (fun p=>C0 (T:=d9->Sl->Int->Int->u9->u9->u9->u9->Bool->C2) (fun b h c a j k m n I=>A0 I (p b h c a j k m n) (E3 (E1 (some a) b.size/\E1 (some c) (a.toNat)) (C0 (T:=d9->Sl->Int->u9->u9->u9->u9->u9->u9->C2) (fun J L q M N O P ac ad=>p J L (IntKind.i64.wrap (q+1)) q M N O P) (fun r=>C0 (T:=d9->Sl->Int->d9->u9->u9->u9->u9->u9->u9->Bool->C2) (fun t g u Q v w x y z A R=>A0 R (H0 (.c [.s Q] 9) (fun S=>ac9 .append #[30,30] 30 [false,false] [.slice g.base g.len g.cap,.slice (gp S) 1 1] kL (fun U=>r t U u v w x y z A))) (r t g u v w x y z A)) (fun B=>A0 (!C3 (b.extract c.toNat a.toNat) (gq:d9)) (B b h a (b.extract c.toNat a.toNat) j k m n (.s (b.extract c.toNat a.toNat)) (.bool (!C3 (b.extract c.toNat a.toNat) ((bs [46]):d9))) (!C3 (b.extract c.toNat a.toNat) ((bs [46]):d9))) (B b h a (b.extract c.toNat a.toNat) j k m n (.t []) (.t []) false)))))) (fun C=>A0 (decide (e<(d.size:Int))) (I2 d e (fun c50=>C d f o e (.s d) (.i e) (.int .u8 (c50.toNat:Int)) (.bool ((c50.toNat:Int) != 47)) ((c50.toNat:Int) != 47))) (C d f o e (.t []) (.t []) (.t []) (.t []) false)))) (K (.slice f.base f.len f.cap)))) (fun W=>W ae ⟨none,0,0⟩ 0 0)
theorem dv5(v1:d9):cT1 v1 K Y->i7 167 [.s v1] K Y:=q9 cT0 Tryz.func167


def cT2:Ann:=(.q (.n (.q .h) (.n (.q (.cond (.n (.reg (rn 23) (mkR [0,1,3,7,0,31,63,127,255,511,0,1024,3072,7168,0,31744,64512,130048,261120,523264,1048575,2097151,4194303])) .z) .z)) (.n (.q .h) (.q .z)))))
def cT3(c:m9)(b:Int)(d:d9)(K:KH):C2 :=
 H0 (.c [.i 0,.s gq,.i 0] 95) (fun a=>dQ4 c 2 kL (fun e=>dR2 e.base e.len b kP (fun h=>dQ6 h kI (fun (i:Int)=>A0 (i != 2) (A3 95 (.q a) (.g [.i 0,.s gq,.i 0]) (l8 (rdA 3 a 0) dR5 (fun j k l=>K (.t [.g [.i j,.s k,.i l],.i 8])))) (A0 (C3 d ((bs [46,46]):d9)) (dQ4 c 2 kL (fun f=>dR2 f.base f.len b kP (fun m=>dQ4 m 4 kI (fun n=>dQ4 c 2 kL (fun g=>dR2 g.base g.len b kP (fun o=>dQ4 o 4 kI (fun p=>A3 95 (.q a) (.g [.i p,.s gq,.i n]) (l8 (rdA 3 a 0) dR5 (fun q r s=>K (.t [.g [.i q,.s r,.i s],.i 0])))))))))) (A0 (decide ((d.size:Int)>56)) (A3 95 (.q a) (.g [.i 0,.s gq,.i 0]) (l8 (rdA 3 a 0) dR5 (fun t u v=>K (.t [.g [.i t,.s u,.i v],.i 3])))) (i6 205 [.p c,.i b,.s d] kI (fun w=>A3 95 (.q a) (.g [.i b,.s d,.i w]) (l8 (rdA 3 a 0) dR5 (fun x y z=>K (.t [.g [.i x,.s y,.i z],.i 0])))))))))))
theorem dv6(v1:m9)(v2:Int)(v3:d9):cT3 v1 v2 v3 K Y->i7 168 [.p v1,.i v2,.s v3] K Y:=q9 cT2 Tryz.func168


def cT4:Ann:=(.k 2 .z)
def cT5(b:d9)(a:d9)(K:KH):C2 :=
 A0 (decide ((b.size:Int)>=(a.size:Int))) (E3 (E1 (some (a.size:Int)) b.size/\E1 none ((a.size:Int).toNat)) (K (.bool (C3 (b.extract 0 ((a.size:Int).toNat)) a)))) (K (.bool false))
theorem dv7(v1:d9)(v2:d9):cT5 v1 v2 K Y->i7 169 [.s v1,.s v2] K Y:=q9 cT4 Tryz.func169


def cT6:Ann:=(.q (.n (.blk (.q (.cond (.q .z) (.q (.cond (.q .z) (.q .h)))))) (.q .z)))
def cT7(a:d9)(K:KH):C2 :=
 A0 (C3 a (gq:d9)) (K (.i 5)) (A0 (decide ((a.size:Int)>255)) (K (.i 3)) (i6 68 [.s a,.int .u8 0] kI (fun (b:Int)=>A0 (decide (b>=0)) (K (.i 2)) (K (.i 0)))))
theorem dv8(v1:d9):cT7 v1 K Y->i7 170 [.s v1] K Y:=q9 cT6 Tryz.func170


def cT8:Ann:=(.k 2 .z)
def cT9(b:d9)(K:KH):C2 :=
 H0 (.c [.s b] 9) (fun a=>K (.func (.func 206) ⟨[]⟩ ⟨[.q a]⟩))
theorem dv9(v1:d9):cT9 v1 K Y->i7 171 [.s v1] K Y:=q9 cT8 Tryz.func171


def cU0:Ann:=(.k 2 (.n (.blk (.q (.cond (.q .z) (.q .h)))) (.q .z)))
def cU1(x1:m9)(x2:m9)(K:KH):C2 :=
 i9 x1 (fun b3 o4=>l8 (m8 b3 o4) kP (fun x5=>i9 x2 (fun b6 o7=>l8 (m8 b6 o7) kI (fun(x8:Int)=>i6 128 [.p x5,.i x8] kP (fun x9=>A0 x9.isNone (K (.i 5)) (i9 x9 (fun b10 o11=>l8 (m8 b10 o11) kI (fun(x12:Int)=>A0 ((x12:Int)==2) (K (.i 7)) (i9 x9 (fun b13 o14=>l8 (m8 b13 o14) kI (fun(x15:Int)=>i6 116 [.bool ((x15:Int)==1),.i 2] kI (fun(x16:Int)=>K (.i x16)))))))))))))
theorem dw0(x1:m9)(x2:m9):cU1 x1 x2 K Y->i7 172 [.p x1,.p x2] K Y:=q9 cU0 Tryz.func172


def cU2:Ann:=(.k 3 .z)
def cU3(x1:m9)(x2:m9)(x3:m9)(K:KH):C2 :=
 i9 x1 (fun b4 o5=>l8 (m8 b4 o5) kP (fun x6=>i9 x2 (fun b7 o8=>l8 (m8 b7 o8) kI (fun(x9:Int)=>i9 x3 (fun b10 o11=>l8 (m8 b10 o11) kS (fun(x12:d9)=>i6 165 [.p x6,.i x9,.s x12] dS9 (fun(x13:Int) (_x14:Bool)=>i9 x1 (fun b15 o16=>l8 (m8 b15 o16) kP (fun x17=>i9 x17 (fun b18 o19=>l8 (m8 b18 (o19+4)) kM (fun(x20:Option Nat) =>
 l8 (rdM (.int .i64) (.p none) false x20 (.i x13)) kP (fun x21=>i9 x21 (fun b22 o23=>l8 (m8 b22 (o23+5)) kM (fun(x24:Option Nat)=>l8 (bj4 x24) kI (fun(x25:Int)=>i6 116 [.bool ((x25:Int)==0),.i 20] kI (fun(x26:Int)=>K (.i x26)))))))))))))))))
theorem dw1(x1:m9)(x2:m9)(x3:m9):cU3 x1 x2 x3 K Y->i7 174 [.p x1,.p x2,.p x3] K Y:=q9 cU2 Tryz.func174


def cU4:Ann:=(.k 2 .z)
def cU5(d:m9)(e:Int)(f:d9)(K:KH):C2 :=
 H0 (.c [.p d] 69) (fun a=>H0 (.c [.i e] 3) (fun b=>H0 (.c [.s f] 9) (fun c=>K (.func (.func 208) ⟨[]⟩ ⟨[.q a,.q b,.q c]⟩))))
theorem cy3(v1:m9)(v2:Int)(v3:d9):cU5 v1 v2 v3 K Y->i7 175 [.p v1,.i v2,.s v3] K Y:=q9 cU4 Tryz.func175


def cU6:Ann:=(.q (.n (.q .h) (.q (.seq (some (dlN 0x45011009003)) (.q (.blk (.q (.cond .r (.q (.cond (.q .r) .z)))))) (.k 2 (.n (.seq (some [(2,.i),(7,.w),(8,.b),(9,.sc (.int .u64)),(38,.b)]) .r .h) (.seq (some [(2,.i),(8,.b),(9,.sc (.int .u64))]) (.q (.cond .r .z)) (.q (.n (.seq (some [(8,.b),(9,.sc (.int .u64)),(10,.sc (.int .u64)),(52,.b)]) .r .h) (.n (.seq (some [(8,.b),(9,.sc (.int .u64)),(10,.sc (.int .u64)),(62,.b)]) .r .h) (.q (.seq (some (dlN 0x59)) (.q (.cond .r .z)) (.q .z)))))))))))))
def cy4(a:d9)(v:Int)(x:Int)(K:KH):C2 :=
 A0 (C3 a (gq:d9)) (K (.t [.i 0,.iface 206 (.i 2)])) (C0 (T:=d9->Int->Int->Bool->C2) (fun y z e k=>i6 209 [.s y,.i z,.i e] (.tup [.sc (.int .u64),.w]) (fun l b=>C0 (T:=Int->u9->Bool->Int->Bool->C2) (fun m A n o B=>A0 B (K (.t [.i 0,A])) (C0 (T:=Int->Bool->Int->C2) (fun c f g=>E3 (0<=(IntKind.u64.wrap (IntKind.i64.wrap (c-1)))) (C0 (T:=Bool->Int->Int->Bool->C2) (fun h i d C=>A0 C (K (.t [.i (IntKind.i64.wrap (IntKind.u64.wrap (d-1))),.iface 206 (.i 1)])) (C0 (T:=Bool->Int->Int->Bool->C2) (fun D p E F=>A0 F (K (.t [.i (IntKind.i64.wrap (0-(IntKind.i64.wrap E))),.iface 206 (.i 1)])) (C0 (T:=Int->C2) (fun G=>K (.t [.i G,.nilIface])) (fun q=>A0 D (q (IntKind.i64.wrap (0-(IntKind.i64.wrap p)))) (q (IntKind.i64.wrap p))))) (fun r=>A0 h (r h i d (decide ((i:Int)>d))) (r h i d false)))) (fun s=>A0 (!f) (s f g (IntKind.u64.wrap (1*2 ^ min (Int.toNat (IntKind.u64.wrap (IntKind.i64.wrap (c-1)))) (IntKind.bits .u64))) (decide ((g:Int)>=(IntKind.u64.wrap (1*2 ^ min (Int.toNat (IntKind.u64.wrap (IntKind.i64.wrap (c-1)))) (IntKind.bits .u64)))))) (s f g (IntKind.u64.wrap (1*2 ^ min (Int.toNat (IntKind.u64.wrap (IntKind.i64.wrap (c-1)))) (IntKind.bits .u64))) false)))) (fun t=>A0 ((m:Int)==0) (t 64 n o) (t m n o)))) (fun u=>W7 Tryz.prog (do eqGuard .neq 160 (.tmp 32) (.const (.nilIface)) (b) (.nilIface);binOp .neq 160 (b) (.nilIface)) kB (fun H=>A0 H (W7 Tryz.prog (do eqGuard .neq 160 (.tmp 35) (.tmp 36) (b) (.iface 206 (.i 1));binOp .neq 160 (b) (.iface 206 (.i 1))) kB (fun I=>u e b k l I)) (u e b k l false))))) (fun j=>I2 a 0 (fun c35=>A0 ((c35.toNat:Int)==43) (E3 (E1 none a.size/\E1 (some 1) (a.size)) (j (a.extract ((1:Int).toNat) a.size) v x false)) (A0 ((c35.toNat:Int)==45) (E3 (E1 none a.size/\E1 (some 1) (a.size)) (j (a.extract ((1:Int).toNat) a.size) v x true)) (j a v x false)))))
theorem cU7(v1:d9)(v2:Int)(v3:Int):cy4 v1 v2 v3 K Y->i7 176 [.s v1,.i v2,.i v3] K Y:=q9 cU6 Tryz.func176


def cU8:Ann:=(.q (.n (.q (.blk (.q (.cond (.q .z) (.q (.cond (.q .z) (.q (.cond (.q .z) (.q .h))))))))) (.q .z)))
def cU9(b:d9)(c:d9)(l:Int)(m:Int)(a:u9)(K:KH):C2 :=
 W7 Tryz.prog (do eqGuard .eql 160 (.tmp 11) (.tmp 13) (a) (.iface 206 (.i 2));binOp .eql 160 (a) (.iface 206 (.i 2))) kB (fun d=>A0 d (i6 210 [.s b,.s c] kP (fun e=>K (.iface 209 (.p e)))) (W7 Tryz.prog (do eqGuard .eql 160 (.tmp 11) (.tmp 20) (a) (.iface 206 (.i 1));binOp .eql 160 (a) (.iface 206 (.i 1))) kB (fun f=>A0 f (i6 211 [.s b,.s c] kP (fun g=>K (.iface 209 (.p g)))) (W7 Tryz.prog (do eqGuard .eql 160 (.tmp 11) (.tmp 27) (a) (.iface 206 (.i 3));binOp .eql 160 (a) (.iface 206 (.i 3))) kB (fun h=>A0 h (i6 212 [.s b,.s c,.i l] kP (fun i=>K (.iface 209 (.p i)))) (W7 Tryz.prog (do eqGuard .eql 160 (.tmp 11) (.tmp 35) (a) (.iface 206 (.i 4));binOp .eql 160 (a) (.iface 206 (.i 4))) kB (fun j=>A0 j (i6 213 [.s b,.s c,.i m] kP (fun k=>K (.iface 209 (.p k)))) (K (a)))))))))
theorem cy5(v1:d9)(v2:d9)(v3:Int)(v4:Int)(v5:u9):cU9 v1 v2 v3 v4 v5 K Y->i7 177 [.s v1,.s v2,.i v3,.i v4,v5] K Y:=q9 cU8 Tryz.func177


def cV0:Ann:=(.q (.n (.o (dlN 0x6500b003) .h) (.n (.o (dlN 0xad00b003) .h) (.n (.k 2 .h) (.q .z)))))
def cV1(i:d9)(j:d9)(K:KH):C2 :=
 C0 (T:=dY0) (fun c a k=>A0 k (K (.s c)) (C0 (T:=dY0) (fun d e l=>A0 l (I2 e 0 (fun c11=>i6 149 [.s d,.int .u8 (c11.toNat:Int)] kS (fun m=>K (.s m)))) (i6 150 [.s e] (.tup [.w,.b]) (fun n o=>H0 (.cells ⟨(List.replicate 256 (.bool false))⟩ 173 (0,0)) (fun f=>A3 173 (.q f) (n) (A0 o (i6 152 [.s d,.q f] kS (fun p=>K (.s p))) (i6 154 [.s d,.s e] kS (fun q=>K (.s q)))))))) (fun g=>A0 ((a.size:Int)==1) (I2 a 0 (fun c18=>g c a (decide ((c18.toNat:Int)<128)))) (g c a false)))) (fun h=>A0 (C3 i (gq:d9)) (h i j true) (h i j (C3 j (gq:d9))))
theorem dw2(v1:d9)(v2:d9):cV1 v1 v2 K Y->i7 178 [.s v1,.s v2] K Y:=q9 cV0 Tryz.func178


def cV2:Ann:=(.k 2 .z)
def cV3(b:d9)(c:Int)(K:KH):C2 :=
 i6 214 [.s b,.int .u8 c] kI (fun a=>K (.i a))
theorem dw3(v1:d9)(v2:Int):cV3 v1 v2 K Y->i7 179 [.s v1,.int .u8 v2] K Y:=q9 cV2 Tryz.func179


def cV4:Ann:=(.q (.n (.blk (.loop (dlN 0x11009002) (.n (.o (dlN 0x9508e08607e07606e06605e011009002) (.cond .z .z)) (.blk .r)))) (.q .z)))
def cV5(z:m9)(A:Int)(B:Int)(K:KH):C2 :=
 C9 [.p,.i,.i] (fun m=>(fun b (a:Int) (c:Int)=>C0 (T:=m9->Int->Int->u9->u9->u9->u9->u9->u9->u9->Bool->C2) (fun e f g s t u v w x y n=>A0 n (dQ6 e kP (fun o=>i6 114 [.p o,.i f] kI (fun q=>m e q g))) (K (.bool ((f:Int)==g)))) (fun h=>A0 (a != c) (dQ7 b kP (fun j k l=>i6 113 [.p l] kI (fun (d:Int)=>h b a c (.i a) (.p b) (.p (some ⟨j,k,none⟩)) (.p (some ⟨j,k,none⟩)) (.p l) (.i d) (.bool (a != d)) (a != d)))) (h b a c (.t []) (.t []) (.t []) (.t []) (.t []) (.t []) (.t []) false)))) (fun r=>r z A B)
theorem dw4(v1:m9)(v2:Int)(v3:Int):cV5 v1 v2 v3 K Y->i7 180 [.p v1,.i v2,.i v3] K Y:=q9 cV4 Tryz.func180


def cV6:Ann:=(.q (.n (.q .h) (.q (.n (.q (.blk (.loop (dlN 0xa90a109c029009002) (.q (.n (.cond .z .z) (.n (.blk (.k 2 .r)) .r)))))) (.q .z)))))
def cy6(f:m9)(g:Int)(K:KH):C2 :=
 i6 127 [.p f,.i g] kI (fun (n:Int)=>A0 (n != 2) (K (.i 0)) (dQ6 f kP (fun o=>i6 112 [.p o,.i g] kL (fun h=>C9 [.p,.i,.i,.l,.i,.i] (fun q=>(fun a j c d (k:Int) (e:Int)=>A0 (decide (e<k)) (dR2 d.base d.len e kS (fun r=>dQ6 a kP (fun s=>i6 165 [.p s,.i j,.s r] dS7 (fun t v=>i6 181 [.p a,.i t] kI (fun (m:Int)=>q a j (if m>c then m else c) d k (IntKind.i64.wrap (e+1))))))) (K (.i (IntKind.i64.wrap (c+1)))))) (fun u=>u f g 0 h (h.len:Int) 0)))))
theorem cV7(v1:m9)(v2:Int):cy6 v1 v2 K Y->i7 181 [.p v1,.i v2] K Y:=q9 cV6 Tryz.func181


def cV8:Ann:=(.q (.n (.q (.blk (.loop (dlN 0x2101200a) (.n (.q (.cond .z .z)) (.n (.blk (.q .h)) .r))))) (.q .z)))
def cV9(x1:m9)(x2:m9)(x3:m9)(K:KH):C2 :=
 i9 x1 (fun b4 o5=>l8 (m8 b4 o5) kI (fun(x6:Int)=>C9 [.sc .ptr,.sc .ptr,.sc (.int .i64)] (fun(R7:m9->m9->Int->C2)=>(fun(x8:m9) (x9:m9) (v10:Int)=>A0 ((v10:Int) != 1) (i9 x9 (fun b11 o12=>l8 (m8 b11 o12) kI (fun(x13:Int)=>A0 ((v10:Int)==x13) (K (.i 2)) (i9 x8 (fun b14 o15=>l8 (m8 b14 o15) kP (fun x16=>i9 x16 (fun b17 o18=>l8 (m8 b17 (o18+4)) kM (fun(x19:Option Nat) =>
 l8 (rdM (.int .i64) (.p none) false x19 (.i v10)) kP (fun x20=>i9 x20 (fun b21 o22=>l8 (m8 b21 (o22+4)) kI (fun(x23:Int)=>R7 x8 x9 x23))))))))))) (K (.i 0)))) (fun(R24:m9->m9->Int->C2)=>R24 x2 x3 x6)))
theorem dw5(x1:m9)(x2:m9)(x3:m9):cV9 x1 x2 x3 K Y->i7 182 [.p x1,.p x2,.p x3] K Y:=q9 cV8 Tryz.func182


def cW0:Ann:=(.k 3 .z)
def cW1(e:m9)(f:d9)(g:d9)(K:KH):C2 :=
 H0 (.c [.s gq] 9) (fun a=>i6 64 [.p e,.s f,.s g,.bool true,.func (.func 215) ⟨[]⟩ ⟨[.q a]⟩] kI (fun b=>l8 (m8 a 0) kS (fun c=>A3 9 (.q a) (.s c) (l8 (m8 a 0) kS (fun d=>K (.t [.s d,.i b]))))))
theorem dw6(v1:m9)(v2:d9)(v3:d9):cW1 v1 v2 v3 K Y->i7 183 [.p v1,.s v2,.s v3] K Y:=q9 cW0 Tryz.func183


def cW2:Ann:=(.k 2 (.n (.blk (.q (.cond (.q .z) (.q .h)))) (.n (.reg (rn 4) (mkR [0,1,0,7])) (.seq (some (dlN 0x59053002)) (.q (.cond (.reg (rn 7) (mkR [0,1,3,0,8,7,63])) .z)) (.n (.blk (.loop (dlN 0x59053002) (.n (.q (.cond .z .z)) (.blk (.q (.n (.q (.blk (.loop (dlN 0x2011f91f4061059053002) (.q (.n (.cond .z .z) (.seq (some (dlN 0x2011f91f4061059053002)) (.blk (.k 3 (.cond .r .z))) .r)))))) .r)))))) (.seq (some (dlN 0x53)) (.q (.cond .r .z)) (.q .z)))))))
def cW3(k:m9)(ah:d9)(ai:d9)(K:KH):C2 :=
 i6 60 [.p k,.s ah,.s ai,.bool true] dS0 (fun z A B C (r:Int)=>H0 (.c [.i 0,.s gq,.i 0,.bool false] 89) (fun a=>A3 89 (.q a) (.g [.i z,.s A,.i B,.bool C]) (A0 (r != 0) (K (.t [.s gq,.i r])) (l8 (m8 a 3) kB (fun D=>A0 (!D) (K (.t [.s gq,.i 5])) (l8 (m8 a 2) kI (fun E=>C0 (T:=dV5) (fun F G H=>C9 [.p,.s,.i] (fun I=>(fun c m (n:Int)=>dQ6 c kP (fun J=>i6 113 [.p J] kI (fun (L:Int)=>A0 (n != L) (dQ6 c kP (fun M=>i6 114 [.p M,.i n] kI (fun t=>dQ6 c kP (fun N=>i6 112 [.p N,.i t] kL (fun u=>C9 [.p,.s,.i,.i,.l,.i,.i] (fun O=>(fun d e o f g (q:Int) (h:Int)=>A0 (decide (h<q)) (C0 (T:=m9->d9->Int->Int->Sl->Int->Int->C2) (fun P Q R S U W X=>O P Q R S U W (IntKind.i64.wrap (X+1))) (fun v=>dR2 g.base g.len h kS (fun j=>dQ6 d kP (fun Z=>i6 165 [.p Z,.i f,.s j] dS7 (fun (aa:Int) aj=>A0 ((aa:Int)==o) (E3 (((bs [47]):d9).size+j.size<=9223372036854775807) (E3 ((((bs [47]):d9)++j).size+e.size<=9223372036854775807) (v d ((((bs [47]):d9)++j)++e) o f g q h))) (v d e o f g q h)))))) (I d e f))) (fun ab=>ab c m n t u (u.len:Int) 0)))))) (C0 (T:=d9->C2) (fun ac=>K (.t [.s ac,.i 0])) (fun w=>A0 (C3 m (gq:d9)) (w ((bs [47]):d9)) (w m))))))) (fun ad=>ad F G H)) (fun x=>l8 (m8 a 2) kI (fun ae=>i6 127 [.p k,.i ae] kI (fun (af:Int)=>A0 (af != 2) (l8 (m8 a 1) kS (fun y=>E3 (((bs [47]):d9).size+y.size<=9223372036854775807) (l8 (m8 a 0) kI (fun ag=>x k (((bs [47]):d9)++y) ag)))) (x k (gq:d9) E)))))))))))
theorem dw7(v1:m9)(v2:d9)(v3:d9):cW3 v1 v2 v3 K Y->i7 184 [.p v1,.s v2,.s v3] K Y:=q9 cW2 Tryz.func184


def cW4:Ann:=(.k 3 (.n (.blk (.q (.cond (.q .z) (.q .h)))) (.q .z)))
def cW5(c:d9)(K:KH):C2 :=
 i6 178 [.s c,.s (bs [47])] kS (fun a=>i6 179 [.s a,.int .u8 47] kI (fun (b:Int)=>E3 (E1 (some (IntKind.i64.wrap (b+1))) a.size/\E1 none ((IntKind.i64.wrap (b+1)).toNat)) (A0 (!C3 (a.extract 0 ((IntKind.i64.wrap (b+1)).toNat)) (gq:d9)) (K (.s (a.extract 0 ((IntKind.i64.wrap (b+1)).toNat)))) (i6 125 [.s c,.s (bs [47])] kB (fun d=>A0 d (K (.s (bs [47]))) (K (.s (bs [46]))))))))
theorem dw8(v1:d9):cW5 v1 K Y->i7 185 [.s v1] K Y:=q9 cW4 Tryz.func185


def cW6:Ann:=(.k 2 .z)
def cW7(e:m9)(a:Int)(K:KH):C2 :=
 i9 e (fun b c=>E3 (0<=a/\a<(256:Int)) (l8 (m8 b (c+a.toNat*1)) kB (fun d=>K (.bool d))))
theorem dw9(v1:m9)(v2:Int):cW7 v1 v2 K Y->i7 197 [.p v1,.int .u8 v2] K Y:=q9 cW6 Tryz.func197
end
section
variable {K:KH} {Y:H}
def cW8:Ann:=(.q (.n (.q (.cond (.n (.o (dlN 0x8d001) .h) (.k 2 (.seq (some [(0,.i),(5,.p),(6,.sc (.int .u64))]) (.q (.cond .r .z)) (.k 2 (.n (.q (.cond (.k 2 .z) .z)) (.q .z)))))) .z)) (.k 2 .z)))
def cW9(c:Int)(i:Int)(K:KH):C2 :=
 A0 ((i:Int)==10) (C0 (T:=dV2) (fun b j=>A0 j (i6 225 [.i b] kS (fun k=>K (.s k))) (H0 (.c [.int .u8 0,.int .u8 0,.int .u8 0,.int .u8 0,.int .u8 0,.int .u8 0,.int .u8 0,.int .u8 0,.int .u8 0,.int .u8 0,.int .u8 0,.int .u8 0,.int .u8 0,.int .u8 0,.int .u8 0,.int .u8 0,.int .u8 0,.int .u8 0,.int .u8 0,.int .u8 0,.int .u8 0,.int .u8 0,.int .u8 0,.int .u8 0] 218) (fun e=>C0 (T:=Int->m9->Int->C2) (fun m d f=>i6 226 [.int .u64 f] kI (fun (a:Int)=>i9 d (fun n o=>E3 (E1 (some (IntKind.i64.wrap (1+a))) 24/\E1 (some 1) ((IntKind.i64.wrap (1+a)).toNat)) (i6 227 [.slice (N6 (some ⟨n,o,none⟩) ((1:Int).toNat) 24 1) (((IntKind.i64.wrap (1+a)).toNat)-((1:Int).toNat)) (24-((1:Int).toNat)),.int .u64 f] kU (A0 (decide ((m:Int)<0)) (i9 d (fun p q=>E3 (0<=(0:Int)/\(0:Int)<(24:Int)) (A3 5 (.p (some ⟨p,q+(0:Int).toNat*1,none⟩)) (.int .u8 45) (i9 d (fun r t=>E3 (E1 (some (IntKind.i64.wrap (1+a))) 24/\E1 none ((IntKind.i64.wrap (1+a)).toNat)) (W7 Tryz.prog (convert 141 9 (.slice (N6 (some ⟨r,t,none⟩) 0 24 1) (((IntKind.i64.wrap (1+a)).toNat)-0) (24-0))) kS (fun u=>K (.s u)))))))) (i9 d (fun v w=>E3 (E1 (some (IntKind.i64.wrap (1+a))) 24/\E1 (some 1) ((IntKind.i64.wrap (1+a)).toNat)) (W7 Tryz.prog (convert 141 9 (.slice (N6 (some ⟨v,w,none⟩) ((1:Int).toNat) 24 1) (((IntKind.i64.wrap (1+a)).toNat)-((1:Int).toNat)) (24-((1:Int).toNat)))) kS (fun x=>K (.s x)))))))))) (fun g=>A0 (decide ((b:Int)<0)) (g b (gp e) (IntKind.u64.wrap (0-(IntKind.u64.wrap b)))) (g b (gp e) (IntKind.u64.wrap b)))))) (fun h=>A0 (decide ((0:Int)<=c)) (h c (decide ((c:Int)<100))) (h c false))) (i6 228 [.slice none 0 0,.int .u64 (IntKind.u64.wrap c),.i i,.bool (decide ((c:Int)<0)),.bool false] (.tup [.l,.s]) (fun z y=>K (.s y)))
theorem dx0(v1:Int)(v2:Int):cW9 v1 v2 K Y->i7 201 [.i v1,.i v2] K Y:=q9 cW8 Tryz.func201


def cX0:Ann:=(.q (.n (.q .h) (.n (.q (.cond (.q (.seq (some [(0,.s),(5,.sc (.int .i32))]) (.q (.cond .r .z)) (.q .z))) .z)) (.seq (some (dlN 0xb003)) (.q (.cond (.k 2 (.cond (.n (.q (.blk (.loop (dlN 0x41032003) (.n (.q (.cond .z .z)) (.n (.blk (.q .h)) .r))))) (.q .z)) .z)) .z)) (.n (.q (.blk (.loop (dlN 0x16a00b) (.q (.n (.cond .z .z) (.blk (.k 2 .h))))))) (.q .z))))))
def cX1(c:d9)(a:d9)(K:KH):C2 :=
 A0 (C3 a (gq:d9)) (K (.i (-1))) (A0 ((a.size:Int)==1) (I2 a 0 (fun c3=>C0 (T:=d9->Int->C2) (fun m n=>i6 223 [.s m,.int .i32 n] kI (fun o=>K (.i o))) (fun f=>A0 (decide (((IntKind.i32.wrap (c3.toNat:Int)):Int)>=128)) (f c 65533) (f c (IntKind.i32.wrap (c3.toNat:Int)))))) (C0 (T:=d9->d9->C2) (fun q r=>W7 Tryz.prog (Instr.range 9 (.s q)) kP (fun t=>C9 [.s,.p] (fun u=>(fun g h=>W7 Tryz.prog (Instr.next (.p h) true 0) (.opt [.i,.sc (.int .i32)]) (K (.i (-1)),(fun v x=>i6 223 [.s g,.int .i32 x] kI (fun (y:Int)=>A0 (decide (y>=0)) (K (.i v)) (u g h)))))) (fun z=>z r t))) (fun j=>i6 230 [.i (c.size:Int)] kB (fun A=>A0 A (i6 150 [.s a] (.tup [.w,.b]) (fun B C=>H0 (.cells ⟨(List.replicate 256 (.bool false))⟩ 173 (0,0)) (fun k=>A3 173 (.q k) (B) (A0 C (C9 [.s,.p,.i] (fun D=>(fun e l (d:Int)=>A0 (decide (d<(e.size:Int))) (I2 e d (fun c27=>i6 197 [.p l,.int .u8 (c27.toNat:Int)] kB (fun E=>A0 E (K (.i d)) (D e l (IntKind.i64.wrap (d+1)))))) (K (.i (-1))))) (fun F=>F c (gp k) 0)) (j c a))))) (j c a)))))
theorem dx1(v1:d9)(v2:d9):cX1 v1 v2 K Y->i7 204 [.s v1,.s v2] K Y:=q9 cX0 Tryz.func204


def cX2:Ann:=(.k 2 (.n (.q (.blk (.loop (dlN 0x4103c013) (.n (.q (.cond .z .z)) (.n (.blk (.q .h)) .r))))) (.q .z)))
def cX3(q:m9)(r:Int)(t:d9)(K:KH):C2 :=
 dQ4 q 2 kL (fun c=>dR2 c.base c.len r kP (fun e=>dQ4 e 3 kL (fun f=>C9 [.s,.l,.i] (fun g=>(fun d b (a:Int)=>A0 (decide (a<(b.len:Int))) (i9 b.base (fun h j=>E3 (0<=a/\a<(b.len:Int)) (l8 (m8 h (j+a.toNat*2)) kS (fun k=>A0 (C3 k d) (i9 b.base (fun m n=>E3 (0<=a/\a<(b.len:Int)) (l8 (m8 m (n+a.toNat*2+1)) kI (fun o=>K (.i o))))) (g d b (IntKind.i64.wrap (a+1))))))) (K (.i (-1))))) (fun p=>p t f 0))))
theorem dx2(v1:m9)(v2:Int)(v3:d9):cX3 v1 v2 v3 K Y->i7 205 [.p v1,.i v2,.s v3] K Y:=q9 cX2 Tryz.func205


def cX4:Ann:=(.k 2 (.seq (some (dlN 0x2201a012)) (.q (.blk (.rf [.s] .r (.blk (.n (.o (dlN 0x7502b02201a012) (.cond .z .z)) (.n (.o (dlN 0xad02b02201a) (.cond .z .z)) .r)))))) (.q (.cond .r .z))))
def cX5(k:u9)(F:m9)(K:KH):C2 :=
 J5 k (H0 (.c [k] 124) (fun c=>H0 (.c [.s gq] 9) (fun a=>H0 (.c [.bool false] 4) (fun b=>A3 9 (.q a) (.s gq) (A3 4 (.q b) (.bool false) (C0 (T:=dW6) (fun l m n=>dQ6 n kB (fun o=>A0 o (dQ6 l kR (fun p=>dQ6 m kS (fun q=>G8 Tryz.prog p [.s q,.bool true] kB (fun E=>K (.t []))))) (K (.t [])))) (fun g=>dQ6 F kS (fun r=>i6 207 [.s r,.s (bs [47])] kR (fun t=>N5 t (fun(g50:FuncId) (as51 cs52:List u9)=>rfW Tryz.prog none g50 as51 cs52 [.s] (fun(l24:Nat) (obj25:LoopState->Option Code->Obj) K26=>(fun d=>M9 l24 obj25 (C0 (T:=m9->m9->m9->d9->Bool->C2) (fun u e f h v=>A0 v (D5 l24 obj25 K26 none true .ready) (C0 (T:=m9->m9->d9->Bool->C2) (fun w x y z=>A0 z (D5 l24 obj25 K26 (some .ret) false .done) (A3 9 (.p w) (.s y) (A3 4 (.p x) (.bool true) (D5 l24 obj25 K26 none true .ready)))) (fun i=>dQ6 f kB (fun A=>A0 A (dQ6 u kR (fun B=>dQ6 e kS (fun C=>G8 Tryz.prog B [.s C,.bool false] kB (fun D=>i e f h (!D))))) (i e f h false))))) (fun j=>A0 (C3 d (gq:d9)) (j (gp c) (gp a) (gp b) d true) (j (gp c) (gp a) (gp b) d (C3 d ((bs [46]):d9))))))) (g (gp c) (gp a) (gp b)) (fun i49=>exW i49 0 (g (gp c) (gp a) (gp b)) (nW)) (K (.t []))))))))))))
theorem dx3(v1:u9)(x2:m9):cX5 v1 x2 K Y->i7 206 [v1,.p x2] K Y:=q9 cX4 Tryz.func206


def cX6:Ann:=(.k 2 .z)
def cX7(b:d9)(c:d9)(K:KH):C2 :=
 i6 231 [.s b,.s c,.i 0] kR (fun a=>K (a))
theorem dx4(v1:d9)(v2:d9):cX7 v1 v2 K Y->i7 207 [.s v1,.s v2] K Y:=q9 cX6 Tryz.func207


def cX8:Ann:=(.k 3 .z)
def cX9(x1:m9)(x2:m9)(x3:m9)(K:KH):C2 :=
 i9 x1 (fun b4 o5=>l8 (m8 b4 o5) kP (fun x6=>i9 x2 (fun b7 o8=>l8 (m8 b7 o8) kI (fun(x9:Int)=>i9 x3 (fun b10 o11=>l8 (m8 b10 o11) kS (fun(x12:d9)=>i6 165 [.p x6,.i x9,.s x12] dS9 (fun(_x13:Int) (x14:Bool)=>i6 116 [.bool x14,.i 5] kI (fun(x15:Int)=>K (.i x15)))))))))
theorem dx5(x1:m9)(x2:m9)(x3:m9):cX9 x1 x2 x3 K Y->i7 208 [.p x1,.p x2,.p x3] K Y:=q9 cX8 Tryz.func208


def cY0:Ann:=(.q (.n (.q .h) (.k 2 (.seq (some (dlN 0x4b045011009003)) (.blk (.o (dlN 0xcd04b045011009003) (.cond .z (.q (.cond (.k 2 (.cond (.blk (.o (dlN 0x14504b045011003) (.cond (.q .r) (.o (dlN 0x1a504b045011003) (.cond (.q .r) (.o (dlN 0x20504b045011003) (.cond (.q .r) (.q .r)))))))) .z)) (.q .z)))))) (.seq (some (dlN 0x4b045011009003)) (.q (.cond .r (.o (dlN 0x29d04b045011009003) .h))) (.q (.seq (some [(0,.s),(1,.i),(2,.i),(8,.b),(9,.s),(10,.sc (.int .u64))]) (.q (.blk (.q (.cond .r (.q (.cond .r .r)))))) (.k 3 (.n (.q (.blk (.loop [(1,.i),(8,.b),(9,.s),(10,.sc (.int .u64)),(11,.sc (.int .u64)),(12,.b),(13,.sc (.int .u64)),(99,.l),(100,.i),(101,.i)] (.q (.n (.cond .z .z) (.seq (some [(1,.i),(8,.b),(9,.s),(10,.sc (.int .u64)),(11,.sc (.int .u64)),(12,.b),(13,.sc (.int .u64)),(99,.l),(100,.i),(101,.i),(110,.w)]) (.blk (.k 2 (.seq (some [(1,.i),(8,.b),(9,.s),(10,.sc (.int .u64)),(11,.sc (.int .u64)),(12,.b),(13,.sc (.int .u64)),(16,.sc (.int .u8)),(99,.l),(100,.i),(101,.i),(110,.w),(116,.w),(117,.w)]) (.blk (.seq (some [(1,.i),(8,.b),(9,.s),(10,.sc (.int .u64)),(11,.sc (.int .u64)),(12,.b),(13,.sc (.int .u64)),(15,.sc (.int .u8)),(99,.l),(100,.i),(101,.i),(106,.b),(110,.w)]) .r (.cond (.q .z) (.seq (some [(1,.i),(8,.b),(9,.s),(10,.sc (.int .u64)),(11,.sc (.int .u64)),(12,.b),(13,.sc (.int .u64)),(15,.sc (.int .u8)),(99,.l),(100,.i),(101,.i),(110,.w),(112,.b),(116,.w),(117,.w)]) .r (.cond .r (.seq (some [(1,.i),(8,.b),(9,.s),(10,.sc (.int .u64)),(11,.sc (.int .u64)),(12,.b),(13,.sc (.int .u64)),(15,.sc (.int .u8)),(99,.l),(100,.i),(101,.i),(110,.w),(116,.w),(117,.w),(121,.b),(126,.w),(127,.w),(128,.w)]) .r (.cond .r (.q .z)))))))) (.n (.q .h) (.n (.q .h) (.k 2 (.n (.seq (some [(1,.i),(8,.b),(9,.s),(10,.sc (.int .u64)),(11,.sc (.int .u64)),(12,.b),(17,.sc (.int .u64)),(99,.l),(100,.i),(101,.i),(110,.w),(116,.w),(117,.w),(156,.w),(157,.w),(158,.w),(159,.b)]) .r .h) .r))))))) .r)))))) (.n (.seq (some [(13,.sc (.int .u64)),(169,.b)]) .r .h) (.q .z)))))))))))
def cY1(r:d9)(q:Int)(dn:Int)(K:KH):C2 :=
 A0 (C3 r (gq:d9)) (K (.t [.int .u64 0,.iface 206 (.i 2)])) (C0 (T:=d9->Int->Int->Bool->d9->C2) (fun x y p base0_8 s0_9=>C0 (T:=d9->Int->Int->Bool->d9->C2) (fun z g A base0_14 s0_15=>C0 (T:=d9->Int->Int->Bool->d9->Int->C2) (fun bl bm ag base0_20 s0_21 bn=>E3 (0<=(IntKind.u64.wrap ag)) (W7 Tryz.prog (convert 9 141 (.s bl)) kL (fun ah=>C9 [.i,.b,.s,.sc (.int .u64),.sc (.int .u64),.b,.sc (.int .u64),.l,.i,.i] (fun bo=>(fun ai (base0_26:Bool) (s0_27:d9) aj ak B t u (C:Int) (v:Int)=>A0 (decide (v<C)) (C0 (T:=Int->Bool->d9->Int->Int->Bool->Int->Sl->Int->Int->u9->C2) (fun bp base0_37 s0_38 bq br bt bu bv bw bx dp=>bo bp base0_37 s0_38 bq br bt bu bv bw (IntKind.i64.wrap (bx+1))) (fun al=>dR2 u.base u.len v kC (fun (D:Int)=>C0 (T:=Int->Bool->d9->Int->Int->Bool->Int->Int->Sl->Int->Int->u9->u9->u9->C2) (fun a base0_52 s0_53 E k am c h an ao ap aq ar au=>A0 (decide ((h:Int)>=(IntKind.u8.wrap a))) (K (.t [.int .u64 0,.iface 206 (.i 2)])) (A0 (decide ((c:Int)>=E)) (K (.t [.int .u64 k,.iface 206 (.i 1)])) (C0 (T:=Int->Bool->d9->Int->Int->Bool->Int->Sl->Int->Int->u9->u9->u9->u9->u9->u9->Bool->C2) (fun bz base0_67 s0_68 ca av cb n1_72 cc cd ce cf dq dr ds dt du cg=>A0 cg (K (.t [.int .u64 av,.iface 206 (.i 1)])) (al bz base0_67 s0_68 ca av cb n1_72 cc cd ce cf)) (fun aw=>A0 (decide (((IntKind.u64.wrap ((IntKind.u64.wrap (c*(IntKind.u64.wrap a)))+(IntKind.u64.wrap h))):Int)<(IntKind.u64.wrap (c*(IntKind.u64.wrap a))))) (aw a base0_52 s0_53 E k am (IntKind.u64.wrap ((IntKind.u64.wrap (c*(IntKind.u64.wrap a)))+(IntKind.u64.wrap h))) an ao ap aq ar au (.t []) (.t []) (.t []) true) (aw a base0_52 s0_53 E k am (IntKind.u64.wrap ((IntKind.u64.wrap (c*(IntKind.u64.wrap a)))+(IntKind.u64.wrap h))) an ao ap aq ar au (.int .u64 (IntKind.u64.wrap ((IntKind.u64.wrap (c*(IntKind.u64.wrap a)))+(IntKind.u64.wrap h)))) (.int .u64 k) (.bool (decide (((IntKind.u64.wrap ((IntKind.u64.wrap (c*(IntKind.u64.wrap a)))+(IntKind.u64.wrap h))):Int)>k))) (decide (((IntKind.u64.wrap ((IntKind.u64.wrap (c*(IntKind.u64.wrap a)))+(IntKind.u64.wrap h))):Int)>k))))))) (fun ax=>C0 (T:=Int->Bool->d9->Int->Int->Bool->Int->Int->Sl->Int->Int->Bool->u9->C2) (fun F base0_85 s0_86 G H ay I m J L M ch N=>A0 ch (al F base0_85 s0_86 G H true I J L M N) (C0 (T:=Int->Bool->d9->Int->Int->Bool->Int->Int->Sl->Int->Int->u9->Bool->u9->u9->C2) (fun O base0_99 s0_100 P Q R S n U W X Z ci aa ab=>A0 ci (ax O base0_99 s0_100 P Q R S (IntKind.u8.wrap (n-48)) U W X Z aa ab) (C0 (T:=Int->Bool->d9->Int->Int->Bool->Int->Int->Sl->Int->Int->u9->u9->u9->Bool->u9->u9->u9->C2) (fun cj base0_115 s0_116 ck cl cm cn co cp cq cr cs ct cu cv dv dw dx=>A0 cv (i6 232 [.int .u8 co] kC (fun (cw:Int)=>ax cj base0_115 s0_116 ck cl cm cn (IntKind.u8.wrap ((IntKind.u8.wrap (cw-97))+10)) cp cq cr cs ct cu)) (K (.t [.int .u64 0,.iface 206 (.i 2)]))) (fun az=>i6 232 [.int .u8 n] kC (fun (cx:Int)=>A0 (decide ((97:Int)<=cx)) (i6 232 [.int .u8 n] kC (fun (ac:Int)=>az O base0_99 s0_100 P Q R S n U W X Z aa ab (decide (ac<=122)) (.int .u8 n) (.int .u8 ac) (.bool (decide (ac<=122))))) (az O base0_99 s0_100 P Q R S n U W X Z aa ab false (.t []) (.t []) (.t [])))))) (fun ba=>A0 (decide ((48:Int)<=m)) (ba F base0_85 s0_86 G H ay I m J L M N (decide ((m:Int)<=57)) (.int .u8 m) (.bool (decide ((m:Int)<=57)))) (ba F base0_85 s0_86 G H ay I m J L M N false (.t []) (.t []))))) (fun bb=>A0 (D==95) (bb ai base0_26 s0_27 aj ak B t D u C v base0_26 (.bool base0_26)) (bb ai base0_26 s0_27 aj ak B t D u C v false (.t []))))))) (C0 (T:=dV2) (fun cy cz=>A0 cz (K (.t [.int .u64 0,.iface 206 (.i 2)])) (K (.t [.int .u64 cy,.nilIface]))) (fun bc=>A0 B (i6 233 [.s s0_27] kB (fun da=>bc t (!da))) (bc t false))))) (fun db=>db bm base0_20 s0_21 bn (IntKind.u64.wrap ((IntKind.u64.wrap (1*2 ^ min (Int.toNat (IntKind.u64.wrap ag)) (IntKind.bits .u64)))-1)) false 0 ah (ah.len:Int) 0)))) (fun ad=>A0 ((g:Int)==10) (ad z g A base0_14 s0_15 1844674407370955162) (A0 ((g:Int)==16) (ad z g A base0_14 s0_15 1152921504606846976) (E3 ((IntKind.u64.wrap g)≠0) (ad z g A base0_14 s0_15 (IntKind.u64.wrap ((IntKind.u64.wrap (Int.tdiv 18446744073709551615 (IntKind.u64.wrap g)))+1))))))) (fun bd=>A0 ((p:Int)==0) (bd x y 64 base0_8 s0_9) (C0 (T:=dW1) (fun dc dd de base0_144 s0_145 df=>A0 df (K (.t [.int .u64 0,.iface 206 (.i 4)])) (bd dc dd de base0_144 s0_145)) (fun be=>A0 (decide ((p:Int)<0)) (be x y p base0_8 s0_9 true) (be x y p base0_8 s0_9 (decide ((p:Int)>64))))))) (fun o=>C0 (T:=dW1) (fun j bf w base0_151 s0_152 dg=>A0 dg (o j bf w base0_151 s0_152) (A0 ((bf:Int)==0) (I2 j 0 (fun c154=>A0 ((c154.toNat:Int)==48) (C0 (T:=dV1) (fun d ae base0_158 s0_159 dh=>A0 dh (E3 (E1 none d.size/\E1 (some 2) (d.size)) (o (d.extract ((2:Int).toNat) d.size) 2 ae base0_158 s0_159)) (C0 (T:=dV1) (fun e af base0_164 s0_165 di=>A0 di (E3 (E1 none e.size/\E1 (some 2) (e.size)) (o (e.extract ((2:Int).toNat) e.size) 8 af base0_164 s0_165)) (C0 (T:=dV1) (fun f bg base0_170 s0_171 dj=>A0 dj (E3 (E1 none f.size/\E1 (some 2) (f.size)) (o (f.extract ((2:Int).toNat) f.size) 16 bg base0_170 s0_171)) (E3 (E1 none f.size/\E1 (some 1) (f.size)) (o (f.extract ((1:Int).toNat) f.size) 8 bg base0_170 s0_171))) (fun bh=>A0 (decide ((e.size:Int)>=3)) (I2 e 1 (fun c173=>i6 232 [.int .u8 (c173.toNat:Int)] kC (fun (dk:Int)=>bh e af base0_164 s0_165 (dk==120)))) (bh e af base0_164 s0_165 false)))) (fun bi=>A0 (decide ((d.size:Int)>=3)) (I2 d 1 (fun cy3=>i6 232 [.int .u8 (cy3.toNat:Int)] kC (fun (dl:Int)=>bi d ae base0_158 s0_159 (dl==111)))) (bi d ae base0_158 s0_159 false)))) (fun bj=>A0 (decide ((j.size:Int)>=3)) (I2 j 1 (fun cy5=>i6 232 [.int .u8 (cy5.toNat:Int)] kC (fun (dm:Int)=>bj j w base0_151 s0_152 (dm==98)))) (bj j w base0_151 s0_152 false))) (o j 10 w base0_151 s0_152))) (K (.t [.int .u64 0,.iface 206 (.i 3)])))) (fun bk=>A0 (decide ((2:Int)<=q)) (bk r q dn ((q:Int)==0) r (decide ((q:Int)<=36))) (bk r q dn ((q:Int)==0) r false))))
theorem dx6(v1:d9)(v2:Int)(v3:Int):cY1 v1 v2 v3 K Y->i7 209 [.s v1,.i v2,.i v3] K Y:=q9 cY0 Tryz.func209


def cY2:Ann:=(.q (.n (.reg [0,1,3,2,4,5,6] (mkR [0,0,2,0,15,31,63])) .z))
def cY3(e:d9)(d:d9)(K:KH):C2 :=
 l8 (m8 1 0) kR (fun a=>i6 234 [.s d] kS (fun b=>I9 (fun Y=>(m8 1 0) Y=some (a)) (J5 a (H0 (.c [.s e,.s b,a] 227) (fun c=>K (.q c))))))
theorem dx7(v1:d9)(v2:d9):cY3 v1 v2 K Y->i7 210 [.s v1,.s v2] K Y:=q9 cY2 Tryz.func210


def cY4:Ann:=(.q (.n (.q (.blk (.loop [(0,.s),(1,.sc (.int .u8)),(5,.i)] (.n (.q (.cond .z .z)) (.n (.blk (.q .h)) .r))))) (.q .z)))
def cY5(f:d9)(g:Int)(K:KH):C2 :=
 C9 [.s,.sc (.int .u8),.i] (fun d=>(fun b (c:Int) (a:Int)=>A0 (decide (a>=0)) (I2 b a (fun c7=>A0 ((c7.toNat:Int)==c) (K (.i a)) (d b c (IntKind.i64.wrap (a-1))))) (K (.i (-1))))) (fun e=>e f g (IntKind.i64.wrap ((f.size:Int)-1)))
theorem dx8(v1:d9)(v2:Int):cY5 v1 v2 K Y->i7 214 [.s v1,.int .u8 v2] K Y:=q9 cY4 Tryz.func214


def cY6:Ann:=(.q (.n (.q .h) (.k 2 .z)))
def cY7(__1:Int)(v2:Int)(v3:Int)(v4:d9)(v5:Int)(x6:m9)(K:KH):C2 :=
 H0 (.c [.i v2,.i v3,.s v4,.i v5] 80) (fun b7=>l8 (m8 b7 0) kI (fun(x8:Int)=>A0 ((x8:Int)==2) (K (.i 7)) (l8 (m8 b7 2) kS (fun(x9:d9)=>A3 9 (.p x6) (.s x9) (K (.i 0))))))
theorem dx9(__1:Int)(v2:Int)(v3:Int)(v4:d9)(v5:Int)(x6:m9):cY7 __1 v2 v3 v4 v5 x6 K Y->i7 215 [.i __1,.g [.i v2,.i v3,.s v4,.i v5],.p x6] K Y:=q9 cY6 Tryz.func215


def cY8:Ann:=(.q (.blk (.seq (some [(0,.s),(1,.sc (.int .i32)),(160,.b)]) .r (.cond (.q .z) (.q (.cond (.n (.q (.blk (.loop (dlN 0x57a) (.q (.n (.cond .z .z) (.blk (.k 2 .h))))))) (.q .z)) (.q (.cond (.q .z) (.blk (.k 4 (.n (.blk (.loop (dlN 0x4904103b003) (.n (.q (.cond .z .z)) (.blk (.blk (.seq (some (dlN 0x4904103b003)) (.n (.reg (rn 7) (mkR [0,0,3,0,0,24,63])) (.cond (.n (.reg (rn 9) (mkR [0,0,2,7,0,0,48,127,255])) (.n (.q .h) .r)) .z)) (.n (.q (.blk (.loop (dlN 0x6104904103b003) (.n (.q (.cond .z .z)) (.n (.blk (.n (.reg (rn 11) (mkR [0,0,0,6,15,0,0,0,192,480,1023])) (.cond .z .z))) .r))))) (.n (.q .z) (.n .z (.k 3 (.cond .z .z))))))))))) (.n (.q .z) (.n .z (.n (.cond (.k 2 .h) (.blk (.k 2 (.n .z (.blk (.loop [] (.n (.q (.cond .z .z)) (.n (.blk (.q (.cond (.n (.q (.blk (.loop [] (.n (.q (.cond .z .z)) (.n (.blk (.q (.cond .z .z))) .r))))) (.q .z)) .z))) .r)))))))) (.q .z)))))))))))))))
def cY9(J:d9)(m:Int)(K:KH):C2 :=
 C0 (T:=d9->Int->Bool->C2) (fun g c u=>A0 u (i6 68 [.s g,.int .u8 (IntKind.u8.wrap c)] kI (fun v=>K (.i v))) (A0 ((c:Int)==65533) (W7 Tryz.prog (Instr.range 9 (.s g)) kP (fun w=>C9 [.p] (fun x=>(fun n=>W7 Tryz.prog (Instr.next (.p n) true 0) (.opt [.i,.sc (.int .i32)]) (K (.i (-1)),(fun y (z:Int)=>A0 (z==65533) (K (.i y)) (x n))))) (fun A=>A w))) (i6 237 [.int .i32 c] kB (fun B=>A0 (!B) (K (.i (-1))) (W7 Tryz.prog (convert 21 9 (.int .i32 c)) kS (fun h=>C9 [.s,.s,.i,.i] (fun L=>(fun a d e (b:Int)=>A0 (decide (b<(a.size:Int))) (C0 (T:=d9->d9->Int->Int->C2) (fun C D E F=>C9 [.s,.s,.i,.i,.i] (fun G=>(fun o j (k:Int) (l:Int) (f:Int)=>A0 (decide (f<(j.size:Int))) (I2 o (IntKind.i64.wrap (l-f)) (fun c32=>I2 j (IntKind.i64.wrap (k-f)) (fun c33=>A0 ((c32.toNat:Int) != (c33.toNat:Int)) (nW) (G o j k l (IntKind.i64.wrap (f+1)))))) (K (.i (IntKind.i64.wrap (l-k)))))) (fun H=>H C D E F 1)) (fun q=>I2 a b (fun c35=>I2 d e (fun c36=>A0 ((c35.toNat:Int) != (c36.toNat:Int)) (E3 (E1 none a.size/\E1 (some (IntKind.i64.wrap (b+1))) (a.size)) (I2 d e (fun c37=>i6 68 [.s (a.extract ((IntKind.i64.wrap (b+1)).toNat) a.size),.int .u8 (c37.toNat:Int)] kI (fun (r:Int)=>A0 (decide (r<0)) (K (.i (-1))) (q a d e (IntKind.i64.wrap (b+(IntKind.i64.wrap (r+1))))))))) (q a d e b))))) (K (.i (-1))))) (fun I=>I g h (IntKind.i64.wrap ((h.size:Int)-1)) (IntKind.i64.wrap ((h.size:Int)-1))))))))) (fun t=>A0 (decide ((0:Int)<=m)) (t J m (decide ((m:Int)<128))) (t J m false))
theorem dy0(v1:d9)(v2:Int):cY9 v1 v2 K Y->i7 223 [.s v1,.int .i32 v2] K Y:=q9 cY8 Tryz.func223


def cZ0:Ann:=(.q (.n (.q .h) (.q .z)))
def cZ1(a:Int)(K:KH):C2 :=
 A0 (decide ((a:Int)<10)) (E3 (E1 (some (IntKind.i64.wrap (a+1))) ((bs [48,49,50,51,52,53,54,55,56,57,97,98,99,100,101,102,103,104,105,106,107,108,109,110,111,112,113,114,115,116,117,118,119,120,121,122]):d9).size/\E1 (some a) ((IntKind.i64.wrap (a+1)).toNat)) (K (.s (((bs [48,49,50,51,52,53,54,55,56,57,97,98,99,100,101,102,103,104,105,106,107,108,109,110,111,112,113,114,115,116,117,118,119,120,121,122]):d9).extract a.toNat ((IntKind.i64.wrap (a+1)).toNat))))) (E3 (E1 (some (IntKind.i64.wrap ((IntKind.i64.wrap (a*2))+2))) ((bs [48,48,48,49,48,50,48,51,48,52,48,53,48,54,48,55,48,56,48,57,49,48,49,49,49,50,49,51,49,52,49,53,49,54,49,55,49,56,49,57,50,48,50,49,50,50,50,51,50,52,50,53,50,54,50,55,50,56,50,57,51,48,51,49,51,50,51,51,51,52,51,53,51,54,51,55,51,56,51,57,52,48,52,49,52,50,52,51,52,52,52,53,52,54,52,55,52,56,52,57,53,48,53,49,53,50,53,51,53,52,53,53,53,54,53,55,53,56,53,57,54,48,54,49,54,50,54,51,54,52,54,53,54,54,54,55,54,56,54,57,55,48,55,49,55,50,55,51,55,52,55,53,55,54,55,55,55,56,55,57,56,48,56,49,56,50,56,51,56,52,56,53,56,54,56,55,56,56,56,57,57,48,57,49,57,50,57,51,57,52,57,53,57,54,57,55,57,56,57,57]):d9).size/\E1 (some (IntKind.i64.wrap (a*2))) ((IntKind.i64.wrap ((IntKind.i64.wrap (a*2))+2)).toNat)) (K (.s (((bs [48,48,48,49,48,50,48,51,48,52,48,53,48,54,48,55,48,56,48,57,49,48,49,49,49,50,49,51,49,52,49,53,49,54,49,55,49,56,49,57,50,48,50,49,50,50,50,51,50,52,50,53,50,54,50,55,50,56,50,57,51,48,51,49,51,50,51,51,51,52,51,53,51,54,51,55,51,56,51,57,52,48,52,49,52,50,52,51,52,52,52,53,52,54,52,55,52,56,52,57,53,48,53,49,53,50,53,51,53,52,53,53,53,54,53,55,53,56,53,57,54,48,54,49,54,50,54,51,54,52,54,53,54,54,54,55,54,56,54,57,55,48,55,49,55,50,55,51,55,52,55,53,55,54,55,55,55,56,55,57,56,48,56,49,56,50,56,51,56,52,56,53,56,54,56,55,56,56,56,57,57,48,57,49,57,50,57,51,57,52,57,53,57,54,57,55,57,56,57,57]):d9).extract ((IntKind.i64.wrap (a*2)).toNat) ((IntKind.i64.wrap ((IntKind.i64.wrap (a*2))+2)).toNat)))))
theorem dy1(v1:Int):cZ1 v1 K Y->i7 225 [.i v1] K Y:=q9 cZ0 Tryz.func225


def cZ2:Ann:=(.k 2 .z)
def cZ3(a:Int)(K:KH):C2 :=
 K (.bool (decide ((a:Int)>8)))
theorem dy2(v1:Int):cZ3 v1 K Y->i7 230 [.i v1] K Y:=q9 cZ2 Tryz.func230


def cZ4:Ann:=(.k 2 .z)
def cZ5(d:d9)(e:d9)(f:Int)(K:KH):C2 :=
 H0 (.c [.s d] 9) (fun a=>H0 (.c [.s e] 9) (fun b=>H0 (.c [.i f] 3) (fun c=>K (.func (.func 244) ⟨[]⟩ ⟨[.q b,.q a,.q c]⟩))))
theorem dy3(v1:d9)(v2:d9)(v3:Int):cZ5 v1 v2 v3 K Y->i7 231 [.s v1,.s v2,.i v3] K Y:=q9 cZ4 Tryz.func231


def cZ6:Ann:=(.q (.n (.q .h) (.k 3 .z)))
def cZ7(b:d9)(K:KH):C2 :=
 A0 ((b.size:Int)==0) (K (.s gq)) (W7 Tryz.prog (Instr.makeSlice 141 (.i (b.size:Int)) (.i (b.size:Int))) kL (fun a=>ac9 .copy #[141,9] 3 [false,false] [.slice a.base a.len a.cap,.s b] kI (fun f=>i9 a.base (fun c d=>E3 (0<=(0:Int)/\(0:Int)<(a.len:Int)) (ac9 .unsafeString #[240,3] 9 [false,false] [.p (some ⟨c,d+(0:Int).toNat*1,none⟩),.i (a.len:Int)] kS (fun e=>K (.s e)))))))
theorem dy4(v1:d9):cZ7 v1 K Y->i7 234 [.s v1] K Y:=q9 cZ6 Tryz.func234


def cZ8:Ann:=(.q (.n (.blk (.seq (some [(0,.sc (.int .i32)),(3,.b)]) .r (.cond (.q .z) (.o (dlN 0x55) .h)))) (.q .z)))
def cZ9(a:Int)(K:KH):C2 :=
 C0 (T:=dV2) (fun b e=>A0 e (K (.bool true)) (C0 (T:=Bool->C2) (fun f=>A0 f (K (.bool true)) (K (.bool false))) (fun c=>A0 (decide ((57343:Int)<b)) (c (decide ((b:Int)<=1114111))) (c false)))) (fun d=>A0 (decide ((0:Int)<=a)) (d a (decide ((a:Int)<55296))) (d a false))
theorem dy5(v1:Int):cZ9 v1 K Y->i7 237 [.int .i32 v1] K Y:=q9 cZ8 Tryz.func237


def da0:Ann:=(.n (.q (.cond (.n (.blk (.loop (dlN 0x12006) (.n (.q (.cond .z .z)) (.blk (.q (.n (.q (.cond .z .z)) .r)))))) .z) .z)) (.n (.blk (.loop (dlN 0x1a01200a006) (.blk (.q (.n (.q (.cond .z .z)) (.q (.n (.q (.cond .z .z)) .r))))))) .r))
def da1(y:u9)(q:m9)(z:m9)(I:m9)(K:KH):C2 :=
 dQ6 q kS (fun r=>A0 ((r.size:Int)==0) (C9 [.w,.p] (fun s=>(fun k a=>dQ6 a kS (fun t=>A0 (decide ((t.size:Int)>0)) (dQ6 a kS (fun u=>i6 198 [.s u] (.tup [.sc (.int .i32),.i]) (fun G d=>dQ6 a kS (fun l=>E3 (E1 (some d) l.size/\E1 none (d.toNat)) (G8 Tryz.prog k [.s (l.extract 0 d.toNat)] kB (fun v=>A0 (!v) (K (.t [])) (dQ6 a kS (fun e=>E3 (E1 none e.size/\E1 (some d) (e.size)) (A3 9 (.p a) (.s (e.extract d.toNat e.size)) (s k a)))))))))) (K (.t []))))) (fun x=>x y z)) (C9 [.w,.p,.p,.p] (fun A=>(fun g h b m=>dQ6 b kS (fun B=>dQ6 h kS (fun C=>i6 245 [.s B,.s C] kI (fun (c:Int)=>A0 (decide (c<0)) (dQ6 b kS (fun D=>G8 Tryz.prog g [.s D] kB (fun H=>K (.t [])))) (dQ6 b kS (fun n=>dQ6 m kI (fun (j:Int)=>E3 (E1 (some (IntKind.i64.wrap (c+j))) n.size/\E1 none ((IntKind.i64.wrap (c+j)).toNat)) (G8 Tryz.prog g [.s (n.extract 0 ((IntKind.i64.wrap (c+j)).toNat))] kB (fun E=>A0 (!E) (K (.t [])) (dQ6 b kS (fun f=>dQ6 h kS (fun o=>E3 (E1 none f.size/\E1 (some (IntKind.i64.wrap (c+(o.size:Int)))) (f.size)) (A3 9 (.p b) (.s (f.extract ((IntKind.i64.wrap (c+(o.size:Int))).toNat) f.size)) (A g h b m))))))))))))))) (fun F=>F y q z I)))
theorem dy6(v1:u9)(x2:m9)(x3:m9)(x4:m9):da1 v1 x2 x3 x4 K Y->i7 244 [v1,.p x2,.p x3,.p x4] K Y:=q9 da0 Tryz.func244


def da2:Ann:=(.k 2 .z)
def da3(b:d9)(c:d9)(K:KH):C2 :=
 i6 248 [.s b,.s c] kI (fun a=>K (.i a))
theorem dy7(v1:d9)(v2:d9):da3 v1 v2 K Y->i7 245 [.s v1,.s v2] K Y:=q9 da2 Tryz.func245


def da4:Ann:=(.k 2 (.n (.blk (.o (dlN 0x8502900b003) (.cond (.q .z) (.q (.cond (.q .z) (.q (.cond (.q .z) (.o (dlN 0x12502900b003) .h)))))))) (.k 5 (.n (.blk (.loop [(0,.s),(1,.s),(5,.i),(6,.sc (.int .u8)),(7,.sc (.int .u8)),(8,.i),(9,.i),(10,.i)] (.n (.q (.cond .z .z)) (.blk (.seq (some [(0,.s),(1,.s),(5,.i),(6,.sc (.int .u8)),(7,.sc (.int .u8)),(8,.i),(9,.i),(10,.i)]) (.q (.cond (.q (.n (.q .h) .r)) .z)) (.n (.seq (some [(0,.s),(1,.s),(5,.i),(6,.sc (.int .u8)),(7,.sc (.int .u8)),(8,.i),(9,.i),(10,.i),(85,.w),(86,.w),(87,.w),(88,.w),(89,.w),(90,.w),(91,.w),(92,.w),(93,.b)]) .r .h) (.k 2 (.seq (some [(0,.s),(1,.s),(5,.i),(6,.sc (.int .u8)),(7,.sc (.int .u8)),(8,.i),(9,.i),(10,.i),(85,.w),(86,.w),(87,.w),(88,.w),(89,.w),(90,.w),(91,.w),(92,.w),(103,.w),(104,.w),(105,.w),(106,.w),(107,.b)]) .r (.cond (.q (.n (.q .h) (.q .z))) (.seq (some [(0,.s),(1,.s),(5,.i),(6,.sc (.int .u8)),(7,.sc (.int .u8)),(8,.i),(9,.i),(10,.i),(85,.w),(86,.w),(87,.w),(88,.w),(89,.w),(90,.w),(91,.w),(92,.w),(103,.w),(104,.w),(105,.w),(106,.w),(122,.w),(123,.w),(124,.w),(125,.w),(126,.w),(129,.w),(130,.w),(131,.w),(132,.b)]) .r (.cond (.q (.n (.q .h) (.q .z))) .z))))))))))) (.q .z)))))
def cy7(au:d9)(r:d9)(K:KH):C2 :=
 C0 (T:=d9->d9->Int->Bool->C2) (fun k x l av=>A0 av (K (.i 0)) (A0 ((l:Int)==1) (I2 x 0 (fun c8=>i6 133 [.s k,.int .u8 (c8.toNat:Int)] kI (fun aw=>K (.i aw)))) (A0 (decide ((l:Int)>=(k.size:Int))) (K (.i (-1))) (C0 (T:=d9->d9->Int->Bool->C2) (fun y t P ax=>A0 ax (G8 Tryz.prog (.func (.func 239) ⟨[]⟩ ⟨[]⟩) [.s y,.s t] kI (fun ay=>K (.i ay))) (I2 t 0 (fun c16=>I2 t 1 (fun c17=>C9 [.s,.s,.i,.sc (.int .u8),.sc (.int .u8),.i,.i,.i] (fun az=>(fun m Q R c0_22 c1_23 g (h:Int) S=>A0 (decide (g<h)) (C0 (T:=d9->d9->Int->Int->Int->Int->Int->Int->C2) (fun d n c c0_31 c1_32 b U W=>C0 (T:=d9->d9->Int->Int->Int->Int->Int->Int->u9->u9->u9->u9->u9->u9->u9->u9->Bool->C2) (fun X Z z c0_40 c1_41 o aa p ab ac ad ae af ag ah ai ba=>A0 ba (K (.i o)) (C0 (T:=d9->d9->Int->Int->Int->Int->Int->Int->u9->u9->u9->u9->u9->u9->u9->u9->u9->u9->u9->u9->Bool->C2) (fun f u v c0_58 c1_59 a j e A B C D E F G H I J L M bb=>A0 bb (E3 (E1 none f.size/\E1 (some a) (f.size)) (G8 Tryz.prog (.func (.func 239) ⟨[]⟩ ⟨[]⟩) [.s (f.extract a.toNat f.size),.s u] kI (fun (aj:Int)=>A0 (decide (aj>=0)) (K (.i (IntKind.i64.wrap (aj+a)))) (K (.i (-1)))))) (C0 (T:=d9->d9->Int->Int->Int->Int->Int->Int->u9->u9->u9->u9->u9->u9->u9->u9->u9->u9->u9->u9->u9->u9->u9->u9->u9->u9->u9->u9->Bool->C2) (fun q ak bc c0_81 c1_82 w bd be bk bl bm bn bo bp bq br bt bu bv bw bx bz ca cb cc cd ce cf bf=>A0 bf (E3 (E1 none q.size/\E1 (some w) (q.size)) (i6 249 [.s (q.extract w.toNat q.size),.s ak] kI (fun (al:Int)=>A0 (decide (al<0)) (K (.i (-1))) (K (.i (IntKind.i64.wrap (w+al))))))) (az q ak bc c0_81 c1_82 w bd be)) (fun N=>l8 (m8 0 0) kI (fun (bg:Int)=>A0 (decide ((v:Int)>bg)) (E3 (0<=(4:Int)) (A0 (decide ((e:Int)>=(IntKind.i64.wrap (4+(Int.fdiv a (2 ^ min (Int.toNat 4) (IntKind.bits .i64))))))) (N f u v c0_58 c1_59 a j e A B C D E F G H I J L M (.i e) (.i a) (.i (Int.fdiv a (2 ^ min (Int.toNat 4) (IntKind.bits .i64)))) (.i (IntKind.i64.wrap (4+(Int.fdiv a (2 ^ min (Int.toNat 4) (IntKind.bits .i64)))))) (.bool (decide ((e:Int)>=(IntKind.i64.wrap (4+(Int.fdiv a (2 ^ min (Int.toNat 4) (IntKind.bits .i64)))))))) (.i a) (.i j) (.bool (decide ((a:Int)<j))) (decide ((a:Int)<j))) (N f u v c0_58 c1_59 a j e A B C D E F G H I J L M (.i e) (.i a) (.i (Int.fdiv a (2 ^ min (Int.toNat 4) (IntKind.bits .i64)))) (.i (IntKind.i64.wrap (4+(Int.fdiv a (2 ^ min (Int.toNat 4) (IntKind.bits .i64)))))) (.bool (decide ((e:Int)>=(IntKind.i64.wrap (4+(Int.fdiv a (2 ^ min (Int.toNat 4) (IntKind.bits .i64)))))))) (.t []) (.t []) (.t []) false))) (N f u v c0_58 c1_59 a j e A B C D E F G H I J L M (.t []) (.t []) (.t []) (.t []) (.t []) (.t []) (.t []) (.t []) false))))) (fun am=>l8 (m8 0 0) kI (fun (bh:Int)=>A0 (decide ((z:Int)<=bh)) (i6 238 [.i (IntKind.i64.wrap (o+1))] kI (fun (O:Int)=>am X Z z c0_40 c1_41 (IntKind.i64.wrap (o+1)) aa (IntKind.i64.wrap (p+1)) ab ac ad ae af ag ah ai (.i (IntKind.i64.wrap (p+1))) (.i (IntKind.i64.wrap (o+1))) (.i O) (.bool (decide (((IntKind.i64.wrap (p+1)):Int)>O))) (decide (((IntKind.i64.wrap (p+1)):Int)>O)))) (am X Z z c0_40 c1_41 (IntKind.i64.wrap (o+1)) aa (IntKind.i64.wrap (p+1)) ab ac ad ae af ag ah ai (.t []) (.t []) (.t []) (.t []) false))))) (fun an=>I2 d (IntKind.i64.wrap (b+1)) (fun cx8=>A0 ((cx8.toNat:Int)==c1_32) (E3 (E1 (some (IntKind.i64.wrap (b+c))) d.size/\E1 (some b) ((IntKind.i64.wrap (b+c)).toNat)) (an d n c c0_31 c1_32 b U W (.s d) (.i b) (.i b) (.i c) (.i (IntKind.i64.wrap (b+c))) (.s (d.extract b.toNat ((IntKind.i64.wrap (b+c)).toNat))) (.s n) (.bool (C3 (d.extract b.toNat ((IntKind.i64.wrap (b+c)).toNat)) n)) (C3 (d.extract b.toNat ((IntKind.i64.wrap (b+c)).toNat)) n))) (an d n c c0_31 c1_32 b U W (.t []) (.t []) (.t []) (.t []) (.t []) (.t []) (.t []) (.t []) false)))) (fun ao=>I2 m g (fun cx9=>A0 ((cx9.toNat:Int) != c0_22) (E3 (E1 (some h) m.size/\E1 (some (IntKind.i64.wrap (g+1))) (h.toNat)) (i6 133 [.s (m.extract ((IntKind.i64.wrap (g+1)).toNat) h.toNat),.int .u8 c0_22] kI (fun (ap:Int)=>A0 (decide (ap<0)) (K (.i (-1))) (ao m Q R c0_22 c1_23 (IntKind.i64.wrap (g+(IntKind.i64.wrap (ap+1)))) h S)))) (ao m Q R c0_22 c1_23 g h S)))) (K (.i (-1))))) (fun bi=>bi y t P (c16.toNat:Int) (c17.toNat:Int) 0 (IntKind.i64.wrap ((IntKind.i64.wrap ((y.size:Int)-P))+1)) 0))))) (fun aq=>l8 (m8 0 0) kI (fun (bj:Int)=>A0 (decide ((l:Int)<=bj)) (aq k x l (decide ((k.size:Int)<=64))) (aq k x l false))))))) (fun ar=>A0 ((r.size:Int)==0) (ar au r (r.size:Int) true) (ar au r (r.size:Int) (C3 r au)))
theorem dy8(v1:d9)(v2:d9):cy7 v1 v2 K Y->i7 248 [.s v1,.s v2] K Y:=q9 da4 Tryz.func248
end
section

end
section
open Go.Wk
attribute [local irreducible] i9 E3 A0 I9 l8 H0 C0 stW muW biW W7 imW J0 G8 app E2 J1 D3 E6 oW P0 J5 C9 rfW N5 M9 D5 exW I2 Gr P1
structure Nd where
 blk:Nat
 kind:Int
 mode:Int
 data:d9
 links:Int
 up:Int
 eb:Option Nat
 gj:List (d9×Int)
structure Tb where
 qi:Int
 qb:Int
 ui:Int
 ub:Int
 last:Int
 mb:Nat
 nodes:List (Int×Nd)
def Nd.cells(n:Nd):Obj:=.c [.i n.kind,.i n.mode,.s n.data,.i n.links,.i n.up,.map n.eb] 145
def Nd.ptr(n:Nd):u9:=.q n.blk
def Tb.cells(T:Tb):Obj:=.c [.i T.qi,.i T.qb,.i T.ui,.i T.ub,.map (some T.mb),.i T.last] 137
def aS7(n:Int):u9:=.i n
structure aW0(Y:H)(n:Nd):Prop where
 cells:Y n.blk=some n.cells
 gj:∀e,n.eb=some e->Q7 Y e (W0 kkS aS7 n.gj)
 none:n.eb=none->n.gj=[]
 gh:n.kind=2->n.eb≠Option.none
def Tb.get(T:Tb)(gf:Int):Option Nd:=lk gf T.nodes
structure TAt(Y:H)(bt:Nat)(T:Tb):Prop where
 cells:Y bt=some T.cells
 nodes:Q7 Y T.mb (W0 kkI Nd.ptr T.nodes)
 each:∀i n,T.get i=some n->aW0 Y n
theorem aW0.gr{Y Y':H}{n:Nd}(h:aW0 Y n)(hg:Gr Y Y'):aW0 Y' n:=⟨hg.get h.cells,fun e he=>(h.gj e he).gr hg,h.none,h.gh⟩
theorem TAt.gr{Y Y':H}{bt:Nat}{T:Tb}(h:TAt Y bt T)(hg:Gr Y Y'):TAt Y' bt T:=⟨hg.get h.cells,h.nodes.gr hg,fun i n hn=>(h.each i n hn).gr hg⟩
theorem TAt.get{Y:H}{bt:Nat}{T:Tb}(h:TAt Y bt T){gf:Int}{n:Nd}(hn:T.get gf=some n):aW0 Y n:=h.each gf n hn
theorem cm7(o:Option Nd):(o.map Nd.ptr).getD (.p none)=.pointer (o.map fun n=>⟨n.blk,0,none⟩):=by cases o<;>rfl

theorem aS8{Y:H}{bt:Nat}{T:Tb}(hT:TAt Y bt T)(gf:Int){K:KH}(hK:K (.p ((T.get gf).map fun n=>⟨n.blk,0,none⟩)) Y):i7 128 [.q bt,.i gf] K Y:=by
 refine ds7 _ _ ?_;unfold cM9;refine l7 rfl ?_;refine j0 ?_;refine cF2 (f0 hT.cells) ?_;refine E9 (x:=(T.get gf).map fun n=>⟨n.blk,0,none⟩) ?_ hK;rw[<-cm7];exact aI6 (kk:=kkI) hT.nodes _ false gf
def Tb.find(T:Tb)(gh:Int)(gu:d9):Option Int:=(T.get gh).bind fun n=>lk gu n.gj
theorem aJ9{Y:H}{bt:Nat}{T:Tb}(hT:TAt Y bt T)(gh:Int)(gu:d9){K:KH}(hK:K (.t [.i ((T.find gh gu).getD 0),.bool (T.find gh gu).isSome]) Y) :
 i7 165 [.q bt,.i gh,.s gu] K Y:=by
 refine dv3 _ _ _ ?_;unfold cS7;refine l5 (aS8 hT gh ?_);refine am7 ?_;unfold Tb.find at hK;cases hn:T.get gh with
 |none=>rw[hn]at hK;exact l9 rfl hK
 |some n =>
  rw[hn]at hK;have hN:=hT.get hn;refine l7 rfl (j0 ?_);refine cF2 (f0 hN.cells) ?_;cases he:n.eb with
  |none =>
   have:=hN.none he;simp only[Option.bind_some,this]at hK;exact N8 rfl (am4 hK)
  |some e =>
   refine N8 (aI6 (kk:=kkS) (hN.gj e he) _ true gu) ?_;have hv:((lk gu n.gj).map aS7).getD (.i 0)=.i ((lk gu n.gj).getD 0):=by cases lk gu n.gj<;>rfl
   rw[hv];exact am4 hK
theorem ab8(is:Bool)(e:Int){Y:H}{K:KH}(hK:K (.i (if is then 0 else e)) Y):i7 116 [.bool is,.i e] K Y:=by
 refine dr3 _ _ ?_;unfold cK5;cases is
 ·exact l9 rfl hK
 ·exact l7 rfl hK
theorem aA5(t:m9){Y:H}{K:KH}(hK:K (.i (if t.isSome then 0 else 1)) Y):i7 118 [.p t] K Y:=by
 refine dr5 _ ?_;unfold cK9;refine l5 (ab8 _ _ ?_);refine C4 ?_;cases t<;>exact hK
def Tb.up(T:Tb)(gh:Int):Int:=((T.get gh).map (·.up)).getD 0
theorem dy9{Y:H}{bt:Nat}{T:Tb}(hT:TAt Y bt T)(gh:Int){K:KH}(hK:K (.i (T.up gh)) Y):i7 114 [.q bt,.i gh] K Y:=by
 refine dr1 _ _ ?_;unfold cK1;refine l5 (aS8 hT gh (am7 ?_));unfold Tb.up at hK;cases hn:T.get gh with
 |none=>rw[hn]at hK;exact l9 rfl hK
 |some n =>
  rw[hn]at hK;have hN:=hT.get hn;refine l7 rfl (j0 ?_);exact D1 (f0 hN.cells) hK
theorem aS9(bt:Addr){Y:H}{K:KH}(hK:K (.i 1) Y):i7 113 [.p (some bt)] K Y:=by
 refine dr0 _ ?_;unfold cJ9;exact l7 rfl hK

def Tb.dirE(T:Tb)(gf:Int):Int:=match T.get gf with
 |none=>5
 |some n=>if n.kind==2 then 0 else 8
theorem aT0{Y:H}{bt:Nat}{T:Tb}(hT:TAt Y bt T){b1 b2:Nat}{gf:Int}{t1 t2:TypeId}(h1:Y b1=some (.c [.q bt] t1))(h2:Y b2=some (.c [.i gf] t2)){K:KH}
 (hK:K (.i (T.dirE gf)) Y):i7 161 [.q b1,.q b2] K Y:=by
 refine du9 _ _ ?_;unfold cR9
 (repeat (first|refine zz ?_|(refine A5 ?_;intro _ _ _ _ _)|(refine z6 ?_;intro _ _)|(refine l6 rfl ?_;try dsimp only)))
 refine l5 (aS8 hT gf (am7 ?_));unfold Tb.dirE at hK;cases hn:T.get gf with
 |none=>rw[hn]at hK;exact l9 rfl hK
 |some n =>
  rw[hn]at hK;have hN:=hT.get hn;refine l7 rfl (j0 ?_);refine D1 (f0 hN.cells) ?_;exact l5 (ab8 _ _ (C4 hK))
theorem bf3{Y:H}{bt:Nat}{T:Tb}(hT:TAt Y bt T){b1 b2 b3:Nat}{gh:Int}{gu:d9}{t1 t2 t3:TypeId}(h1:Y b1=some (.c [.q bt] t1))(h2:Y b2=some (.c [.i gh] t2))(h3:Y b3=some (.c [.s gu] t3)){K:KH}
 (hK:K (.i (if(T.find gh gu).isSome then 6 else 0)) Y):i7 164 [.q b1,.q b2,.q b3] K Y:=by
 refine dv2 _ _ _ ?_;unfold cS5
 (repeat (first|refine zz ?_|(refine A5 ?_;intro _ _ _ _ _)|(refine z6 ?_;intro _ _)|(refine l6 rfl ?_;try dsimp only)))
 refine l5 (aJ9 hT gh gu (am4 ?_));refine l5 (ab8 _ _ (C4 ?_));cases h:(T.find gh gu).isSome<;>simpa[h]using hK
theorem bo2{Y:H}{bt:Nat}{T:Tb}(hT:TAt Y bt T){b1 b2 b3:Nat}{gh:Int}{gu:d9}{t1 t2 t3:TypeId}(h1:Y b1=some (.c [.q bt] t1))(h2:Y b2=some (.c [.i gh] t2))(h3:Y b3=some (.c [.s gu] t3)){K:KH}
 (hK:K (.i (if(T.find gh gu).isSome then 0 else 5)) Y):i7 208 [.q b1,.q b2,.q b3] K Y:=by
 refine dx5 _ _ _ ?_;unfold cX9
 (repeat (first|refine zz ?_|(refine A5 ?_;intro _ _ _ _ _)|(refine z6 ?_;intro _ _)|(refine l6 rfl ?_;try dsimp only)))
 refine l5 (aJ9 hT gh gu (am4 ?_));exact l5 (ab8 _ _ (C4 hK))
def Tb.fileE(T:Tb)(gf:Int):Int:=match T.get gf with
 |none=>5
 |some n=>if n.kind==2 then 7 else if n.kind==1 then 0 else 2
theorem bH0{Y:H}{bt:Nat}{T:Tb}(hT:TAt Y bt T){b1 b2:Nat}{gf:Int}{t1 t2:TypeId}(h1:Y b1=some (.c [.q bt] t1))(h2:Y b2=some (.c [.i gf] t2)){K:KH}
 (hK:K (.i (T.fileE gf)) Y):i7 172 [.q b1,.q b2] K Y:=by
 refine dw0 _ _ ?_;unfold cU1
 (repeat (first|refine zz ?_|(refine A5 ?_;intro _ _ _ _ _)|(refine z6 ?_;intro _ _)|(refine l6 rfl ?_;try dsimp only)))
 refine l5 (aS8 hT gf (am7 ?_));unfold Tb.fileE at hK;cases hn:T.get gf with
 |none=>rw[hn]at hK;exact l9 rfl hK
 |some n =>
  rw[hn]at hK;have hN:=hT.get hn;refine l7 rfl (j0 ?_);refine D1 (f0 hN.cells) ?_;cases hk:(n.kind==2) with
  |true=>simp only[hk]at hK;exact l9 rfl hK
  |false =>
   simp only[hk]at hK;refine l7 rfl (j0 ?_);refine D1 (f0 hN.cells) ?_;exact l5 (ab8 _ _ (C4 hK))
theorem aj3:E6 Tryz.prog 3=some 1:=by kernel_rfl
theorem U3:E6 Tryz.prog 9=some 1:=by kernel_rfl
theorem aA6:E6 Tryz.prog 4=some 1:=by kernel_rfl
theorem ay9:E6 Tryz.prog 80=some 4:=by kernel_rfl
theorem aG6:E6 Tryz.prog 29=some 2:=by kernel_rfl
theorem cy8:E6 Tryz.prog 143=some 1:=by kernel_rfl
def Tb.node(T:Tb)(gf:Int):List u9:=match T.get gf with
 |none=>[.i 0,.i 0,.s gq,.i 0]
 |some n=>[.i n.kind,.i n.mode,.s n.data,.i n.links]
theorem cy9{Y:H}{bt:Nat}{T:Tb}(hT:TAt Y bt T)(gf:Int){K:KH}(hK:K (.t [.agg ⟨T.node gf⟩,.bool (T.get gf).isSome]) Y):i7 61 [.q bt,.i gf] K Y:=by
 refine aa7 _ hK (c61 _ _ ?_);unfold g61;refine A5 ?_;intro b Y1 hg hb hn;refine l5 (aS8 (hT.gr hg) gf (am7 ?_));unfold Tb.node;cases ix:T.get gf with
 |none =>
  refine l9 rfl ?_
  (repeat (first|refine zz ?_|(refine A5 ?_;intro _ _ _ _ _)|(refine z6 ?_;intro _ _)|(refine l6 rfl ?_;try dsimp only)))
  exact⟨rfl,by repeat (first|exact Gr.refl _|assumption|refine Gr.trans ?_ ‹_›|refine Gr.putF ?_ ‹_› (A9 ?_ ‹_›))⟩
 |some n =>
  have hN:=((hT.gr hg).get ix).cells;unfold Nd.cells at hN;refine l7 rfl (j0 ?_)
  (repeat (first|refine zz ?_|(refine A5 ?_;intro _ _ _ _ _)|(refine z6 ?_;intro _ _)|(refine l6 rfl ?_;try dsimp only)))
  exact⟨rfl,by repeat (first|exact Gr.refl _|assumption|refine Gr.trans ?_ ‹_›|refine Gr.putF ?_ ‹_› (A9 ?_ ‹_›))⟩
theorem cm8{Y:H}{bt:Nat}{T:Tb}(hT:TAt Y bt T){K:KH}(hK:K (.g [.i T.ui,.i T.ub]) Y):i7 46 [.q bt] K Y:=by
 refine aa7 _ hK (c46 _ ?_);unfold g46;have hc:=hT.cells;unfold Tb.cells at hc;refine A5 ?_;intro b Y1 hg hb hn;refine l7 rfl (j0 ?_)
 (repeat (first|refine zz ?_|(refine A5 ?_;intro _ _ _ _ _)|(refine z6 ?_;intro _ _)|(refine l6 rfl ?_;try dsimp only)))
 exact⟨rfl,by repeat (first|exact Gr.refl _|assumption|refine Gr.trans ?_ ‹_›|refine Gr.putF ?_ ‹_› (A9 ?_ ‹_›))⟩
theorem D7{x:Int}(h1:-9223372036854775808<=x)(h2:x<=9223372036854775807):IntKind.i64.wrap x=x:=by
 rw[IntKind.wrap_i64];omega
def Pu(Y:H)(f:u9)(e:Int):Prop:=∀K:u9->H->Prop,K (.i e) Y->D3 Tryz.prog f [] K Y
def bf4(Y:H):List u9->List Int->Prop
 | [],[]=>True
 |f::fs,e::es=>Pu Y f e/\(e=0->bf4 Y fs es)
 |_,_=>False
theorem dI4{i:Nat}(h:i<9000000000000000000):IntKind.i64.wrap ((i:Int)+1)=((i+1:Nat):Int):=by rw[D7 (by omega) (by omega)];omega
theorem av6{Y:H}{b:Nat}{fs:List u9}{es:List Int}{t:TypeId}(hb:Y b=some (.cells ⟨fs⟩ t (0,0)))(h:bf4 Y fs es)(hn:fs.length<=1000){K:KH}(hK:K (.i (N0 es)) Y) :
 i7 117 [.slice (gp b) fs.length fs.length] K Y:=by
 refine dr4 ⟨some ⟨b,0,none⟩,_,_⟩ ?_;unfold cK7;refine H9 ?_;intro R hR;have key:∀ (gs:List u9) (ds:List Int) (i:Nat),fs.drop i=gs->bf4 Y gs ds->K (.i (N0 ds)) Y->R ⟨some ⟨b,0,none⟩,fs.length,fs.length⟩ ((fs.length:Nat):Int) (i:Int) Y:=by
  intro gs
  induction gs with
  |nil =>
   intro ds i hd jb hk;have um:fs.length<=i:=by simpa using hd
   refine hR _ _ _ _ ?_;cases ds with
   |cons d ds=>exact jb.elim
   |nil=>exact l7 (by simp;omega) hk
  |cons f gs ih =>
   intro ds i hd jb hk;cases ds with
   |nil=>exact jb.elim
   |cons d ds =>
    obtain⟨hp,jb⟩:=jb;have iw:i<fs.length:=by
     rcases U8 i fs.length with h|h
     ·exact h
     ·rw[M3 h]at hd;cases hd
    have hf:fs[i]?=some f:=by
     have:(fs.drop i)[0]?=some f:=by rw[hd];rfl
     simpa using this
    refine hR _ _ _ _ ?_;refine l9 (by simpa using iw) ?_;refine j0 (D0 ⟨by omega,by show(i:Int)<(fs.length:Int);omega⟩ ?_);refine bK3 (f0 (v:=f) hb (by simpa using hf)) ?_;refine al1 (hp _ (C4 ?_));by_cases he:d=0
    ·subst he;refine l7 rfl ?_;rw[D7 (by omega) (by omega)];have h2:fs.drop (i+1)=gs:=by rw[<-List.drop_drop,hd];rfl
     exact ih ds (i+1) h2 (jb rfl) (by simpa[N0]using hk)
    ·refine l9 (by simpa using he) ?_;simpa[N0,he]using hk
 exact key fs es 0 rfl h hK
theorem aa2{Y:H}{g:FuncId}{as_ cs:List u9}{e:Int}(hg:Z0 Tryz.prog g=true)(h:∀K:u9->H->Prop,K (.i e) Y->i7 g (as_++cs) K Y):Pu Y (.func (.func g) ⟨as_⟩ ⟨cs⟩) e:=by
 intro K hk;unfold D3;simp only[hg];simpa using h K hk
theorem at7:Z0 Tryz.prog 118=true:=by kernel_rfl
theorem aG7:Z0 Tryz.prog 161=true:=by kernel_rfl
theorem aK0:Z0 Tryz.prog 162=true:=by kernel_rfl
theorem aT1:Z0 Tryz.prog 164=true:=by kernel_rfl
theorem bo3:Z0 Tryz.prog 166=true:=by kernel_rfl
theorem cc5:Z0 Tryz.prog 115=true:=by kernel_rfl
theorem cc6:Z0 Tryz.prog 122=true:=by kernel_rfl
theorem bo4:Z0 Tryz.prog 172=true:=by kernel_rfl
theorem ba2:Z0 Tryz.prog 208=true:=by kernel_rfl
theorem bA2:Z0 Tryz.prog 174=true:=by kernel_rfl
theorem cc7:Z0 Tryz.prog 182=true:=by kernel_rfl
theorem bA3:Z0 Tryz.prog 129=true:=by kernel_rfl
theorem bA4:Z0 Tryz.prog 131=true:=by kernel_rfl
theorem bA5:Z0 Tryz.prog 132=true:=by kernel_rfl

theorem bo5{Y:H}(t:m9)(gf:Int){K:KH}(hK:∀b1 b2 Y',Gr Y Y'->Y' b1=some (.c [.p t] 69)->Y' b2=some (.c [.i gf] 3)->K (.func (.func 161) ⟨[]⟩ ⟨[.q b1,.q b2]⟩) Y') :
 i7 119 [.p t,.i gf] K Y:=by
 refine dr6 _ _ ?_;unfold cL1
 (repeat (first|refine zz ?_|(refine A5 ?_;intro _ _ _ _ _)|(refine z6 ?_;intro _ _)|(refine l6 rfl ?_;try dsimp only)))
 exact hK _ _ _ (by repeat (first|exact Gr.refl _|assumption|refine Gr.trans ?_ ‹_›|refine Gr.putF ?_ ‹_› (A9 ?_ ‹_›))) (by exact gA) (by exact gA)
theorem cc8{Y:H}(t:m9)(gf:Int){K:KH}(hK:∀b1 b2 Y',Gr Y Y'->Y' b1=some (.c [.p t] 69)->Y' b2=some (.c [.i gf] 3)->K (.func (.func 172) ⟨[]⟩ ⟨[.q b1,.q b2]⟩) Y') :
 i7 130 [.p t,.i gf] K Y:=by
 refine ds9 _ _ ?_;unfold cN3
 (repeat (first|refine zz ?_|(refine A5 ?_;intro _ _ _ _ _)|(refine z6 ?_;intro _ _)|(refine l6 rfl ?_;try dsimp only)))
 exact hK _ _ _ (by repeat (first|exact Gr.refl _|assumption|refine Gr.trans ?_ ‹_›|refine Gr.putF ?_ ‹_› (A9 ?_ ‹_›))) (by exact gA) (by exact gA)
theorem bf5{Y:H}(gu:d9){K:KH}(hK:∀b1 Y',Gr Y Y'->Y' b1=some (.c [.s gu] 9)->K (.func (.func 162) ⟨[]⟩ ⟨[.q b1]⟩) Y') :
 i7 120 [.s gu] K Y:=by
 refine dr7 _ ?_;unfold cL3
 (repeat (first|refine zz ?_|(refine A5 ?_;intro _ _ _ _ _)|(refine z6 ?_;intro _ _)|(refine l6 rfl ?_;try dsimp only)))
 exact hK _ _ (by repeat (first|exact Gr.refl _|assumption|refine Gr.trans ?_ ‹_›|refine Gr.putF ?_ ‹_› (A9 ?_ ‹_›))) (by exact gA)
theorem bA6{Y:H}(t:m9)(gh:Int)(gu:d9){K:KH}(hK:∀b1 b2 b3 Y',Gr Y Y'->Y' b1=some (.c [.p t] 69)->Y' b2=some (.c [.i gh] 3)->Y' b3=some (.c [.s gu] 9)->K (.func (.func 164) ⟨[]⟩ ⟨[.q b1,.q b2,.q b3]⟩) Y') :
 i7 121 [.p t,.i gh,.s gu] K Y:=by
 refine dr8 _ _ _ ?_;unfold cL5
 (repeat (first|refine zz ?_|(refine A5 ?_;intro _ _ _ _ _)|(refine z6 ?_;intro _ _)|(refine l6 rfl ?_;try dsimp only)))
 exact hK _ _ _ _ (by repeat (first|exact Gr.refl _|assumption|refine Gr.trans ?_ ‹_›|refine Gr.putF ?_ ‹_› (A9 ?_ ‹_›))) (by exact gA) (by exact gA) (by exact gA)
theorem bH1{Y:H}(t:m9)(gh:Int)(gu:d9){K:KH}(hK:∀b1 b2 b3 Y',Gr Y Y'->Y' b1=some (.c [.p t] 69)->Y' b2=some (.c [.i gh] 3)->Y' b3=some (.c [.s gu] 9)->K (.func (.func 208) ⟨[]⟩ ⟨[.q b1,.q b2,.q b3]⟩) Y') :
 i7 175 [.p t,.i gh,.s gu] K Y:=by
 refine cy3 _ _ _ ?_;unfold cU5
 (repeat (first|refine zz ?_|(refine A5 ?_;intro _ _ _ _ _)|(refine z6 ?_;intro _ _)|(refine l6 rfl ?_;try dsimp only)))
 exact hK _ _ _ _ (by repeat (first|exact Gr.refl _|assumption|refine Gr.trans ?_ ‹_›|refine Gr.putF ?_ ‹_› (A9 ?_ ‹_›))) (by exact gA) (by exact gA) (by exact gA)
theorem cc9{Y:H}(t:m9)(i n:Int){K:KH}(hK:∀b1 b2 b3 Y',Gr Y Y'->Y' b1=some (.c [.p t] 69)->Y' b2=some (.c [.i i] 3)->Y' b3=some (.c [.i n] 3)->K (.func (.func 166) ⟨[]⟩ ⟨[.q b1,.q b2,.q b3]⟩) Y') :
 i7 123 [.p t,.i i,.i n] K Y:=by
 refine ds2 _ _ _ ?_;unfold cL9
 (repeat (first|refine zz ?_|(refine A5 ?_;intro _ _ _ _ _)|(refine z6 ?_;intro _ _)|(refine l6 rfl ?_;try dsimp only)))
 exact hK _ _ _ _ (by repeat (first|exact Gr.refl _|assumption|refine Gr.trans ?_ ‹_›|refine Gr.putF ?_ ‹_› (A9 ?_ ‹_›))) (by exact gA) (by exact gA) (by exact gA)
def Tb.roomE(T:Tb)(i n:Int):Int:=if IntKind.i64.wrap (T.ui+i)<=T.qi/\IntKind.i64.wrap (T.ub+n)<=T.qb then 0 else 10
theorem bH2{Y:H}{bt:Nat}{T:Tb}(hT:TAt Y bt T){b1 b2 b3:Nat}{i n:Int}{t1 t2 t3:TypeId}(h1:Y b1=some (.c [.q bt] t1))(h2:Y b2=some (.c [.i i] t2))(h3:Y b3=some (.c [.i n] t3)){K:KH}
 (hK:K (.i (T.roomE i n)) Y):i7 166 [.q b1,.q b2,.q b3] K Y:=by
 refine dv4 _ _ _ ?_;unfold cS9;have hc:=hT.cells;unfold Tb.cells at hc
 (repeat (first|refine zz ?_|(refine A5 ?_;intro _ _ _ _ _)|(refine z6 ?_;intro _ _)|(refine l6 rfl ?_;try dsimp only)))
 unfold Tb.roomE at hK;by_cases ha:IntKind.i64.wrap (T.ui+i)<=T.qi
 ·refine l9 (by simpa using ha) ?_
  (repeat (first|refine zz ?_|(refine A5 ?_;intro _ _ _ _ _)|(refine z6 ?_;intro _ _)|(refine l6 rfl ?_;try dsimp only)))
  refine l5 (ab8 _ _ (C4 ?_));simpa[ha]using hK
 ·refine l7 (by simpa using ha) ?_;refine l5 (ab8 _ _ (C4 ?_));simpa[ha]using hK
theorem bf6:Tryz.prog.underlying 147=some (.map 3 4):=by kernel_rfl
theorem aA7:Tryz.prog.underlying 3=some (.int .i64):=by kernel_rfl
theorem P8:Tryz.prog.underlying 9=some .string:=by kernel_rfl
def cd0:Prop:=∀ (s:d9) (Y:H) (K:KH),(∀n:Int,(decide (n<0)=!W6 s)->K (.i n) Y)->i7 68 [.s s,.int .u8 0] K Y
def cd1:Prop:=∀ (s:d9) (_:s.size<=1000000) (Y:H) (K:KH),K (.bool (X6 s)) Y->i7 163 [.s s,.s (bs [47,0])] K Y
theorem cm9(hI:cd0){Y:H}{b1 b2 b3:Nat}{data:d9}{kind mode:Int}{t1 t2 t3:TypeId}(h1:Y b1=some (.c [.s data] t1))(h2:Y b2=some (.c [.i kind] t2))(h3:Y b3=some (.c [.i mode] t3)){K:KH}
 (hK:K (.i (ac5 kind mode data)) Y):i7 115 [.q b1,.q b2,.q b3] K Y:=by
 have hsE:E8 data gq=C3 data gq:=I5 _ _;refine aa7 _ hK (dr2 _ _ _ ?_);unfold cK3;refine K5 (fun j=>∀Y',Gr Y Y'->j (gp b1) (gp b2) (gp b3) (Z9 data) Y') ?_ ?_
 ·intro Y' hg;refine A5 ?_;intro b Y1 tf hb hn;have m0:Q7 Y1 b (W0 kkI Value.bool []):=Q7.new hb;refine bd4 (kk:=kkI) (f:=Value.bool) bf6 aA7 m0 1 true ?_;intro o1 Y2 tu m1;have hne1:b1≠b:=ae3 (hg.get h1) hn;have yn:b2≠b:=ae3 (hg.get h2) hn;have yo:b3≠b:=ae3 (hg.get h3) hn;refine j0 (C6 (f0 (by exact gA)) ?_);refine bd4 (kk:=kkI) (f:=Value.bool) bf6 aA7 m1 2 _ ?_;intro o2 Y3 ll m2;refine bd4 (kk:=kkI) (f:=Value.bool) bf6 aA7 m2 3 _ ?_;intro o3 Y4 hp3 m3;refine j0 (D1 (f0 (by exact gA)) ?_);have hv:((lk kind (up 3 (Z9 data) (up 2 (C3 data gq) (up 1 true [])))).map Value.bool).getD (.bool false) = .bool (af2 kind data):=by
   show((lk kind [((1:Int),true),(2,C3 data gq),(3,Z9 data)]).map Value.bool).getD (.bool false)=_;unfold af2;rw[hsE];cases lk kind [((1:Int),true),(2,C3 data gq),(3,Z9 data)]<;>rfl
  have hr:=aI6 (kk:=kkI) m3 (.bool false) false kind;refine an2 (x:=af2 kind data) (by rw[<-hv];exact hr) ?_;have mf:Gr Y Y4:=by repeat (first|exact Gr.refl _|assumption|refine Gr.trans ?_ ‹_›|refine Gr.putF ?_ ‹_› (A9 ?_ ‹_›))
  unfold ac5;cases hk:af2 kind data with
  |false =>
   refine l7 rfl (l5 (ab8 _ _ (C4 ⟨rfl,mf⟩)))
  |true =>
   refine l9 rfl (j0 (D1 (f0 (by exact gA)) ?_));by_cases hm:0<=mode
   ·refine l9 (by simpa using hm) (j0 (D1 (f0 (by exact gA)) ?_));refine l5 (ab8 _ _ (C4 ⟨?_,mf⟩));simp[hm]
   ·refine l7 (by simpa using hm) (l5 (ab8 _ _ (C4 ⟨?_,mf⟩)));simp[hm]
 ·intro j hj;refine j0 (C6 (f0 (by exact gA)) ?_);unfold Z9 at hj;rw[hsE]at hj;cases he:C3 data gq with
  |true=>refine l7 rfl ?_;rw[he]at hj;exact hj Y (Gr.refl _)
  |false =>
   rw[he]at hj;refine l9 rfl (j0 (C6 (f0 (by exact gA)) ?_));by_cases hl:data.size<=255
   ·refine l9 (by simp;omega) (j0 (C6 (f0 (by exact gA)) ?_));refine l5 (hI data Y _ ?_);intro n hn;refine C4 ?_;rw[hn];simpa[hl]using hj Y (Gr.refl _)
   ·refine l7 (by simp;omega) ?_;simpa[hl]using hj Y (Gr.refl _)
theorem ab9{i:Nat}(h:i<9000000000000000000:=by omega):IntKind.i64.wrap ((i:Int)+1)=((i+1:Nat):Int):=by rw[D7 (by omega) (by omega)];omega
def Nd.abs(n:Nd):AN:=⟨n.kind,n.mode,n.data,n.links,n.up,n.gj⟩
def Tb.abs(T:Tb):AT:=⟨T.qi,T.qb,T.ui,T.ub,T.last,T.nodes.map fun p=>(p.1,p.2.abs)⟩
theorem Q3(T:Tb)(i:Int):T.abs.get i=(T.get i).map Nd.abs:=cv5 _ _ _
theorem ag4(T:Tb)(d:Int)(s:d9):T.abs.find d s=T.find d s:=by
 unfold AT.find Tb.find;rw[Q3];cases T.get d<;>rfl
theorem az0(T:Tb)(d:Int):T.abs.dirE d=T.dirE d:=by
 unfold AT.dirE Tb.dirE;rw[Q3];cases T.get d<;>rfl
theorem ba3(T:Tb)(d:Int):T.abs.fileE d=T.fileE d:=by
 unfold AT.fileE Tb.fileE;rw[Q3];cases T.get d<;>rfl
theorem cz0(T:Tb)(d:Int):T.abs.upOf d=T.up d:=by
 unfold AT.upOf Tb.up;rw[Q3];cases T.get d<;>rfl
theorem ba4(T:Tb)(i n:Int):T.abs.roomE i n=T.roomE i n:=rfl
structure Own(T:Tb):Prop where
 blk:∀i j n m,T.get i=some n->T.get j=some m->n.blk=m.blk->i=j
 eb:∀i j n m e,T.get i=some n->T.get j=some m->n.eb=some e->m.eb=some e->i=j
 mb:∀i n,T.get i=some n->n.eb≠some T.mb
def Tb.own(bt:Nat)(T:Tb)(b:Nat):Prop:=b=bt\/b=T.mb\/∃i n,T.get i=some n/\(b=n.blk\/n.eb=some b)
def Tb.set(T:Tb)(i:Int)(n:Nd):Tb:={T with nodes:=HL.up i n T.nodes}
theorem get_set(T:Tb)(i j:Int)(n:Nd):(T.set i n).get j=if j=i then some n else T.get j:=by
 unfold Tb.set Tb.get;simp only[ax0];by_cases h:j=i<;>simp[h]
theorem get_set_self(T:Tb)(i:Int)(n:Nd):(T.set i n).get i=some n:=by rw[get_set];simp
theorem aj4(T:Tb)(i:Int)(n:Nd):(T.set i n).abs=T.abs.set i n.abs:=by
 unfold Tb.set Tb.abs AT.set;simp only[cv6]
section
variable {Y Y':H} {bt:Nat} {T:Tb} {b:Nat} {o:Obj}
theorem aW0.put{m:Nd}(h:aW0 Y m)(hp:P1 Y b o Y')(h1:m.blk≠b)(h2:m.eb≠some b):aW0 Y' m :=
 ⟨hp.get h1 h.cells,fun e he=>(h.gj e he).put hp (by intro e';subst e';exact h2 he),h.none,h.gh⟩
theorem ad8{c d:Nat}{l:List (u9×u9)}{es:Array u9}{t:TypeId}{fz:Nat×Nat}(hc:Y c=some (.cells es t fz))(hd:Q7 Y d l):c≠d:=by
 obtain⟨es',k,hd,_⟩:=hd;intro e;subst e;rw[hc]at hd;cases hd
theorem TAt.bt_mb(h:TAt Y bt T):bt≠T.mb:=ad8 h.cells h.nodes
theorem TAt.blk_bt(h:TAt Y bt T){i:Int}{n:Nd}(hn:T.get i=some n):n.blk≠bt:=by
 intro e;have h1:=(h.get hn).cells;have h2:=h.cells;rw[e,h2]at h1;unfold Tb.cells Nd.cells at h1;simp at h1
theorem TAt.blk_mb(h:TAt Y bt T){i:Int}{n:Nd}(hn:T.get i=some n):n.blk≠T.mb:=ad8 (h.get hn).cells h.nodes
theorem TAt.eb_bt(h:TAt Y bt T){i:Int}{n:Nd}(hn:T.get i=some n):n.eb≠some bt:=by
 intro e;exact ad8 h.cells ((h.get hn).gj _ e) rfl
theorem TAt.eb_blk(h:TAt Y bt T){i j:Int}{n m:Nd}(hn:T.get i=some n)(hm:T.get j=some m):n.eb≠some m.blk:=by
 intro e;exact ad8 (h.get hm).cells ((h.get hn).gj _ e) rfl
theorem TAt.own_some(h:TAt Y bt T)(hb:T.own bt b):∃o,Y b=some o:=by
 rcases hb with e|e|⟨i,n,hn,e|e⟩
 ·subst e;exact⟨_,h.cells⟩
 ·subst e;obtain⟨_,_,h1,_⟩:=h.nodes;exact⟨_,h1⟩
 ·subst e;exact⟨_,(h.get hn).cells⟩
 ·obtain⟨_,_,h1,_⟩:=(h.get hn).gj _ e;exact⟨_,h1⟩
theorem TAt.put(h:TAt Y bt T)(hp:P1 Y b o Y')(hn:¬T.own bt b):TAt Y' bt T:=by
 refine⟨hp.get ?_ h.cells,h.nodes.put hp ?_,fun i n hg=>(h.get hg).put hp ?_ ?_⟩
 ·intro e;exact hn (.inl e.symm)
 ·intro e;exact hn (.inr (.inl e.symm))
 ·intro e;exact hn (.inr (.inr ⟨i,n,hg,.inl e.symm⟩))
 ·intro e;exact hn (.inr (.inr ⟨i,n,hg,.inr e⟩))
theorem TAt.putT{T':Tb}(h:TAt Y bt T)(hp:P1 Y bt T'.cells Y')(h1:T'.mb=T.mb)(h2:T'.nodes=T.nodes):TAt Y' bt T':=by
 have hg:∀i,T'.get i=T.get i:=by intro i;unfold Tb.get;rw[h2]
 refine⟨hp.same,?_,fun i n hn=>?_⟩
 ·rw[h1,h2];exact h.nodes.put hp (h.bt_mb).symm
 ·rw[hg]at hn;exact(h.get hn).put hp (h.blk_bt hn) (h.eb_bt hn)
theorem Own.same{T':Tb}(h:Own T)(h1:T'.mb=T.mb)(h2:T'.nodes=T.nodes):Own T':=by
 have hg:∀i,T'.get i=T.get i:=by intro i;unfold Tb.get;rw[h2]
 refine⟨?_,?_,?_⟩
 ·intro i j n m;rw[hg,hg];exact h.blk i j n m
 ·intro i j n m e;rw[hg,hg];exact h.eb i j n m e
 ·intro i n;rw[hg,h1];exact h.mb i n
theorem az1{T':Tb}(h1:T'.mb=T.mb)(h2:T'.nodes=T.nodes)(b:Nat):T'.own bt b↔T.own bt b:=by
 have hg:∀i,T'.get i=T.get i:=by intro i;unfold Tb.get;rw[h2]
 unfold Tb.own;simp only[hg,h1]
theorem TAt.putN(h:TAt Y bt T)(ho:Own T){i:Int}{n n':Nd}(hn:T.get i=some n)(hp:P1 Y n.blk n'.cells Y')(h1:n'.blk=n.blk)(h2:n'.eb=n.eb)(h3:n'.gj=n.gj)(h4:n'.kind=n.kind):TAt Y' bt (T.set i n'):=by
 refine⟨hp.get (h.blk_bt hn).symm h.cells,?_,fun j m hm=>?_⟩
 ·have:=aM2 (kk:=kkI) (f:=Nd.ptr) (k:=i) (v:=n') (u:=n) (l:=T.nodes) hn (by unfold Nd.ptr;rw[h1]);show Q7 Y' T.mb (W0 kkI Nd.ptr (up i n' T.nodes));rw[this];exact h.nodes.put hp (h.blk_mb hn).symm
 ·rw[get_set]at hm;by_cases e:j=i
  ·rw[d8 e]at hm;cases hm;have hN:=h.get hn;refine⟨by rw[h1];exact hp.same,fun e he=>?_,fun he=>?_,fun hk=>?_⟩
   ·rw[h2]at he;rw[h3];exact(hN.gj e he).put hp (ad8 hN.cells (hN.gj e he)).symm
   ·rw[h2]at he;rw[h3];exact hN.none he
   ·rw[h2];rw[h4]at hk;exact hN.gh hk
  ·rw[d7 e]at hm;exact(h.get hm).put hp (fun e'=>e (ho.blk j i m n hm hn e')) (h.eb_blk hm hn)
theorem Own.set(ho:Own T){i:Int}{n n':Nd}(hn:T.get i=some n)(h1:n'.blk=n.blk)(h2:n'.eb=n.eb):Own (T.set i n'):=by
 have key:∀j m,(T.set i n').get j=some m->∃m',T.get j=some m'/\m.blk=m'.blk/\m.eb=m'.eb:=by
  intro j m hm;rw[get_set]at hm;by_cases e:j=i
  ·rw[d8 e]at hm;cases hm;subst e;exact⟨n,hn,h1,h2⟩
  ·rw[d7 e]at hm;exact⟨m,hm,rfl,rfl⟩
 refine⟨?_,?_,?_⟩
 ·intro a c x y hx hy hb;obtain⟨x',jv,e1,_⟩:=key a x hx;obtain⟨y',pq,e2,_⟩:=key c y hy;exact ho.blk a c x' y' jv pq (by rw[<-e1,<- e2];exact hb)
 ·intro a c x y e hx hy h3 h4;obtain⟨x',jv,_,e1⟩:=key a x hx;obtain⟨y',pq,_,e2⟩:=key c y hy;exact ho.eb a c x' y' e jv pq (by rw[<-e1];exact h3) (by rw[<-e2];exact h4)
 ·intro a x hx;obtain⟨x',jv,_,e1⟩:=key a x hx;rw[e1];exact ho.mb a x' jv
theorem al3{i:Int}{n n':Nd}(hn:T.get i=some n)(h1:n'.blk=n.blk)(h2:n'.eb=n.eb)(b:Nat):(T.set i n').own bt b↔T.own bt b:=by
 unfold Tb.own;have:(T.set i n').mb=T.mb:=rfl;rw[this];refine or_congr_right (or_congr_right ⟨?_,?_⟩)
 ·rintro ⟨j,m,hm,hb⟩
  rw[get_set]at hm;by_cases e:j=i
  ·rw[d8 e]at hm;cases hm;exact⟨i,n,hn,by rw[<-h1,<- h2];exact hb⟩
  ·rw[d7 e]at hm;exact⟨j,m,hm,hb⟩
 ·rintro ⟨j,m,hm,hb⟩
  by_cases e:j=i
  ·subst e;rw[hn]at hm;cases hm;exact⟨j,n',get_set_self ..,by rw[h1,h2];exact hb⟩
  ·exact⟨j,m,by rw[get_set,d7 e];exact hm,hb⟩
theorem TAt.putE(h:TAt Y bt T)(ho:Own T){i:Int}{n:Nd}{e:Nat}{l:List (d9×Int)}(hn:T.get i=some n)(he:n.eb=some e)(hp:P1 Y e o Y')(hm:Q7 Y' e (W0 kkS aS7 l)):TAt Y' bt (T.set i {n with gj:=l}):=by
 have hE:=(h.get hn).gj e he;refine⟨hp.get (ad8 h.cells hE) h.cells,?_,fun j m hj=>?_⟩
 ·have:=aM2 (kk:=kkI) (f:=Nd.ptr) (k:=i) (v:={n with gj:=l}) (u:=n) (l:=T.nodes) hn rfl;show Q7 Y' T.mb (W0 kkI Nd.ptr (up i _ T.nodes));rw[this];exact h.nodes.put hp (by intro e';exact ho.mb i n hn (by rw[he,e']))
 ·rw[get_set]at hj;by_cases e':j=i
  ·rw[d8 e']at hj;cases hj;have hN:=h.get hn;refine⟨hp.get (ad8 hN.cells hE) hN.cells,fun e2 tz=>?_,fun h0=>?_,hN.gh⟩
   ·have:e2=e:=by have:=tz.symm.trans he;cases this;rfl
    subst this;exact hm
   ·have:=he.symm.trans h0;cases this
  ·rw[d7 e']at hj;have hN:=h.get hj;exact hN.put hp (ad8 hN.cells hE) (fun h2=>e' (ho.eb j i m n e hj hn h2 he))
theorem TAt.putA(h:TAt Y bt T)(ho:Own T){i:Int}{n:Nd}(hN:aW0 Y n)(hp:P1 Y T.mb o Y')(hm:Q7 Y' T.mb (W0 kkI Nd.ptr (up i n T.nodes)))(hf:n.eb≠some T.mb):TAt Y' bt (T.set i n):=by
 refine⟨hp.get h.bt_mb h.cells,hm,fun j m hj=>?_⟩;rw[get_set]at hj;by_cases e:j=i
 ·rw[d8 e]at hj;cases hj;exact hN.put hp (ad8 hN.cells h.nodes) hf
 ·rw[d7 e]at hj;exact(h.get hj).put hp (h.blk_mb hj) (ho.mb j m hj)
theorem Own.add(ho:Own T){i:Int}{n:Nd}(h1:¬T.own bt n.blk)(h2:∀e,n.eb=some e->¬T.own bt e):Own (T.set i n):=by
 have hb:∀j m,T.get j=some m->m.blk≠n.blk:=fun j m hm e=>h1 (.inr (.inr ⟨j,m,hm,.inl e.symm⟩));have he:∀j m e,T.get j=some m->n.eb=some e->m.eb≠some e:=fun j m e hm hn h=>h2 e hn (.inr (.inr ⟨j,m,hm,.inr h⟩));refine⟨?_,?_,?_⟩
 ·intro a c x y hx hy yi;rw[get_set]at hx hy;by_cases ea:a=i<;>by_cases ec:c=i
  ·rw[ea,ec]
  ·rw[d8 ea]at hx;rw[d7 ec]at hy;cases hx;exact m7 yi.symm (hb c y hy)
  ·rw[d7 ea]at hx;rw[d8 ec]at hy;cases hy;exact m7 yi (hb a x hx)
  ·rw[d7 ea]at hx;rw[d7 ec]at hy;exact ho.blk a c x y hx hy yi
 ·intro a c x y e hx hy h3 h4;rw[get_set]at hx hy;by_cases ea:a=i<;>by_cases ec:c=i
  ·rw[ea,ec]
  ·rw[d8 ea]at hx;rw[d7 ec]at hy;cases hx;exact m7 h4 (he c y e hy h3)
  ·rw[d7 ea]at hx;rw[d8 ec]at hy;cases hy;exact m7 h3 (he a x e hx h4)
  ·rw[d7 ea]at hx;rw[d7 ec]at hy;exact ho.eb a c x y e hx hy h3 h4
 ·intro a x hx;rw[get_set]at hx;by_cases ea:a=i
  ·rw[d8 ea]at hx;cases hx;intro h;exact h2 _ h (.inr (.inl rfl))
  ·rw[d7 ea]at hx;exact ho.mb a x hx
theorem cn0{i:Int}{n:Nd}(b:Nat)(h:(T.set i n).own bt b):T.own bt b\/b=n.blk\/n.eb=some b:=by
 rcases h with e|e|⟨j,m,hm,hb⟩
 ·exact .inl (.inl e)
 ·exact .inl (.inr (.inl e))
 ·rw[get_set]at hm;by_cases e:j=i
  ·rw[d8 e]at hm;cases hm;exact .inr hb
  ·rw[d7 e]at hm;exact .inl (.inr (.inr ⟨j,m,hm,hb⟩))
def Tb.del(T:Tb)(i:Int):Tb:={T with nodes:=rm i T.nodes}
theorem cn1(hk:(C5 T.nodes).Nodup)(i j:Int):(T.del i).get j=if j=i then none else T.get j:=by
 unfold Tb.del Tb.get;simp only[ak1 hk];by_cases h:j=i<;>simp[h]
theorem ac0(hk:(C5 T.nodes).Nodup){i j:Int}{m:Nd}(h:(T.del i).get j=some m):T.get j=some m:=by
 rw[cn1 hk]at h;by_cases e:j=i
 ·rw[d8 e]at h;cases h
 ·rw[d7 e]at h;exact h
theorem TAt.putD(h:TAt Y bt T)(ho:Own T)(hk:(C5 T.nodes).Nodup){i:Int}(hp:P1 Y T.mb o Y')(hm:Q7 Y' T.mb (W0 kkI Nd.ptr (rm i T.nodes))):TAt Y' bt (T.del i):=by
 refine⟨hp.get h.bt_mb h.cells,hm,fun j m hj=>?_⟩;have:=ac0 hk hj;exact(h.get this).put hp (h.blk_mb this) (ho.mb j m this)
theorem Own.del(ho:Own T)(hk:(C5 T.nodes).Nodup)(i:Int):Own (T.del i) :=
 ⟨fun a c x y hx hy=>ho.blk a c x y (ac0 hk hx) (ac0 hk hy),fun a c x y e hx hy=>ho.eb a c x y e (ac0 hk hx) (ac0 hk hy),fun a x hx=>ho.mb a x (ac0 hk hx)⟩
theorem cn2(hk:(C5 T.nodes).Nodup){i:Int}{b:Nat}(h:(T.del i).own bt b):T.own bt b:=by
 rcases h with e|e|⟨j,m,hm,hb⟩
 ·exact .inl e
 ·exact .inr (.inl e)
 ·exact .inr (.inr ⟨j,m,ac0 hk hm,hb⟩)
theorem cn3(T:Tb)(i:Int):(T.del i).abs={T.abs with nodes:=rm i T.abs.nodes}:=by
 unfold Tb.del Tb.abs;simp only[cv7]
theorem cd2(T:Tb):C5 T.abs.nodes=C5 T.nodes:=bW2 _ _
end
structure Lng(Y Y':H):Prop where
 gr:Gr Y Y'
def W8(Y:H)(bt:Nat)(A:AT)(B:Nat->Prop):Prop:=∃T,TAt Y bt T/\Own T/\T.abs=A/\∀b,T.own bt b↔B b
theorem W8.gr{Y Y':H}{bt:Nat}{A:AT}{B:Nat->Prop}(h:W8 Y bt A B)(hg:Gr Y Y'):W8 Y' bt A B:=by
 obtain⟨T,h1,h2⟩:=h;exact⟨T,h1.gr hg,h2⟩
theorem W8.put{Y Y':H}{bt b:Nat}{A:AT}{B:Nat->Prop}{o:Obj}(h:W8 Y bt A B)(hp:P1 Y b o Y')(hn:¬B b):W8 Y' bt A B:=by
 obtain⟨T,h1,h2,h3,h4⟩:=h;exact⟨T,h1.put hp (by rw[h4];exact hn),h2,h3,h4⟩
theorem W8.some{Y:H}{bt b:Nat}{A:AT}{B:Nat->Prop}(h:W8 Y bt A B)(hb:B b):∃o,Y b=some o:=by
 obtain⟨T,h1,h2,h3,h4⟩:=h;exact h1.own_some ((h4 b).2 hb)
theorem W8.fresh{Y:H}{bt b:Nat}{A:AT}{B:Nat->Prop}(h:W8 Y bt A B)(hb:Y b=none):¬B b:=by
 intro hB;obtain⟨o,ho⟩:=h.some hB;rw[hb]at ho;cases ho
theorem aT2(hC:cd1){Y:H}{b1:Nat}{gu:d9}{t1:TypeId}(h1:Y b1=some (.c [.s gu] t1)){K:KH}
 (hK:K (.i (S3 gu)) Y):i7 162 [.q b1] K Y:=by
 refine dv0 _ ?_;unfold cS1
 (repeat (first|refine zz ?_|(refine A5 ?_;intro _ _ _ _ _)|(refine z6 ?_;intro _ _)|(refine l6 rfl ?_;try dsimp only)))
 unfold S3 at hK;simp only[I5]at hK;by_cases hl:gu.size>56
 ·rw[d8 hl]at hK;exact l9 (by simp;omega) hK
 rw[d7 hl]at hK;refine l7 (by simp;omega) ?_
 (repeat (first|refine zz ?_|(refine A5 ?_;intro _ _ _ _ _)|(refine z6 ?_;intro _ _)|(refine l6 rfl ?_;try dsimp only)))
 cases ha:C3 gu gq with
 |true=>rw[ha]at hK;exact l7 rfl (l5 (ab8 _ _ (C4 hK)))
 |false =>
  rw[ha]at hK;refine l9 rfl ?_
  (repeat (first|refine zz ?_|(refine A5 ?_;intro _ _ _ _ _)|(refine z6 ?_;intro _ _)|(refine l6 rfl ?_;try dsimp only)))
  cases hb:C3 gu (bs [46]) with
  |true=>rw[hb]at hK;exact l7 rfl (l5 (ab8 _ _ (C4 hK)))
  |false =>
   rw[hb]at hK;refine l9 rfl ?_
   (repeat (first|refine zz ?_|(refine A5 ?_;intro _ _ _ _ _)|(refine z6 ?_;intro _ _)|(refine l6 rfl ?_;try dsimp only)))
   cases hc:C3 gu (bs [46,46]) with
   |true=>rw[hc]at hK;exact l7 rfl (l5 (ab8 _ _ (C4 hK)))
   |false =>
    rw[hc]at hK;refine l9 rfl ?_
    (repeat (first|refine zz ?_|(refine A5 ?_;intro _ _ _ _ _)|(refine z6 ?_;intro _ _)|(refine l6 rfl ?_;try dsimp only)))
    refine l5 (hC _ (by omega) _ _ (H2 ?_));exact l5 (ab8 _ _ (C4 (by simpa using hK)))
theorem cn4{Y:H}{bt:Nat}{T:Tb}(hT:TAt Y bt T){b1 b2:Nat}{data:d9}{t1 t2:TypeId}(h1:Y b1=some (.c [.q bt] t1))(h2:Y b2=some (.c [.s data] t2)){K:KH}
 (hK:K (.i (T.roomE 1 data.size)) Y):i7 122 [.q b1,.q b2] K Y:=by
 refine aa7 _ hK (dr9 _ _ ?_);unfold cL7
 (repeat (first|refine zz ?_|(refine A5 ?_;intro _ _ _ _ _)|(refine z6 ?_;intro _ _)|(refine l6 rfl ?_;try dsimp only)))
 refine l5 (cc9 _ _ _ ?_);intro c1 c2 c3 Y' hg e1 e2 e3;refine ae4 ?_;refine ar9 bo3 ?_;exact bH2 (hT.gr hg) e1 e2 e3 (C4 ⟨rfl,hg⟩)
theorem an0{f:Fn}{as_ cs:Array u9}{g:H->Prop}{Y:H}(h:g Y):J5 (.func f as_ cs) g Y:=by unfold J5;exact h
theorem aG8:Tryz.prog.underlying 143=some (.map 9 3):=by kernel_rfl
theorem bf7:Tryz.prog.underlying 135=some (.map 3 142):=by kernel_rfl
theorem firstE_z{e:Int}{es:List Int}(h:N0 (e::es)=0):e=0/\N0 es=0:=by
 unfold N0 at h;by_cases he:e=0
 ·rw[d8 he]at h;exact⟨he,h⟩
 ·rw[d7 he]at h;exact m7 h he
theorem dirE_z{T:Tb}{d:Int}(h:T.dirE d=0):∃n,T.get d=some n/\n.kind=2:=by
 unfold Tb.dirE at h;cases hn:T.get d with
 |none=>rw[hn]at h;cases h
 |some n =>
  rw[hn]at h;refine⟨n,rfl,?_⟩;cases hk:(n.kind==2) with
  |true=>simpa using hk
  |false=>simp[hk]at h
theorem TAt.gh{Y:H}{bt:Nat}{T:Tb}(hT:TAt Y bt T){d:Int}{n:Nd}(hn:T.get d=some n)(hk:n.kind=2):∃e,n.eb=some e:=by
 have:=(hT.get hn).gh hk;cases he:n.eb with
 |none=>exact m7 he this
 |some e=>exact⟨e,rfl⟩
theorem rdN{Y:H}{bt:Nat}{T:Tb}(hT:TAt Y bt T){i:Int}{n:Nd}(hn:T.get i=some n){F:m9->H->Prop}(h:F (gp n.blk) Y):l8 (rdM (.int .i64) (.p none) false (some T.mb) (.i i)) kP F Y:=by
 refine E9 (x:=some ⟨n.blk,0,none⟩) ?_ h;have:=aI6 (kk:=kkI) hT.nodes (.p none) false i;unfold Tb.get at hn;rw[hn]at this;exact this
theorem cz1(hI:cd0)(hC:cd1){Y:H}{bt:Nat}{A:AT}{B:Nat->Prop}(hA:W8 Y bt A B)(gh:Int)(gu:d9)(kind mode:Int)(data:d9)(hL:A.get (wr (A.last+1))=none){K:KH}
 (hK:∀Y' B',W8 Y' bt (AT.makeR A gh gu kind mode data).2.2 B'->H1 Y B Y' B'->K (.t [.i (AT.makeR A gh gu kind mode data).1,.i (AT.makeR A gh gu kind mode data).2.1]) Y') :
 i7 56 [.q bt,.i gh,.s gu,.i kind,.i mode,.s data] K Y:=by
 obtain⟨T,hT,hO,rfl,hB⟩:=hA;have oz:=hT.cells;refine c56 _ _ _ _ _ _ ?_;unfold g56;refine A5 ?_;intro b7 Y1 g1 e1 n1;refine A5 ?_;intro b8 Y2 g2 e2 n2;refine A5 ?_;intro b9 Y3 g3 e3 n3;refine A5 ?_;intro b10 Y4 g4 e4 n4
 (repeat (first|refine zz ?_|(refine A5 ?_;intro _ _ _ _ _)|(refine z6 ?_;intro _ _)|(refine l6 rfl ?_;try dsimp only)))
 refine l5 (bo5 _ _ ?_);intro c1 c2 Y5 g5 f1 f2;refine ae4 ?_
 (repeat (first|refine zz ?_|(refine A5 ?_;intro _ _ _ _ _)|(refine z6 ?_;intro _ _)|(refine l6 rfl ?_;try dsimp only)))
 refine l5 (bf5 _ ?_);intro c3 Y6 g6 f3;refine ae4 ?_
 (repeat (first|refine zz ?_|(refine A5 ?_;intro _ _ _ _ _)|(refine z6 ?_;intro _ _)|(refine l6 rfl ?_;try dsimp only)))
 refine l5 (bA6 _ _ _ ?_);intro c4 c5 c6 Y7 g7 f4 f5 f6;refine ae4 ?_
 (repeat (first|refine zz ?_|(refine A5 ?_;intro _ _ _ _ _)|(refine z6 ?_;intro _ _)|(refine l6 rfl ?_;try dsimp only)))
 refine an0 (an0 (an0 ?_));refine A5 ?_;intro b17 Y8 g8 e8 n8;have mf:Lng Y Y8:=⟨by repeat (first|exact Gr.refl _|assumption|refine Gr.trans ?_ ‹_›|refine Gr.putF ?_ ‹_› (A9 ?_ ‹_›))⟩;have jd:=hT.gr mf.gr;refine l5 (av6 (es:=[0,T.dirE gh,S3 gu,ac5 kind mode data,if(T.find gh gu).isSome then 6 else 0,T.roomE 1 data.size]) e8 ?_ (by simp) (C4 ?_))
 ·refine⟨aa2 at7 fun K hk=>aA5 _ hk,fun _=>⟨aa2 aG7 fun K hk=>aT0 jd (by exact gA) (by exact gA) hk,fun _=>⟨aa2 aK0 fun K hk=>aT2 hC (by exact gA) hk,fun _=>⟨aa2 cc5 fun K hk=>cm9 hI (by exact gA) (by exact gA) (by exact gA) hk,fun _=>⟨aa2 aT1 fun K hk=>bf3 jd (by exact gA) (by exact gA) (by exact gA) hk,fun _=>⟨aa2 cc6 fun K hk=>cn4 jd (by exact gA) (by exact gA) hk,fun _=>trivial⟩⟩⟩⟩⟩⟩
 have hE:N0 [0,T.dirE gh,S3 gu,ac5 kind mode data,if(T.find gh gu).isSome then 6 else 0,T.roomE 1 data.size]=T.abs.makeE gh gu kind mode data:=by
  unfold AT.makeE;rw[az0,ag4,ba4]
 rw[hE];have jg:=hK;clear hK;unfold AT.makeR at jg;by_cases h0:T.abs.makeE gh gu kind mode data=0
 case neg =>
  rw[d7 h0]at jg;refine l9 (by simpa using h0) ?_;exact jg Y8 B ⟨T,jd,hO,rfl,hB⟩ (H1.gr mf.gr)
 rw[d8 h0]at jg;refine l7 (by simpa using h0) ?_;rw[<-hE]at h0;have hd:=(firstE_z (firstE_z h0).2).1;obtain⟨nd,ij,lv⟩:=dirE_z hd;have hc:=jd.cells;unfold Tb.cells at hc;have hb7:¬T.own bt b7:=by rw[hB];intro h;obtain⟨o,ho⟩:=hT.own_some ((hB _).2 h);exact ae3 ho n1 rfl
 (repeat (first|refine zz ?_|(refine A5 ?_;intro _ _ _ _ _)|(refine z6 ?_;intro _ _)|(refine l6 rfl ?_;try dsimp only)))
 rename_i Y9 p9 b28 Y10 g10 e10 n10
 let T1:Tb:={T with last:=wr (T.last+1)}
 have hT9:TAt Y9 bt T1:=jd.putT p9 rfl rfl;have vv:=hT9.gr g10;have hO1:Own T1:=hO.same rfl rfl;have o1:∀b,T1.own bt b↔B b:=fun b=>(az1 rfl rfl b).trans (hB b);have s10:H1 Y B Y10 B:=by
  intro b o hb hn;refine⟨g10.get (p9.get ?_ (mf.gr.get hb)),hn⟩;intro e;subst e;exact hn ((hB _).1 (.inl rfl))
 have k7:Y10 b7=some (.c [.q bt] 69):=by exact gA
 have k8:Y10 b8=some (.c [.i kind] 3):=by exact gA
 have k10:Y10 b10=some (.c [.s data] 9):=by exact gA
 have nb:∀b,T1.own bt b->∃o,Y b=some o:=by
  intro b hb;exact hT.own_some ((az1 rfl rfl b).1 hb)
 have q7:b7≠b28:=H6 n10 (by repeat (first|exact io ‹_›|exact mS ‹_›|refine gS ‹_› ?_|refine pS ‹_› ?_));have q10:b10≠b28:=H6 n10 (by repeat (first|exact io ‹_›|exact mS ‹_›|refine gS ‹_› ?_|refine pS ‹_› ?_))
 have f28:Y b28=none:=A9 mf.gr (by
  cases hx:Y8 b28 with
  |none=>rfl
  |some o' =>
   exfalso
   have:b28≠bt:=H6 n10 (by repeat (first|exact io ‹_›|exact mS ‹_›|refine gS ‹_› ?_|refine pS ‹_› ?_)) |>.symm
   exact ae3 (p9.get this hx) n10 rfl)
 have ke:¬T1.own bt b28:=by
  intro h;obtain⟨o,ho⟩:=nb _ h;rw[f28]at ho;cases ho
 refine K5 (fun j=>∀Y' eb,aW0 Y' ⟨b28,kind,mode,data,1,if kind==2 then gh else 0,eb,[]⟩->TAt Y' bt T1->(∀e,eb=some e->Y e=none)->Y' b7=some (.c [.q bt] 69)->Y' b10=some (.c [.s data] 9)->H1 Y B Y' B->j gh gu (gp b7) (gp b10) (gp b28) Y') ?_ ?_
 ·intro Y' eb hN hT' heb h7 oj hs;have hcT:=hT'.cells;unfold Tb.cells at hcT;have hm:=hT'.nodes;have e28:=hN.cells;have nm:bt≠T1.mb:=hT'.bt_mb;have n7m:b7≠T1.mb:=ad8 h7 hm;have n10m:b10≠T1.mb:=ad8 oj hm;have n7t:b7≠bt:=by first|assumption|exact Ne.symm ‹_›|exact H6 ‹_› (by repeat (first|exact io ‹_›|exact mS ‹_›|refine gS ‹_› ?_|refine pS ‹_› ?_))|exact Ne.symm (H6 ‹_› (by repeat (first|exact io ‹_›|exact mS ‹_›|refine gS ‹_› ?_|refine pS ‹_› ?_)))
  have n10t:b10≠bt:=by first|assumption|exact Ne.symm ‹_›|exact H6 ‹_› (by repeat (first|exact io ‹_›|exact mS ‹_›|refine gS ‹_› ?_|refine pS ‹_› ?_))|exact Ne.symm (H6 ‹_› (by repeat (first|exact io ‹_›|exact mS ‹_›|refine gS ‹_› ?_|refine pS ‹_› ?_)))
  let nn:Nd:=⟨b28,kind,mode,data,1,if kind==2 then gh else 0,eb,[]⟩
  have pj:∀e,eb=some e->¬T1.own bt e:=by
   intro e he h;obtain⟨o,ho⟩:=nb _ h;rw[heb e he]at ho;cases ho
  (repeat (first|refine zz ?_|(refine A5 ?_;intro _ _ _ _ _)|(refine z6 ?_;intro _ _)|(refine l6 rfl ?_;try dsimp only)))
  refine bd4 (kk:=kkI) (f:=Nd.ptr) bf7 aA7 hm (wr (T.last+1)) nn ?_;intro o11 Y11 p11 m11;have uw:TAt Y11 bt (T1.set (wr (T.last+1)) nn):=hT'.putA hO1 hN p11 m11 (by intro h;exact pj _ h (.inr (.inl rfl)));have Ff:Own (T1.set (wr (T.last+1)) nn):=hO1.add ke pj
  (repeat (first|refine zz ?_|(refine A5 ?_;intro _ _ _ _ _)|(refine z6 ?_;intro _ _)|(refine l6 rfl ?_;try dsimp only)))
  have hL':T1.get (wr (T.last+1))=none:=by
   rw[Q3]at hL;exact Option.map_eq_none_iff.1 hL
  have rc:gh≠wr (T.last+1):=by
   intro e;rw[<-e]at hL';have:T1.get gh=T.get gh:=rfl;rw[this,ij]at hL';cases hL'
  have ja:(T1.set (wr (T.last+1)) nn).get gh=some nd:=by rw[get_set,d7 rc];exact ij
  refine rdN uw ja ?_;obtain⟨ed,uc⟩:=uw.gh ja lv;have cD:=(uw.get ja).cells;unfold Nd.cells at cD;rw[uc]at cD
  (repeat (first|refine zz ?_|(refine A5 ?_;intro _ _ _ _ _)|(refine z6 ?_;intro _ _)|(refine l6 rfl ?_;try dsimp only)))
  have mE:=(uw.get ja).gj ed uc;refine bd4 (kk:=kkS) (f:=aS7) aG8 P8 mE gu (wr (T.last+1)) ?_;intro o12 Y12 p12 m12;have jn:=uw.putE Ff ja uc p12 m12;have ti:Own ((T1.set (wr (T.last+1)) nn).set gh {nd with gj:=HL.up gu (wr (T.last+1)) nd.gj}):=Ff.set ja rfl rfl;have n7e:b7≠ed:=ad8 (p11.get n7m h7) mE;have n10e:b10≠ed:=ad8 (p11.get n10m oj) mE;have nte:bt≠ed:=ad8 uw.cells mE
  (repeat (first|refine zz ?_|(refine A5 ?_;intro _ _ _ _ _)|(refine z6 ?_;intro _ _)|(refine l6 rfl ?_;try dsimp only)))
  rename_i Y13 p13 Y14 p14;have km:=jn.putT (T':={ ((T1.set (wr (T.last+1)) nn).set gh {nd with gj:=HL.up gu (wr (T.last+1)) nd.gj})with ui:=wr (T.ui+1)}) p13 rfl rfl;have ma:=km.putT (T':={ ((T1.set (wr (T.last+1)) nn).set gh {nd with gj:=HL.up gu (wr (T.last+1)) nd.gj})with ui:=wr (T.ui+1),ub:=wr (T.ub+data.size)}) p14 rfl rfl;refine jg Y14 (Tb.own bt { ((T1.set (wr (T.last+1)) nn).set gh {nd with gj:=HL.up gu (wr (T.last+1)) nd.gj})with ui:=wr (T.ui+1),ub:=wr (T.ub+data.size)}) ⟨_,ma,ti.same rfl rfl,?_,fun _=>Iff.rfl⟩ ?_
  ·have hA1:(T1.set (wr (T.last+1)) nn).abs={T.abs with last:=wr (T.abs.last+1),nodes:=HL.up (wr (T.abs.last+1)) ⟨kind,mode,data,1,if kind==2 then gh else 0,[]⟩ T.abs.nodes}:=aj4 ..;have tf:(T1.set (wr (T.last+1)) nn).abs.get gh=some nd.abs:=by rw[Q3,ja];rfl
   unfold AT.made AT.ent;simp only;rw[<-hA1,tf];simp only;have h5:=aj4 (T1.set (wr (T.last+1)) nn) gh {nd with gj:=HL.up gu (wr (T.last+1)) nd.gj};show({ ((T1.set (wr (T.last+1)) nn).set gh {nd with gj:=HL.up gu (wr (T.last+1)) nd.gj}).abs with ui:=wr (T.ui+1),ub:=wr (T.ub+data.size)}:AT)=_;rw[h5];rfl
  ·intro b o hb hn;obtain⟨xx,_⟩:=hs b o hb hn;have q1:b≠bt:=by intro e;subst e;exact hn ((o1 _).1 (.inl rfl))
   have q2:b≠T1.mb:=by intro e;subst e;exact hn ((o1 _).1 (.inr (.inl rfl)))
   have q3:b≠ed:=by intro e;subst e;exact hn ((o1 _).1 (.inr (.inr ⟨gh,nd,ij,.inr uc⟩)))
   refine⟨p14.get q1 (p13.get q1 (p12.get q3 (p11.get q2 xx))),?_⟩;intro Bh;have h1:=(az1 (T:=(T1.set (wr (T.last+1)) nn).set gh {nd with gj:=HL.up gu (wr (T.last+1)) nd.gj}) rfl rfl b).1 Bh;have h2:=(al3 (n':={nd with gj:=HL.up gu (wr (T.last+1)) nd.gj}) ja rfl rfl b).1 h1;rcases cn0 b h2 with h3|h3|h3
   ·exact hn ((o1 _).1 h3)
   ·exact ae3 hb f28 h3
   ·exact ae3 hb (heb b h3) rfl
 ·intro j hj
  (repeat (first|refine zz ?_|(refine A5 ?_;intro _ _ _ _ _)|(refine z6 ?_;intro _ _)|(refine l6 rfl ?_;try dsimp only)))
  cases jc:(kind==2) with
  |false =>
   refine l7 rfl ?_;refine hj Y10 none ⟨by rw[jc];exact e10,fun _ h=>(by cases h),fun _=>rfl,fun h=>?_⟩ vv (fun _ h=>(by cases h)) k7 k10 s10
   exfalso;simp at jc;exact jc h
  |true =>
   refine l9 rfl ?_
   (repeat (first|refine zz ?_|(refine A5 ?_;intro _ _ _ _ _)|(refine z6 ?_;intro _ _)|(refine l6 rfl ?_;try dsimp only)))
   rename_i b89 Y11 g11 e11 n11 Y12 p12 Y13 p13;have n89:∀b o,Y10 b=some o->b≠b89:=fun b o hb=>ae3 hb n11;have hf89:¬T1.own bt b89:=by
    intro h;obtain⟨o,ho⟩:=vv.own_some h;exact n89 _ _ ho rfl
   have f89:Y b89=none:=by
    cases hx:Y b89 with
    |none=>rfl
    |some o=>exfalso;exact hf89 ((o1 _).2 (Classical.byContradiction fun h=>n89 _ _ (s10 _ _ hx h).1 rfl))
   refine hj Y13 (some b89) ⟨by rw[jc];exact p13.same,fun e he=>?_,fun h=>(by cases h),fun _ h=>(by cases h)⟩ (((vv.gr g11).put p12 ke).put p13 ke) (fun e he=>by cases he;exact f89) (by exact gA) (by exact gA) ?_
   ·cases he;refine Q7.new ?_;have:b89≠b28:=(n89 _ _ e10).symm;exact p13.get this (p12.get this e11)
   ·intro b o hb hn;have q:b≠b28:=ae3 hb f28;exact⟨p13.get q (p12.get q (g11.get (s10 b o hb hn).1)),hn⟩
theorem fileE_z{T:Tb}{d:Int}(h:T.fileE d=0):∃n,T.get d=some n/\n.kind=1:=by
 unfold Tb.fileE at h;cases hn:T.get d with
 |none=>rw[hn]at h;cases h
 |some n =>
  rw[hn]at h;refine⟨n,rfl,?_⟩;cases hk:(n.kind==2) with
  |true=>simp[hk]at h
  |false =>
   simp only[hk]at h;cases sy:(n.kind==1) with
   |true=>simpa using sy
   |false=>simp[sy]at h
theorem TAt.ne{Y:H}{bt:Nat}{T:Tb}(_hT:TAt Y bt T){b:Nat}(hb:¬T.own bt b):b≠bt/\b≠T.mb/\(∀i n,T.get i=some n->b≠n.blk/\n.eb≠some b) :=
 ⟨fun e=>hb (.inl e),fun e=>hb (.inr (.inl e)),fun i n hn=>⟨fun e=>hb (.inr (.inr ⟨i,n,hn,.inl e⟩)),fun e=>hb (.inr (.inr ⟨i,n,hn,.inr e⟩))⟩⟩
theorem cz2(hC:cd1){Y:H}{bt:Nat}{A:AT}{B:Nat->Prop}(hA:W8 Y bt A B)(gh:Int)(gu:d9)(gf:Int){K:KH}
 (hK:∀Y' B',W8 Y' bt (AT.linkR A gh gu gf).2 B'->H1 Y B Y' B'->K (.i (AT.linkR A gh gu gf).1) Y') :
 i7 139 [.q bt,.i gh,.s gu,.i gf] K Y:=by
 obtain⟨T,hT,hO,rfl,hB⟩:=hA;have oz:=hT.cells;refine dt6 _ _ _ _ ?_;unfold cP1;refine l5 (bo5 _ _ ?_);intro c1 c2 Y5 g5 f1 f2;refine ae4 ?_;refine l5 (bf5 _ ?_);intro c3 Y6 g6 f3;refine ae4 ?_;refine l5 (cc8 _ _ ?_);intro c7 c8 Y6' g6' f7 f8;refine ae4 ?_;refine l5 (bA6 _ _ _ ?_);intro c4 c5 c6 Y7 g7 f4 f5 f6;refine ae4 ?_;refine an0 (an0 (an0 (an0 ?_)));refine A5 ?_;intro b17 Y8 g8 e8 n8;have mf:Lng Y Y8:=⟨by repeat (first|exact Gr.refl _|assumption|refine Gr.trans ?_ ‹_›|refine Gr.putF ?_ ‹_› (A9 ?_ ‹_›))⟩;have jd:=hT.gr mf.gr;refine l5 (av6 (es:=[0,T.dirE gh,S3 gu,T.fileE gf,if(T.find gh gu).isSome then 6 else 0]) e8 ?_ (by simp) (C4 ?_))
 ·refine⟨aa2 at7 fun K hk=>aA5 _ hk,fun _=>⟨aa2 aG7 fun K hk=>aT0 jd (by exact gA) (by exact gA) hk,fun _=>⟨aa2 aK0 fun K hk=>aT2 hC (by exact gA) hk,fun _=>⟨aa2 bo4 fun K hk=>bH0 jd (by exact gA) (by exact gA) hk,fun _=>⟨aa2 aT1 fun K hk=>bf3 jd (by exact gA) (by exact gA) (by exact gA) hk,fun _=>trivial⟩⟩⟩⟩⟩
 have hE:N0 [0,T.dirE gh,S3 gu,T.fileE gf,if(T.find gh gu).isSome then 6 else 0]=T.abs.linkE gh gu gf:=by
  unfold AT.linkE;rw[az0,ag4,ba3]
 rw[hE];unfold AT.linkR at hK;by_cases h0:T.abs.linkE gh gu gf=0
 case neg =>
  rw[d7 h0]at hK;refine l9 (by simpa using h0) ?_;exact hK Y8 B ⟨T,jd,hO,rfl,hB⟩ (H1.gr mf.gr)
 rw[d8 h0]at hK;refine l7 (by simpa using h0) ?_;rw[<-hE]at h0;have hd:=(firstE_z (firstE_z h0).2).1;obtain⟨nd,ij,lv⟩:=dirE_z hd;have hf:=(firstE_z (firstE_z (firstE_z (firstE_z h0).2).2).2).1;obtain⟨nf,nc,hkf⟩:=fileE_z hf;have ia:gf≠gh:=by intro e;subst e;rw[ij]at nc;cases nc;omega
 have hc:=jd.cells;unfold Tb.cells at hc
 (repeat (first|refine zz ?_|(refine A5 ?_;intro _ _ _ _ _)|(refine z6 ?_;intro _ _)|(refine l6 rfl ?_;try dsimp only)))
 refine rdN jd ij ?_;obtain⟨ed,uc⟩:=jd.gh ij lv;have cD:=(jd.get ij).cells;unfold Nd.cells at cD;rw[uc]at cD
 (repeat (first|refine zz ?_|(refine A5 ?_;intro _ _ _ _ _)|(refine z6 ?_;intro _ _)|(refine l6 rfl ?_;try dsimp only)))
 have mE:=(jd.get ij).gj ed uc;refine bd4 (kk:=kkS) (f:=aS7) aG8 P8 mE gu gf ?_;intro o12 Y12 p12 m12;have jn:=jd.putE hO ij uc p12 m12;have ti:Own (T.set gh {nd with gj:=HL.up gu gf nd.gj}):=hO.set ij rfl rfl;have ux:(T.set gh {nd with gj:=HL.up gu gf nd.gj}).get gf=some nf:=by rw[get_set,d7 ia];exact nc
 have Bi:=jn.cells;unfold Tb.cells at Bi
 (repeat (first|refine zz ?_|(refine A5 ?_;intro _ _ _ _ _)|(refine z6 ?_;intro _ _)|(refine l6 rfl ?_;try dsimp only)))
 refine rdN jn ux ?_;have cF:=(jn.get ux).cells;unfold Nd.cells at cF
 (repeat (first|refine zz ?_|(refine A5 ?_;intro _ _ _ _ _)|(refine z6 ?_;intro _ _)|(refine l6 rfl ?_;try dsimp only)))
 rename_i Y13 p13;have km:=jn.putN ti (n':={nf with links:=wr (nf.links+1)}) ux p13 rfl rfl rfl rfl;have ol:=ti.set (n':={nf with links:=wr (nf.links+1)}) ux rfl rfl;refine hK Y13 B ⟨_,km,ol,?_,fun b=>(al3 (n':={nf with links:=wr (nf.links+1)}) ux rfl rfl b).trans ((al3 (n':={nd with gj:=HL.up gu gf nd.gj}) ij rfl rfl b).trans (hB b))⟩ ?_
 ·rw[aj4];unfold AT.linked AT.ent AT.mod;rw[Q3,ij];simp only[Option.map_some];have h5:T.abs.set gh {nd.abs with gj:=HL.up gu gf nd.abs.gj}=(T.set gh {nd with gj:=HL.up gu gf nd.gj}).abs:=(aj4 T gh {nd with gj:=HL.up gu gf nd.gj}).symm;rw[h5,Q3,ux]
  rfl
 ·intro b o hb hn;have iy:¬T.own bt b:=fun h=>hn ((hB b).1 h);have q1:b≠ed:=by intro e;subst e;exact((hT.ne iy).2.2 gh nd ij).2 uc
  have q2:b≠nf.blk:=((hT.ne iy).2.2 gf nf nc).1;exact⟨p13.get q2 (p12.get q1 (mf.gr.get hb)),hn⟩

theorem bO4{Y:H}{bt:Nat}{T:Tb}(hT:TAt Y bt T){b1 b2 b3:Nat}{data:d9}{gf:Int}{t1 t2 t3:TypeId}(h1:Y b1=some (.c [.q bt] t1))(h2:Y b2=some (.c [.s data] t2))(h3:Y b3=some (.c [.i gf] t3)){n:Nd}(hn:T.get gf=some n){K:KH}
 (hK:K (.i (T.roomE 0 (wr ((data.size:Int)-n.data.size)))) Y):i7 129 [.q b1,.q b2,.q b3] K Y:=by
 refine aa7 _ hK (ds8 _ _ _ ?_);unfold cN1;have hc:=hT.cells;unfold Tb.cells at hc
 (repeat (first|refine zz ?_|(refine A5 ?_;intro _ _ _ _ _)|(refine z6 ?_;intro _ _)|(refine l6 rfl ?_;try dsimp only)))
 refine rdN hT hn ?_;have hN:=(hT.get hn).cells;unfold Nd.cells at hN
 (repeat (first|refine zz ?_|(refine A5 ?_;intro _ _ _ _ _)|(refine z6 ?_;intro _ _)|(refine l6 rfl ?_;try dsimp only)))
 refine l5 (cc9 _ _ _ ?_);intro c1 c2 c3 Y' hg e1 e2 e3;refine ae4 ?_;refine ar9 bo3 ?_;exact bH2 (hT.gr hg) e1 e2 e3 (C4 ⟨rfl,hg⟩)
theorem cd3{Y:H}{bt:Nat}{A:AT}{B:Nat->Prop}(hA:W8 Y bt A B)(gf:Int)(data:d9){K:KH}
 (hK:∀Y' B',W8 Y' bt (AT.writeR A gf data).2 B'->H1 Y B Y' B'->K (.i (AT.writeR A gf data).1) Y') :
 i7 62 [.q bt,.i gf,.s data] K Y:=by
 obtain⟨T,hT,hO,rfl,hB⟩:=hA;have oz:=hT.cells;refine c62 _ _ _ ?_;unfold g62;refine A5 ?_;intro b4 Y1 g1 e1 n1;refine A5 ?_;intro b5 Y2 g2 e2 n2;refine A5 ?_;intro b6 Y3 g3 e3 n3
 (repeat (first|refine zz ?_|(refine A5 ?_;intro _ _ _ _ _)|(refine z6 ?_;intro _ _)|(refine l6 rfl ?_;try dsimp only)))
 refine l5 (cc8 _ _ ?_);intro c7 c8 Y6' g6' f7 f8;refine ae4 ?_
 (repeat (first|refine zz ?_|(refine A5 ?_;intro _ _ _ _ _)|(refine z6 ?_;intro _ _)|(refine l6 rfl ?_;try dsimp only)))
 refine an0 ?_;refine A5 ?_;intro b17 Y8 g8 e8 n8;have mf:Lng Y Y8:=⟨by repeat (first|exact Gr.refl _|assumption|refine Gr.trans ?_ ‹_›|refine Gr.putF ?_ ‹_› (A9 ?_ ‹_›))⟩;have jd:=hT.gr mf.gr;refine l5 (av6 (es:=[0,T.fileE gf,T.roomE 0 (wr ((data.size:Int)-((T.abs.get gf).map (·.data.size)).getD 0))]) e8 ?_ (by simp) (C4 ?_))
 ·refine⟨aa2 at7 fun K hk=>aA5 _ hk,fun _=>⟨aa2 bo4 fun K hk=>bH0 jd (by exact gA) (by exact gA) hk,fun hz=>⟨aa2 bA3 fun K hk=>?_,fun _=>trivial⟩⟩⟩;obtain⟨nf,nc,hkf⟩:=fileE_z hz;refine bO4 jd (b1:=b4) (b2:=b6) (b3:=b5) (by exact gA) (by exact gA) (by exact gA) nc ?_;rw[Q3,nc]at hk;exact hk
 have hE:N0 [0,T.fileE gf,T.roomE 0 (wr ((data.size:Int)-((T.abs.get gf).map (·.data.size)).getD 0))]=T.abs.writeE gf data:=by
  unfold AT.writeE;rw[ba3,ba4]
 rw[hE];unfold AT.writeR at hK;by_cases h0:T.abs.writeE gf data=0
 case neg =>
  rw[d7 h0]at hK;refine l9 (by simpa using h0) ?_;exact hK Y8 B ⟨T,jd,hO,rfl,hB⟩ (H1.gr mf.gr)
 rw[d8 h0]at hK;refine l7 (by simpa using h0) ?_;rw[<-hE]at h0;obtain⟨nf,nc,hkf⟩:=fileE_z (firstE_z (firstE_z h0).2).1;have hc:=jd.cells;unfold Tb.cells at hc
 (repeat (first|refine zz ?_|(refine A5 ?_;intro _ _ _ _ _)|(refine z6 ?_;intro _ _)|(refine l6 rfl ?_;try dsimp only)))
 refine rdN jd nc ?_;have cF:=(jd.get nc).cells;unfold Nd.cells at cF;have q0:nf.blk≠bt:=jd.blk_bt nc;have q6:b6≠nf.blk:=by
  intro e;have h6:Y8 b6=some (.c [.s data] 9):=by exact gA
  rw[e,cF]at h6;simp at h6
 (repeat (first|refine zz ?_|(refine A5 ?_;intro _ _ _ _ _)|(refine z6 ?_;intro _ _)|(refine l6 rfl ?_;try dsimp only)))
 rename_i Y13 p13 Y14 p14;have km:=jd.putT (T':={T with ub:=wr (T.ub+wr ((data.size:Int)-nf.data.size))}) p13 rfl rfl;have ol:Own {T with ub:=wr (T.ub+wr ((data.size:Int)-nf.data.size))}:=hO.same rfl rfl;have ma:=km.putN ol (n':={nf with data:=data}) (i:=gf) nc p14 rfl rfl rfl rfl;have qh:=ol.set (n':={nf with data:=data}) (i:=gf) nc rfl rfl;refine hK Y14 B ⟨_,ma,qh,?_,fun b=>(al3 (T:={T with ub:=wr (T.ub+wr ((data.size:Int)-nf.data.size))}) (i:=gf) (n':={nf with data:=data}) nc rfl rfl b).trans ((az1 rfl rfl b).trans (hB b))⟩ ?_
 ·rw[aj4];unfold AT.written;rw[Q3,nc]
  rfl
 ·intro b o hb hn;have iy:¬T.own bt b:=fun h=>hn ((hB b).1 h);exact⟨p14.get ((hT.ne iy).2.2 gf nf nc).1 (p13.get (hT.ne iy).1 (mf.gr.get hb)),hn⟩
theorem bO5{Y:H}{b1:Nat}{mode:Int}{t1:TypeId}(h1:Y b1=some (.c [.i mode] t1)){K:KH}
 (hK:K (.i (if 0<=mode/\mode<=511 then 0 else 2)) Y):i7 131 [.q b1] K Y:=by
 refine dt0 _ ?_;unfold cN5
 (repeat (first|refine zz ?_|(refine A5 ?_;intro _ _ _ _ _)|(refine z6 ?_;intro _ _)|(refine l6 rfl ?_;try dsimp only)))
 by_cases ha:0<=mode
 ·refine l9 (by simpa using ha) ?_
  (repeat (first|refine zz ?_|(refine A5 ?_;intro _ _ _ _ _)|(refine z6 ?_;intro _ _)|(refine l6 rfl ?_;try dsimp only)))
  exact l5 (ab8 _ _ (C4 (by simpa[ha]using hK)))
 ·refine l7 (by simpa using ha) ?_;exact l5 (ab8 _ _ (C4 (by simpa[ha]using hK)))
theorem bO6{Y:H}{bt:Nat}{T:Tb}(hT:TAt Y bt T){b1 b2:Nat}{gf:Int}{t1 t2:TypeId}(h1:Y b1=some (.c [.q bt] t1))(h2:Y b2=some (.c [.i gf] t2)){K:KH}
 (hK:K (.i (if(T.get gf).isSome then 0 else 5)) Y):i7 132 [.q b1,.q b2] K Y:=by
 refine dt1 _ _ ?_;unfold cN7
 (repeat (first|refine zz ?_|(refine A5 ?_;intro _ _ _ _ _)|(refine z6 ?_;intro _ _)|(refine l6 rfl ?_;try dsimp only)))
 refine l5 (aS8 hT gf (am7 ?_));refine l5 (ab8 _ _ (C4 ?_));cases h:T.get gf<;>simpa[h]using hK
theorem cd4{Y:H}{bt:Nat}{A:AT}{B:Nat->Prop}(hA:W8 Y bt A B)(gf mode:Int){K:KH}
 (hK:∀Y' B',W8 Y' bt (AT.chmodR A gf mode).2 B'->H1 Y B Y' B'->K (.i (AT.chmodR A gf mode).1) Y') :
 i7 66 [.q bt,.i gf,.i mode] K Y:=by
 obtain⟨T,hT,hO,rfl,hB⟩:=hA;have oz:=hT.cells;refine c66 _ _ _ ?_;unfold g66;refine A5 ?_;intro b4 Y1 g1 e1 n1;refine A5 ?_;intro b5 Y2 g2 e2 n2;refine A5 ?_;intro b6 Y3 g3 e3 n3;refine E9 (f0 (by exact gA)) ?_;refine A5 ?_;intro b17 Y8 g8 e8 n8;have mf:Lng Y Y8:=⟨by repeat (first|exact Gr.refl _|assumption|refine Gr.trans ?_ ‹_›|refine Gr.putF ?_ ‹_› (A9 ?_ ‹_›))⟩;have jd:=hT.gr mf.gr;refine l5 (av6 (es:=[0,if 0<=mode/\mode<=511 then 0 else 2,if(T.get gf).isSome then 0 else 5]) e8 ?_ (by simp) (C4 ?_))
 ·exact⟨aa2 at7 fun K hk=>aA5 _ hk,fun _=>⟨aa2 bA4 fun K hk=>bO5 (by exact gA) hk,fun hz=>⟨aa2 bA5 fun K hk=>bO6 jd (by exact gA) (by exact gA) hk,fun _=>trivial⟩⟩⟩
 have hE:N0 [0,if 0<=mode/\mode<=511 then 0 else 2,if(T.get gf).isSome then 0 else 5]=T.abs.chmodE gf mode:=by
  unfold AT.chmodE;rw[Q3];cases T.get gf<;>rfl
 rw[hE];unfold AT.chmodR at hK;by_cases h0:T.abs.chmodE gf mode=0
 case neg =>
  rw[d7 h0]at hK;refine l9 (by simpa using h0) ?_;exact hK Y8 B ⟨T,jd,hO,rfl,hB⟩ (H1.gr mf.gr)
 rw[d8 h0]at hK;refine l7 (by simpa using h0) ?_;rw[<-hE]at h0;have hz:=(firstE_z (firstE_z (firstE_z h0).2).2).1;cases nc:T.get gf with
 |none=>rw[nc]at hz;cases hz
 |some nf =>
 have hc:=jd.cells;unfold Tb.cells at hc
 (repeat (first|refine zz ?_|(refine A5 ?_;intro _ _ _ _ _)|(refine z6 ?_;intro _ _)|(refine l6 rfl ?_;try dsimp only)))
 refine rdN jd nc ?_;have cF:=(jd.get nc).cells;unfold Nd.cells at cF
 (repeat (first|refine zz ?_|(refine A5 ?_;intro _ _ _ _ _)|(refine z6 ?_;intro _ _)|(refine l6 rfl ?_;try dsimp only)))
 rename_i Y14 p14;have ma:=jd.putN hO (n':={nf with mode:=mode}) (i:=gf) nc p14 rfl rfl rfl rfl;have qh:=hO.set (n':={nf with mode:=mode}) (i:=gf) nc rfl rfl;refine hK Y14 B ⟨_,ma,qh,?_,fun b=>(al3 (i:=gf) (n':={nf with mode:=mode}) nc rfl rfl b).trans (hB b)⟩ ?_
 ·rw[aj4];unfold AT.chmoded AT.mod;rw[Q3,nc]
  rfl
 ·intro b o hb hn;have iy:¬T.own bt b:=fun h=>hn ((hB b).1 h);exact⟨p14.get ((hT.ne iy).2.2 gf nf nc).1 (mf.gr.get hb),hn⟩
theorem bO7{Y:H}{bt:Nat}{T:Tb}(hT:TAt Y bt T){b1 b2 b3:Nat}{gh:Int}{gu:d9}{t1 t2 t3:TypeId}(h1:Y b1=some (.c [.q bt] t1))(h2:Y b2=some (.c [.i gh] t2))(h3:Y b3=some (.c [.s gu] t3)){n:Nd}(hn:T.get ((T.find gh gu).getD 0)=some n){K:KH}
 (hK:K (.i (if n.gj.length=0 then 0 else 20)) Y):i7 174 [.q b1,.q b2,.q b3] K Y:=by
 refine dw1 _ _ _ ?_;unfold cU3;have hc:=hT.cells;unfold Tb.cells at hc
 (repeat (first|refine zz ?_|(refine A5 ?_;intro _ _ _ _ _)|(refine z6 ?_;intro _ _)|(refine l6 rfl ?_;try dsimp only)))
 refine l5 (aJ9 hT gh gu (am4 ?_))
 (repeat (first|refine zz ?_|(refine A5 ?_;intro _ _ _ _ _)|(refine z6 ?_;intro _ _)|(refine l6 rfl ?_;try dsimp only)))
 refine rdN hT hn ?_;have hN:=(hT.get hn);have cN:=hN.cells;unfold Nd.cells at cN
 (repeat (first|refine zz ?_|(refine A5 ?_;intro _ _ _ _ _)|(refine z6 ?_;intro _ _)|(refine l6 rfl ?_;try dsimp only)))
 cases he:n.eb with
 |none =>
  have h0:=hN.none he;refine D1 (n:=0) rfl ?_;refine l5 (ab8 _ _ (C4 ?_));simpa[h0]using hK
 |some e =>
  refine D1 (bW0 (hN.gj e he)) ?_;refine l5 (ab8 _ _ (C4 ?_));have:(W0 kkS aS7 n.gj).length=n.gj.length:=by simp[W0]
  rw[this];by_cases h0:n.gj.length=0
  ·rw[d8 h0]at hK;simpa[h0]using hK
  ·rw[d7 h0]at hK;have:(((n.gj.length:Nat):Int)==0)=false:=by
    simp;intro e;exact h0 (by rw[e];rfl)
   rw[this];exact hK
theorem bo6{Y:H}{bt:Nat}{A:AT}{B:Nat->Prop}(hA:W8 Y bt A B)(gh:Int)(gu:d9)(hd:∀j,A.find gh gu=some j->(A.get j).isSome=true)(hk:(C5 A.nodes).Nodup){K:KH}
 (hK:∀Y' B',W8 Y' bt (AT.unlinkR A gh gu).2 B'->H1 Y B Y' B'->K (.i (AT.unlinkR A gh gu).1) Y') :
 i7 136 [.q bt,.i gh,.s gu] K Y:=by
 obtain⟨T,hT,hO,rfl,hB⟩:=hA;have oz:=hT.cells;refine dt4 _ _ _ ?_;unfold cO5;refine A5 ?_;intro b4 Y1 g1 e1 n1;refine A5 ?_;intro b5 Y2 g2 e2 n2;refine A5 ?_;intro b6 Y3 g3 e3 n3
 (repeat (first|refine zz ?_|(refine A5 ?_;intro _ _ _ _ _)|(refine z6 ?_;intro _ _)|(refine l6 rfl ?_;try dsimp only)))
 refine l5 (bo5 _ _ ?_);intro c1 c2 Y5 g5 f1 f2;refine ae4 ?_
 (repeat (first|refine zz ?_|(refine A5 ?_;intro _ _ _ _ _)|(refine z6 ?_;intro _ _)|(refine l6 rfl ?_;try dsimp only)))
 refine l5 (bH1 _ _ _ ?_);intro c4 c5 c6 Y7 g7 f4 f5 f6;refine ae4 ?_
 (repeat (first|refine zz ?_|(refine A5 ?_;intro _ _ _ _ _)|(refine z6 ?_;intro _ _)|(refine l6 rfl ?_;try dsimp only)))
 refine an0 (an0 ?_);refine A5 ?_;intro b17 Y8 g8 e8 n8;have mf:Lng Y Y8:=⟨by repeat (first|exact Gr.refl _|assumption|refine Gr.trans ?_ ‹_›|refine Gr.putF ?_ ‹_› (A9 ?_ ‹_›))⟩;have jd:=hT.gr mf.gr;have ix:∀j,T.find gh gu=some j->∃n,T.get j=some n:=by
  intro j hj;have:=hd j (by rw[ag4];exact hj);rw[Q3]at this;cases h:T.get j with
  |none=>rw[h]at this;cases this
  |some n=>exact⟨n,rfl⟩
 refine l5 (av6 (es:=[0,T.dirE gh,if(T.find gh gu).isSome then 0 else 5,if((T.abs.get ((T.find gh gu).getD 0)).map (·.gj.length)).getD 0=0 then 0 else 20]) e8 ?_ (by simp) (C4 ?_))
 ·refine⟨aa2 at7 fun K hk=>aA5 _ hk,fun _=>⟨aa2 aG7 fun K hk=>aT0 jd (by exact gA) (by exact gA) hk,fun _=>⟨aa2 ba2 fun K hk=>bo2 jd (by exact gA) (by exact gA) (by exact gA) hk,fun hz=>⟨aa2 bA2 fun K hk=>?_,fun _=>trivial⟩⟩⟩⟩;cases hj:T.find gh gu with
  |none=>rw[hj]at hz;cases hz
  |some j =>
   obtain⟨n,hn⟩:=ix j hj;refine bO7 jd (b1:=b4) (b2:=b5) (b3:=b6) (by exact gA) (by exact gA) (by exact gA) (n:=n) (by rw[hj];exact hn) ?_;rw[Q3,hj]at hk;simp only[Option.getD_some,hn]at hk;exact hk
 have hE:N0 [0,T.dirE gh,if(T.find gh gu).isSome then 0 else 5,if((T.abs.get ((T.find gh gu).getD 0)).map (·.gj.length)).getD 0=0 then 0 else 20]=T.abs.unlinkE gh gu:=by
  unfold AT.unlinkE;rw[az0,ag4]
 rw[hE];unfold AT.unlinkR at hK;by_cases h0:T.abs.unlinkE gh gu=0
 case neg =>
  rw[d7 h0]at hK;refine l9 (by simpa using h0) ?_;exact hK Y8 B ⟨T,jd,hO,rfl,hB⟩ (H1.gr mf.gr)
 rw[d8 h0]at hK;refine l7 (by simpa using h0) ?_;rw[<-hE]at h0;obtain⟨nd,ij,lv⟩:=dirE_z (firstE_z (firstE_z h0).2).1;have hz:=(firstE_z (firstE_z (firstE_z h0).2).2).1;cases hj:T.find gh gu with
 |none=>rw[hj]at hz;cases hz
 |some j =>
 obtain⟨n0,Dd⟩:=ix j hj;have hc:=jd.cells;unfold Tb.cells at hc
 (repeat (first|refine zz ?_|(refine A5 ?_;intro _ _ _ _ _)|(refine z6 ?_;intro _ _)|(refine l6 rfl ?_;try dsimp only)))
 refine l5 (aJ9 jd gh gu (am4 ?_));rw[hj];simp only[Option.getD_some]
 (repeat (first|refine zz ?_|(refine A5 ?_;intro _ _ _ _ _)|(refine z6 ?_;intro _ _)|(refine l6 rfl ?_;try dsimp only)))
 refine rdN jd ij ?_;obtain⟨ed,uc⟩:=jd.gh ij lv;have cD:=(jd.get ij).cells;unfold Nd.cells at cD;rw[uc]at cD
 (repeat (first|refine zz ?_|(refine A5 ?_;intro _ _ _ _ _)|(refine z6 ?_;intro _ _)|(refine l6 rfl ?_;try dsimp only)))
 have mE:=(jd.get ij).gj ed uc;have k4:Y8 b4=some (.c [.q bt] 69):=by exact gA
 refine bW1 (kk:=kkS) (f:=aS7) aG8 P8 mE gu ?_;intro o12 Y12 p12 m12;have jn:=jd.putE hO ij uc p12 m12;have ti:Own (T.set gh {nd with gj:=HL.rm gu nd.gj}):=hO.set ij rfl rfl;have n4e:b4≠ed:=ad8 k4 mE;have nte:bt≠ed:=ad8 jd.cells mE;have k4':=p12.get n4e k4;have Bi:=jn.cells;unfold Tb.cells at Bi
 (repeat (first|refine zz ?_|(refine A5 ?_;intro _ _ _ _ _)|(refine z6 ?_;intro _ _)|(refine l6 rfl ?_;try dsimp only)))
 -- what it named,as it is now
 obtain⟨n1,Bj,a1,a2,a3,a4⟩:∃n1,(T.set gh {nd with gj:=HL.rm gu nd.gj}).get j=some n1/\n1.blk=n0.blk/\n1.eb=n0.eb/\n1.data=n0.data/\n1.links=n0.links:=by
  rw[get_set];by_cases e:j=gh
  ·subst e;rw[ij]at Dd;cases Dd;rw[d8 rfl];exact⟨_,rfl,rfl,rfl,rfl,rfl⟩
  ·rw[d7 e];exact⟨n0,Dd,rfl,rfl,rfl,rfl⟩
 refine rdN jn Bj ?_;refine j_d ?_;have cF:=(jn.get Bj).cells;unfold Nd.cells at cF;refine j0 ?_;refine D1 (f0 cF) (j0 ?_);refine C1 cF aj3 ?_;intro Y13 p13
 let T12:=T.set gh {nd with gj:=HL.rm gu nd.gj}
 let n2:Nd:={n1 with links:=wr (n1.links-1)}
 have km:TAt Y13 bt (T12.set j n2):=jn.putN ti Bj p13 rfl rfl rfl rfl;have ol:Own (T12.set j n2):=ti.set Bj rfl rfl;have o13:∀b,(T12.set j n2).own bt b↔B b:=fun b=>(al3 (n':=n2) Bj rfl rfl b).trans ((al3 (n':={nd with gj:=HL.rm gu nd.gj}) ij rfl rfl b).trans (hB b));have yu:(T12.set j n2).abs=(T.abs.ent gh (HL.rm gu)).mod j fun n=>{n with links:=wr (n.links-1)}:=by
  rw[aj4];unfold AT.ent AT.mod;rw[Q3,ij];simp only[Option.map_some];have h5:T.abs.set gh {nd.abs with gj:=HL.rm gu nd.abs.gj}=T12.abs:=(aj4 T gh {nd with gj:=HL.rm gu nd.gj}).symm;rw[h5,Q3,Bj]
  rfl
 have s13:H1 Y B Y13 B:=by
  intro b o hb hn;have iy:¬T.own bt b:=fun h=>hn ((hB b).1 h);have q1:b≠ed:=by intro e;subst e;exact((hT.ne iy).2.2 gh nd ij).2 uc
  have q2:b≠n1.blk:=by rw[a1];exact((hT.ne iy).2.2 j n0 Dd).1
  exact⟨p13.get q2 (p12.get q1 (mf.gr.get hb)),hn⟩
 have ip:(T.abs.find gh gu).getD 0=j:=by rw[ag4,hj];rfl
 have ir:(T12.set j n2).abs.get j=some n2.abs:=by rw[Q3,get_set_self];rfl
 have n4b:b4≠n1.blk:=by
  intro e;rw[e,cF]at k4';simp at k4'
 have ntb:bt≠n1.blk:=(jn.blk_bt Bj).symm;refine j0 ?_;refine D1 (f0 p13.same) ?_;by_cases hl:wr (n1.links-1)=0
 case neg =>
  refine l7 (by simpa[wr]using hl) ?_;refine hK Y13 B ⟨_,km,ol,?_,o13⟩ s13;unfold AT.unlinked;simp only[ip];rw[<-yu,ir];have:(n2.abs.links==0)=false:=by show((wr (n1.links-1))==0)=false;simpa using hl
  simp only[this];rfl
 refine l9 (by simpa[wr]using hl) ?_;have k4'':=p13.get n4b k4';have Bk:=km.cells;unfold Tb.cells at Bk
 (repeat (first|refine zz ?_|(refine A5 ?_;intro _ _ _ _ _)|(refine z6 ?_;intro _ _)|(refine l6 rfl ?_;try dsimp only)))
 have m13:=km.nodes;refine bW1 (kk:=kkI) (f:=Nd.ptr) bf7 aA7 m13 j ?_;intro o14 Y14 p14 m14;have Bm:(C5 (T12.set j n2).nodes).Nodup:=M5 (M5 (by rw[cd2]at hk;exact hk));have ma:=km.putD ol Bm p14 m14;have qh:=ol.del Bm j;have n4m:b4≠(T12.set j n2).mb:=ad8 k4'' m13;have ntm:bt≠(T12.set j n2).mb:=km.bt_mb;have nbm:n1.blk≠(T12.set j n2).mb:=ad8 p13.same m13;have k4':=p14.get n4m k4'';have Bn:=ma.cells;unfold Tb.cells at Bn;have cF':=p14.get nbm p13.same;have n4t:b4≠bt:=by first|assumption|exact Ne.symm ‹_›|exact H6 ‹_› (by repeat (first|exact io ‹_›|exact mS ‹_›|refine gS ‹_› ?_|refine pS ‹_› ?_))|exact Ne.symm (H6 ‹_› (by repeat (first|exact io ‹_›|exact mS ‹_›|refine gS ‹_› ?_|refine pS ‹_› ?_)))
 (repeat (first|refine zz ?_|(refine A5 ?_;intro _ _ _ _ _)|(refine z6 ?_;intro _ _)|(refine l6 rfl ?_;try dsimp only)))
 rename_i Y15 p15 Y16 p16;have Bo:=ma.putT (T':={ (T12.set j n2).del j with ui:=wr (T.ui-1)}) p15 rfl rfl;have hT16:=Bo.putT (T':={ (T12.set j n2).del j with ui:=wr (T.ui-1),ub:=wr (T.ub-n1.data.size)}) p16 rfl rfl;refine hK Y16 (Tb.own bt { (T12.set j n2).del j with ui:=wr (T.ui-1),ub:=wr (T.ub-n1.data.size)}) ⟨_,hT16,qh.same rfl rfl,?_,fun _=>Iff.rfl⟩ ?_
 ·unfold AT.unlinked;simp only[ip];rw[<-yu,ir];have:(n2.abs.links==0)=true:=by show((wr (n1.links-1))==0)=true;simpa using hl
  simp only[this];have h5:=cn3 (T12.set j n2) j;show({ ((T12.set j n2).del j).abs with ui:=wr (T.ui-1),ub:=wr (T.ub-n1.data.size)}:AT)=_;rw[h5];rfl
 ·intro b o hb hn;have iy:¬T.own bt b:=fun h=>hn ((hB b).1 h);refine⟨p16.get (hT.ne iy).1 (p15.get (hT.ne iy).1 (p14.get (hT.ne iy).2.1 (s13 b o hb hn).1)),?_⟩;intro h;have h1:=(az1 (T:=(T12.set j n2).del j) rfl rfl b).1 h;exact hn ((o13 b).1 (cn2 Bm h1))
theorem cn5{Y:H}{bt:Nat}{T:Tb}(hT:TAt Y bt T){b1 b2 b3:Nat}{tq gf:Int}{t1 t2 t3:TypeId}(h1:Y b1=some (.c [.i tq] t1))(h2:Y b2=some (.c [.q bt] t2))(h3:Y b3=some (.c [.i gf] t3)){f:Nat}{r:Bool}(hr:T.abs.apart gf f tq=some r){K:KH}
 (hK:K (.i (if r then 0 else 2)) Y):i7 182 [.q b1,.q b2,.q b3] K Y:=by
 refine dw5 _ _ _ ?_;unfold cV9;have hc:=hT.cells;unfold Tb.cells at hc
 (repeat (first|refine zz ?_|(refine A5 ?_;intro _ _ _ _ _)|(refine z6 ?_;intro _ _)|(refine l6 rfl ?_;try dsimp only)))
 refine H9 ?_;intro R hR;have key:∀f at_,T.abs.apart gf f at_=some r->R (gp b2) (gp b3) at_ Y:=by
  intro f
  induction f with
  |zero=>intro at_ h;cases h
  |succ f ih =>
   intro at_ h;refine hR _ _ _ _ ?_;unfold AT.apart at h;by_cases ha:at_=1
   ·rw[d8 ha]at h;cases h;exact l7 (by simp[ha]) hK
   rw[d7 ha]at h;refine l9 (by simpa using ha) ?_
   (repeat (first|refine zz ?_|(refine A5 ?_;intro _ _ _ _ _)|(refine z6 ?_;intro _ _)|(refine l6 rfl ?_;try dsimp only)))
   by_cases hi:at_=gf
   ·rw[d8 hi]at h;cases h;exact l9 (by simpa using hi) hK
   rw[d7 hi]at h;refine l7 (by simpa using hi) ?_
   (repeat (first|refine zz ?_|(refine A5 ?_;intro _ _ _ _ _)|(refine z6 ?_;intro _ _)|(refine l6 rfl ?_;try dsimp only)))
   rw[Q3]at h;cases hn:T.get at_ with
   |none=>rw[hn]at h;cases h
   |some n =>
    rw[hn]at h;refine rdN hT hn ?_;have cN:=(hT.get hn).cells;unfold Nd.cells at cN
    (repeat (first|refine zz ?_|(refine A5 ?_;intro _ _ _ _ _)|(refine z6 ?_;intro _ _)|(refine l6 rfl ?_;try dsimp only)))
    exact ih _ h
 exact key f tq hr
theorem cz3(hC:cd1){Y:H}{bt:Nat}{A:AT}{B:Nat->Prop}(hA:W8 Y bt A B)(gk:Int)(gu:d9)(tq:Int)(as_:d9)(hd:∀j,A.find gk gu=some j->(A.get j).isSome=true)(f:Nat)
 (hf:A.moveE1 gk gu tq as_=0->(A.apart ((A.find gk gu).getD 0) f tq).isSome=true) {K:KH}
 (hK:∀Y' B',W8 Y' bt (AT.moveR A gk gu tq as_ f).2 B'->H1 Y B Y' B'->K (.i (AT.moveR A gk gu tq as_ f).1) Y') :
 i7 143 [.q bt,.i gk,.s gu,.i tq,.s as_] K Y:=by
 obtain⟨T,hT,hO,rfl,hB⟩:=hA;have oz:=hT.cells;refine du0 _ _ _ _ _ ?_;unfold cP9;refine A5 ?_;intro b6 Y1 g1 e1 n1;refine A5 ?_;intro b7 Y2 g2 e2 n2
 (repeat (first|refine zz ?_|(refine A5 ?_;intro _ _ _ _ _)|(refine z6 ?_;intro _ _)|(refine l6 rfl ?_;try dsimp only)))
 refine l5 (bo5 _ _ ?_);intro c1 c2 Y5 g5 f1 f2;refine ae4 ?_
 (repeat (first|refine zz ?_|(refine A5 ?_;intro _ _ _ _ _)|(refine z6 ?_;intro _ _)|(refine l6 rfl ?_;try dsimp only)))
 refine l5 (bo5 _ _ ?_);intro d1 d2 Y6 g6 f3 f4;refine ae4 ?_
 (repeat (first|refine zz ?_|(refine A5 ?_;intro _ _ _ _ _)|(refine z6 ?_;intro _ _)|(refine l6 rfl ?_;try dsimp only)))
 refine l5 (bf5 _ ?_);intro c3 Y7 g7 f5;refine ae4 ?_
 (repeat (first|refine zz ?_|(refine A5 ?_;intro _ _ _ _ _)|(refine z6 ?_;intro _ _)|(refine l6 rfl ?_;try dsimp only)))
 refine l5 (bH1 _ _ _ ?_);intro c4 c5 c6 Y7' g7' f6 f7 f8;refine ae4 ?_
 (repeat (first|refine zz ?_|(refine A5 ?_;intro _ _ _ _ _)|(refine z6 ?_;intro _ _)|(refine l6 rfl ?_;try dsimp only)))
 refine an0 (an0 (an0 (an0 ?_)));refine A5 ?_;intro b17 Y8 g8 e8 n8;have mf:Lng Y Y8:=⟨by repeat (first|exact Gr.refl _|assumption|refine Gr.trans ?_ ‹_›|refine Gr.putF ?_ ‹_› (A9 ?_ ‹_›))⟩;have jd:=hT.gr mf.gr;refine l5 (av6 (es:=[0,T.dirE gk,T.dirE tq,S3 as_,if(T.find gk gu).isSome then 0 else 5]) e8 ?_ (by simp) (C4 ?_))
 ·exact⟨aa2 at7 fun K hk=>aA5 _ hk,fun _=>⟨aa2 aG7 fun K hk=>aT0 jd (by exact gA) (by exact gA) hk,fun _=>⟨aa2 aG7 fun K hk=>aT0 jd (by exact gA) (by exact gA) hk,fun _=>⟨aa2 aK0 fun K hk=>aT2 hC (by exact gA) hk,fun _=>⟨aa2 ba2 fun K hk=>bo2 jd (by exact gA) (by exact gA) (by exact gA) hk,fun _=>trivial⟩⟩⟩⟩⟩
 have hE:N0 [0,T.dirE gk,T.dirE tq,S3 as_,if(T.find gk gu).isSome then 0 else 5]=T.abs.moveE1 gk gu tq as_:=by
  unfold AT.moveE1;rw[az0,az0,ag4]
 rw[hE];have k6:Y8 b6=some (.c [.q bt] 69):=by exact gA
 have k7:Y8 b7=some (.c [.i tq] 3):=by exact gA
 refine K5 (fun j=>∀x:Bool,(x=true↔(T.abs.moveE1 gk gu tq as_≠0\/(gk=tq/\gu=as_)))->j gk gu as_ (gp b6) (gp b7) (T.abs.moveE1 gk gu tq as_) x Y8) ?_ ?_
 case refine_2 =>
  intro j hj;by_cases h0:T.abs.moveE1 gk gu tq as_=0
  ·refine l7 (by simpa using h0) ?_;refine D1 (f0 k7) ?_;by_cases hs:gk=tq
   ·refine l9 (by simpa using hs) (hj _ ?_);rw[Z3];exact⟨fun h=>.inr ⟨hs,h⟩,fun h=>h.elim (fun h=>m7 h0 h) (·.2)⟩
   ·refine l7 (by simpa using hs) (hj _ ?_);simp[h0,hs]
  ·refine l9 (by simpa using h0) (hj _ (by simp[h0]))
 intro x hx;unfold AT.moveR at hK;by_cases hq:T.abs.moveE1 gk gu tq as_≠0\/(gk=tq/\gu=as_)
 ·rw[d8 hq]at hK;exact l9 (hx.2 hq) (hK Y8 B ⟨T,jd,hO,rfl,hB⟩ (H1.gr mf.gr))
 rw[d7 hq]at hK;refine l7 (by cases x with|false=>rfl|true=>exact m7 (hx.1 rfl) hq) ?_;have h0:T.abs.moveE1 gk gu tq as_=0:=Classical.byContradiction fun h=>hq (.inl h);have kn:¬ (gk=tq/\gu=as_):=fun h=>hq (.inr h);have Cu:=hf h0;rw[<-hE]at h0;obtain⟨ns,jp,sh⟩:=dirE_z (firstE_z (firstE_z h0).2).1;obtain⟨nt,kw,hkt⟩:=dirE_z (firstE_z (firstE_z (firstE_z h0).2).2).1;have hz:=(firstE_z (firstE_z (firstE_z (firstE_z (firstE_z h0).2).2).2).2).1;cases hj:T.find gk gu with
 |none=>rw[hj]at hz;cases hz
 |some j =>
 have ip:(T.abs.find gk gu).getD 0=j:=by rw[ag4,hj];rfl
 rw[ip]at Cu hK;obtain⟨r,hr⟩:=Option.isSome_iff_exists.1 Cu;rw[hr]at hK;have hgj:=hd j (by rw[ag4];exact hj);rw[Q3]at hgj;cases Fg:T.get j with
 |none=>rw[Fg]at hgj;cases hgj
 |some nj =>
 (repeat (first|refine zz ?_|(refine A5 ?_;intro _ _ _ _ _)|(refine z6 ?_;intro _ _)|(refine l6 rfl ?_;try dsimp only)))
 refine l5 (aJ9 jd gk gu (am4 ?_));rw[hj];simp only[Option.getD_some];refine A5 ?_;intro b32 Y9 g9 e9 n9;refine C1 e9 aj3 ?_;intro Y10 p10;have e10:=p10.same;have g10:Gr Y8 Y10:=g9.putF p10 n9;clear p10 e9 g9;have vv:=jd.gr g10
 (repeat (first|refine zz ?_|(refine A5 ?_;intro _ _ _ _ _)|(refine z6 ?_;intro _ _)|(refine l6 rfl ?_;try dsimp only)))
 refine l5 (bA6 _ _ _ ?_);intro h1 h2 h3 Y11 g11 e11 e12 e13;refine ae4 ?_;refine an0 ?_;refine A5 ?_;intro b40 Y12 g12 e14 n12;have jn:=(vv.gr g11).gr g12;have Fh:Lng Y Y12:=⟨((mf.gr.trans g10).trans g11).trans g12⟩;refine l5 (av6 (es:=[if(T.find tq as_).isSome then 6 else 0,if r then 0 else 2]) e14 ?_ (by simp) (C4 ?_))
 ·exact⟨aa2 aT1 fun K hk=>bf3 jn (by exact gA) (by exact gA) (by exact gA) hk,fun _=>⟨aa2 cc7 fun K hk=>cn5 jn (by exact gA) (by exact gA) (by exact gA) hr hk,fun _=>trivial⟩⟩
 simp only[ag4,Option.getD_some]at hK;by_cases kx:N0 [if(T.find tq as_).isSome then 6 else 0,if r then 0 else 2]=0
 case neg =>
  rw[d8 kx]at hK;refine l9 (by simpa using kx) ?_;exact hK Y12 B ⟨T,jn,hO,rfl,hB⟩ (H1.gr Fh.gr)
 rw[d7 (by simpa using kx)]at hK;refine l7 (by simpa using kx) ?_;have k6:Y12 b6=some (.c [.q bt] 69):=by exact gA
 have k7:Y12 b7=some (.c [.i tq] 3):=by exact gA
 have k32:Y12 b32=some (.c [.i j] 3):=by exact gA
 clear g1 g2 g5 g6 g7 g7' g8 g10 g11 g12;have hc:=jn.cells;unfold Tb.cells at hc
 (repeat (first|refine zz ?_|(refine A5 ?_;intro _ _ _ _ _)|(refine z6 ?_;intro _ _)|(refine l6 rfl ?_;try dsimp only)))
 refine rdN jn jp ?_;obtain⟨es,Bf⟩:=jn.gh jp sh;have cS:=(jn.get jp).cells;unfold Nd.cells at cS;rw[Bf]at cS
 (repeat (first|refine zz ?_|(refine A5 ?_;intro _ _ _ _ _)|(refine z6 ?_;intro _ _)|(refine l6 rfl ?_;try dsimp only)))
 have mE:=(jn.get jp).gj es Bf;refine bW1 (kk:=kkS) (f:=aS7) aG8 P8 mE gu ?_;intro o13 Y13 p13 m13;have km:=jn.putE hO jp Bf p13 m13
 let T13:=T.set gk {ns with gj:=HL.rm gu ns.gj}
 have ol:Own T13:=hO.set jp rfl rfl;have k6:=p13.get (ad8 k6 mE) k6;have k7:=p13.get (ad8 k7 mE) k7;have k32:=p13.get (ad8 k32 mE) k32;have Bk:=km.cells;unfold Tb.cells at Bk
 (repeat (first|refine zz ?_|(refine A5 ?_;intro _ _ _ _ _)|(refine z6 ?_;intro _ _)|(refine l6 rfl ?_;try dsimp only)))
 obtain⟨nt1,qj,a1,a2,a3⟩:∃n1,T13.get tq=some n1/\n1.blk=nt.blk/\n1.eb=nt.eb/\n1.kind=2:=by
  show ∃n1,(T.set gk {ns with gj:=HL.rm gu ns.gj}).get tq=some n1/\_;rw[get_set];by_cases e:tq=gk
  ·subst e;rw[jp]at kw;cases kw;rw[d8 rfl];exact⟨_,rfl,rfl,rfl,sh⟩
  ·rw[d7 e];exact⟨nt,kw,rfl,rfl,hkt⟩
 refine rdN km qj ?_;obtain⟨et,zm⟩:=km.gh qj a3;have cT:=(km.get qj).cells;unfold Nd.cells at cT;rw[zm]at cT
 (repeat (first|refine zz ?_|(refine A5 ?_;intro _ _ _ _ _)|(refine z6 ?_;intro _ _)|(refine l6 rfl ?_;try dsimp only)))
 have mT:=(km.get qj).gj et zm;refine bd4 (kk:=kkS) (f:=aS7) aG8 P8 mT as_ j ?_;intro o14 Y14 p14 m14;have ma:=km.putE ol qj zm p14 m14
 let T14:=T13.set tq {nt1 with gj:=HL.up as_ j nt1.gj}
 have qh:Own T14:=ol.set qj rfl rfl;have k6:=p14.get (ad8 k6 mT) k6;have k7:=p14.get (ad8 k7 mT) k7;have k32:=p14.get (ad8 k32 mT) k32;have Bn:=ma.cells;unfold Tb.cells at Bn;refine j_d ?_
 (repeat (first|refine zz ?_|(refine A5 ?_;intro _ _ _ _ _)|(refine z6 ?_;intro _ _)|(refine l6 rfl ?_;try dsimp only)))
 obtain⟨nj1,uy,c1,c2,c3⟩:∃n1,T14.get j=some n1/\n1.blk=nj.blk/\n1.eb=nj.eb/\n1.kind=nj.kind:=by
  have De:∃n1,T13.get j=some n1/\n1.blk=nj.blk/\n1.eb=nj.eb/\n1.kind=nj.kind:=by
   show ∃n1,(T.set gk {ns with gj:=HL.rm gu ns.gj}).get j=some n1/\_;rw[get_set];by_cases e:j=gk
   ·subst e;rw[jp]at Fg;cases Fg;rw[d8 rfl];exact⟨_,rfl,rfl,rfl,rfl⟩
   ·rw[d7 e];exact⟨nj,Fg,rfl,rfl,rfl⟩
  obtain⟨m,hm,q1,q2,q3⟩:=De;show ∃n1,(T13.set tq {nt1 with gj:=HL.up as_ j nt1.gj}).get j=some n1/\_;rw[get_set];by_cases e:j=tq
  ·subst e;rw[qj]at hm;cases hm;rw[d8 rfl];exact⟨_,rfl,q1,q2,q3⟩
  ·rw[d7 e];exact⟨m,hm,q1,q2,q3⟩
 refine rdN ma uy ?_;have cJ:=(ma.get uy).cells;unfold Nd.cells at cJ;refine j0 (D1 (f0 cJ) ?_);have o14':∀b,T14.own bt b↔B b:=fun b=>(al3 (n':={nt1 with gj:=HL.up as_ j nt1.gj}) qj rfl rfl b).trans ((al3 (n':={ns with gj:=HL.rm gu ns.gj}) jp rfl rfl b).trans (hB b));have s14:H1 Y B Y14 B:=by
  intro b o hb hn;have iy:¬T.own bt b:=fun h=>hn ((hB b).1 h);have q1:b≠es:=by intro e;subst e;exact((hT.ne iy).2.2 gk ns jp).2 Bf
  have q2:b≠et:=by intro e;subst e;exact((hT.ne iy).2.2 tq nt kw).2 (by rw[<-a2];exact zm)
  exact⟨p14.get q2 (p13.get q1 (Fh.gr.get hb)),hn⟩
 have yu:T14.abs=(T.abs.ent gk (HL.rm gu)).ent tq (HL.up as_ j):=by
  have e1:T.abs.ent gk (HL.rm gu)=T13.abs:=by
   unfold AT.ent;rw[Q3,jp];exact(aj4 T gk {ns with gj:=HL.rm gu ns.gj}).symm
  rw[e1];unfold AT.ent;rw[Q3,qj];exact aj4 T13 tq {nt1 with gj:=HL.up as_ j nt1.gj}
 have hmv:T.abs.moved gk gu tq as_=T14.abs.mod j fun n=>if n.kind==2 then {n with up:=tq}else n:=by
  unfold AT.moved;simp only[ip];rw[yu]
 have Fi:T14.abs.get j=some nj1.abs:=by rw[Q3,uy];rfl
 rw[hmv]at hK;unfold AT.mod at hK;rw[Fi]at hK;simp only at hK;cases jc:(nj1.kind==2) with
 |false =>
  refine l7 rfl ?_;have vu:(nj1.abs.kind==2)=false:=jc;refine hK Y14 B ⟨T14,ma,qh,?_,o14'⟩ s14;rw[vu];show _=T14.abs.set j nj1.abs;unfold AT.set;rw[cl0 Fi]
 |true =>
  refine l9 rfl ?_
  (repeat (first|refine zz ?_|(refine A5 ?_;intro _ _ _ _ _)|(refine z6 ?_;intro _ _)|(refine l6 rfl ?_;try dsimp only)))
  rename_i Y15 p15;have vu:(nj1.abs.kind==2)=true:=jc;have Bo:=ma.putN qh (n':={nj1 with up:=tq}) uy p15 rfl rfl rfl rfl;refine hK Y15 B ⟨_,Bo,qh.set (n':={nj1 with up:=tq}) uy rfl rfl,?_,fun b=>(al3 (n':={nj1 with up:=tq}) uy rfl rfl b).trans (o14' b)⟩ ?_
  ·rw[vu];exact aj4 T14 j {nj1 with up:=tq}
  ·intro b o hb hn;have iy:¬T.own bt b:=fun h=>hn ((hB b).1 h);exact⟨p15.get (by rw[c1];exact((hT.ne iy).2.2 j nj Fg).1) (s14 b o hb hn).1,hn⟩
theorem cz4(qi qb:Int){Y:H}{K:KH}(hN:X8 qi qb=false->K (.p none) Y)
 (hK:X8 qi qb=true->∀bt Y' B',Y bt=none->W8 Y' bt (ax1 qi qb) B'->Gr Y Y'->(∀b,B' b->Y b=none)->K (.q bt) Y') :
 i7 52 [.g [.i qi,.i qb]] K Y:=by
 refine E2.drop (K':=fun v Y'=>(X8 qi qb=false/\v=.p none/\Gr Y Y')\/(X8 qi qb=true/\K v Y')) ?_ ?_
 case refine_2 =>
  rintro v Y' (⟨h1,h2,h3⟩|⟨h1,h2⟩)
  ·exact⟨Y,h3,h2 ▸ hN h1⟩
  ·exact⟨Y',Gr.refl _,h2⟩
 refine c52 _ _ ?_;unfold g52;refine A5 ?_;intro b3 Y1 g1 e1 n1;refine K5 (fun j=>∀x:Bool,x=!X8 qi qb->j (gp b3) x Y1) ?_ ?_
 case refine_2 =>
  intro j hj
  (repeat (first|refine zz ?_|(refine A5 ?_;intro _ _ _ _ _)|(refine z6 ?_;intro _ _)|(refine l6 rfl ?_;try dsimp only)))
  by_cases h1:qi<1
  ·exact l9 (by simpa using h1) (hj _ (by simp[X8,h1]))
  refine l7 (by simpa using h1) ?_
  (repeat (first|refine zz ?_|(refine A5 ?_;intro _ _ _ _ _)|(refine z6 ?_;intro _ _)|(refine l6 rfl ?_;try dsimp only)))
  by_cases h2:qi>1048576
  ·exact l9 (by simpa using h2) (hj _ (by simp[X8,h2]))
  refine l7 (by simpa using h2) ?_
  (repeat (first|refine zz ?_|(refine A5 ?_;intro _ _ _ _ _)|(refine z6 ?_;intro _ _)|(refine l6 rfl ?_;try dsimp only)))
  by_cases h3:qb<0
  ·exact l9 (by simpa using h3) (hj _ (by simp[X8,h3]))
  refine l7 (by simpa using h3) ?_
  (repeat (first|refine zz ?_|(refine A5 ?_;intro _ _ _ _ _)|(refine z6 ?_;intro _ _)|(refine l6 rfl ?_;try dsimp only)))
  exact hj _ (by simp[X8,h1,h2,h3])
 intro x hx;cases Aa:X8 qi qb with
 |false =>
  rw[Aa]at hx;subst hx;exact l9 rfl (.inl ⟨rfl,rfl,g1⟩)
 |true =>
  rw[Aa]at hx;subst hx;refine l7 rfl ?_;refine A5 ?_;intro b7 Y2 g2 e2 n2;refine A5 ?_;intro b8 Y3 g3 e3 n3
  (repeat (first|refine zz ?_|(refine A5 ?_;intro _ _ _ _ _)|(refine z6 ?_;intro _ _)|(refine l6 rfl ?_;try dsimp only)))
  rename_i b13 Y4 g4 e4 n4
  let nr:Nd:=⟨b8,2,493,gq,1,1,some b7,[]⟩
  have m0:Q7 Y4 b13 (W0 kkI Nd.ptr []):=Q7.new e4;refine bd4 (kk:=kkI) (f:=Nd.ptr) bf7 aA7 m0 1 nr ?_;intro o5 Y5 p5 m5;refine A5 ?_;intro b14 Y6 g6 e6 n6;refine .inr ⟨rfl,?_⟩
  let T:Tb:=⟨qi,qb,1,0,1,b13,[(1,nr)]⟩
  have q8:b8≠b13:=ae3 e3 n4;have q7:b7≠b13:=H6 n4 (by repeat (first|exact io ‹_›|exact mS ‹_›|refine gS ‹_› ?_|refine pS ‹_› ?_));have gx:∀i n,T.get i=some n->i=1/\n=nr:=by
   intro i n h;unfold Tb.get at h;simp only[T,lk]at h;cases hi:(i==1) with
   |true=>rw[hi]at h;cases h;exact⟨by simpa using hi,rfl⟩
   |false=>rw[hi]at h;cases h
  have hT:TAt Y6 b14 T:=by
   refine⟨e6,m5.gr g6,?_⟩;intro i n h;obtain⟨_,rfl⟩:=gx i n h;refine⟨?_,?_,fun h=>(by cases h),fun _ h=>(by cases h)⟩
   ·exact g6.get (p5.get q8 (g4.get e3))
   ·intro e he;cases he;exact Q7.new (g6.get (p5.get q7 (g4.get (g3.get e2))))
  have hO:Own T:=by
   refine⟨?_,?_,?_⟩
   ·intro i j n m hi hj _;rw[(gx i n hi).1,(gx j m hj).1]
   ·intro i j n m e hi hj _ _;rw[(gx i n hi).1,(gx j m hj).1]
   ·intro i n hi;rw[(gx i n hi).2];intro h;exact q7 (Option.some.inj h)
  have gg:Gr Y Y4:=by repeat (first|exact Gr.refl _|assumption|refine Gr.trans ?_ ‹_›|refine Gr.putF ?_ ‹_› (A9 ?_ ‹_›))
  have g5:Gr Y Y5:=gg.putF p5 (A9 (by repeat (first|exact Gr.refl _|assumption|refine Gr.trans ?_ ‹_›|refine Gr.putF ?_ ‹_› (A9 ?_ ‹_›))) n4);refine hK Aa b14 Y6 (T.own b14) (A9 g5 n6) ⟨T,hT,hO,rfl,fun _=>Iff.rfl⟩ (g5.trans g6) ?_
  rintro b (e|e|⟨i,n,hn,hb⟩)
  ·subst e;exact A9 g5 n6
  ·subst e;exact A9 ((g1.trans g2).trans g3) n4
  ·obtain⟨_,rfl⟩:=gx i n hn;rcases hb with e|e
   ·subst e;exact A9 (g1.trans g2) n3
   ·cases e;exact A9 g1 n2
end
section
open Go.Wk
theorem cz5:Z0 Tryz.prog 173=false:=by kernel_rfl
theorem cz6 : (Tryz.prog.funcs[173]?).map (fun fn => ((fn.name == "runtime.NumGoroutine"), fn.body.isNone)) = some (false, true) := by kernel_rfl
theorem cz7:(Tryz.prog.funcs[173]?).bind (fun fn=>Extern.find fn)=some Extern.BytealgIndexByte.indexByte:=by kernel_rfl
theorem cz8:(Tryz.prog.funcs[173]?).map (fun fn=>(Extern.findNext fn).isNone)=some true:=by kernel_rfl
theorem cs9(s:d9)(c:Int){Y:H}{F:Int->H->Prop}(hF:F (firstIdx s c.toNat.toUInt8) Y):G8 Tryz.prog (.func (.func 173) ⟨[]⟩ ⟨[]⟩) [.s s,.int .u8 c] kI F Y:=by
 unfold G8 D3;simp only[cz5];intro w hw;have h1:=cz6;have h2:=cz7;have h3:=cz8;cases hf:Tryz.prog.funcs[173]? with
 |none=>rw[hf]at h1;cases h1
 |some fn =>
  rw[hf]at h1 h2 h3;simp only[Option.map_some,Option.some.injEq,Prod.mk.injEq,Option.bind_some]at h1 h2 h3;have hr:=run_callFunc_indexByte hf h1.1 h1.2 (Option.isNone_iff_eq_none.1 h3) h2 #[.s s,.int .u8 c] w;rw[run_indexByte_string]at hr;have:(aq6 (.func (.func 173) ⟨[]⟩ ⟨[]⟩) [.s s,.int .u8 c]).run Tryz.prog w=.ok (.value (.i (firstIdx s c.toNat.toUInt8))) w:=by
   refine Eq.trans ?_ hr;simp[aq6,Deferred.ofValue,invoke]
  rw[this];exact⟨Y,X7.refl hw,C4 hF⟩
theorem bo7(s:d9)(c:J3):decide (firstIdx s c<0)=!(s.toList.any fun x=>x==c):=by
 have key:(∃i,i<s.size/\s[i]! = c)↔c∈s.toList:=by
  rw[ByteArray.toList_eq];constructor
  ·rintro ⟨i,hi,he⟩
   rw[getElem!_pos s i hi]at he;rw[<-he];exact Array.getElem_mem_toList (xs:=s.data) hi
  ·intro h;obtain⟨i,hi,he⟩:=List.getElem_of_mem h;have xz:i<s.data.size:=by simpa using hi
   refine⟨i,xz,?_⟩;rw[getElem!_pos s i xz,<- he];simp[ByteArray.getElem_eq_getElem_data]
 unfold firstIdx;cases hf:(List.range s.size).find? fun i=>s[i]! == c with
 |some i =>
  have h1:=List.find?_some hf;have h2:=List.mem_of_find?_eq_some hf;have:c∈s.toList:=key.1 ⟨i,by simpa using h2,by simpa using h1⟩;have h3:(s.toList.any fun x=>x==c)=true:=List.any_eq_true.2 ⟨c,this,by simp⟩;rw[h3];simp
 |none =>
  have h1:=List.find?_eq_none.1 hf;have h3:(s.toList.any fun x=>x==c)=false:=by
   rw[List.any_eq_false];intro x hx hxc;have:x=c:=by simpa using hxc
   subst this;obtain⟨i,hi,he⟩:=key.2 hx;exact h1 i (by simpa using hi) (by simpa using he)
  rw[h3];rfl
theorem ar3(s:d9)(c:Int){Y:H}{K:KH}(hK:K (.i (firstIdx s c.toNat.toUInt8)) Y):i7 68 [.s s,.int .u8 c] K Y:=by
 refine c68 _ _ ?_;unfold g68;refine l5 ?_;refine cN9 _ _ ?_;unfold cy0;exact cs9 s c (C4 hK)
theorem cd5:cd0:=by
 intro s Y K hK;refine ar3 s 0 (hK _ ?_);have:=bo7 s 0;rw[ByteArray.toList_eq]at this;exact this
end
end Go.Proofs.YtikedigonnlbkaaGreatDoor

