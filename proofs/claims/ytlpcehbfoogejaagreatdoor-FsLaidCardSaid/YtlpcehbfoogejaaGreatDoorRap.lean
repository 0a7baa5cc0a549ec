/- A part of the proof: whisklaw08.FsLaid: what Lay lays lies there, just so, or nothing was laid. -/
import Derived.Test.YtlpcehbfoogejaaGreatDoorRao
import Derived.Test.YtlpcehbfoogejaaGreatDoorChecked
import Derived.IntWalk
set_option maxRecDepth 100000
namespace Go.Proofs.YtlpcehbfoogejaaGreatDoor
open Go Go.HL
/-- (*whisk/inode.Table).Find -/
def an102 : Ann := (.seq none (.reg [] []) (.seq none (.reg [] []) (.seq none (.seq none (.reg [] []) (.cond (.seq none (.reg [] []) .leaf) .leaf)) (.seq none (.reg [] []) (.seq none (.reg [] []) .leaf)))))
def g102 (t_1 : Option Addr) (dir_2 : Int) (name_3 : ByteArray) (K : Value → H → Prop) : H → Prop :=
  callT Tryz.prog 115 [.pointer t_1, .int .i64 dir_2] kP (fun (x4 : Option Addr) =>
   brW x4.isNone
   (K (.tuple ⟨[.int .i64 0, .bool false]⟩))
   (ptrW x4 (fun (b5 o6 : Nat) =>
     rdT (rdC b5 (o6 + 5)) kM (fun (x7 : Option Nat) =>
      rdT (rdM .string (.int .i64 0) true x7 (.string name_3)) (.tup [.sc (.int .i64), .sc .bool]) (fun (x8 : Int) (x9 : Bool) =>
       K (.tuple ⟨[.int .i64 x8, .bool x9]⟩))))))
theorem e102 (t_1 : Option Addr) (dir_2 : Int) (name_3 : ByteArray) (K : Value → H → Prop) : bodyF Tryz.prog tau Tryz.f102 an102 [.pointer t_1, .int .i64 dir_2, .string name_3] K = g102 t_1 dir_2 name_3 K := by kernel_rfl
theorem c102 (t_1 : Option Addr) (dir_2 : Int) (name_3 : ByteArray) {K : Value → H → Prop} {σ : H} (h : g102 t_1 dir_2 name_3 K σ) : callW Tryz.prog 102 [.pointer t_1, .int .i64 dir_2, .string name_3] K σ := call_of_body mixed Tryz.func102 (by rw [e102]; exact h)


/-- (*whisk/inode.Table).Make$1 -/
def an103 : Ann := (.seq none (.reg [] []) (.seq (some [(0, .sc .ptr), (1, .sc .ptr), (2, .sc .ptr), (4, .sc .bool)]) (.reg [] []) (.seq none (.reg [] []) (.seq none (.reg [] []) .leaf))))
def g103 (x1 : Option Addr) (x2 : Option Addr) (x3 : Option Addr) (K : Value → H → Prop) : H → Prop :=
  letJ (T := Option Addr → Option Addr → Option Addr → Bool → H → Prop) (fun (x5 : Option Addr) (x6 : Option Addr) (x7 : Option Addr) (link_8 : Bool) =>
   alW (.map #[] 0) (fun (b9 : Nat) =>
    muW Tryz.prog 146 (.map (some b9)) (.int .i64 1) (.bool true) (ptrW x5 (fun (b10 o11 : Nat) =>
      rdT (rdC b10 o11) kS (fun (x12 : ByteArray) =>
       muW Tryz.prog 146 (.map (some b9)) (.int .i64 2) (.bool (strEq x12 (⟨⟨[]⟩⟩ : ByteArray))) (muW Tryz.prog 146 (.map (some b9)) (.int .i64 3) (.bool link_8) (ptrW x6 (fun (b13 o14 : Nat) =>
          rdT (rdC b13 o14) kI (fun (x15 : Int) =>
           rdT (rdM (.int .i64) (.bool false) false (some b9) (.int .i64 x15)) kB (fun (x16 : Bool) =>
            brW x16
            (ptrW x7 (fun (b17 o18 : Nat) =>
              rdT (rdC b17 o18) kI (fun (x19 : Int) =>
               brW (decide ((x19 : Int) ≥ 0))
               (ptrW x7 (fun (b20 o21 : Nat) =>
                 rdT (rdC b20 o21) kI (fun (x22 : Int) =>
                  callT Tryz.prog 104 [.bool (decide ((x22 : Int) ≤ 511)), .int .i64 2] kI (fun (x23 : Int) =>
                   K (.int .i64 x23)))))
               (callT Tryz.prog 104 [.bool false, .int .i64 2] kI (fun (x24 : Int) =>
                 K (.int .i64 x24))))))
            (callT Tryz.prog 104 [.bool false, .int .i64 2] kI (fun (x25 : Int) =>
              K (.int .i64 x25))))))))))))) (fun j4 =>
   ptrW x1 (fun (b26 o27 : Nat) =>
    rdT (rdC b26 o27) kS (fun (x28 : ByteArray) =>
     brW (!strEq x28 (⟨⟨[]⟩⟩ : ByteArray))
     (ptrW x1 (fun (b29 o30 : Nat) =>
       rdT (rdC b29 o30) kS (fun (x31 : ByteArray) =>
        brW (decide ((((x31.size : Nat) : Int) : Int) ≤ 255))
        (ptrW x1 (fun (b32 o33 : Nat) =>
          rdT (rdC b32 o33) kS (fun (x34 : ByteArray) =>
           callT Tryz.prog 65 [.string x34, .int .u8 0] kI (fun (x35 : Int) =>
            j4 x1 x2 x3 (decide ((x35 : Int) < 0))))))
        (j4 x1 x2 x3 false))))
     (j4 x1 x2 x3 false))))
theorem e103 (x1 : Option Addr) (x2 : Option Addr) (x3 : Option Addr) (K : Value → H → Prop) : bodyF Tryz.prog tau Tryz.f103 an103 [.pointer x1, .pointer x2, .pointer x3] K = g103 x1 x2 x3 K := by kernel_rfl
theorem c103 (x1 : Option Addr) (x2 : Option Addr) (x3 : Option Addr) {K : Value → H → Prop} {σ : H} (h : g103 x1 x2 x3 K σ) : callW Tryz.prog 103 [.pointer x1, .pointer x2, .pointer x3] K σ := call_of_body mixed Tryz.func103 (by rw [e103]; exact h)


/-- whisk/inode.must -/
def an104 : Ann := (.seq none (.reg [] []) (.seq none (.seq none (.reg [] []) (.cond (.seq none (.reg [] []) .leaf) .leaf)) (.seq none (.reg [] []) .leaf)))
def g104 (is_1 : Bool) (e_2 : Int) (K : Value → H → Prop) : H → Prop :=
  brW (!is_1)
  (K (.int .i64 e_2))
  (K (.int .i64 0))
theorem e104 (is_1 : Bool) (e_2 : Int) (K : Value → H → Prop) : bodyF Tryz.prog tau Tryz.f104 an104 [.bool is_1, .int .i64 e_2] K = g104 is_1 e_2 K := by kernel_rfl
theorem c104 (is_1 : Bool) (e_2 : Int) {K : Value → H → Prop} {σ : H} (h : g104 is_1 e_2 K σ) : callW Tryz.prog 104 [.bool is_1, .int .i64 e_2] K σ := call_of_body mixed Tryz.func104 (by rw [e104]; exact h)


/-- whisk/inode.first -/
def an105 : Ann := (.seq none (.reg [] []) (.seq none (.seq none (.reg [] []) (.blk (.loop [(6, .sc .slc), (7, .sc (.int .i64)), (8, .sc (.int .i64))] (.seq none (.reg [] []) (.seq none (.cond .leaf .leaf) (.seq none (.blk (.seq none (.reg [] []) (.seq none (.reg [] []) (.seq none (.reg [] []) (.cond (.seq none (.reg [] []) .leaf) .leaf))))) (.reg [] []))))))) (.seq none (.reg [] []) .leaf)))
def g105 (asked_1 : Sl) (K : Value → H → Prop) : H → Prop :=
  loopW [.sc .slc, .sc (.int .i64), .sc (.int .i64)] (fun (R2 : Sl → Int → Int → H → Prop) => (fun (x3 : Sl) (x4 : Int) (x5 : Int) =>
    brW (decide ((x5 : Int) < x4))
    (ptrW x3.base (fun (b6 o7 : Nat) =>
      ifW (0 ≤ x5 ∧ x5 < ((x3.len : Nat) : Int))
      (rdT (rdC b6 (o7 + x5.toNat * 1)) kR (fun (x8 : Value) =>
        cvalT Tryz.prog x8 [] kI (fun (x9 : Int) =>
         brW ((x9 : Int) != 0)
         (K (.int .i64 x9))
         (R2 x3 x4 (IntKind.i64.wrap (x5 + 1))))))))
    (K (.int .i64 0)))) (fun (R10 : Sl → Int → Int → H → Prop) => R10 asked_1 ((asked_1.len : Nat) : Int) 0)
theorem e105 (asked_1 : Sl) (K : Value → H → Prop) : bodyF Tryz.prog tau Tryz.f105 an105 [.slice asked_1.base asked_1.len asked_1.cap] K = g105 asked_1 K := by kernel_rfl
theorem c105 (asked_1 : Sl) {K : Value → H → Prop} {σ : H} (h : g105 asked_1 K σ) : callW Tryz.prog 105 [.slice asked_1.base asked_1.len asked_1.cap] K σ := call_of_body mixed Tryz.func105 (by rw [e105]; exact h)


/-- (*whisk/inode.Table).there -/
def an106 : Ann := (.seq none (.reg [] []) (.seq none (.reg [] []) .leaf))
def g106 (t_1 : Option Addr) (K : Value → H → Prop) : H → Prop :=
  callT Tryz.prog 104 [.bool (!t_1.isNone), .int .i64 1] kI (fun (x2 : Int) =>
   K (.int .i64 x2))
theorem e106 (t_1 : Option Addr) (K : Value → H → Prop) : bodyF Tryz.prog tau Tryz.f106 an106 [.pointer t_1] K = g106 t_1 K := by kernel_rfl
theorem c106 (t_1 : Option Addr) {K : Value → H → Prop} {σ : H} (h : g106 t_1 K σ) : callW Tryz.prog 106 [.pointer t_1] K σ := call_of_body mixed Tryz.func106 (by rw [e106]; exact h)


/-- (*whisk/inode.Table).dir -/
def an107 : Ann := (.seq none (.reg [] []) (.seq none (.reg [] []) .leaf))
def g107 (t_1 : Option Addr) (ino_2 : Int) (K : Value → H → Prop) : H → Prop :=
  alW (.cells ⟨[.pointer t_1]⟩ 80 (0, 0)) (fun (b3 : Nat) =>
   alW (.cells ⟨[.int .i64 ino_2]⟩ 3 (0, 0)) (fun (b4 : Nat) =>
    K (.func (.func 155) ⟨[]⟩ ⟨[.pointer (some ⟨b3, 0, none⟩), .pointer (some ⟨b4, 0, none⟩)]⟩)))
theorem e107 (t_1 : Option Addr) (ino_2 : Int) (K : Value → H → Prop) : bodyF Tryz.prog tau Tryz.f107 an107 [.pointer t_1, .int .i64 ino_2] K = g107 t_1 ino_2 K := by kernel_rfl
theorem c107 (t_1 : Option Addr) (ino_2 : Int) {K : Value → H → Prop} {σ : H} (h : g107 t_1 ino_2 K σ) : callW Tryz.prog 107 [.pointer t_1, .int .i64 ino_2] K σ := call_of_body mixed Tryz.func107 (by rw [e107]; exact h)


/-- whisk/inode.named -/
def an108 : Ann := (.seq none (.reg [] []) (.seq none (.reg [] []) .leaf))
def g108 (name_1 : ByteArray) (K : Value → H → Prop) : H → Prop :=
  alW (.cells ⟨[.string name_1]⟩ 9 (0, 0)) (fun (b2 : Nat) =>
   K (.func (.func 156) ⟨[]⟩ ⟨[.pointer (some ⟨b2, 0, none⟩)]⟩))
theorem e108 (name_1 : ByteArray) (K : Value → H → Prop) : bodyF Tryz.prog tau Tryz.f108 an108 [.string name_1] K = g108 name_1 K := by kernel_rfl
theorem c108 (name_1 : ByteArray) {K : Value → H → Prop} {σ : H} (h : g108 name_1 K σ) : callW Tryz.prog 108 [.string name_1] K σ := call_of_body mixed Tryz.func108 (by rw [e108]; exact h)


/-- (*whisk/inode.Table).free -/
def an109 : Ann := (.seq none (.reg [] []) (.seq none (.reg [] []) .leaf))
def g109 (t_1 : Option Addr) (dir_2 : Int) (name_3 : ByteArray) (K : Value → H → Prop) : H → Prop :=
  alW (.cells ⟨[.pointer t_1]⟩ 80 (0, 0)) (fun (b4 : Nat) =>
   alW (.cells ⟨[.int .i64 dir_2]⟩ 3 (0, 0)) (fun (b5 : Nat) =>
    alW (.cells ⟨[.string name_3]⟩ 9 (0, 0)) (fun (b6 : Nat) =>
     K (.func (.func 158) ⟨[]⟩ ⟨[.pointer (some ⟨b4, 0, none⟩), .pointer (some ⟨b5, 0, none⟩), .pointer (some ⟨b6, 0, none⟩)]⟩))))
theorem e109 (t_1 : Option Addr) (dir_2 : Int) (name_3 : ByteArray) (K : Value → H → Prop) : bodyF Tryz.prog tau Tryz.f109 an109 [.pointer t_1, .int .i64 dir_2, .string name_3] K = g109 t_1 dir_2 name_3 K := by kernel_rfl
theorem c109 (t_1 : Option Addr) (dir_2 : Int) (name_3 : ByteArray) {K : Value → H → Prop} {σ : H} (h : g109 t_1 dir_2 name_3 K σ) : callW Tryz.prog 109 [.pointer t_1, .int .i64 dir_2, .string name_3] K σ := call_of_body mixed Tryz.func109 (by rw [e109]; exact h)


/-- (*whisk/inode.Table).Make$2 -/
def an110 : Ann := (.seq none (.reg [] []) (.seq none (.reg [] []) .leaf))
def g110 (x1 : Option Addr) (x2 : Option Addr) (K : Value → H → Prop) : H → Prop :=
  ptrW x1 (fun (b3 o4 : Nat) =>
   rdT (rdC b3 o4) kP (fun (x5 : Option Addr) =>
    ptrW x2 (fun (b6 o7 : Nat) =>
     rdT (rdC b6 o7) kS (fun (x8 : ByteArray) =>
      callT Tryz.prog 111 [.pointer x5, .int .i64 1, .int .i64 ((x8.size : Nat) : Int)] kR (fun (x9 : Value) =>
       cvalT Tryz.prog x9 [] kI (fun (x10 : Int) =>
        K (.int .i64 x10)))))))
theorem e110 (x1 : Option Addr) (x2 : Option Addr) (K : Value → H → Prop) : bodyF Tryz.prog tau Tryz.f110 an110 [.pointer x1, .pointer x2] K = g110 x1 x2 K := by kernel_rfl
theorem c110 (x1 : Option Addr) (x2 : Option Addr) {K : Value → H → Prop} {σ : H} (h : g110 x1 x2 K σ) : callW Tryz.prog 110 [.pointer x1, .pointer x2] K σ := call_of_body mixed Tryz.func110 (by rw [e110]; exact h)


/-- (*whisk/inode.Table).room -/
def an111 : Ann := (.seq none (.reg [] []) (.seq none (.reg [] []) .leaf))
def g111 (t_1 : Option Addr) (inodes_2 : Int) (bytes_3 : Int) (K : Value → H → Prop) : H → Prop :=
  alW (.cells ⟨[.pointer t_1]⟩ 80 (0, 0)) (fun (b4 : Nat) =>
   alW (.cells ⟨[.int .i64 inodes_2]⟩ 3 (0, 0)) (fun (b5 : Nat) =>
    alW (.cells ⟨[.int .i64 bytes_3]⟩ 3 (0, 0)) (fun (b6 : Nat) =>
     K (.func (.func 159) ⟨[]⟩ ⟨[.pointer (some ⟨b4, 0, none⟩), .pointer (some ⟨b5, 0, none⟩), .pointer (some ⟨b6, 0, none⟩)]⟩))))
theorem e111 (t_1 : Option Addr) (inodes_2 : Int) (bytes_3 : Int) (K : Value → H → Prop) : bodyF Tryz.prog tau Tryz.f111 an111 [.pointer t_1, .int .i64 inodes_2, .int .i64 bytes_3] K = g111 t_1 inodes_2 bytes_3 K := by kernel_rfl
theorem c111 (t_1 : Option Addr) (inodes_2 : Int) (bytes_3 : Int) {K : Value → H → Prop} {σ : H} (h : g111 t_1 inodes_2 bytes_3 K σ) : callW Tryz.prog 111 [.pointer t_1, .int .i64 inodes_2, .int .i64 bytes_3] K σ := call_of_body mixed Tryz.func111 (by rw [e111]; exact h)


/-- whisk/tree.may -/
def an112 : Ann := (.seq none (.reg [] []) (.seq none (.reg [] []) (.seq none (.reg [] []) (.seq none (.seq none (.reg [] []) (.blk (.seq none (.reg [] []) (.cond (.seq none (.reg [] []) .leaf) (.seq none (.reg [] []) (.cond (.seq none (.reg [] []) .leaf) (.seq none (.reg [] []) (.cond (.seq none (.reg [] []) .leaf) .leaf)))))))) (.seq none (.reg [] []) .leaf)))))
def g112 (n_1 : ByteArray) (n_2 : Int) (n_3 : Bool) (n_4 : ByteArray) (n_5 : Sl) (K : Value → H → Prop) : H → Prop :=
  alW (.cells ⟨[.string n_1, .int .i64 n_2, .bool n_3, .string n_4, .slice n_5.base n_5.len n_5.cap]⟩ 24 (0, 0)) (fun (b6 : Nat) =>
   rdT (rdC b6 1) kI (fun (x7 : Int) =>
    brW ((x7 : Int) == 1)
    (callT Tryz.prog 160 [.pointer (some ⟨b6, 0, none⟩)] kB (fun (x8 : Bool) =>
      K (.bool x8)))
    (brW ((x7 : Int) == 3)
     (alW (.cells ⟨[.func (.func 160) ⟨[]⟩ ⟨[.pointer (some ⟨b6, 0, none⟩)]⟩, .func (.func 161) ⟨[]⟩ ⟨[.pointer (some ⟨b6, 0, none⟩)]⟩, .func (.func 163) ⟨[]⟩ ⟨[.pointer (some ⟨b6, 0, none⟩)]⟩]⟩ 25 (0, 0)) (fun (b9 : Nat) =>
       callT Tryz.prog 162 [.slice (some ⟨b9, 0, none⟩) 3 3] kB (fun (x10 : Bool) =>
        K (.bool x10))))
     (brW ((x7 : Int) == 2)
      (alW (.cells ⟨[.func (.func 161) ⟨[]⟩ ⟨[.pointer (some ⟨b6, 0, none⟩)]⟩, .func (.func 164) ⟨[]⟩ ⟨[.pointer (some ⟨b6, 0, none⟩)]⟩, .func (.func 165) ⟨[]⟩ ⟨[.pointer (some ⟨b6, 0, none⟩)]⟩]⟩ 25 (0, 0)) (fun (b11 : Nat) =>
        callT Tryz.prog 162 [.slice (some ⟨b11, 0, none⟩) 3 3] kB (fun (x12 : Bool) =>
         K (.bool x12))))
      (K (.bool false))))))
theorem e112 (n_1 : ByteArray) (n_2 : Int) (n_3 : Bool) (n_4 : ByteArray) (n_5 : Sl) (K : Value → H → Prop) : bodyF Tryz.prog tau Tryz.f112 an112 [.agg ⟨[.string n_1, .int .i64 n_2, .bool n_3, .string n_4, .slice n_5.base n_5.len n_5.cap]⟩] K = g112 n_1 n_2 n_3 n_4 n_5 K := by kernel_rfl
theorem c112 (n_1 : ByteArray) (n_2 : Int) (n_3 : Bool) (n_4 : ByteArray) (n_5 : Sl) {K : Value → H → Prop} {σ : H} (h : g112 n_1 n_2 n_3 n_4 n_5 K σ) : callW Tryz.prog 112 [.agg ⟨[.string n_1, .int .i64 n_2, .bool n_3, .string n_4, .slice n_5.base n_5.len n_5.cap]⟩] K σ := call_of_body mixed Tryz.func112 (by rw [e112]; exact h)


/-- whisk/tree.size -/
def an113 : Ann := (.seq none (.reg [] []) (.seq none (.reg [0, 1, 2, 3, 4] [[], [0], [0, 1], [], [0, 1, 2, 3]]) (.seq none (.seq none (.reg [] []) (.blk (.loop [(2, .sc (.int .i64)), (3, .sc (.int .i64)), (12, .sc .slc), (13, .sc (.int .i64)), (14, .sc (.int .i64))] (.seq none (.reg [] []) (.seq none (.cond .leaf .leaf) (.seq (some [(2, .sc (.int .i64)), (3, .sc (.int .i64)), (12, .sc .slc), (13, .sc (.int .i64)), (14, .sc (.int .i64))]) (.blk (.seq none (.reg [] []) (.seq none (.seq none (.reg [] []) (.cond .leaf .leaf)) (.seq none (.reg [] []) (.reg [] []))))) (.reg [] []))))))) (.seq none (.reg [] []) .leaf))))
def g113 (n_1 : ByteArray) (n_2 : Int) (n_3 : Bool) (n_4 : ByteArray) (n_5 : Sl) (K : Value → H → Prop) : H → Prop :=
  alW (.cells ⟨[.string n_1, .int .i64 n_2, .bool n_3, .string n_4, .slice n_5.base n_5.len n_5.cap]⟩ 24 (0, 0)) (fun (b6 : Nat) =>
   rdT (rdC b6 3) kS (fun (x7 : ByteArray) =>
    rdT (rdC b6 4) kL (fun (x8 : Sl) =>
     loopW [.sc (.int .i64), .sc (.int .i64), .sc .slc, .sc (.int .i64), .sc (.int .i64)] (fun (R9 : Int → Int → Sl → Int → Int → H → Prop) => (fun (inodes_10 : Int) (bytes_11 : Int) (x12 : Sl) (x13 : Int) (x14 : Int) =>
       brW (decide ((x14 : Int) < x13))
       (letJ (T := Int → Int → Sl → Int → Int → H → Prop) (fun (inodes_16 : Int) (bytes_17 : Int) (x18 : Sl) (x19 : Int) (x20 : Int) =>
         R9 inodes_16 bytes_17 x18 x19 (IntKind.i64.wrap (x20 + 1))) (fun j15 =>
         ptrW x12.base (fun (b21 o22 : Nat) =>
          ifW (0 ≤ x14 ∧ x14 < ((x12.len : Nat) : Int))
          (rdT (rdA 5 b21 (o22 + x14.toNat * 5)) (.one (.agg [.str, (.int .i64), .bool, .str, .slc])) (fun (x23 : ByteArray) (x24 : Int) (x25 : Bool) (x26 : ByteArray) (x27 : Sl) =>
            alW (.cells ⟨[.string (⟨⟨[]⟩⟩ : ByteArray), .int .i64 0, .bool false, .string (⟨⟨[]⟩⟩ : ByteArray), .slice none 0 0]⟩ 24 (0, 0)) (fun (b28 : Nat) =>
             stW Tryz.prog 24 (.pointer (some ⟨b28, 0, none⟩)) (.agg ⟨[.string x23, .int .i64 x24, .bool x25, .string x26, .slice x27.base x27.len x27.cap]⟩) (rdT (rdA 5 b28 0) (.one (.agg [.str, (.int .i64), .bool, .str, .slc])) (fun (x29 : ByteArray) (x30 : Int) (x31 : Bool) (x32 : ByteArray) (x33 : Sl) =>
               callT Tryz.prog 76 [.agg ⟨[.string x29, .int .i64 x30, .bool x31, .string x32, .slice x33.base x33.len x33.cap]⟩] kB (fun (x34 : Bool) =>
                brW x34
                (j15 inodes_10 bytes_11 x12 x13 x14)
                (rdT (rdA 5 b28 0) (.one (.agg [.str, (.int .i64), .bool, .str, .slc])) (fun (x35 : ByteArray) (x36 : Int) (x37 : Bool) (x38 : ByteArray) (x39 : Sl) =>
                  callT Tryz.prog 113 [.agg ⟨[.string x35, .int .i64 x36, .bool x37, .string x38, .slice x39.base x39.len x39.cap]⟩] (.tup [.sc (.int .i64), .sc (.int .i64)]) (fun (x40 : Int) (x41 : Int) =>
                   j15 (IntKind.i64.wrap (inodes_10 + x40)) (IntKind.i64.wrap (bytes_11 + x41)) x12 x13 x14))))))))))))
       (K (.tuple ⟨[.int .i64 inodes_10, .int .i64 bytes_11]⟩)))) (fun (R42 : Int → Int → Sl → Int → Int → H → Prop) => R42 1 ((x7.size : Nat) : Int) x8 ((x8.len : Nat) : Int) 0))))
theorem e113 (n_1 : ByteArray) (n_2 : Int) (n_3 : Bool) (n_4 : ByteArray) (n_5 : Sl) (K : Value → H → Prop) : bodyF Tryz.prog tau Tryz.f113 an113 [.agg ⟨[.string n_1, .int .i64 n_2, .bool n_3, .string n_4, .slice n_5.base n_5.len n_5.cap]⟩] K = g113 n_1 n_2 n_3 n_4 n_5 K := by kernel_rfl
theorem c113 (n_1 : ByteArray) (n_2 : Int) (n_3 : Bool) (n_4 : ByteArray) (n_5 : Sl) {K : Value → H → Prop} {σ : H} (h : g113 n_1 n_2 n_3 n_4 n_5 K σ) : callW Tryz.prog 113 [.agg ⟨[.string n_1, .int .i64 n_2, .bool n_3, .string n_4, .slice n_5.base n_5.len n_5.cap]⟩] K σ := call_of_body mixed Tryz.func113 (by rw [e113]; exact h)


/-- (*whisk/fs.Fs).walk -/
def an114 : Ann := (.seq none (.reg [] []) (.seq none (.seq none (.reg [] []) (.seq none (.reg [] []) (.cond (.seq none (.reg [] []) .leaf) .leaf))) (.seq (some [(1, .sc (.int .i64)), (2, .sc .str), (5, .sc .ptr), (8, .sc .ptr), (9, .sc .ptr), (10, .sc .ptr), (11, .sc .ptr)]) (.seq none (.reg [] []) (.cond (.reg [] []) .leaf)) (.seq none (.reg [] []) (.seq (some [(10, .sc .ptr), (11, .sc .ptr), (13, .sc .ptr)]) (.seq none (.reg [] []) (.blk (.rf [.sc .str, .sc .bool] (.seq none (.reg [] []) (.reg [] [])) (.blk (.seq none (.blk (.seq none (.reg [] []) (.cond (.seq none (.reg [] []) .leaf) (.seq none (.reg [] []) (.cond (.seq none (.reg [] []) .leaf) (.seq none (.reg [] []) (.cond (.seq none (.reg [0, 1, 2, 3, 4, 5, 6, 7] [[], [0], [0, 1], [0, 1, 2], [], [4], [0, 1, 2, 3, 4, 5], [0, 1, 2, 3, 4, 5, 6]]) (.seq none (.reg [] []) .leaf)) (.seq none (.reg [] []) (.cond (.seq none (.reg [] []) .leaf) .leaf))))))))) (.seq none (.reg [] []) (.seq none (.reg [0, 1, 2, 3, 4, 5, 6, 7, 8, 9, 10, 11, 12, 13, 14] [[], [0], [0, 1], [0, 1, 2], [], [4], [], [0, 1, 2, 3, 4, 5, 6], [0, 1, 2, 3, 4, 5, 6, 7], [0, 1, 2, 3, 4, 5, 6, 7, 8], [0, 1, 2, 3, 4, 5, 6, 7, 8], [0, 1, 2, 3, 4, 5, 6, 7, 8, 9], [0, 1, 2, 3, 4, 5, 6, 7, 8, 9, 11], [0, 1, 2, 3, 4, 5, 6, 7, 8, 9, 10, 11, 12], [0, 1, 2, 3, 4, 5, 6, 7, 8, 9, 10, 11, 12, 13]]) (.seq none (.seq (some [(5, .sc .ptr), (9, .sc .ptr), (10, .sc .ptr), (11, .sc .ptr), (13, .sc .ptr), (105, .sc .bool)]) (.reg [] []) (.cond .leaf .leaf)) (.seq none (.seq none (.reg [] []) (.seq none (.reg [] []) (.cond (.seq none (.reg [] []) .leaf) .leaf))) (.seq none (.reg [0, 1, 2, 3, 4, 5, 6, 7, 8, 9, 10, 11, 12] [[], [0], [0, 1], [0, 1, 2], [], [4], [0, 1, 2, 3, 4, 5], [0, 1, 2, 3, 4, 5, 6], [0, 1, 2, 3, 4, 5, 6, 7], [0, 1, 2, 3, 4, 5, 6, 7], [], [0, 1, 2, 3, 4, 5, 6, 7, 8, 10], [0, 1, 2, 3, 4, 5, 6, 7, 8, 9, 10, 11]]) (.seq none (.reg [] []) (.seq none (.seq none (.reg [] []) (.cond (.seq none (.reg [] []) .leaf) .leaf)) (.reg [] []))))))))))))) (.seq none (.reg [] []) .leaf))))))
def g114 (f_1 : Option Addr) (at_2 : Int) (path_3 : ByteArray) (follow_4 : Bool) (hops_5 : Option Addr) (K : Value → H → Prop) : H → Prop :=
  alW (.cells ⟨[.pointer f_1]⟩ 28 (0, 0)) (fun (b6 : Nat) =>
   alW (.cells ⟨[.bool follow_4]⟩ 4 (0, 0)) (fun (b7 : Nat) =>
    alW (.cells ⟨[.pointer hops_5]⟩ 27 (0, 0)) (fun (b8 : Nat) =>
     alW (.cells ⟨[.int .i64 0, .string (⟨⟨[]⟩⟩ : ByteArray), .int .i64 0, .bool false]⟩ 86 (0, 0)) (fun (b9 : Nat) =>
      alW (.cells ⟨[.int .i64 0]⟩ 32 (0, 0)) (fun (b10 : Nat) =>
       callT Tryz.prog 167 [.string path_3] kI (fun (x11 : Int) =>
        brW ((x11 : Int) != 0)
        (stW Tryz.prog 86 (.pointer (some ⟨b9, 0, none⟩)) (.agg ⟨[.int .i64 0, .string (⟨⟨[]⟩⟩ : ByteArray), .int .i64 0, .bool false]⟩) (stW Tryz.prog 32 (.pointer (some ⟨b10, 0, none⟩)) (.int .i64 x11) (rdT (rdA 4 b9 0) (.one (.agg [(.int .i64), .str, (.int .i64), .bool])) (fun (r12 : Int) (r13 : ByteArray) (r14 : Int) (r15 : Bool) =>
            rdT (rdC b10 0) kI (fun (r16 : Int) =>
             K (.tuple ⟨[.agg ⟨[.int .i64 r12, .string r13, .int .i64 r14, .bool r15]⟩, .int .i64 r16]⟩))))))
        (letJ (T := Int → ByteArray → Option Addr → Option Addr → Option Addr → Option Addr → Option Addr → H → Prop) (fun (at_18 : Int) (path_19 : ByteArray) (f_20 : Option Addr) (follow_21 : Option Addr) (hops_22 : Option Addr) (x23 : Option Addr) (x24 : Option Addr) =>
          alW (.cells ⟨[.int .i64 0, .string (⟨⟨[]⟩⟩ : ByteArray), .int .i64 0, .bool false]⟩ 86 (0, 0)) (fun (b25 : Nat) =>
           stW Tryz.prog 86 (.pointer (some ⟨b25, 0, none⟩)) (.agg ⟨[.int .i64 at_18, .string (⟨⟨[]⟩⟩ : ByteArray), .int .i64 at_18, .bool true]⟩) (letJ (T := Option Addr → Option Addr → Option Addr → H → Prop) (fun (x27 : Option Addr) (x28 : Option Addr) (p_29 : Option Addr) =>
             ptrW p_29 (fun (b30 o31 : Nat) =>
              rdT (rdA 4 b30 o31) (.one (.agg [(.int .i64), .str, (.int .i64), .bool])) (fun (x32 : Int) (x33 : ByteArray) (x34 : Int) (x35 : Bool) =>
               stW Tryz.prog 86 (.pointer x27) (.agg ⟨[.int .i64 x32, .string x33, .int .i64 x34, .bool x35]⟩) (stW Tryz.prog 32 (.pointer x28) (.int .i64 0) (ptrW x27 (fun (b36 o37 : Nat) =>
                  rdT (rdA 4 b36 o37) (.one (.agg [(.int .i64), .str, (.int .i64), .bool])) (fun (r38 : Int) (r39 : ByteArray) (r40 : Int) (r41 : Bool) =>
                   ptrW x28 (fun (b42 o43 : Nat) =>
                    rdT (rdC b42 o43) kI (fun (r44 : Int) =>
                     K (.tuple ⟨[.agg ⟨[.int .i64 r38, .string r39, .int .i64 r40, .bool r41]⟩, .int .i64 r44]⟩)))))))))) (fun j26 =>
             callT Tryz.prog 168 [.string path_19] kR (fun (x45 : Value) =>
              funW x45 (fun (g146 : FuncId) (as147 cs148 : List Value) =>
               rfW Tryz.prog none g146 as147 cs148 [.sc .str, .sc .bool] (fun (l46 : Nat) (obj47 : LoopState → Option Code → Obj) (K48 : Value → H → Prop) => (fun (x49 : ByteArray) (x50 : Bool) =>
                 begW l46 obj47 (rdT (rdC b25 3) kB (fun (x51 : Bool) =>
                   brW (!x51)
                   (stW Tryz.prog 86 (.pointer x23) (.agg ⟨[.int .i64 0, .string (⟨⟨[]⟩⟩ : ByteArray), .int .i64 0, .bool false]⟩) (stW Tryz.prog 32 (.pointer x24) (.int .i64 5) (roundK l46 obj47 K48 (some .ret) false .done)))
                   (ptrW f_20 (fun (b52 o53 : Nat) =>
                     rdT (rdC b52 o53) kP (fun (x54 : Option Addr) =>
                      rdT (rdC b25 2) kI (fun (x55 : Int) =>
                      callT Tryz.prog 70 [.pointer x54, .int .i64 x55] kI (fun (x56 : Int) =>
                      brW ((x56 : Int) != 2)
                      (stW Tryz.prog 86 (.pointer x23) (.agg ⟨[.int .i64 0, .string (⟨⟨[]⟩⟩ : ByteArray), .int .i64 0, .bool false]⟩) (stW Tryz.prog 32 (.pointer x24) (.int .i64 8) (roundK l46 obj47 K48 (some .ret) false .done)))
                      (brW (strEq x49 (⟨⟨[46, 46]⟩⟩ : ByteArray))
                      (ptrW f_20 (fun (b57 o58 : Nat) =>
                      rdT (rdC b57 o58) kP (fun (x59 : Option Addr) =>
                      ptrW x59 (fun (b60 o61 : Nat) =>
                      rdT (rdC b60 o61) kP (fun (x62 : Option Addr) =>
                      rdT (rdC b25 2) kI (fun (x63 : Int) =>
                      callT Tryz.prog 101 [.pointer x62, .int .i64 x63] kI (fun (x64 : Int) =>
                      stW Tryz.prog 86 (.pointer (some ⟨b25, 0, none⟩)) (.agg ⟨[.int .i64 x64, .string (⟨⟨[]⟩⟩ : ByteArray), .int .i64 x64, .bool true]⟩) (roundK l46 obj47 K48 none true .ready))))))))
                      (brW (decide ((((x49.size : Nat) : Int) : Int) > 56))
                      (stW Tryz.prog 86 (.pointer x23) (.agg ⟨[.int .i64 0, .string (⟨⟨[]⟩⟩ : ByteArray), .int .i64 0, .bool false]⟩) (stW Tryz.prog 32 (.pointer x24) (.int .i64 3) (roundK l46 obj47 K48 (some .ret) false .done)))
                      (rdT (rdC b25 2) kI (fun (x65 : Int) =>
                      stW Tryz.prog 86 (.pointer (some ⟨b25, 0, none⟩)) (.agg ⟨[.int .i64 x65, .string x49, .int .i64 0, .bool false]⟩) (ptrW f_20 (fun (b66 o67 : Nat) =>
                      rdT (rdC b66 o67) kP (fun (x68 : Option Addr) =>
                      ptrW x68 (fun (b69 o70 : Nat) =>
                      rdT (rdC b69 o70) kP (fun (x71 : Option Addr) =>
                      rdT (rdC b25 0) kI (fun (x72 : Int) =>
                      callT Tryz.prog 102 [.pointer x71, .int .i64 x72, .string x49] (.tup [.sc (.int .i64), .sc .bool]) (fun (x73 : Int) (x74 : Bool) =>
                      stW Tryz.prog 3 (.pointer (some ⟨b25, 2, none⟩)) (.int .i64 x73) (stW Tryz.prog 4 (.pointer (some ⟨b25, 3, none⟩)) (.bool x74) (letJ (T := Option Addr → Option Addr → Option Addr → Option Addr → Option Addr → Bool → H → Prop) (fun (f_76 : Option Addr) (hops_77 : Option Addr) (x78 : Option Addr) (x79 : Option Addr) (p_80 : Option Addr) (x81 : Bool) =>
                      brW x81
                      (roundK l46 obj47 K48 none true .ready)
                      (ptrW hops_77 (fun (b82 o83 : Nat) =>
                      rdT (rdC b82 o83) kP (fun (x84 : Option Addr) =>
                      ptrW x84 (fun (b85 o86 : Nat) =>
                      rdT (rdC b85 o86) kI (fun (x87 : Int) =>
                      ptrW x84 (fun (b88 o89 : Nat) =>
                      stW Tryz.prog 3 (.pointer (some ⟨b88, o89, none⟩)) (.int .i64 (IntKind.i64.wrap (x87 - 1))) (ptrW hops_77 (fun (b90 o91 : Nat) =>
                      rdT (rdC b90 o91) kP (fun (x92 : Option Addr) =>
                      ptrW x92 (fun (b93 o94 : Nat) =>
                      rdT (rdC b93 o94) kI (fun (x95 : Int) =>
                      brW (decide ((x95 : Int) < 0))
                      (stW Tryz.prog 86 (.pointer x78) (.agg ⟨[.int .i64 0, .string (⟨⟨[]⟩⟩ : ByteArray), .int .i64 0, .bool false]⟩) (stW Tryz.prog 32 (.pointer x79) (.int .i64 9) (roundK l46 obj47 K48 (some .ret) false .done)))
                      (ptrW f_76 (fun (b96 o97 : Nat) =>
                      rdT (rdC b96 o97) kP (fun (x98 : Option Addr) =>
                      ptrW x98 (fun (b99 o100 : Nat) =>
                      rdT (rdC b99 o100) kP (fun (x101 : Option Addr) =>
                      ptrW p_80 (fun (b102 o103 : Nat) =>
                      rdT (rdC b102 (o103 + 2)) kI (fun (x104 : Int) =>
                      callT Tryz.prog 63 [.pointer x101, .int .i64 x104] (.tup [.agg [(.int .i64), (.int .i64), .str, (.int .i64)], .sc .bool]) (fun (x105 : Int) (x106 : Int) (x107 : ByteArray) (x108 : Int) (_x109 : Bool) =>
                      alW (.cells ⟨[.int .i64 0, .int .i64 0, .string (⟨⟨[]⟩⟩ : ByteArray), .int .i64 0]⟩ 54 (0, 0)) (fun (b110 : Nat) =>
                      stW Tryz.prog 54 (.pointer (some ⟨b110, 0, none⟩)) (.agg ⟨[.int .i64 x105, .int .i64 x106, .string x107, .int .i64 x108]⟩) (ptrW f_76 (fun (b111 o112 : Nat) =>
                      rdT (rdC b111 o112) kP (fun (x113 : Option Addr) =>
                      ptrW p_80 (fun (b114 o115 : Nat) =>
                      rdT (rdC b114 o115) kI (fun (x116 : Int) =>
                      rdT (rdC b110 2) kS (fun (x117 : ByteArray) =>
                      ptrW hops_77 (fun (b118 o119 : Nat) =>
                      rdT (rdC b118 o119) kP (fun (x120 : Option Addr) =>
                      callT Tryz.prog 114 [.pointer x113, .int .i64 x116, .string x117, .bool true, .pointer x120] (.tup [.agg [(.int .i64), .str, (.int .i64), .bool], .sc (.int .i64)]) (fun (x121 : Int) (x122 : ByteArray) (x123 : Int) (x124 : Bool) (x125 : Int) =>
                      alW (.cells ⟨[.int .i64 0, .string (⟨⟨[]⟩⟩ : ByteArray), .int .i64 0, .bool false]⟩ 86 (0, 0)) (fun (b126 : Nat) =>
                      stW Tryz.prog 86 (.pointer (some ⟨b126, 0, none⟩)) (.agg ⟨[.int .i64 x121, .string x122, .int .i64 x123, .bool x124]⟩) (brW ((x125 : Int) != 0)
                      (stW Tryz.prog 86 (.pointer x78) (.agg ⟨[.int .i64 0, .string (⟨⟨[]⟩⟩ : ByteArray), .int .i64 0, .bool false]⟩) (stW Tryz.prog 32 (.pointer x79) (.int .i64 x125) (roundK l46 obj47 K48 (some .ret) false .done)))
                      (rdT (rdA 4 b126 0) (.one (.agg [(.int .i64), .str, (.int .i64), .bool])) (fun (x127 : Int) (x128 : ByteArray) (x129 : Int) (x130 : Bool) =>
                      stW Tryz.prog 86 (.pointer p_80) (.agg ⟨[.int .i64 x127, .string x128, .int .i64 x129, .bool x130]⟩) (roundK l46 obj47 K48 none true .ready))))))))))))))))))))))))))))))))))) (fun j75 =>
                      rdT (rdC b25 3) kB (fun (x131 : Bool) =>
                      brW (!x131)
                      (j75 f_20 hops_22 x23 x24 (some ⟨b25, 0, none⟩) true)
                      (brW x50
                      (ptrW follow_21 (fun (b132 o133 : Nat) =>
                      rdT (rdC b132 o133) kB (fun (x134 : Bool) =>
                      brW (!x134)
                      (j75 f_20 hops_22 x23 x24 (some ⟨b25, 0, none⟩) true)
                      (ptrW f_20 (fun (b135 o136 : Nat) =>
                      rdT (rdC b135 o136) kP (fun (x137 : Option Addr) =>
                      rdT (rdC b25 2) kI (fun (x138 : Int) =>
                      callT Tryz.prog 70 [.pointer x137, .int .i64 x138] kI (fun (x139 : Int) =>
                      j75 f_20 hops_22 x23 x24 (some ⟨b25, 0, none⟩) ((x139 : Int) != 3)))))))))
                      (ptrW f_20 (fun (b140 o141 : Nat) =>
                      rdT (rdC b140 o141) kP (fun (x142 : Option Addr) =>
                      rdT (rdC b25 2) kI (fun (x143 : Int) =>
                      callT Tryz.prog 70 [.pointer x142, .int .i64 x143] kI (fun (x144 : Int) =>
                      j75 f_20 hops_22 x23 x24 (some ⟨b25, 0, none⟩) ((x144 : Int) != 3)))))))))))))))))))))))))))))))
               (j26 x23 x24 (some ⟨b25, 0, none⟩))
               (fun (i145 : Nat) => exW i145 0 (j26 x23 x24 (some ⟨b25, 0, none⟩)) (nW))
               (ptrW x23 (fun (b149 o150 : Nat) =>
                 rdT (rdA 4 b149 o150) (.one (.agg [(.int .i64), .str, (.int .i64), .bool])) (fun (r151 : Int) (r152 : ByteArray) (r153 : Int) (r154 : Bool) =>
                  ptrW x24 (fun (b155 o156 : Nat) =>
                   rdT (rdC b155 o156) kI (fun (r157 : Int) =>
                    K (.tuple ⟨[.agg ⟨[.int .i64 r151, .string r152, .int .i64 r153, .bool r154]⟩, .int .i64 r157]⟩)))))))))))) (fun j17 =>
          idxW path_3 0 (fun (c158 : UInt8) =>
           brW (((c158.toNat : Int) : Int) == 47)
           (rdT (rdC b6 0) kP (fun (x159 : Option Addr) =>
             ptrW x159 (fun (b160 o161 : Nat) =>
              rdT (rdC b160 o161) kP (fun (x162 : Option Addr) =>
               callT Tryz.prog 100 [.pointer x162] kI (fun (x163 : Int) =>
                j17 x163 path_3 (some ⟨b6, 0, none⟩) (some ⟨b7, 0, none⟩) (some ⟨b8, 0, none⟩) (some ⟨b9, 0, none⟩) (some ⟨b10, 0, none⟩))))))
           (j17 at_2 path_3 (some ⟨b6, 0, none⟩) (some ⟨b7, 0, none⟩) (some ⟨b8, 0, none⟩) (some ⟨b9, 0, none⟩) (some ⟨b10, 0, none⟩)))))))))))
theorem e114 (f_1 : Option Addr) (at_2 : Int) (path_3 : ByteArray) (follow_4 : Bool) (hops_5 : Option Addr) (K : Value → H → Prop) : bodyF Tryz.prog tau Tryz.f114 an114 [.pointer f_1, .int .i64 at_2, .string path_3, .bool follow_4, .pointer hops_5] K = g114 f_1 at_2 path_3 follow_4 hops_5 K := by kernel_rfl
theorem c114 (f_1 : Option Addr) (at_2 : Int) (path_3 : ByteArray) (follow_4 : Bool) (hops_5 : Option Addr) {K : Value → H → Prop} {σ : H} (h : g114 f_1 at_2 path_3 follow_4 hops_5 K σ) : callW Tryz.prog 114 [.pointer f_1, .int .i64 at_2, .string path_3, .bool follow_4, .pointer hops_5] K σ := call_of_body mixed Tryz.func114 (by rw [e114]; exact h)


/-- (*whisk/inode.Table).get -/
def an115 : Ann := (.seq none (.reg [] []) (.seq none (.seq none (.reg [] []) (.cond (.seq none (.reg [] []) .leaf) .leaf)) (.seq none (.reg [] []) .leaf)))
def g115 (t_1 : Option Addr) (ino_2 : Int) (K : Value → H → Prop) : H → Prop :=
  brW t_1.isNone
  (K (.pointer none))
  (ptrW t_1 (fun (b3 o4 : Nat) =>
    rdT (rdC b3 (o4 + 4)) kM (fun (x5 : Option Nat) =>
     rdT (rdM (.int .i64) (.pointer none) false x5 (.int .i64 ino_2)) kP (fun (x6 : Option Addr) =>
      K (.pointer x6)))))
theorem e115 (t_1 : Option Addr) (ino_2 : Int) (K : Value → H → Prop) : bodyF Tryz.prog tau Tryz.f115 an115 [.pointer t_1, .int .i64 ino_2] K = g115 t_1 ino_2 K := by kernel_rfl
theorem c115 (t_1 : Option Addr) (ino_2 : Int) {K : Value → H → Prop} {σ : H} (h : g115 t_1 ino_2 K σ) : callW Tryz.prog 115 [.pointer t_1, .int .i64 ino_2] K σ := call_of_body mixed Tryz.func115 (by rw [e115]; exact h)


/-- (*whisk/inode.Table).Write$1 -/
def an116 : Ann := (.seq none (.reg [] []) (.seq none (.reg [0, 1, 2, 3, 4, 5, 6, 7, 8, 9, 10, 11, 12, 13, 14, 15, 16, 17] [[], [], [1], [], [3], [3, 4], [3, 4, 5], [], [3, 4, 5, 6, 7], [3, 4, 5, 6, 7, 8], [3, 4, 5, 6, 7, 8, 9], [3, 4, 5, 6, 7, 8, 9, 10], [3, 4, 5, 6, 7, 8, 9, 10, 11], [3, 4, 5, 6, 7, 8, 9, 10, 11, 12], [1, 2, 3, 4, 5, 6, 7, 8, 9, 10, 11, 12, 13], [0, 1, 2, 3, 4, 5, 6, 7, 8, 9, 10, 11, 12, 13, 14], [0, 1, 2, 3, 4, 5, 6, 7, 8, 9, 10, 11, 12, 13, 14, 15], [0, 1, 2, 3, 4, 5, 6, 7, 8, 9, 10, 11, 12, 13, 14, 15, 16]]) .leaf))
def g116 (x1 : Option Addr) (x2 : Option Addr) (x3 : Option Addr) (K : Value → H → Prop) : H → Prop :=
  ptrW x1 (fun (b4 o5 : Nat) =>
   rdT (rdC b4 o5) kP (fun (x6 : Option Addr) =>
    ptrW x2 (fun (b7 o8 : Nat) =>
     rdT (rdC b7 o8) kS (fun (x9 : ByteArray) =>
      ptrW x1 (fun (b10 o11 : Nat) =>
       rdT (rdC b10 o11) kP (fun (x12 : Option Addr) =>
        ptrW x12 (fun (b13 o14 : Nat) =>
         rdT (rdC b13 (o14 + 4)) kM (fun (x15 : Option Nat) =>
          ptrW x3 (fun (b16 o17 : Nat) =>
           rdT (rdC b16 o17) kI (fun (x18 : Int) =>
            rdT (rdM (.int .i64) (.pointer none) false x15 (.int .i64 x18)) kP (fun (x19 : Option Addr) =>
             ptrW x19 (fun (b20 o21 : Nat) =>
              rdT (rdC b20 (o21 + 2)) kS (fun (x22 : ByteArray) =>
               callT Tryz.prog 111 [.pointer x6, .int .i64 0, .int .i64 (IntKind.i64.wrap (((x9.size : Nat) : Int) - ((x22.size : Nat) : Int)))] kR (fun (x23 : Value) =>
                cvalT Tryz.prog x23 [] kI (fun (x24 : Int) =>
                 K (.int .i64 x24))))))))))))))))
theorem e116 (x1 : Option Addr) (x2 : Option Addr) (x3 : Option Addr) (K : Value → H → Prop) : bodyF Tryz.prog tau Tryz.f116 an116 [.pointer x1, .pointer x2, .pointer x3] K = g116 x1 x2 x3 K := by kernel_rfl
theorem c116 (x1 : Option Addr) (x2 : Option Addr) (x3 : Option Addr) {K : Value → H → Prop} {σ : H} (h : g116 x1 x2 x3 K σ) : callW Tryz.prog 116 [.pointer x1, .pointer x2, .pointer x3] K σ := call_of_body mixed Tryz.func116 (by rw [e116]; exact h)


/-- (*whisk/inode.Table).file -/
def an117 : Ann := (.seq none (.reg [] []) (.seq none (.reg [] []) .leaf))
def g117 (t_1 : Option Addr) (ino_2 : Int) (K : Value → H → Prop) : H → Prop :=
  alW (.cells ⟨[.pointer t_1]⟩ 80 (0, 0)) (fun (b3 : Nat) =>
   alW (.cells ⟨[.int .i64 ino_2]⟩ 3 (0, 0)) (fun (b4 : Nat) =>
    K (.func (.func 169) ⟨[]⟩ ⟨[.pointer (some ⟨b3, 0, none⟩), .pointer (some ⟨b4, 0, none⟩)]⟩)))
theorem e117 (t_1 : Option Addr) (ino_2 : Int) (K : Value → H → Prop) : bodyF Tryz.prog tau Tryz.f117 an117 [.pointer t_1, .int .i64 ino_2] K = g117 t_1 ino_2 K := by kernel_rfl
theorem c117 (t_1 : Option Addr) (ino_2 : Int) {K : Value → H → Prop} {σ : H} (h : g117 t_1 ino_2 K σ) : callW Tryz.prog 117 [.pointer t_1, .int .i64 ino_2] K σ := call_of_body mixed Tryz.func117 (by rw [e117]; exact h)


/-- internal/stringslite.IndexByte -/
def an118 : Ann := (.seq none (.reg [] []) (.seq none (.reg [] []) .leaf))
def g118 (s_1 : ByteArray) (c_2 : Int) (K : Value → H → Prop) : H → Prop :=
  cvalT Tryz.prog (.func (.func 170) ⟨[]⟩ ⟨[]⟩) [.string s_1, .int .u8 c_2] kI (fun (x3 : Int) =>
   K (.int .i64 x3))
theorem e118 (s_1 : ByteArray) (c_2 : Int) (K : Value → H → Prop) : bodyF Tryz.prog tau Tryz.f118 an118 [.string s_1, .int .u8 c_2] K = g118 s_1 c_2 K := by kernel_rfl
theorem c118 (s_1 : ByteArray) (c_2 : Int) {K : Value → H → Prop} {σ : H} (h : g118 s_1 c_2 K σ) : callW Tryz.prog 118 [.string s_1, .int .u8 c_2] K σ := call_of_body mixed Tryz.func118 (by rw [e118]; exact h)


/-- maps.Keys map string int string int  -/
def an120 : Ann := (.seq none (.reg [] []) (.seq none (.reg [] []) .leaf))
def g120 (m_1 : Option Nat) (K : Value → H → Prop) : H → Prop :=
  alW (.cells ⟨[.map m_1]⟩ 140 (0, 0)) (fun (b2 : Nat) =>
   K (.func (.func 173) ⟨[]⟩ ⟨[.pointer (some ⟨b2, 0, none⟩)]⟩))
theorem e120 (m_1 : Option Nat) (K : Value → H → Prop) : bodyF Tryz.prog tau Tryz.f120 an120 [.map m_1] K = g120 m_1 K := by kernel_rfl
theorem c120 (m_1 : Option Nat) {K : Value → H → Prop} {σ : H} (h : g120 m_1 K σ) : callW Tryz.prog 120 [.map m_1] K σ := call_of_body mixed Tryz.func120 (by rw [e120]; exact h)


/-- (*whisk/inode.Table).Unlink$1 -/
def an121 : Ann := (.seq none (.reg [] []) (.seq none (.reg [] []) (.seq none (.reg [] []) .leaf)))
def g121 (x1 : Option Addr) (x2 : Option Addr) (x3 : Option Addr) (K : Value → H → Prop) : H → Prop :=
  ptrW x1 (fun (b4 o5 : Nat) =>
   rdT (rdC b4 o5) kP (fun (x6 : Option Addr) =>
    ptrW x2 (fun (b7 o8 : Nat) =>
     rdT (rdC b7 o8) kI (fun (x9 : Int) =>
      ptrW x3 (fun (b10 o11 : Nat) =>
       rdT (rdC b10 o11) kS (fun (x12 : ByteArray) =>
        callT Tryz.prog 102 [.pointer x6, .int .i64 x9, .string x12] (.tup [.sc (.int .i64), .sc .bool]) (fun (x13 : Int) (_x14 : Bool) =>
         ptrW x1 (fun (b15 o16 : Nat) =>
          rdT (rdC b15 o16) kP (fun (x17 : Option Addr) =>
           ptrW x17 (fun (b18 o19 : Nat) =>
            rdT (rdC b18 (o19 + 4)) kM (fun (x20 : Option Nat) =>
             rdT (rdM (.int .i64) (.pointer none) false x20 (.int .i64 x13)) kP (fun (x21 : Option Addr) =>
              ptrW x21 (fun (b22 o23 : Nat) =>
               rdT (rdC b22 (o23 + 5)) kM (fun (x24 : Option Nat) =>
                rdT (rdLen x24) kI (fun (x25 : Int) =>
                 callT Tryz.prog 104 [.bool ((x25 : Int) == 0), .int .i64 20] kI (fun (x26 : Int) =>
                  K (.int .i64 x26)))))))))))))))))
theorem e121 (x1 : Option Addr) (x2 : Option Addr) (x3 : Option Addr) (K : Value → H → Prop) : bodyF Tryz.prog tau Tryz.f121 an121 [.pointer x1, .pointer x2, .pointer x3] K = g121 x1 x2 x3 K := by kernel_rfl
theorem c121 (x1 : Option Addr) (x2 : Option Addr) (x3 : Option Addr) {K : Value → H → Prop} {σ : H} (h : g121 x1 x2 x3 K σ) : callW Tryz.prog 121 [.pointer x1, .pointer x2, .pointer x3] K σ := call_of_body mixed Tryz.func121 (by rw [e121]; exact h)


/-- (*whisk/inode.Table).entry -/
def an122 : Ann := (.seq none (.reg [] []) (.seq none (.reg [] []) .leaf))
def g122 (t_1 : Option Addr) (dir_2 : Int) (name_3 : ByteArray) (K : Value → H → Prop) : H → Prop :=
  alW (.cells ⟨[.pointer t_1]⟩ 80 (0, 0)) (fun (b4 : Nat) =>
   alW (.cells ⟨[.int .i64 dir_2]⟩ 3 (0, 0)) (fun (b5 : Nat) =>
    alW (.cells ⟨[.string name_3]⟩ 9 (0, 0)) (fun (b6 : Nat) =>
     K (.func (.func 174) ⟨[]⟩ ⟨[.pointer (some ⟨b4, 0, none⟩), .pointer (some ⟨b5, 0, none⟩), .pointer (some ⟨b6, 0, none⟩)]⟩))))
theorem e122 (t_1 : Option Addr) (dir_2 : Int) (name_3 : ByteArray) (K : Value → H → Prop) : bodyF Tryz.prog tau Tryz.f122 an122 [.pointer t_1, .int .i64 dir_2, .string name_3] K = g122 t_1 dir_2 name_3 K := by kernel_rfl
theorem c122 (t_1 : Option Addr) (dir_2 : Int) (name_3 : ByteArray) {K : Value → H → Prop} {σ : H} (h : g122 t_1 dir_2 name_3 K σ) : callW Tryz.prog 122 [.pointer t_1, .int .i64 dir_2, .string name_3] K σ := call_of_body mixed Tryz.func122 (by rw [e122]; exact h)


/-- (*whisk/inode.Table).Chmod$1 -/
def an123 : Ann := (.seq none (.reg [] []) (.seq none (.reg [] []) .leaf))
def g123 (x1 : Option Addr) (K : Value → H → Prop) : H → Prop :=
  ptrW x1 (fun (b2 o3 : Nat) =>
   rdT (rdC b2 o3) kI (fun (x4 : Int) =>
    brW (decide ((x4 : Int) ≥ 0))
    (ptrW x1 (fun (b5 o6 : Nat) =>
      rdT (rdC b5 o6) kI (fun (x7 : Int) =>
       callT Tryz.prog 104 [.bool (decide ((x7 : Int) ≤ 511)), .int .i64 2] kI (fun (x8 : Int) =>
        K (.int .i64 x8)))))
    (callT Tryz.prog 104 [.bool false, .int .i64 2] kI (fun (x9 : Int) =>
      K (.int .i64 x9)))))
theorem e123 (x1 : Option Addr) (K : Value → H → Prop) : bodyF Tryz.prog tau Tryz.f123 an123 [.pointer x1] K = g123 x1 K := by kernel_rfl
theorem c123 (x1 : Option Addr) {K : Value → H → Prop} {σ : H} (h : g123 x1 K σ) : callW Tryz.prog 123 [.pointer x1] K σ := call_of_body mixed Tryz.func123 (by rw [e123]; exact h)


/-- (*whisk/inode.Table).Chmod$2 -/
def an124 : Ann := (.seq none (.reg [] []) (.seq none (.reg [] []) .leaf))
def g124 (x1 : Option Addr) (x2 : Option Addr) (K : Value → H → Prop) : H → Prop :=
  ptrW x1 (fun (b3 o4 : Nat) =>
   rdT (rdC b3 o4) kP (fun (x5 : Option Addr) =>
    ptrW x2 (fun (b6 o7 : Nat) =>
     rdT (rdC b6 o7) kI (fun (x8 : Int) =>
      callT Tryz.prog 115 [.pointer x5, .int .i64 x8] kP (fun (x9 : Option Addr) =>
       callT Tryz.prog 104 [.bool (!x9.isNone), .int .i64 5] kI (fun (x10 : Int) =>
        K (.int .i64 x10)))))))
theorem e124 (x1 : Option Addr) (x2 : Option Addr) (K : Value → H → Prop) : bodyF Tryz.prog tau Tryz.f124 an124 [.pointer x1, .pointer x2] K = g124 x1 x2 K := by kernel_rfl
theorem c124 (x1 : Option Addr) (x2 : Option Addr) {K : Value → H → Prop} {σ : H} (h : g124 x1 x2 K σ) : callW Tryz.prog 124 [.pointer x1, .pointer x2] K σ := call_of_body mixed Tryz.func124 (by rw [e124]; exact h)


/-- whisk/tree.Deep -/
def an128 : Ann := (.seq none (.reg [] []) (.seq none (.reg [] []) .leaf))
def g128 (n_1 : ByteArray) (n_2 : Int) (n_3 : Bool) (n_4 : ByteArray) (n_5 : Sl) (K : Value → H → Prop) : H → Prop :=
  alW (.cells ⟨[.string n_1, .int .i64 n_2, .bool n_3, .string n_4, .slice n_5.base n_5.len n_5.cap]⟩ 24 (0, 0)) (fun (b6 : Nat) =>
   rdT (rdA 5 b6 0) (.one (.agg [.str, (.int .i64), .bool, .str, .slc])) (fun (x7 : ByteArray) (x8 : Int) (x9 : Bool) (x10 : ByteArray) (x11 : Sl) =>
    callT Tryz.prog 177 [.agg ⟨[.string x7, .int .i64 x8, .bool x9, .string x10, .slice x11.base x11.len x11.cap]⟩, .int .i64 14] kI (fun (x12 : Int) =>
     K (.int .i64 x12))))
theorem e128 (n_1 : ByteArray) (n_2 : Int) (n_3 : Bool) (n_4 : ByteArray) (n_5 : Sl) (K : Value → H → Prop) : bodyF Tryz.prog tau Tryz.f128 an128 [.agg ⟨[.string n_1, .int .i64 n_2, .bool n_3, .string n_4, .slice n_5.base n_5.len n_5.cap]⟩] K = g128 n_1 n_2 n_3 n_4 n_5 K := by kernel_rfl
theorem c128 (n_1 : ByteArray) (n_2 : Int) (n_3 : Bool) (n_4 : ByteArray) (n_5 : Sl) {K : Value → H → Prop} {σ : H} (h : g128 n_1 n_2 n_3 n_4 n_5 K σ) : callW Tryz.prog 128 [.agg ⟨[.string n_1, .int .i64 n_2, .bool n_3, .string n_4, .slice n_5.base n_5.len n_5.cap]⟩] K σ := call_of_body mixed Tryz.func128 (by rw [e128]; exact h)


/-- strings.Index -/
def an130 : Ann := (.seq none (.reg [] []) (.seq none (.reg [] []) .leaf))
def g130 (s_1 : ByteArray) (substr_2 : ByteArray) (K : Value → H → Prop) : H → Prop :=
  callT Tryz.prog 180 [.string s_1, .string substr_2] kI (fun (x3 : Int) =>
   K (.int .i64 x3))
theorem e130 (s_1 : ByteArray) (substr_2 : ByteArray) (K : Value → H → Prop) : bodyF Tryz.prog tau Tryz.f130 an130 [.string s_1, .string substr_2] K = g130 s_1 substr_2 K := by kernel_rfl
theorem c130 (s_1 : ByteArray) (substr_2 : ByteArray) {K : Value → H → Prop} {σ : H} (h : g130 s_1 substr_2 K σ) : callW Tryz.prog 130 [.string s_1, .string substr_2] K σ := call_of_body mixed Tryz.func130 (by rw [e130]; exact h)


/-- (*whisk/inode.Table).Move$1 -/
def an134 : Ann := (.seq none (.reg [] []) (.seq none (.seq none (.reg [] []) (.blk (.loop [(1, .sc .ptr), (2, .sc .ptr), (4, .sc (.int .i64))] (.seq none (.seq none (.reg [] []) (.cond .leaf .leaf)) (.seq none (.blk (.seq none (.reg [] []) (.cond (.seq none (.reg [] []) .leaf) .leaf))) (.reg [] [])))))) (.seq none (.reg [] []) .leaf)))
def g134 (x1 : Option Addr) (x2 : Option Addr) (x3 : Option Addr) (K : Value → H → Prop) : H → Prop :=
  ptrW x1 (fun (b4 o5 : Nat) =>
   rdT (rdC b4 o5) kI (fun (x6 : Int) =>
    loopW [.sc .ptr, .sc .ptr, .sc (.int .i64)] (fun (R7 : Option Addr → Option Addr → Int → H → Prop) => (fun (x8 : Option Addr) (x9 : Option Addr) (at_10 : Int) =>
      brW ((at_10 : Int) != 1)
      (ptrW x9 (fun (b11 o12 : Nat) =>
        rdT (rdC b11 o12) kI (fun (x13 : Int) =>
         brW ((at_10 : Int) == x13)
         (K (.int .i64 2))
         (ptrW x8 (fun (b14 o15 : Nat) =>
           rdT (rdC b14 o15) kP (fun (x16 : Option Addr) =>
            ptrW x16 (fun (b17 o18 : Nat) =>
             rdT (rdC b17 (o18 + 4)) kM (fun (x19 : Option Nat) =>
              rdT (rdM (.int .i64) (.pointer none) false x19 (.int .i64 at_10)) kP (fun (x20 : Option Addr) =>
               ptrW x20 (fun (b21 o22 : Nat) =>
                rdT (rdC b21 (o22 + 4)) kI (fun (x23 : Int) =>
                 R7 x8 x9 x23)))))))))))
      (K (.int .i64 0)))) (fun (R24 : Option Addr → Option Addr → Int → H → Prop) => R24 x2 x3 x6)))
theorem e134 (x1 : Option Addr) (x2 : Option Addr) (x3 : Option Addr) (K : Value → H → Prop) : bodyF Tryz.prog tau Tryz.f134 an134 [.pointer x1, .pointer x2, .pointer x3] K = g134 x1 x2 x3 K := by kernel_rfl
theorem c134 (x1 : Option Addr) (x2 : Option Addr) (x3 : Option Addr) {K : Value → H → Prop} {σ : H} (h : g134 x1 x2 x3 K σ) : callW Tryz.prog 134 [.pointer x1, .pointer x2, .pointer x3] K σ := call_of_body mixed Tryz.func134 (by rw [e134]; exact h)


/-- internal/stringslite.HasPrefix -/
def an152 : Ann := (.seq none (.reg [] []) (.seq none (.reg [] []) .leaf))
def g152 (s_1 : ByteArray) (prefix_2 : ByteArray) (K : Value → H → Prop) : H → Prop :=
  brW (decide ((((s_1.size : Nat) : Int) : Int) ≥ ((prefix_2.size : Nat) : Int)))
  (ifW (bndOk (some ((prefix_2.size : Nat) : Int)) s_1.size ∧ bndOk none (((prefix_2.size : Nat) : Int).toNat))
   (K (.bool (strEq (s_1.extract 0 (((prefix_2.size : Nat) : Int).toNat)) prefix_2))))
  (K (.bool false))
theorem e152 (s_1 : ByteArray) (prefix_2 : ByteArray) (K : Value → H → Prop) : bodyF Tryz.prog tau Tryz.f152 an152 [.string s_1, .string prefix_2] K = g152 s_1 prefix_2 K := by kernel_rfl
theorem c152 (s_1 : ByteArray) (prefix_2 : ByteArray) {K : Value → H → Prop} {σ : H} (h : g152 s_1 prefix_2 K σ) : callW Tryz.prog 152 [.string s_1, .string prefix_2] K σ := call_of_body mixed Tryz.func152 (by rw [e152]; exact h)


/-- (*whisk/inode.Table).dir$1 -/
def an155 : Ann := (.seq none (.reg [] []) (.seq none (.reg [] []) (.seq none (.seq none (.reg [] []) (.cond (.seq none (.reg [] []) .leaf) .leaf)) (.seq none (.reg [] []) .leaf))))
def g155 (x1 : Option Addr) (x2 : Option Addr) (K : Value → H → Prop) : H → Prop :=
  ptrW x1 (fun (b3 o4 : Nat) =>
   rdT (rdC b3 o4) kP (fun (x5 : Option Addr) =>
    ptrW x2 (fun (b6 o7 : Nat) =>
     rdT (rdC b6 o7) kI (fun (x8 : Int) =>
      callT Tryz.prog 115 [.pointer x5, .int .i64 x8] kP (fun (x9 : Option Addr) =>
       brW x9.isNone
       (K (.int .i64 5))
       (ptrW x9 (fun (b10 o11 : Nat) =>
         rdT (rdC b10 o11) kI (fun (x12 : Int) =>
          callT Tryz.prog 104 [.bool ((x12 : Int) == 2), .int .i64 8] kI (fun (x13 : Int) =>
           K (.int .i64 x13))))))))))
theorem e155 (x1 : Option Addr) (x2 : Option Addr) (K : Value → H → Prop) : bodyF Tryz.prog tau Tryz.f155 an155 [.pointer x1, .pointer x2] K = g155 x1 x2 K := by kernel_rfl
theorem c155 (x1 : Option Addr) (x2 : Option Addr) {K : Value → H → Prop} {σ : H} (h : g155 x1 x2 K σ) : callW Tryz.prog 155 [.pointer x1, .pointer x2] K σ := call_of_body mixed Tryz.func155 (by rw [e155]; exact h)


/-- whisk/inode.named$1 -/
def an156 : Ann := (.seq none (.reg [] []) (.seq none (.seq none (.reg [] []) (.cond (.seq none (.reg [] []) .leaf) .leaf)) (.seq none (.reg [] []) .leaf)))
def g156 (x1 : Option Addr) (K : Value → H → Prop) : H → Prop :=
  ptrW x1 (fun (b2 o3 : Nat) =>
   rdT (rdC b2 o3) kS (fun (x4 : ByteArray) =>
    brW (decide ((((x4.size : Nat) : Int) : Int) > 56))
    (K (.int .i64 3))
    (ptrW x1 (fun (b5 o6 : Nat) =>
      rdT (rdC b5 o6) kS (fun (x7 : ByteArray) =>
       brW (!strEq x7 (⟨⟨[]⟩⟩ : ByteArray))
       (ptrW x1 (fun (b8 o9 : Nat) =>
         rdT (rdC b8 o9) kS (fun (x10 : ByteArray) =>
          brW (!strEq x10 (⟨⟨[46]⟩⟩ : ByteArray))
          (ptrW x1 (fun (b11 o12 : Nat) =>
            rdT (rdC b11 o12) kS (fun (x13 : ByteArray) =>
             brW (!strEq x13 (⟨⟨[46, 46]⟩⟩ : ByteArray))
             (ptrW x1 (fun (b14 o15 : Nat) =>
               rdT (rdC b14 o15) kS (fun (x16 : ByteArray) =>
                callT Tryz.prog 157 [.string x16, .string (⟨⟨[47, 0]⟩⟩ : ByteArray)] kB (fun (x17 : Bool) =>
                 callT Tryz.prog 104 [.bool (!x17), .int .i64 2] kI (fun (x18 : Int) =>
                  K (.int .i64 x18))))))
             (callT Tryz.prog 104 [.bool false, .int .i64 2] kI (fun (x19 : Int) =>
               K (.int .i64 x19))))))
          (callT Tryz.prog 104 [.bool false, .int .i64 2] kI (fun (x20 : Int) =>
            K (.int .i64 x20))))))
       (callT Tryz.prog 104 [.bool false, .int .i64 2] kI (fun (x21 : Int) =>
         K (.int .i64 x21))))))))
theorem e156 (x1 : Option Addr) (K : Value → H → Prop) : bodyF Tryz.prog tau Tryz.f156 an156 [.pointer x1] K = g156 x1 K := by kernel_rfl
theorem c156 (x1 : Option Addr) {K : Value → H → Prop} {σ : H} (h : g156 x1 K σ) : callW Tryz.prog 156 [.pointer x1] K σ := call_of_body mixed Tryz.func156 (by rw [e156]; exact h)


/-- strings.ContainsAny -/
def an157 : Ann := (.seq none (.reg [] []) (.seq none (.reg [] []) .leaf))
def g157 (s_1 : ByteArray) (chars_2 : ByteArray) (K : Value → H → Prop) : H → Prop :=
  callT Tryz.prog 187 [.string s_1, .string chars_2] kI (fun (x3 : Int) =>
   K (.bool (decide ((x3 : Int) ≥ 0))))
theorem e157 (s_1 : ByteArray) (chars_2 : ByteArray) (K : Value → H → Prop) : bodyF Tryz.prog tau Tryz.f157 an157 [.string s_1, .string chars_2] K = g157 s_1 chars_2 K := by kernel_rfl
theorem c157 (s_1 : ByteArray) (chars_2 : ByteArray) {K : Value → H → Prop} {σ : H} (h : g157 s_1 chars_2 K σ) : callW Tryz.prog 157 [.string s_1, .string chars_2] K σ := call_of_body mixed Tryz.func157 (by rw [e157]; exact h)


/-- (*whisk/inode.Table).free$1 -/
def an158 : Ann := (.seq none (.reg [] []) (.seq none (.reg [] []) (.seq none (.reg [] []) .leaf)))
def g158 (x1 : Option Addr) (x2 : Option Addr) (x3 : Option Addr) (K : Value → H → Prop) : H → Prop :=
  ptrW x1 (fun (b4 o5 : Nat) =>
   rdT (rdC b4 o5) kP (fun (x6 : Option Addr) =>
    ptrW x2 (fun (b7 o8 : Nat) =>
     rdT (rdC b7 o8) kI (fun (x9 : Int) =>
      ptrW x3 (fun (b10 o11 : Nat) =>
       rdT (rdC b10 o11) kS (fun (x12 : ByteArray) =>
        callT Tryz.prog 102 [.pointer x6, .int .i64 x9, .string x12] (.tup [.sc (.int .i64), .sc .bool]) (fun (_x13 : Int) (x14 : Bool) =>
         callT Tryz.prog 104 [.bool (!x14), .int .i64 6] kI (fun (x15 : Int) =>
          K (.int .i64 x15)))))))))
theorem e158 (x1 : Option Addr) (x2 : Option Addr) (x3 : Option Addr) (K : Value → H → Prop) : bodyF Tryz.prog tau Tryz.f158 an158 [.pointer x1, .pointer x2, .pointer x3] K = g158 x1 x2 x3 K := by kernel_rfl
theorem c158 (x1 : Option Addr) (x2 : Option Addr) (x3 : Option Addr) {K : Value → H → Prop} {σ : H} (h : g158 x1 x2 x3 K σ) : callW Tryz.prog 158 [.pointer x1, .pointer x2, .pointer x3] K σ := call_of_body mixed Tryz.func158 (by rw [e158]; exact h)


/-- (*whisk/inode.Table).room$1 -/
def an159 : Ann := (.seq none (.reg [] []) (.seq none (.reg [0, 1, 2, 3, 4, 5, 6, 7, 8, 9, 10, 11, 12, 13, 14, 15, 16, 17, 18, 19, 20, 21, 22, 23, 24, 25, 26, 27, 28, 29] [[], [0], [0, 1], [0, 1, 2], [0, 1, 2, 3], [], [0, 1, 2, 3, 4, 5], [], [7], [7, 8], [7, 8, 9], [7, 8, 9, 10], [0, 1, 2, 3, 4, 5, 6, 7, 8, 9, 10, 11], [0, 1, 2, 3, 4, 5, 6, 7, 8, 9, 10, 11, 12], [0, 1, 2, 3, 4, 5, 6, 7, 8, 9, 10, 11, 12, 13], [0, 1, 2, 3, 4, 5, 6, 7, 8, 9, 10, 11, 12, 13, 14], [0, 1, 2, 3, 4, 5, 6, 7, 8, 9, 10, 11, 12, 13, 14, 15], [0, 1, 2, 3, 4, 5, 6, 7, 8, 9, 10, 11, 12, 13, 14, 15, 16], [0, 1, 2, 3, 4, 5, 6, 7, 8, 9, 10, 11, 12, 13, 14, 15, 16, 17], [0, 1, 2, 3, 4, 5, 6, 7, 8, 9, 10, 11, 12, 13], [0, 1, 2, 3, 4, 5, 6, 7, 8, 9, 10, 11, 12, 13, 14, 15, 16, 17, 18, 19], [0, 1, 2, 3, 4, 5, 6, 7, 8, 9, 10, 11, 12, 13], [0, 1, 2, 3, 4, 5, 6, 7, 8, 9, 10, 11, 12, 13, 21], [0, 1, 2, 3, 4, 5, 6, 7, 8, 9, 10, 11, 12, 13, 21, 22], [0, 1, 2, 3, 4, 5, 6, 7, 8, 9, 10, 11, 12, 13, 21, 22, 23], [0, 1, 2, 3, 4, 5, 6, 7, 8, 9, 10, 11, 12, 13, 21, 22, 23, 24], [0, 1, 2, 3, 4, 5, 6, 7, 8, 9, 10, 11, 12, 13, 14, 15, 16, 17, 18, 19, 20, 21, 22, 23, 24, 25], [0, 1, 2, 3, 4, 5, 6, 7, 8, 9, 10, 11, 12, 13, 14, 15, 16, 17, 18, 19, 20, 21, 22, 23, 24, 25, 26], [0, 1, 2, 3, 4, 5, 6, 7, 8, 9, 10, 11, 12, 13, 14, 15, 16, 17, 18, 19, 20, 21, 22, 23, 24, 25, 26, 27], [0, 1, 2, 3, 4, 5, 6, 7, 8, 9, 10, 11, 12, 13, 14, 15, 16, 17, 18, 19, 20, 21, 22, 23, 24, 25, 26, 27, 28]]) .leaf))
def g159 (x1 : Option Addr) (x2 : Option Addr) (x3 : Option Addr) (K : Value → H → Prop) : H → Prop :=
  ptrW x1 (fun (b4 o5 : Nat) =>
   rdT (rdC b4 o5) kP (fun (x6 : Option Addr) =>
    ptrW x6 (fun (b7 o8 : Nat) =>
     rdT (rdC b7 (o8 + 2)) kI (fun (x9 : Int) =>
      ptrW x2 (fun (b10 o11 : Nat) =>
       rdT (rdC b10 o11) kI (fun (x12 : Int) =>
        ptrW x1 (fun (b13 o14 : Nat) =>
         rdT (rdC b13 o14) kP (fun (x15 : Option Addr) =>
          ptrW x15 (fun (b16 o17 : Nat) =>
           rdT (rdC b16 o17) kI (fun (x18 : Int) =>
            brW (decide (((IntKind.i64.wrap (x9 + x12)) : Int) ≤ x18))
            (ptrW x1 (fun (b19 o20 : Nat) =>
              rdT (rdC b19 o20) kP (fun (x21 : Option Addr) =>
               ptrW x21 (fun (b22 o23 : Nat) =>
                rdT (rdC b22 (o23 + 3)) kI (fun (x24 : Int) =>
                 ptrW x3 (fun (b25 o26 : Nat) =>
                  rdT (rdC b25 o26) kI (fun (x27 : Int) =>
                   ptrW x1 (fun (b28 o29 : Nat) =>
                    rdT (rdC b28 o29) kP (fun (x30 : Option Addr) =>
                     ptrW x30 (fun (b31 o32 : Nat) =>
                      rdT (rdC b31 (o32 + 1)) kI (fun (x33 : Int) =>
                      callT Tryz.prog 104 [.bool (decide (((IntKind.i64.wrap (x24 + x27)) : Int) ≤ x33)), .int .i64 10] kI (fun (x34 : Int) =>
                      K (.int .i64 x34)))))))))))))
            (callT Tryz.prog 104 [.bool false, .int .i64 10] kI (fun (x35 : Int) =>
              K (.int .i64 x35)))))))))))))
theorem e159 (x1 : Option Addr) (x2 : Option Addr) (x3 : Option Addr) (K : Value → H → Prop) : bodyF Tryz.prog tau Tryz.f159 an159 [.pointer x1, .pointer x2, .pointer x3] K = g159 x1 x2 x3 K := by kernel_rfl
theorem c159 (x1 : Option Addr) (x2 : Option Addr) (x3 : Option Addr) {K : Value → H → Prop} {σ : H} (h : g159 x1 x2 x3 K σ) : callW Tryz.prog 159 [.pointer x1, .pointer x2, .pointer x3] K σ := call_of_body mixed Tryz.func159 (by rw [e159]; exact h)


/-- whisk/tree.may$1 -/
def an160 : Ann := (.seq none (.reg [] []) (.seq none (.reg [] []) .leaf))
def g160 (x1 : Option Addr) (K : Value → H → Prop) : H → Prop :=
  ptrW x1 (fun (b2 o3 : Nat) =>
   rdT (rdC b2 (o3 + 4)) kL (fun (x4 : Sl) =>
    K (.bool ((((x4.len : Nat) : Int) : Int) == 0))))
theorem e160 (x1 : Option Addr) (K : Value → H → Prop) : bodyF Tryz.prog tau Tryz.f160 an160 [.pointer x1] K = g160 x1 K := by kernel_rfl
theorem c160 (x1 : Option Addr) {K : Value → H → Prop} {σ : H} (h : g160 x1 K σ) : callW Tryz.prog 160 [.pointer x1] K σ := call_of_body mixed Tryz.func160 (by rw [e160]; exact h)


/-- whisk/tree.may$2 -/
def an161 : Ann := (.seq none (.reg [] []) (.seq none (.reg [] []) .leaf))
def g161 (x1 : Option Addr) (K : Value → H → Prop) : H → Prop :=
  ptrW x1 (fun (b2 o3 : Nat) =>
   rdT (rdC b2 (o3 + 2)) kB (fun (x4 : Bool) =>
    K (.bool (!x4))))
theorem e161 (x1 : Option Addr) (K : Value → H → Prop) : bodyF Tryz.prog tau Tryz.f161 an161 [.pointer x1] K = g161 x1 K := by kernel_rfl
theorem c161 (x1 : Option Addr) {K : Value → H → Prop} {σ : H} (h : g161 x1 K σ) : callW Tryz.prog 161 [.pointer x1] K σ := call_of_body mixed Tryz.func161 (by rw [e161]; exact h)


/-- whisk/tree.all -/
def an162 : Ann := (.seq none (.reg [] []) (.seq none (.reg [] []) .leaf))
def g162 (l_1 : Sl) (K : Value → H → Prop) : H → Prop :=
  callT Tryz.prog 188 [.slice l_1.base l_1.len l_1.cap, .func (.func 189) ⟨[]⟩ ⟨[]⟩] kB (fun (x2 : Bool) =>
   K (.bool (!x2)))
theorem e162 (l_1 : Sl) (K : Value → H → Prop) : bodyF Tryz.prog tau Tryz.f162 an162 [.slice l_1.base l_1.len l_1.cap] K = g162 l_1 K := by kernel_rfl
theorem c162 (l_1 : Sl) {K : Value → H → Prop} {σ : H} (h : g162 l_1 K σ) : callW Tryz.prog 162 [.slice l_1.base l_1.len l_1.cap] K σ := call_of_body mixed Tryz.func162 (by rw [e162]; exact h)


/-- whisk/tree.may$3 -/
def an163 : Ann := (.seq none (.reg [] []) (.seq none (.reg [] []) .leaf))
def g163 (x1 : Option Addr) (K : Value → H → Prop) : H → Prop :=
  ptrW x1 (fun (b2 o3 : Nat) =>
   rdT (rdC b2 (o3 + 3)) kS (fun (x4 : ByteArray) =>
    brW (decide ((((x4.size : Nat) : Int) : Int) ≥ 1))
    (ptrW x1 (fun (b5 o6 : Nat) =>
      rdT (rdC b5 (o6 + 3)) kS (fun (x7 : ByteArray) =>
       brW (decide ((((x7.size : Nat) : Int) : Int) ≤ 255))
       (ptrW x1 (fun (b8 o9 : Nat) =>
         rdT (rdC b8 (o9 + 3)) kS (fun (x10 : ByteArray) =>
          callT Tryz.prog 65 [.string x10, .int .u8 0] kI (fun (x11 : Int) =>
           K (.bool (decide ((x11 : Int) < 0)))))))
       (K (.bool false)))))
    (K (.bool false))))
theorem e163 (x1 : Option Addr) (K : Value → H → Prop) : bodyF Tryz.prog tau Tryz.f163 an163 [.pointer x1] K = g163 x1 K := by kernel_rfl
theorem c163 (x1 : Option Addr) {K : Value → H → Prop} {σ : H} (h : g163 x1 K σ) : callW Tryz.prog 163 [.pointer x1] K σ := call_of_body mixed Tryz.func163 (by rw [e163]; exact h)


/-- whisk/tree.may$4 -/
def an164 : Ann := (.seq none (.reg [] []) (.seq none (.reg [] []) .leaf))
def g164 (x1 : Option Addr) (K : Value → H → Prop) : H → Prop :=
  ptrW x1 (fun (b2 o3 : Nat) =>
   rdT (rdC b2 (o3 + 3)) kS (fun (x4 : ByteArray) =>
    K (.bool (strEq x4 (⟨⟨[]⟩⟩ : ByteArray)))))
theorem e164 (x1 : Option Addr) (K : Value → H → Prop) : bodyF Tryz.prog tau Tryz.f164 an164 [.pointer x1] K = g164 x1 K := by kernel_rfl
theorem c164 (x1 : Option Addr) {K : Value → H → Prop} {σ : H} (h : g164 x1 K σ) : callW Tryz.prog 164 [.pointer x1] K σ := call_of_body mixed Tryz.func164 (by rw [e164]; exact h)


/-- whisk/tree.may$5 -/
def an165 : Ann := (.seq none (.reg [] []) (.seq none (.seq none (.reg [] []) (.blk (.loop [(0, .sc .ptr), (5, .sc .slc), (6, .sc (.int .i64)), (7, .sc (.int .i64))] (.seq none (.reg [] []) (.seq none (.cond .leaf .leaf) (.seq none (.blk (.seq none (.reg [] []) (.seq (some [(0, .sc .ptr), (5, .sc .slc), (6, .sc (.int .i64)), (7, .sc (.int .i64)), (17, .sc .raw), (18, .sc .raw), (19, .sc .raw), (22, .sc .raw), (23, .sc .raw), (24, .sc .raw), (25, .sc .raw), (26, .sc .raw), (27, .sc .raw), (28, .sc .raw), (29, .sc .raw), (30, .sc .raw), (31, .sc .raw), (32, .sc .raw), (33, .sc .raw), (34, .sc .raw), (35, .sc .raw), (36, .sc .bool)]) (.reg [0, 1, 2, 3, 4, 5, 6, 7, 8, 9, 10, 11, 12, 13, 14, 15, 16, 17, 18, 19, 20, 21, 22, 23, 24] [[], [0], [0, 1], [0, 1, 2], [0, 1, 2, 3], [0, 1, 2, 3, 4], [0, 1, 2, 3, 4, 5], [0, 1, 2, 3, 4, 5, 6], [0, 1, 2, 3, 4, 5, 6, 7], [0, 1, 2, 3, 4, 5, 6, 7, 8], [0, 1, 2, 3, 4, 5, 6, 7, 8, 9], [0, 1, 2, 3, 4, 5, 6, 7, 8, 9, 10], [0, 1, 2, 3, 4, 5, 6, 7, 8, 9, 10, 11], [0, 1, 2, 3, 4, 5, 6, 7, 8, 9, 10, 11, 12], [0, 1, 2, 3, 4, 5, 6, 7, 8, 9, 10, 11, 12, 13], [0, 1, 2, 3, 4, 5, 6, 7, 8, 9, 10, 11, 12], [0, 1, 2, 3, 4, 5, 6, 7, 8, 9, 10, 11, 12, 15], [0, 1, 2, 3, 4, 5, 6, 7, 8, 9, 10, 11, 12, 13, 14, 15, 16], [0, 1, 2, 3, 4, 5, 6, 7, 8, 9, 10, 11, 12, 13, 14, 15, 16, 17], [0, 1, 2, 3, 4, 5, 6, 7, 8, 9, 10, 11, 12, 13, 14, 15, 16, 17, 18], [0, 1, 2, 3, 4, 5, 6, 7, 8, 9, 10, 11, 12], [0, 1, 2, 3, 4, 5, 6, 7, 8, 9, 10, 11, 12, 20], [0, 1, 2, 3, 4, 5, 6, 7, 8, 9, 10, 11, 12, 13, 14, 15, 16, 17, 18, 19, 20, 21], [0, 1, 2, 3, 4, 5, 6, 7, 8, 9, 10, 11, 12, 13, 14, 15, 16, 17, 18, 19, 20, 21, 22], [0, 1, 2, 3, 4, 5, 6, 7, 8, 9, 10, 11, 12, 13, 14, 15, 16, 17, 18, 19, 20, 21, 22, 23]]) (.cond (.seq none (.reg [] []) .leaf) .leaf)))) (.reg [] []))))))) (.seq none (.reg [] []) .leaf)))
def g165 (x1 : Option Addr) (K : Value → H → Prop) : H → Prop :=
  ptrW x1 (fun (b2 o3 : Nat) =>
   rdT (rdC b2 (o3 + 4)) kL (fun (x4 : Sl) =>
    loopW [.sc .ptr, .sc .slc, .sc (.int .i64), .sc (.int .i64)] (fun (R5 : Option Addr → Sl → Int → Int → H → Prop) => (fun (x6 : Option Addr) (x7 : Sl) (x8 : Int) (x9 : Int) =>
      brW (decide ((x9 : Int) < x8))
      (ptrW x7.base (fun (b10 o11 : Nat) =>
        ifW (0 ≤ x9 ∧ x9 < ((x7.len : Nat) : Int))
        (rdT (rdA 5 b10 (o11 + x9.toNat * 5)) (.one (.agg [.str, (.int .i64), .bool, .str, .slc])) (fun (x12 : ByteArray) (x13 : Int) (x14 : Bool) (x15 : ByteArray) (x16 : Sl) =>
          alW (.cells ⟨[.string (⟨⟨[]⟩⟩ : ByteArray), .int .i64 0, .bool false, .string (⟨⟨[]⟩⟩ : ByteArray), .slice none 0 0]⟩ 24 (0, 0)) (fun (b17 : Nat) =>
           stW Tryz.prog 24 (.pointer (some ⟨b17, 0, none⟩)) (.agg ⟨[.string x12, .int .i64 x13, .bool x14, .string x15, .slice x16.base x16.len x16.cap]⟩) (letJ (T := Option Addr → Sl → Int → Int → Value → Value → Value → Value → Value → Value → Value → Value → Value → Value → Value → Value → Value → Value → Value → Value → Value → Bool → H → Prop) (fun (x19 : Option Addr) (x20 : Sl) (x21 : Int) (x22 : Int) (_x23 : Value) (_x24 : Value) (_x25 : Value) (_x26 : Value) (_x27 : Value) (_x28 : Value) (_x29 : Value) (_x30 : Value) (_x31 : Value) (_x32 : Value) (_x33 : Value) (_x34 : Value) (_x35 : Value) (_x36 : Value) (_x37 : Value) (_x38 : Value) (_x39 : Value) (x40 : Bool) =>
             brW x40
             (K (.bool false))
             (R5 x19 x20 x21 (IntKind.i64.wrap (x22 + 1)))) (fun j18 =>
             rdT (rdC b17 0) kS (fun (x41 : ByteArray) =>
              callT Tryz.prog 166 [.string x41] kB (fun (x42 : Bool) =>
               brW (!x42)
               (j18 x6 x7 x8 x9 (.tuple ⟨[]⟩) (.tuple ⟨[]⟩) (.tuple ⟨[]⟩) (.tuple ⟨[]⟩) (.tuple ⟨[]⟩) (.tuple ⟨[]⟩) (.tuple ⟨[]⟩) (.tuple ⟨[]⟩) (.tuple ⟨[]⟩) (.tuple ⟨[]⟩) (.tuple ⟨[]⟩) (.tuple ⟨[]⟩) (.tuple ⟨[]⟩) (.tuple ⟨[]⟩) (.tuple ⟨[]⟩) (.tuple ⟨[]⟩) (.tuple ⟨[]⟩) true)
               (rdT (rdA 5 b17 0) (.one (.agg [.str, (.int .i64), .bool, .str, .slc])) (fun (x43 : ByteArray) (x44 : Int) (x45 : Bool) (x46 : ByteArray) (x47 : Sl) =>
                 callT Tryz.prog 112 [.agg ⟨[.string x43, .int .i64 x44, .bool x45, .string x46, .slice x47.base x47.len x47.cap]⟩] kB (fun (x48 : Bool) =>
                  brW (!x48)
                  (j18 x6 x7 x8 x9 (.agg ⟨[.string x43, .int .i64 x44, .bool x45, .string x46, .slice x47.base x47.len x47.cap]⟩) (.bool x48) (.bool (!x48)) (.tuple ⟨[]⟩) (.tuple ⟨[]⟩) (.tuple ⟨[]⟩) (.tuple ⟨[]⟩) (.tuple ⟨[]⟩) (.tuple ⟨[]⟩) (.tuple ⟨[]⟩) (.tuple ⟨[]⟩) (.tuple ⟨[]⟩) (.tuple ⟨[]⟩) (.tuple ⟨[]⟩) (.tuple ⟨[]⟩) (.tuple ⟨[]⟩) (.tuple ⟨[]⟩) true)
                  (brW (decide ((x9 : Int) > 0))
                   (ptrW x6 (fun (b49 o50 : Nat) =>
                     rdT (rdC b49 (o50 + 4)) kL (fun (x51 : Sl) =>
                      ptrW x51.base (fun (b52 o53 : Nat) =>
                      ifW (0 ≤ IntKind.i64.wrap (x9 - 1) ∧ IntKind.i64.wrap (x9 - 1) < ((x51.len : Nat) : Int))
                      (rdT (rdC b52 (o53 + (IntKind.i64.wrap (x9 - 1) : Int).toNat * 5)) kS (fun (x54 : ByteArray) =>
                      rdT (rdC b17 0) kS (fun (x55 : ByteArray) =>
                      j18 x6 x7 x8 x9 (.agg ⟨[.string x43, .int .i64 x44, .bool x45, .string x46, .slice x47.base x47.len x47.cap]⟩) (.bool x48) (.bool (!x48)) (.int .i64 x9) (.bool (decide ((x9 : Int) > 0))) (.bool true) (.pointer (some ⟨b49, o50 + 4, none⟩)) (.slice x51.base x51.len x51.cap) (.int .i64 x9) (.int .i64 (IntKind.i64.wrap (x9 - 1))) (.pointer (some ⟨b52, o53 + (IntKind.i64.wrap (x9 - 1) : Int).toNat * 5, none⟩)) (.pointer (some ⟨b52, o53 + (IntKind.i64.wrap (x9 - 1) : Int).toNat * 5, none⟩)) (.string x54) (.pointer (some ⟨b17, 0, none⟩)) (.string x55) (.bool (!strLt x54 x55)) (.bool (!strLt x54 x55)) (!strLt x54 x55))))))))
                   (j18 x6 x7 x8 x9 (.agg ⟨[.string x43, .int .i64 x44, .bool x45, .string x46, .slice x47.base x47.len x47.cap]⟩) (.bool x48) (.bool (!x48)) (.int .i64 x9) (.bool (decide ((x9 : Int) > 0))) (.bool false) (.tuple ⟨[]⟩) (.tuple ⟨[]⟩) (.tuple ⟨[]⟩) (.tuple ⟨[]⟩) (.tuple ⟨[]⟩) (.tuple ⟨[]⟩) (.tuple ⟨[]⟩) (.tuple ⟨[]⟩) (.tuple ⟨[]⟩) (.tuple ⟨[]⟩) (.bool false) false))))))))))))))
      (K (.bool true)))) (fun (R56 : Option Addr → Sl → Int → Int → H → Prop) => R56 x1 x4 ((x4.len : Nat) : Int) 0)))
theorem e165 (x1 : Option Addr) (K : Value → H → Prop) : bodyF Tryz.prog tau Tryz.f165 an165 [.pointer x1] K = g165 x1 K := by kernel_rfl
theorem c165 (x1 : Option Addr) {K : Value → H → Prop} {σ : H} (h : g165 x1 K σ) : callW Tryz.prog 165 [.pointer x1] K σ := call_of_body mixed Tryz.func165 (by rw [e165]; exact h)


/-- whisk/tree.mayName -/
def an166 : Ann := (.seq none (.reg [] []) (.seq none (.reg [] []) .leaf))
def g166 (s_1 : ByteArray) (K : Value → H → Prop) : H → Prop :=
  brW (decide ((((s_1.size : Nat) : Int) : Int) ≥ 1))
  (brW (decide ((((s_1.size : Nat) : Int) : Int) ≤ 56))
   (callT Tryz.prog 157 [.string s_1, .string (⟨⟨[47, 0]⟩⟩ : ByteArray)] kB (fun (x2 : Bool) =>
     brW (!x2)
     (brW (!strEq s_1 (⟨⟨[46]⟩⟩ : ByteArray))
      (K (.bool (!strEq s_1 (⟨⟨[46, 46]⟩⟩ : ByteArray))))
      (K (.bool false)))
     (K (.bool false))))
   (K (.bool false)))
  (K (.bool false))
theorem e166 (s_1 : ByteArray) (K : Value → H → Prop) : bodyF Tryz.prog tau Tryz.f166 an166 [.string s_1] K = g166 s_1 K := by kernel_rfl
theorem c166 (s_1 : ByteArray) {K : Value → H → Prop} {σ : H} (h : g166 s_1 K σ) : callW Tryz.prog 166 [.string s_1] K σ := call_of_body mixed Tryz.func166 (by rw [e166]; exact h)


/-- whisk/fs.may -/
def an167 : Ann := (.seq none (.reg [] []) (.seq none (.blk (.seq none (.reg [] []) (.cond (.seq none (.reg [] []) .leaf) (.seq none (.reg [] []) (.cond (.seq none (.reg [] []) .leaf) (.seq none (.reg [] []) (.cond (.seq none (.reg [] []) .leaf) .leaf))))))) (.seq none (.reg [] []) .leaf)))
def g167 (path_1 : ByteArray) (K : Value → H → Prop) : H → Prop :=
  brW (strEq path_1 (⟨⟨[]⟩⟩ : ByteArray))
  (K (.int .i64 5))
  (brW (decide ((((path_1.size : Nat) : Int) : Int) > 255))
   (K (.int .i64 3))
   (callT Tryz.prog 65 [.string path_1, .int .u8 0] kI (fun (x2 : Int) =>
     brW (decide ((x2 : Int) ≥ 0))
     (K (.int .i64 2))
     (K (.int .i64 0)))))
theorem e167 (path_1 : ByteArray) (K : Value → H → Prop) : bodyF Tryz.prog tau Tryz.f167 an167 [.string path_1] K = g167 path_1 K := by kernel_rfl
theorem c167 (path_1 : ByteArray) {K : Value → H → Prop} {σ : H} (h : g167 path_1 K σ) : callW Tryz.prog 167 [.string path_1] K σ := call_of_body mixed Tryz.func167 (by rw [e167]; exact h)


/-- whisk/fs.names -/
def an168 : Ann := (.seq none (.reg [] []) (.seq none (.reg [] []) .leaf))
def g168 (path_1 : ByteArray) (K : Value → H → Prop) : H → Prop :=
  alW (.cells ⟨[.string path_1]⟩ 9 (0, 0)) (fun (b2 : Nat) =>
   K (.func (.func 190) ⟨[]⟩ ⟨[.pointer (some ⟨b2, 0, none⟩)]⟩))
theorem e168 (path_1 : ByteArray) (K : Value → H → Prop) : bodyF Tryz.prog tau Tryz.f168 an168 [.string path_1] K = g168 path_1 K := by kernel_rfl
theorem c168 (path_1 : ByteArray) {K : Value → H → Prop} {σ : H} (h : g168 path_1 K σ) : callW Tryz.prog 168 [.string path_1] K σ := call_of_body mixed Tryz.func168 (by rw [e168]; exact h)


/-- (*whisk/inode.Table).file$1 -/
def an169 : Ann := (.seq none (.reg [] []) (.seq none (.reg [] []) (.seq none (.blk (.seq none (.reg [] []) (.cond (.seq none (.reg [] []) .leaf) (.seq none (.reg [] []) (.cond (.seq none (.reg [] []) .leaf) .leaf))))) (.seq none (.reg [] []) .leaf))))
def g169 (x1 : Option Addr) (x2 : Option Addr) (K : Value → H → Prop) : H → Prop :=
  ptrW x1 (fun (b3 o4 : Nat) =>
   rdT (rdC b3 o4) kP (fun (x5 : Option Addr) =>
    ptrW x2 (fun (b6 o7 : Nat) =>
     rdT (rdC b6 o7) kI (fun (x8 : Int) =>
      callT Tryz.prog 115 [.pointer x5, .int .i64 x8] kP (fun (x9 : Option Addr) =>
       brW x9.isNone
       (K (.int .i64 5))
       (ptrW x9 (fun (b10 o11 : Nat) =>
         rdT (rdC b10 o11) kI (fun (x12 : Int) =>
          brW ((x12 : Int) == 2)
          (K (.int .i64 7))
          (ptrW x9 (fun (b13 o14 : Nat) =>
            rdT (rdC b13 o14) kI (fun (x15 : Int) =>
             callT Tryz.prog 104 [.bool ((x15 : Int) == 1), .int .i64 2] kI (fun (x16 : Int) =>
              K (.int .i64 x16)))))))))))))
theorem e169 (x1 : Option Addr) (x2 : Option Addr) (K : Value → H → Prop) : bodyF Tryz.prog tau Tryz.f169 an169 [.pointer x1, .pointer x2] K = g169 x1 x2 K := by kernel_rfl
theorem c169 (x1 : Option Addr) (x2 : Option Addr) {K : Value → H → Prop} {σ : H} (h : g169 x1 x2 K σ) : callW Tryz.prog 169 [.pointer x1, .pointer x2] K σ := call_of_body mixed Tryz.func169 (by rw [e169]; exact h)


/-- (*whisk/inode.Table).entry$1 -/
def an174 : Ann := (.seq none (.reg [] []) (.seq none (.reg [] []) (.seq none (.reg [] []) .leaf)))
def g174 (x1 : Option Addr) (x2 : Option Addr) (x3 : Option Addr) (K : Value → H → Prop) : H → Prop :=
  ptrW x1 (fun (b4 o5 : Nat) =>
   rdT (rdC b4 o5) kP (fun (x6 : Option Addr) =>
    ptrW x2 (fun (b7 o8 : Nat) =>
     rdT (rdC b7 o8) kI (fun (x9 : Int) =>
      ptrW x3 (fun (b10 o11 : Nat) =>
       rdT (rdC b10 o11) kS (fun (x12 : ByteArray) =>
        callT Tryz.prog 102 [.pointer x6, .int .i64 x9, .string x12] (.tup [.sc (.int .i64), .sc .bool]) (fun (_x13 : Int) (x14 : Bool) =>
         callT Tryz.prog 104 [.bool x14, .int .i64 5] kI (fun (x15 : Int) =>
          K (.int .i64 x15)))))))))
theorem e174 (x1 : Option Addr) (x2 : Option Addr) (x3 : Option Addr) (K : Value → H → Prop) : bodyF Tryz.prog tau Tryz.f174 an174 [.pointer x1, .pointer x2, .pointer x3] K = g174 x1 x2 x3 K := by kernel_rfl
theorem c174 (x1 : Option Addr) (x2 : Option Addr) (x3 : Option Addr) {K : Value → H → Prop} {σ : H} (h : g174 x1 x2 x3 K σ) : callW Tryz.prog 174 [.pointer x1, .pointer x2, .pointer x3] K σ := call_of_body mixed Tryz.func174 (by rw [e174]; exact h)


/-- whisk/tree.deep -/
def an177 : Ann := (.seq none (.reg [] []) (.seq none (.reg [] []) (.seq none (.seq (some [(1, .sc (.int .i64)), (2, .sc .ptr), (5, .sc (.int .i64)), (14, .sc .bool)]) (.reg [] []) (.cond (.seq none (.reg [] []) .leaf) .leaf)) (.seq none (.seq none (.reg [] []) (.blk (.loop [(1, .sc (.int .i64)), (5, .sc (.int .i64)), (17, .sc .slc), (18, .sc (.int .i64)), (19, .sc (.int .i64))] (.seq none (.reg [] []) (.seq none (.cond .leaf .leaf) (.seq none (.blk (.seq none (.reg [] []) (.reg [] []))) (.reg [] []))))))) (.seq none (.reg [] []) .leaf)))))
def g177 (n_1 : ByteArray) (n_2 : Int) (n_3 : Bool) (n_4 : ByteArray) (n_5 : Sl) (most_6 : Int) (K : Value → H → Prop) : H → Prop :=
  alW (.cells ⟨[.string n_1, .int .i64 n_2, .bool n_3, .string n_4, .slice n_5.base n_5.len n_5.cap]⟩ 24 (0, 0)) (fun (b7 : Nat) =>
   letJ (T := Int → Option Addr → Int → Bool → H → Prop) (fun (most_9 : Int) (n_10 : Option Addr) (d_11 : Int) (x12 : Bool) =>
    brW x12
    (K (.int .i64 d_11))
    (ptrW n_10 (fun (b13 o14 : Nat) =>
      rdT (rdC b13 (o14 + 4)) kL (fun (x15 : Sl) =>
       loopW [.sc (.int .i64), .sc (.int .i64), .sc .slc, .sc (.int .i64), .sc (.int .i64)] (fun (R16 : Int → Int → Sl → Int → Int → H → Prop) => (fun (most_17 : Int) (d_18 : Int) (x19 : Sl) (x20 : Int) (x21 : Int) =>
         brW (decide ((x21 : Int) < x20))
         (ptrW x19.base (fun (b22 o23 : Nat) =>
           ifW (0 ≤ x21 ∧ x21 < ((x19.len : Nat) : Int))
           (rdT (rdA 5 b22 (o23 + x21.toNat * 5)) (.one (.agg [.str, (.int .i64), .bool, .str, .slc])) (fun (x24 : ByteArray) (x25 : Int) (x26 : Bool) (x27 : ByteArray) (x28 : Sl) =>
             alW (.cells ⟨[.string (⟨⟨[]⟩⟩ : ByteArray), .int .i64 0, .bool false, .string (⟨⟨[]⟩⟩ : ByteArray), .slice none 0 0]⟩ 24 (0, 0)) (fun (b29 : Nat) =>
              stW Tryz.prog 24 (.pointer (some ⟨b29, 0, none⟩)) (.agg ⟨[.string x24, .int .i64 x25, .bool x26, .string x27, .slice x28.base x28.len x28.cap]⟩) (rdT (rdA 5 b29 0) (.one (.agg [.str, (.int .i64), .bool, .str, .slc])) (fun (x30 : ByteArray) (x31 : Int) (x32 : Bool) (x33 : ByteArray) (x34 : Sl) =>
                callT Tryz.prog 177 [.agg ⟨[.string x30, .int .i64 x31, .bool x32, .string x33, .slice x34.base x34.len x34.cap]⟩, .int .i64 (IntKind.i64.wrap (most_17 - 1))] kI (fun (x35 : Int) =>
                 R16 most_17 (if (IntKind.i64.wrap (1 + x35)) > d_18 then (IntKind.i64.wrap (1 + x35)) else d_18) x19 x20 (IntKind.i64.wrap (x21 + 1))))))))))
         (K (.int .i64 d_18)))) (fun (R36 : Int → Int → Sl → Int → Int → H → Prop) => R36 most_9 d_11 x15 ((x15.len : Nat) : Int) 0))))) (fun j8 =>
    rdT (rdC b7 1) kI (fun (x37 : Int) =>
     brW ((x37 : Int) != 2)
     (j8 most_6 (some ⟨b7, 0, none⟩) 1 true)
     (j8 most_6 (some ⟨b7, 0, none⟩) 1 ((most_6 : Int) == 1)))))
theorem e177 (n_1 : ByteArray) (n_2 : Int) (n_3 : Bool) (n_4 : ByteArray) (n_5 : Sl) (most_6 : Int) (K : Value → H → Prop) : bodyF Tryz.prog tau Tryz.f177 an177 [.agg ⟨[.string n_1, .int .i64 n_2, .bool n_3, .string n_4, .slice n_5.base n_5.len n_5.cap]⟩, .int .i64 most_6] K = g177 n_1 n_2 n_3 n_4 n_5 most_6 K := by kernel_rfl
theorem c177 (n_1 : ByteArray) (n_2 : Int) (n_3 : Bool) (n_4 : ByteArray) (n_5 : Sl) (most_6 : Int) {K : Value → H → Prop} {σ : H} (h : g177 n_1 n_2 n_3 n_4 n_5 most_6 K σ) : callW Tryz.prog 177 [.agg ⟨[.string n_1, .int .i64 n_2, .bool n_3, .string n_4, .slice n_5.base n_5.len n_5.cap]⟩, .int .i64 most_6] K σ := call_of_body mixed Tryz.func177 (by rw [e177]; exact h)


/-- internal/stringslite.Index -/
def an180 : Ann := (.seq none (.reg [] []) (.seq none (.reg [] []) (.seq none (.blk (.seq (some [(0, .sc .str), (1, .sc .str), (5, .sc (.int .i64)), (16, .sc .bool)]) (.reg [] []) (.cond (.seq none (.reg [] []) .leaf) (.seq none (.reg [] []) (.cond (.seq none (.reg [] []) .leaf) (.seq none (.reg [] []) (.cond (.seq none (.reg [] []) .leaf) (.seq (some [(0, .sc .str), (1, .sc .str), (5, .sc (.int .i64)), (36, .sc .bool)]) (.reg [] []) (.cond (.seq none (.reg [] []) .leaf) .leaf))))))))) (.seq none (.reg [] []) (.seq none (.reg [] []) (.seq none (.reg [] []) (.seq none (.reg [] []) (.seq none (.reg [] []) (.seq none (.blk (.loop [(0, .sc .str), (1, .sc .str), (5, .sc (.int .i64)), (6, .sc (.int .u8)), (7, .sc (.int .u8)), (8, .sc (.int .i64)), (9, .sc (.int .i64)), (10, .sc (.int .i64))] (.seq none (.seq none (.reg [] []) (.cond .leaf .leaf)) (.blk (.seq (some [(0, .sc .str), (1, .sc .str), (5, .sc (.int .i64)), (6, .sc (.int .u8)), (7, .sc (.int .u8)), (8, .sc (.int .i64)), (9, .sc (.int .i64)), (10, .sc (.int .i64))]) (.seq none (.reg [] []) (.cond (.seq none (.reg [] []) (.seq none (.seq none (.reg [] []) (.cond (.seq none (.reg [] []) .leaf) .leaf)) (.reg [] []))) .leaf)) (.seq none (.seq (some [(0, .sc .str), (1, .sc .str), (5, .sc (.int .i64)), (6, .sc (.int .u8)), (7, .sc (.int .u8)), (8, .sc (.int .i64)), (9, .sc (.int .i64)), (10, .sc (.int .i64)), (85, .sc .raw), (86, .sc .raw), (87, .sc .raw), (88, .sc .raw), (89, .sc .raw), (90, .sc .raw), (91, .sc .raw), (92, .sc .raw), (93, .sc .bool)]) (.reg [] []) (.cond (.seq none (.reg [] []) .leaf) .leaf)) (.seq none (.reg [] []) (.seq none (.reg [] []) (.seq (some [(0, .sc .str), (1, .sc .str), (5, .sc (.int .i64)), (6, .sc (.int .u8)), (7, .sc (.int .u8)), (8, .sc (.int .i64)), (9, .sc (.int .i64)), (10, .sc (.int .i64)), (85, .sc .raw), (86, .sc .raw), (87, .sc .raw), (88, .sc .raw), (89, .sc .raw), (90, .sc .raw), (91, .sc .raw), (92, .sc .raw), (103, .sc .raw), (104, .sc .raw), (105, .sc .raw), (106, .sc .raw), (107, .sc .bool)]) (.reg [] []) (.cond (.seq none (.reg [] []) (.seq none (.seq none (.reg [] []) (.cond (.seq none (.reg [] []) .leaf) .leaf)) (.seq none (.reg [] []) .leaf))) (.seq (some [(0, .sc .str), (1, .sc .str), (5, .sc (.int .i64)), (6, .sc (.int .u8)), (7, .sc (.int .u8)), (8, .sc (.int .i64)), (9, .sc (.int .i64)), (10, .sc (.int .i64)), (85, .sc .raw), (86, .sc .raw), (87, .sc .raw), (88, .sc .raw), (89, .sc .raw), (90, .sc .raw), (91, .sc .raw), (92, .sc .raw), (103, .sc .raw), (104, .sc .raw), (105, .sc .raw), (106, .sc .raw), (122, .sc .raw), (123, .sc .raw), (124, .sc .raw), (125, .sc .raw), (126, .sc .raw), (129, .sc .raw), (130, .sc .raw), (131, .sc .raw), (132, .sc .bool)]) (.reg [] []) (.cond (.seq none (.reg [] []) (.seq none (.seq none (.reg [] []) (.cond (.seq none (.reg [] []) .leaf) .leaf)) (.seq none (.reg [] []) .leaf))) .leaf)))))))))))) (.seq none (.reg [] []) .leaf))))))))))
def g180 (s_1 : ByteArray) (substr_2 : ByteArray) (K : Value → H → Prop) : H → Prop :=
  letJ (T := ByteArray → ByteArray → Int → Bool → H → Prop) (fun (s_4 : ByteArray) (substr_5 : ByteArray) (n_6 : Int) (x7 : Bool) =>
   brW x7
   (K (.int .i64 0))
   (brW ((n_6 : Int) == 1)
    (idxW substr_5 0 (fun (c8 : UInt8) =>
      callT Tryz.prog 118 [.string s_4, .int .u8 (c8.toNat : Int)] kI (fun (x9 : Int) =>
       K (.int .i64 x9))))
    (brW (decide ((n_6 : Int) ≥ ((s_4.size : Nat) : Int)))
     (K (.int .i64 (-1)))
     (letJ (T := ByteArray → ByteArray → Int → Bool → H → Prop) (fun (s_11 : ByteArray) (substr_12 : ByteArray) (n_13 : Int) (x14 : Bool) =>
       brW x14
       (cvalT Tryz.prog (.func (.func 196) ⟨[]⟩ ⟨[]⟩) [.string s_11, .string substr_12] kI (fun (x15 : Int) =>
         K (.int .i64 x15)))
       (idxW substr_12 0 (fun (c16 : UInt8) =>
         idxW substr_12 1 (fun (c17 : UInt8) =>
          loopW [.sc .str, .sc .str, .sc (.int .i64), .sc (.int .u8), .sc (.int .u8), .sc (.int .i64), .sc (.int .i64), .sc (.int .i64)] (fun (R18 : ByteArray → ByteArray → Int → Int → Int → Int → Int → Int → H → Prop) => (fun (s_19 : ByteArray) (substr_20 : ByteArray) (n_21 : Int) (c0_22 : Int) (c1_23 : Int) (i_24 : Int) (t_25 : Int) (fails_26 : Int) =>
            brW (decide ((i_24 : Int) < t_25))
            (letJ (T := ByteArray → ByteArray → Int → Int → Int → Int → Int → Int → H → Prop) (fun (s_28 : ByteArray) (substr_29 : ByteArray) (n_30 : Int) (c0_31 : Int) (c1_32 : Int) (i_33 : Int) (t_34 : Int) (fails_35 : Int) =>
              letJ (T := ByteArray → ByteArray → Int → Int → Int → Int → Int → Int → Value → Value → Value → Value → Value → Value → Value → Value → Bool → H → Prop) (fun (s_37 : ByteArray) (substr_38 : ByteArray) (n_39 : Int) (c0_40 : Int) (c1_41 : Int) (i_42 : Int) (t_43 : Int) (fails_44 : Int) (x45 : Value) (x46 : Value) (x47 : Value) (x48 : Value) (x49 : Value) (x50 : Value) (x51 : Value) (x52 : Value) (x53 : Bool) =>
               brW x53
               (K (.int .i64 i_42))
               (letJ (T := ByteArray → ByteArray → Int → Int → Int → Int → Int → Int → Value → Value → Value → Value → Value → Value → Value → Value → Value → Value → Value → Value → Bool → H → Prop) (fun (s_55 : ByteArray) (substr_56 : ByteArray) (n_57 : Int) (c0_58 : Int) (c1_59 : Int) (i_60 : Int) (t_61 : Int) (fails_62 : Int) (x63 : Value) (x64 : Value) (x65 : Value) (x66 : Value) (x67 : Value) (x68 : Value) (x69 : Value) (x70 : Value) (x71 : Value) (x72 : Value) (x73 : Value) (x74 : Value) (x75 : Bool) =>
                 brW x75
                 (ifW (bndOk none s_55.size ∧ bndOk (some i_60) (s_55.size))
                  (cvalT Tryz.prog (.func (.func 196) ⟨[]⟩ ⟨[]⟩) [.string (s_55.extract i_60.toNat s_55.size), .string substr_56] kI (fun (x76 : Int) =>
                    brW (decide ((x76 : Int) ≥ 0))
                    (K (.int .i64 (IntKind.i64.wrap (x76 + i_60))))
                    (K (.int .i64 (-1))))))
                 (letJ (T := ByteArray → ByteArray → Int → Int → Int → Int → Int → Int → Value → Value → Value → Value → Value → Value → Value → Value → Value → Value → Value → Value → Value → Value → Value → Value → Value → Value → Value → Value → Bool → H → Prop) (fun (s_78 : ByteArray) (substr_79 : ByteArray) (n_80 : Int) (c0_81 : Int) (c1_82 : Int) (i_83 : Int) (t_84 : Int) (fails_85 : Int) (_x86 : Value) (_x87 : Value) (_x88 : Value) (_x89 : Value) (_x90 : Value) (_x91 : Value) (_x92 : Value) (_x93 : Value) (_x94 : Value) (_x95 : Value) (_x96 : Value) (_x97 : Value) (_x98 : Value) (_x99 : Value) (_x100 : Value) (_x101 : Value) (_x102 : Value) (_x103 : Value) (_x104 : Value) (_x105 : Value) (x106 : Bool) =>
                   brW x106
                   (ifW (bndOk none s_78.size ∧ bndOk (some i_83) (s_78.size))
                    (callT Tryz.prog 198 [.string (s_78.extract i_83.toNat s_78.size), .string substr_79] kI (fun (x107 : Int) =>
                      brW (decide ((x107 : Int) < 0))
                      (K (.int .i64 (-1)))
                      (K (.int .i64 (IntKind.i64.wrap (i_83 + x107)))))))
                   (R18 s_78 substr_79 n_80 c0_81 c1_82 i_83 t_84 fails_85)) (fun j77 =>
                   rdT (rdC 0 0) kI (fun (x108 : Int) =>
                    brW (decide ((n_57 : Int) > x108))
                    (ifW (0 ≤ (4 : Int))
                     (brW (decide ((fails_62 : Int) ≥ (IntKind.i64.wrap (4 + (Int.fdiv i_60 (2 ^ min (Int.toNat 4) (IntKind.bits .i64)))))))
                      (j77 s_55 substr_56 n_57 c0_58 c1_59 i_60 t_61 fails_62 x63 x64 x65 x66 x67 x68 x69 x70 x71 x72 x73 x74 (.int .i64 fails_62) (.int .i64 i_60) (.int .i64 (Int.fdiv i_60 (2 ^ min (Int.toNat 4) (IntKind.bits .i64)))) (.int .i64 (IntKind.i64.wrap (4 + (Int.fdiv i_60 (2 ^ min (Int.toNat 4) (IntKind.bits .i64)))))) (.bool (decide ((fails_62 : Int) ≥ (IntKind.i64.wrap (4 + (Int.fdiv i_60 (2 ^ min (Int.toNat 4) (IntKind.bits .i64)))))))) (.int .i64 i_60) (.int .i64 t_61) (.bool (decide ((i_60 : Int) < t_61))) (decide ((i_60 : Int) < t_61)))
                      (j77 s_55 substr_56 n_57 c0_58 c1_59 i_60 t_61 fails_62 x63 x64 x65 x66 x67 x68 x69 x70 x71 x72 x73 x74 (.int .i64 fails_62) (.int .i64 i_60) (.int .i64 (Int.fdiv i_60 (2 ^ min (Int.toNat 4) (IntKind.bits .i64)))) (.int .i64 (IntKind.i64.wrap (4 + (Int.fdiv i_60 (2 ^ min (Int.toNat 4) (IntKind.bits .i64)))))) (.bool (decide ((fails_62 : Int) ≥ (IntKind.i64.wrap (4 + (Int.fdiv i_60 (2 ^ min (Int.toNat 4) (IntKind.bits .i64)))))))) (.tuple ⟨[]⟩) (.tuple ⟨[]⟩) (.tuple ⟨[]⟩) false)))
                    (j77 s_55 substr_56 n_57 c0_58 c1_59 i_60 t_61 fails_62 x63 x64 x65 x66 x67 x68 x69 x70 x71 x72 x73 x74 (.tuple ⟨[]⟩) (.tuple ⟨[]⟩) (.tuple ⟨[]⟩) (.tuple ⟨[]⟩) (.tuple ⟨[]⟩) (.tuple ⟨[]⟩) (.tuple ⟨[]⟩) (.tuple ⟨[]⟩) false))))) (fun j54 =>
                 rdT (rdC 0 0) kI (fun (x109 : Int) =>
                  brW (decide ((n_39 : Int) ≤ x109))
                  (callT Tryz.prog 197 [.int .i64 (IntKind.i64.wrap (i_42 + 1))] kI (fun (x110 : Int) =>
                    j54 s_37 substr_38 n_39 c0_40 c1_41 (IntKind.i64.wrap (i_42 + 1)) t_43 (IntKind.i64.wrap (fails_44 + 1)) x45 x46 x47 x48 x49 x50 x51 x52 (.int .i64 (IntKind.i64.wrap (fails_44 + 1))) (.int .i64 (IntKind.i64.wrap (i_42 + 1))) (.int .i64 x110) (.bool (decide (((IntKind.i64.wrap (fails_44 + 1)) : Int) > x110))) (decide (((IntKind.i64.wrap (fails_44 + 1)) : Int) > x110))))
                  (j54 s_37 substr_38 n_39 c0_40 c1_41 (IntKind.i64.wrap (i_42 + 1)) t_43 (IntKind.i64.wrap (fails_44 + 1)) x45 x46 x47 x48 x49 x50 x51 x52 (.tuple ⟨[]⟩) (.tuple ⟨[]⟩) (.tuple ⟨[]⟩) (.tuple ⟨[]⟩) false))))) (fun j36 =>
               idxW s_28 (IntKind.i64.wrap (i_33 + 1)) (fun (c111 : UInt8) =>
                brW (((c111.toNat : Int) : Int) == c1_32)
                (ifW (bndOk (some (IntKind.i64.wrap (i_33 + n_30))) s_28.size ∧ bndOk (some i_33) ((IntKind.i64.wrap (i_33 + n_30)).toNat))
                 (j36 s_28 substr_29 n_30 c0_31 c1_32 i_33 t_34 fails_35 (.string s_28) (.int .i64 i_33) (.int .i64 i_33) (.int .i64 n_30) (.int .i64 (IntKind.i64.wrap (i_33 + n_30))) (.string (s_28.extract i_33.toNat ((IntKind.i64.wrap (i_33 + n_30)).toNat))) (.string substr_29) (.bool (strEq (s_28.extract i_33.toNat ((IntKind.i64.wrap (i_33 + n_30)).toNat)) substr_29)) (strEq (s_28.extract i_33.toNat ((IntKind.i64.wrap (i_33 + n_30)).toNat)) substr_29)))
                (j36 s_28 substr_29 n_30 c0_31 c1_32 i_33 t_34 fails_35 (.tuple ⟨[]⟩) (.tuple ⟨[]⟩) (.tuple ⟨[]⟩) (.tuple ⟨[]⟩) (.tuple ⟨[]⟩) (.tuple ⟨[]⟩) (.tuple ⟨[]⟩) (.tuple ⟨[]⟩) false)))) (fun j27 =>
              idxW s_19 i_24 (fun (c112 : UInt8) =>
               brW (((c112.toNat : Int) : Int) != c0_22)
               (ifW (bndOk (some t_25) s_19.size ∧ bndOk (some (IntKind.i64.wrap (i_24 + 1))) (t_25.toNat))
                (callT Tryz.prog 118 [.string (s_19.extract ((IntKind.i64.wrap (i_24 + 1)).toNat) t_25.toNat), .int .u8 c0_22] kI (fun (x113 : Int) =>
                  brW (decide ((x113 : Int) < 0))
                  (K (.int .i64 (-1)))
                  (j27 s_19 substr_20 n_21 c0_22 c1_23 (IntKind.i64.wrap (i_24 + (IntKind.i64.wrap (x113 + 1)))) t_25 fails_26))))
               (j27 s_19 substr_20 n_21 c0_22 c1_23 i_24 t_25 fails_26))))
            (K (.int .i64 (-1))))) (fun (R114 : ByteArray → ByteArray → Int → Int → Int → Int → Int → Int → H → Prop) => R114 s_11 substr_12 n_13 (c16.toNat : Int) (c17.toNat : Int) 0 (IntKind.i64.wrap ((IntKind.i64.wrap (((s_11.size : Nat) : Int) - n_13)) + 1)) 0))))) (fun j10 =>
       rdT (rdC 0 0) kI (fun (x115 : Int) =>
        brW (decide ((n_6 : Int) ≤ x115))
        (j10 s_4 substr_5 n_6 (decide ((((s_4.size : Nat) : Int) : Int) ≤ 64)))
        (j10 s_4 substr_5 n_6 false))))))) (fun j3 =>
   brW ((((substr_2.size : Nat) : Int) : Int) == 0)
   (j3 s_1 substr_2 ((substr_2.size : Nat) : Int) true)
   (j3 s_1 substr_2 ((substr_2.size : Nat) : Int) (strEq substr_2 s_1)))
theorem e180 (s_1 : ByteArray) (substr_2 : ByteArray) (K : Value → H → Prop) : bodyF Tryz.prog tau Tryz.f180 an180 [.string s_1, .string substr_2] K = g180 s_1 substr_2 K := by kernel_rfl
theorem c180 (s_1 : ByteArray) (substr_2 : ByteArray) {K : Value → H → Prop} {σ : H} (h : g180 s_1 substr_2 K σ) : callW Tryz.prog 180 [.string s_1, .string substr_2] K σ := call_of_body mixed Tryz.func180 (by rw [e180]; exact h)


/-- strings.IndexAny -/
def an187 : Ann := (.seq none (.reg [] []) (.seq none (.seq none (.reg [] []) (.cond (.seq none (.reg [] []) .leaf) .leaf)) (.seq none (.seq none (.reg [] []) (.cond (.seq none (.reg [] []) (.seq (some [(0, .sc .str), (5, .sc (.int .i32))]) (.seq none (.reg [] []) (.cond (.reg [] []) .leaf)) (.seq none (.reg [] []) .leaf))) .leaf)) (.seq (some [(0, .sc .str), (1, .sc .str)]) (.seq none (.reg [] []) (.cond (.seq none (.reg [] []) (.seq none (.reg [] []) (.cond (.seq none (.seq none (.reg [] []) (.blk (.loop [(0, .sc .str), (6, .sc .ptr), (8, .sc (.int .i64))] (.seq none (.seq none (.reg [] []) (.cond .leaf .leaf)) (.seq none (.blk (.seq none (.reg [] []) (.cond (.seq none (.reg [] []) .leaf) .leaf))) (.reg [] [])))))) (.seq none (.reg [] []) .leaf)) .leaf))) .leaf)) (.seq none (.seq none (.reg [] []) (.blk (.loop [(1, .sc .str), (45, .sc .ptr)] (.seq none (.reg [] []) (.seq none (.cond .leaf .leaf) (.blk (.seq none (.reg [] []) (.seq none (.reg [] []) (.cond (.seq none (.reg [] []) .leaf) .leaf))))))))) (.seq none (.reg [] []) .leaf))))))
def g187 (s_1 : ByteArray) (chars_2 : ByteArray) (K : Value → H → Prop) : H → Prop :=
  brW (strEq chars_2 (⟨⟨[]⟩⟩ : ByteArray))
  (K (.int .i64 (-1)))
  (brW ((((chars_2.size : Nat) : Int) : Int) == 1)
   (idxW chars_2 0 (fun (c3 : UInt8) =>
     letJ (T := ByteArray → Int → H → Prop) (fun (s_5 : ByteArray) (r_6 : Int) =>
      callT Tryz.prog 201 [.string s_5, .int .i32 r_6] kI (fun (x7 : Int) =>
       K (.int .i64 x7))) (fun j4 =>
      brW (decide (((IntKind.i32.wrap (c3.toNat : Int)) : Int) ≥ 128))
      (j4 s_1 65533)
      (j4 s_1 (IntKind.i32.wrap (c3.toNat : Int))))))
   (letJ (T := ByteArray → ByteArray → H → Prop) (fun (s_9 : ByteArray) (chars_10 : ByteArray) =>
     vaW Tryz.prog (Instr.range 9 (.string s_9)) kP (fun (x11 : Option Addr) =>
      loopW [.sc .str, .sc .ptr] (fun (R12 : ByteArray → Option Addr → H → Prop) => (fun (chars_13 : ByteArray) (x14 : Option Addr) =>
        vaW Tryz.prog (Instr.next (.pointer x14) true 0) (.opt [.sc (.int .i64), .sc (.int .i32)]) (K (.int .i64 (-1)),
         (fun (x15 : Int) (x16 : Int) =>
          callT Tryz.prog 201 [.string chars_13, .int .i32 x16] kI (fun (x17 : Int) =>
           brW (decide ((x17 : Int) ≥ 0))
           (K (.int .i64 x15))
           (R12 chars_13 x14)))))) (fun (R18 : ByteArray → Option Addr → H → Prop) => R18 chars_10 x11))) (fun j8 =>
     callT Tryz.prog 202 [.int .i64 ((s_1.size : Nat) : Int)] kB (fun (x19 : Bool) =>
      brW x19
      (callT Tryz.prog 203 [.string chars_2] (.tup [.sc .raw, .sc .bool]) (fun (x20 : Value) (x21 : Bool) =>
        alW (.cells ⟨[.bool false, .bool false, .bool false, .bool false, .bool false, .bool false, .bool false, .bool false, .bool false, .bool false, .bool false, .bool false, .bool false, .bool false, .bool false, .bool false, .bool false, .bool false, .bool false, .bool false, .bool false, .bool false, .bool false, .bool false, .bool false, .bool false, .bool false, .bool false, .bool false, .bool false, .bool false, .bool false, .bool false, .bool false, .bool false, .bool false, .bool false, .bool false, .bool false, .bool false, .bool false, .bool false, .bool false, .bool false, .bool false, .bool false, .bool false, .bool false, .bool false, .bool false, .bool false, .bool false, .bool false, .bool false, .bool false, .bool false, .bool false, .bool false, .bool false, .bool false, .bool false, .bool false, .bool false, .bool false, .bool false, .bool false, .bool false, .bool false, .bool false, .bool false, .bool false, .bool false, .bool false, .bool false, .bool false, .bool false, .bool false, .bool false, .bool false, .bool false, .bool false, .bool false, .bool false, .bool false, .bool false, .bool false, .bool false, .bool false, .bool false, .bool false, .bool false, .bool false, .bool false, .bool false, .bool false, .bool false, .bool false, .bool false, .bool false, .bool false, .bool false, .bool false, .bool false, .bool false, .bool false, .bool false, .bool false, .bool false, .bool false, .bool false, .bool false, .bool false, .bool false, .bool false, .bool false, .bool false, .bool false, .bool false, .bool false, .bool false, .bool false, .bool false, .bool false, .bool false, .bool false, .bool false, .bool false, .bool false, .bool false, .bool false, .bool false, .bool false, .bool false, .bool false, .bool false, .bool false, .bool false, .bool false, .bool false, .bool false, .bool false, .bool false, .bool false, .bool false, .bool false, .bool false, .bool false, .bool false, .bool false, .bool false, .bool false, .bool false, .bool false, .bool false, .bool false, .bool false, .bool false, .bool false, .bool false, .bool false, .bool false, .bool false, .bool false, .bool false, .bool false, .bool false, .bool false, .bool false, .bool false, .bool false, .bool false, .bool false, .bool false, .bool false, .bool false, .bool false, .bool false, .bool false, .bool false, .bool false, .bool false, .bool false, .bool false, .bool false, .bool false, .bool false, .bool false, .bool false, .bool false, .bool false, .bool false, .bool false, .bool false, .bool false, .bool false, .bool false, .bool false, .bool false, .bool false, .bool false, .bool false, .bool false, .bool false, .bool false, .bool false, .bool false, .bool false, .bool false, .bool false, .bool false, .bool false, .bool false, .bool false, .bool false, .bool false, .bool false, .bool false, .bool false, .bool false, .bool false, .bool false, .bool false, .bool false, .bool false, .bool false, .bool false, .bool false, .bool false, .bool false, .bool false, .bool false, .bool false, .bool false, .bool false, .bool false, .bool false, .bool false, .bool false, .bool false, .bool false, .bool false, .bool false, .bool false, .bool false, .bool false, .bool false, .bool false, .bool false, .bool false, .bool false, .bool false, .bool false, .bool false, .bool false, .bool false, .bool false]⟩ 220 (0, 0)) (fun (b22 : Nat) =>
         stW Tryz.prog 220 (.pointer (some ⟨b22, 0, none⟩)) (x20) (brW x21
          (loopW [.sc .str, .sc .ptr, .sc (.int .i64)] (fun (R23 : ByteArray → Option Addr → Int → H → Prop) => (fun (s_24 : ByteArray) (as_25 : Option Addr) (i_26 : Int) =>
             brW (decide ((i_26 : Int) < ((s_24.size : Nat) : Int)))
             (idxW s_24 i_26 (fun (c27 : UInt8) =>
               callT Tryz.prog 204 [.pointer as_25, .int .u8 (c27.toNat : Int)] kB (fun (x28 : Bool) =>
                brW x28
                (K (.int .i64 i_26))
                (R23 s_24 as_25 (IntKind.i64.wrap (i_26 + 1))))))
             (K (.int .i64 (-1))))) (fun (R29 : ByteArray → Option Addr → Int → H → Prop) => R29 s_1 (some ⟨b22, 0, none⟩) 0))
          (j8 s_1 chars_2)))))
      (j8 s_1 chars_2)))))
theorem e187 (s_1 : ByteArray) (chars_2 : ByteArray) (K : Value → H → Prop) : bodyF Tryz.prog tau Tryz.f187 an187 [.string s_1, .string chars_2] K = g187 s_1 chars_2 K := by kernel_rfl
theorem c187 (s_1 : ByteArray) (chars_2 : ByteArray) {K : Value → H → Prop} {σ : H} (h : g187 s_1 chars_2 K σ) : callW Tryz.prog 187 [.string s_1, .string chars_2] K σ := call_of_body mixed Tryz.func187 (by rw [e187]; exact h)


/-- slices.ContainsFunc   func() bool func() bool  -/
def an188 : Ann := (.seq none (.reg [] []) (.seq none (.reg [] []) .leaf))
def g188 (s_1 : Sl) (f_2 : Value) (K : Value → H → Prop) : H → Prop :=
  callT Tryz.prog 205 [.slice s_1.base s_1.len s_1.cap, f_2] kI (fun (x3 : Int) =>
   K (.bool (decide ((x3 : Int) ≥ 0))))
theorem e188 (s_1 : Sl) (f_2 : Value) (K : Value → H → Prop) : bodyF Tryz.prog tau Tryz.f188 an188 [.slice s_1.base s_1.len s_1.cap, f_2] K = g188 s_1 f_2 K := by kernel_rfl
theorem c188 (s_1 : Sl) (f_2 : Value) {K : Value → H → Prop} {σ : H} (h : g188 s_1 f_2 K σ) : callW Tryz.prog 188 [.slice s_1.base s_1.len s_1.cap, f_2] K σ := call_of_body mixed Tryz.func188 (by rw [e188]; exact h)


/-- whisk/tree.all$1 -/
def an189 : Ann := (.seq none (.reg [] []) (.seq none (.reg [] []) .leaf))
def g189 (is_1 : Value) (K : Value → H → Prop) : H → Prop :=
  cvalT Tryz.prog is_1 [] kB (fun (x2 : Bool) =>
   K (.bool (!x2)))
theorem e189 (is_1 : Value) (K : Value → H → Prop) : bodyF Tryz.prog tau Tryz.f189 an189 [is_1] K = g189 is_1 K := by kernel_rfl
theorem c189 (is_1 : Value) {K : Value → H → Prop} {σ : H} (h : g189 is_1 K σ) : callW Tryz.prog 189 [is_1] K σ := call_of_body mixed Tryz.func189 (by rw [e189]; exact h)

end Go.Proofs.YtlpcehbfoogejaaGreatDoor

set_option maxRecDepth 100000
namespace Go.Proofs.YtlpcehbfoogejaaGreatDoor
open Go Go.HL
/-- whisk/fs.names$1 -/
def an190 : Ann := (.seq none (.reg [] []) (.seq none (.reg [] []) (.seq (some [(2, .sc .ptr), (3, .sc .ptr), (4, .sc .ptr)]) (.seq none (.reg [] []) (.blk (.rf [.sc .str] (.reg [] []) (.blk (.seq none (.seq (some [(2, .sc .ptr), (3, .sc .ptr), (4, .sc .ptr), (5, .sc .str), (14, .sc .bool)]) (.reg [] []) (.cond .leaf .leaf)) (.seq none (.seq (some [(3, .sc .ptr), (4, .sc .ptr), (5, .sc .str), (21, .sc .bool)]) (.reg [] []) (.cond .leaf .leaf)) (.reg [] []))))))) (.seq none (.reg [] []) (.cond (.reg [] []) .leaf)))))
def g190 (yield_1 : Value) (x2 : Option Addr) (K : Value → H → Prop) : H → Prop :=
  oneK yield_1
  (alW (.cells ⟨[yield_1]⟩ 206 (0, 0)) (fun (b3 : Nat) =>
    alW (.cells ⟨[.string (⟨⟨[]⟩⟩ : ByteArray)]⟩ 9 (0, 0)) (fun (b4 : Nat) =>
     alW (.cells ⟨[.bool false]⟩ 4 (0, 0)) (fun (b5 : Nat) =>
      stW Tryz.prog 9 (.pointer (some ⟨b4, 0, none⟩)) (.string (⟨⟨[]⟩⟩ : ByteArray)) (stW Tryz.prog 4 (.pointer (some ⟨b5, 0, none⟩)) (.bool false) (letJ (T := Option Addr → Option Addr → Option Addr → H → Prop) (fun (yield_7 : Option Addr) (ahead_8 : Option Addr) (some_9 : Option Addr) =>
         ptrW some_9 (fun (b10 o11 : Nat) =>
          rdT (rdC b10 o11) kB (fun (x12 : Bool) =>
           brW x12
           (ptrW yield_7 (fun (b13 o14 : Nat) =>
             rdT (rdC b13 o14) kR (fun (x15 : Value) =>
              ptrW ahead_8 (fun (b16 o17 : Nat) =>
               rdT (rdC b16 o17) kS (fun (x18 : ByteArray) =>
                cvalT Tryz.prog x15 [.string x18, .bool true] kB (fun (_x19 : Bool) =>
                 K (.tuple ⟨[]⟩)))))))
           (K (.tuple ⟨[]⟩))))) (fun j6 =>
         ptrW x2 (fun (b20 o21 : Nat) =>
          rdT (rdC b20 o21) kS (fun (x22 : ByteArray) =>
           callT Tryz.prog 191 [.string x22, .string (⟨⟨[47]⟩⟩ : ByteArray)] kR (fun (x23 : Value) =>
            funW x23 (fun (g50 : FuncId) (as51 cs52 : List Value) =>
             rfW Tryz.prog none g50 as51 cs52 [.sc .str] (fun (l24 : Nat) (obj25 : LoopState → Option Code → Obj) (K26 : Value → H → Prop) => (fun (x27 : ByteArray) =>
               begW l24 obj25 (letJ (T := Option Addr → Option Addr → Option Addr → ByteArray → Bool → H → Prop) (fun (yield_29 : Option Addr) (ahead_30 : Option Addr) (some_31 : Option Addr) (s_32 : ByteArray) (x33 : Bool) =>
                 brW x33
                 (roundK l24 obj25 K26 none true .ready)
                 (letJ (T := Option Addr → Option Addr → ByteArray → Bool → H → Prop) (fun (ahead_35 : Option Addr) (some_36 : Option Addr) (s_37 : ByteArray) (x38 : Bool) =>
                   brW x38
                   (roundK l24 obj25 K26 (some .ret) false .done)
                   (stW Tryz.prog 9 (.pointer ahead_35) (.string s_37) (stW Tryz.prog 4 (.pointer some_36) (.bool true) (roundK l24 obj25 K26 none true .ready)))) (fun j34 =>
                   ptrW some_31 (fun (b39 o40 : Nat) =>
                    rdT (rdC b39 o40) kB (fun (x41 : Bool) =>
                     brW x41
                     (ptrW yield_29 (fun (b42 o43 : Nat) =>
                      rdT (rdC b42 o43) kR (fun (x44 : Value) =>
                      ptrW ahead_30 (fun (b45 o46 : Nat) =>
                      rdT (rdC b45 o46) kS (fun (x47 : ByteArray) =>
                      cvalT Tryz.prog x44 [.string x47, .bool false] kB (fun (x48 : Bool) =>
                      j34 ahead_30 some_31 s_32 (!x48)))))))
                     (j34 ahead_30 some_31 s_32 false)))))) (fun j28 =>
                 brW (strEq x27 (⟨⟨[]⟩⟩ : ByteArray))
                 (j28 (some ⟨b3, 0, none⟩) (some ⟨b4, 0, none⟩) (some ⟨b5, 0, none⟩) x27 true)
                 (j28 (some ⟨b3, 0, none⟩) (some ⟨b4, 0, none⟩) (some ⟨b5, 0, none⟩) x27 (strEq x27 (⟨⟨[46]⟩⟩ : ByteArray)))))))
             (j6 (some ⟨b3, 0, none⟩) (some ⟨b4, 0, none⟩) (some ⟨b5, 0, none⟩))
             (fun (i49 : Nat) => exW i49 0 (j6 (some ⟨b3, 0, none⟩) (some ⟨b4, 0, none⟩) (some ⟨b5, 0, none⟩)) (nW))
             (K (.tuple ⟨[]⟩)))))))))))))
theorem e190 (yield_1 : Value) (x2 : Option Addr) (K : Value → H → Prop) : bodyF Tryz.prog tau Tryz.f190 an190 [yield_1, .pointer x2] K = g190 yield_1 x2 K := by kernel_rfl
theorem c190 (yield_1 : Value) (x2 : Option Addr) {K : Value → H → Prop} {σ : H} (h : g190 yield_1 x2 K σ) : callW Tryz.prog 190 [yield_1, .pointer x2] K σ := call_of_body mixed Tryz.func190 (by rw [e190]; exact h)


/-- strings.SplitSeq -/
def an191 : Ann := (.seq none (.reg [] []) (.seq none (.reg [] []) .leaf))
def g191 (s_1 : ByteArray) (sep_2 : ByteArray) (K : Value → H → Prop) : H → Prop :=
  callT Tryz.prog 206 [.string s_1, .string sep_2, .int .i64 0] kR (fun (x3 : Value) =>
   K (x3))
theorem e191 (s_1 : ByteArray) (sep_2 : ByteArray) (K : Value → H → Prop) : bodyF Tryz.prog tau Tryz.f191 an191 [.string s_1, .string sep_2] K = g191 s_1 sep_2 K := by kernel_rfl
theorem c191 (s_1 : ByteArray) (sep_2 : ByteArray) {K : Value → H → Prop} {σ : H} (h : g191 s_1 sep_2 K σ) : callW Tryz.prog 191 [.string s_1, .string sep_2] K σ := call_of_body mixed Tryz.func191 (by rw [e191]; exact h)


/-- strings.IndexRune -/
def an201 : Ann := (.seq none (.reg [] []) (.blk (.seq (some [(0, .sc .str), (1, .sc (.int .i32)), (160, .sc .bool)]) (.reg [] []) (.cond (.seq none (.reg [] []) .leaf) (.seq none (.reg [] []) (.cond (.seq none (.seq none (.reg [] []) (.blk (.loop [(175, .sc .ptr)] (.seq none (.reg [] []) (.seq none (.cond .leaf .leaf) (.blk (.seq none (.reg [] []) (.seq none (.reg [] []) (.cond (.seq none (.reg [] []) .leaf) .leaf))))))))) (.seq none (.reg [] []) .leaf)) (.seq none (.reg [] []) (.cond (.seq none (.reg [] []) .leaf) (.blk (.seq none (.reg [] []) (.seq none (.reg [] []) (.seq none (.reg [] []) (.seq none (.reg [] []) (.seq none (.blk (.loop [(0, .sc .str), (7, .sc .str), (8, .sc (.int .i64)), (9, .sc (.int .i64))] (.seq none (.seq none (.reg [] []) (.cond .leaf .leaf)) (.blk (.blk (.seq (some [(0, .sc .str), (7, .sc .str), (8, .sc (.int .i64)), (9, .sc (.int .i64))]) (.seq none (.reg [0, 1, 2, 3, 4, 5, 6] [[], [], [0, 1], [], [], [3, 4], [0, 1, 2, 3, 4, 5]]) (.cond (.seq none (.reg [0, 1, 2, 3, 4, 5, 6, 7, 8] [[], [], [1], [0, 1, 2], [], [], [4, 5], [0, 1, 2, 3, 4, 5, 6], [0, 1, 2, 3, 4, 5, 6, 7]]) (.seq none (.seq none (.reg [] []) (.cond (.seq none (.reg [] []) .leaf) .leaf)) (.reg [] []))) .leaf)) (.seq none (.seq none (.reg [] []) (.blk (.loop [(0, .sc .str), (7, .sc .str), (8, .sc (.int .i64)), (9, .sc (.int .i64)), (12, .sc (.int .i64))] (.seq none (.seq none (.reg [] []) (.cond .leaf .leaf)) (.seq none (.blk (.seq none (.reg [0, 1, 2, 3, 4, 5, 6, 7, 8, 9, 10] [[], [], [], [1, 2], [0, 1, 2, 3], [], [], [], [6, 7], [5, 6, 7, 8], [0, 1, 2, 3, 4, 5, 6, 7, 8, 9]]) (.cond .leaf .leaf))) (.reg [] [])))))) (.seq none (.seq none (.reg [] []) .leaf) (.seq none .leaf (.seq none (.reg [] []) (.seq none (.reg [] []) (.seq none (.reg [] []) (.cond .leaf .leaf))))))))))))) (.seq none (.seq none (.reg [] []) .leaf) (.seq none .leaf (.seq none (.cond (.seq none (.reg [] []) (.seq none (.reg [] []) (.cond (.seq none (.reg [] []) .leaf) .leaf))) (.blk (.seq none (.reg [] []) (.seq none (.reg [] []) (.seq none .leaf (.blk (.loop [] (.seq none (.seq none (.reg [] []) (.cond .leaf .leaf)) (.seq none (.blk (.seq none (.reg [] []) (.cond (.seq none (.seq none (.reg [] []) (.blk (.loop [] (.seq none (.seq none (.reg [] []) (.cond .leaf .leaf)) (.seq none (.blk (.seq none (.reg [] []) (.cond .leaf .leaf))) (.reg [] [])))))) (.seq none (.reg [] []) .leaf)) .leaf))) (.reg [] [])))))))))) (.seq none (.reg [] []) .leaf))))))))))))))))))
def g201 (s_1 : ByteArray) (r_2 : Int) (K : Value → H → Prop) : H → Prop :=
  letJ (T := ByteArray → Int → Bool → H → Prop) (fun (s_4 : ByteArray) (r_5 : Int) (x6 : Bool) =>
   brW x6
   (callT Tryz.prog 65 [.string s_4, .int .u8 (IntKind.u8.wrap r_5)] kI (fun (x7 : Int) =>
     K (.int .i64 x7)))
   (brW ((r_5 : Int) == 65533)
    (vaW Tryz.prog (Instr.range 9 (.string s_4)) kP (fun (x8 : Option Addr) =>
      loopW [.sc .ptr] (fun (R9 : Option Addr → H → Prop) => (fun (x10 : Option Addr) =>
        vaW Tryz.prog (Instr.next (.pointer x10) true 0) (.opt [.sc (.int .i64), .sc (.int .i32)]) (K (.int .i64 (-1)),
         (fun (x11 : Int) (x12 : Int) =>
          brW ((x12 : Int) == 65533)
          (K (.int .i64 x11))
          (R9 x10))))) (fun (R13 : Option Addr → H → Prop) => R13 x8)))
    (callT Tryz.prog 221 [.int .i32 r_5] kB (fun (x14 : Bool) =>
      brW (!x14)
      (K (.int .i64 (-1)))
      (vaW Tryz.prog (convert 21 9 (.int .i32 r_5)) kS (fun (x15 : ByteArray) =>
        loopW [.sc .str, .sc .str, .sc (.int .i64), .sc (.int .i64)] (fun (R16 : ByteArray → ByteArray → Int → Int → H → Prop) => (fun (s_17 : ByteArray) (rs_18 : ByteArray) (last_19 : Int) (i_20 : Int) =>
          brW (decide ((i_20 : Int) < ((s_17.size : Nat) : Int)))
          (letJ (T := ByteArray → ByteArray → Int → Int → H → Prop) (fun (s_22 : ByteArray) (rs_23 : ByteArray) (last_24 : Int) (i_25 : Int) =>
            loopW [.sc .str, .sc .str, .sc (.int .i64), .sc (.int .i64), .sc (.int .i64)] (fun (R26 : ByteArray → ByteArray → Int → Int → Int → H → Prop) => (fun (s_27 : ByteArray) (rs_28 : ByteArray) (last_29 : Int) (i_30 : Int) (j_31 : Int) =>
              brW (decide ((j_31 : Int) < ((rs_28.size : Nat) : Int)))
              (idxW s_27 (IntKind.i64.wrap (i_30 - j_31)) (fun (c32 : UInt8) =>
                idxW rs_28 (IntKind.i64.wrap (last_29 - j_31)) (fun (c33 : UInt8) =>
                 brW (((c32.toNat : Int) : Int) != (c33.toNat : Int))
                 (nW)
                 (R26 s_27 rs_28 last_29 i_30 (IntKind.i64.wrap (j_31 + 1))))))
              (K (.int .i64 (IntKind.i64.wrap (i_30 - last_29)))))) (fun (R34 : ByteArray → ByteArray → Int → Int → Int → H → Prop) => R34 s_22 rs_23 last_24 i_25 1)) (fun j21 =>
            idxW s_17 i_20 (fun (c35 : UInt8) =>
             idxW rs_18 last_19 (fun (c36 : UInt8) =>
              brW (((c35.toNat : Int) : Int) != (c36.toNat : Int))
              (ifW (bndOk none s_17.size ∧ bndOk (some (IntKind.i64.wrap (i_20 + 1))) (s_17.size))
               (idxW rs_18 last_19 (fun (c37 : UInt8) =>
                 callT Tryz.prog 65 [.string (s_17.extract ((IntKind.i64.wrap (i_20 + 1)).toNat) s_17.size), .int .u8 (c37.toNat : Int)] kI (fun (x38 : Int) =>
                  brW (decide ((x38 : Int) < 0))
                  (K (.int .i64 (-1)))
                  (j21 s_17 rs_18 last_19 (IntKind.i64.wrap (i_20 + (IntKind.i64.wrap (x38 + 1)))))))))
              (j21 s_17 rs_18 last_19 i_20)))))
          (K (.int .i64 (-1))))) (fun (R39 : ByteArray → ByteArray → Int → Int → H → Prop) => R39 s_4 x15 (IntKind.i64.wrap (((x15.size : Nat) : Int) - 1)) (IntKind.i64.wrap (((x15.size : Nat) : Int) - 1))))))))) (fun j3 =>
   brW (decide ((0 : Int) ≤ r_2))
   (j3 s_1 r_2 (decide ((r_2 : Int) < 128)))
   (j3 s_1 r_2 false))
theorem e201 (s_1 : ByteArray) (r_2 : Int) (K : Value → H → Prop) : bodyF Tryz.prog tau Tryz.f201 an201 [.string s_1, .int .i32 r_2] K = g201 s_1 r_2 K := by kernel_rfl
theorem c201 (s_1 : ByteArray) (r_2 : Int) {K : Value → H → Prop} {σ : H} (h : g201 s_1 r_2 K σ) : callW Tryz.prog 201 [.string s_1, .int .i32 r_2] K σ := call_of_body mixed Tryz.func201 (by rw [e201]; exact h)


/-- strings.shouldUseASCIISet -/
def an202 : Ann := (.seq none (.reg [] []) (.seq none (.reg [] []) .leaf))
def g202 (bufLen_1 : Int) (K : Value → H → Prop) : H → Prop :=
  K (.bool (decide ((bufLen_1 : Int) > 8)))
theorem e202 (bufLen_1 : Int) (K : Value → H → Prop) : bodyF Tryz.prog tau Tryz.f202 an202 [.int .i64 bufLen_1] K = g202 bufLen_1 K := by kernel_rfl
theorem c202 (bufLen_1 : Int) {K : Value → H → Prop} {σ : H} (h : g202 bufLen_1 K σ) : callW Tryz.prog 202 [.int .i64 bufLen_1] K σ := call_of_body mixed Tryz.func202 (by rw [e202]; exact h)


/-- strings.makeASCIISet -/
def an203 : Ann := (.seq none (.reg [] []) (.seq none (.seq none (.reg [] []) (.blk (.loop [(0, .sc .str), (2, .sc .ptr), (4, .sc (.int .i64))] (.seq none (.seq none (.reg [] []) (.cond .leaf .leaf)) (.seq none (.blk (.seq none (.reg [] []) (.seq none (.seq none (.reg [] []) (.cond (.seq none (.reg [] []) .leaf) .leaf)) (.reg [] [])))) (.reg [] [])))))) (.seq none (.reg [] []) .leaf)))
def g203 (chars_1 : ByteArray) (K : Value → H → Prop) : H → Prop :=
  alW (.cells ⟨[.bool false, .bool false, .bool false, .bool false, .bool false, .bool false, .bool false, .bool false, .bool false, .bool false, .bool false, .bool false, .bool false, .bool false, .bool false, .bool false, .bool false, .bool false, .bool false, .bool false, .bool false, .bool false, .bool false, .bool false, .bool false, .bool false, .bool false, .bool false, .bool false, .bool false, .bool false, .bool false, .bool false, .bool false, .bool false, .bool false, .bool false, .bool false, .bool false, .bool false, .bool false, .bool false, .bool false, .bool false, .bool false, .bool false, .bool false, .bool false, .bool false, .bool false, .bool false, .bool false, .bool false, .bool false, .bool false, .bool false, .bool false, .bool false, .bool false, .bool false, .bool false, .bool false, .bool false, .bool false, .bool false, .bool false, .bool false, .bool false, .bool false, .bool false, .bool false, .bool false, .bool false, .bool false, .bool false, .bool false, .bool false, .bool false, .bool false, .bool false, .bool false, .bool false, .bool false, .bool false, .bool false, .bool false, .bool false, .bool false, .bool false, .bool false, .bool false, .bool false, .bool false, .bool false, .bool false, .bool false, .bool false, .bool false, .bool false, .bool false, .bool false, .bool false, .bool false, .bool false, .bool false, .bool false, .bool false, .bool false, .bool false, .bool false, .bool false, .bool false, .bool false, .bool false, .bool false, .bool false, .bool false, .bool false, .bool false, .bool false, .bool false, .bool false, .bool false, .bool false, .bool false, .bool false, .bool false, .bool false, .bool false, .bool false, .bool false, .bool false, .bool false, .bool false, .bool false, .bool false, .bool false, .bool false, .bool false, .bool false, .bool false, .bool false, .bool false, .bool false, .bool false, .bool false, .bool false, .bool false, .bool false, .bool false, .bool false, .bool false, .bool false, .bool false, .bool false, .bool false, .bool false, .bool false, .bool false, .bool false, .bool false, .bool false, .bool false, .bool false, .bool false, .bool false, .bool false, .bool false, .bool false, .bool false, .bool false, .bool false, .bool false, .bool false, .bool false, .bool false, .bool false, .bool false, .bool false, .bool false, .bool false, .bool false, .bool false, .bool false, .bool false, .bool false, .bool false, .bool false, .bool false, .bool false, .bool false, .bool false, .bool false, .bool false, .bool false, .bool false, .bool false, .bool false, .bool false, .bool false, .bool false, .bool false, .bool false, .bool false, .bool false, .bool false, .bool false, .bool false, .bool false, .bool false, .bool false, .bool false, .bool false, .bool false, .bool false, .bool false, .bool false, .bool false, .bool false, .bool false, .bool false, .bool false, .bool false, .bool false, .bool false, .bool false, .bool false, .bool false, .bool false, .bool false, .bool false, .bool false, .bool false, .bool false, .bool false, .bool false, .bool false, .bool false, .bool false, .bool false, .bool false, .bool false, .bool false, .bool false, .bool false, .bool false, .bool false, .bool false, .bool false, .bool false, .bool false, .bool false, .bool false, .bool false, .bool false, .bool false]⟩ 220 (0, 0)) (fun (b2 : Nat) =>
   loopW [.sc .str, .sc .ptr, .sc (.int .i64)] (fun (R3 : ByteArray → Option Addr → Int → H → Prop) => (fun (chars_4 : ByteArray) (as_5 : Option Addr) (i_6 : Int) =>
     brW (decide ((i_6 : Int) < ((chars_4.size : Nat) : Int)))
     (idxW chars_4 i_6 (fun (c7 : UInt8) =>
       brW (decide (((c7.toNat : Int) : Int) ≥ 128))
       (ptrW as_5 (fun (b8 o9 : Nat) =>
         rdT (rdA 256 b8 o9) kR (fun (x10 : Value) =>
          stW Tryz.prog 220 (.pointer as_5) (x10) (ptrW as_5 (fun (b11 o12 : Nat) =>
            rdT (rdA 256 b11 o12) kR (fun (r13 : Value) =>
             K (.tuple ⟨[r13, .bool false]⟩)))))))
       (ptrW as_5 (fun (b14 o15 : Nat) =>
         ifW (0 ≤ (c7.toNat : Int) ∧ (c7.toNat : Int) < ((256 : Nat) : Int))
         (stW Tryz.prog 4 (.pointer (some ⟨b14, o15 + ((c7.toNat : Int) : Int).toNat * 1, none⟩)) (.bool true) (R3 chars_4 as_5 (IntKind.i64.wrap (i_6 + 1))))))))
     (ptrW as_5 (fun (b16 o17 : Nat) =>
       rdT (rdA 256 b16 o17) kR (fun (x18 : Value) =>
        stW Tryz.prog 220 (.pointer as_5) (x18) (ptrW as_5 (fun (b19 o20 : Nat) =>
          rdT (rdA 256 b19 o20) kR (fun (r21 : Value) =>
           K (.tuple ⟨[r21, .bool true]⟩))))))))) (fun (R22 : ByteArray → Option Addr → Int → H → Prop) => R22 chars_1 (some ⟨b2, 0, none⟩) 0))
theorem e203 (chars_1 : ByteArray) (K : Value → H → Prop) : bodyF Tryz.prog tau Tryz.f203 an203 [.string chars_1] K = g203 chars_1 K := by kernel_rfl
theorem c203 (chars_1 : ByteArray) {K : Value → H → Prop} {σ : H} (h : g203 chars_1 K σ) : callW Tryz.prog 203 [.string chars_1] K σ := call_of_body mixed Tryz.func203 (by rw [e203]; exact h)


/-- (*strings.asciiSet).contains -/
def an204 : Ann := (.seq none (.reg [] []) (.seq none (.reg [] []) .leaf))
def g204 (as_1 : Option Addr) (c_2 : Int) (K : Value → H → Prop) : H → Prop :=
  ptrW as_1 (fun (b3 o4 : Nat) =>
   ifW (0 ≤ c_2 ∧ c_2 < ((256 : Nat) : Int))
   (rdT (rdC b3 (o4 + c_2.toNat * 1)) kB (fun (x5 : Bool) =>
     K (.bool x5))))
theorem e204 (as_1 : Option Addr) (c_2 : Int) (K : Value → H → Prop) : bodyF Tryz.prog tau Tryz.f204 an204 [.pointer as_1, .int .u8 c_2] K = g204 as_1 c_2 K := by kernel_rfl
theorem c204 (as_1 : Option Addr) (c_2 : Int) {K : Value → H → Prop} {σ : H} (h : g204 as_1 c_2 K σ) : callW Tryz.prog 204 [.pointer as_1, .int .u8 c_2] K σ := call_of_body mixed Tryz.func204 (by rw [e204]; exact h)


/-- slices.IndexFunc   func() bool func() bool  -/
def an205 : Ann := (.seq none (.reg [] []) (.seq none (.seq none (.reg [] []) (.blk (.loop [(0, .sc .slc), (1, .sc .raw), (7, .sc (.int .i64)), (8, .sc (.int .i64))] (.seq none (.reg [] []) (.seq none (.cond .leaf .leaf) (.seq none (.blk (.seq none (.reg [] []) (.seq none (.reg [] []) (.cond (.seq none (.reg [] []) .leaf) .leaf)))) (.reg [] []))))))) (.seq none (.reg [] []) .leaf)))
def g205 (s_1 : Sl) (f_2 : Value) (K : Value → H → Prop) : H → Prop :=
  loopW [.sc .slc, .sc .raw, .sc (.int .i64), .sc (.int .i64)] (fun (R3 : Sl → Value → Int → Int → H → Prop) => (fun (s_4 : Sl) (f_5 : Value) (x6 : Int) (x7 : Int) =>
    brW (decide ((x7 : Int) < x6))
    (ptrW s_4.base (fun (b8 o9 : Nat) =>
      ifW (0 ≤ x7 ∧ x7 < ((s_4.len : Nat) : Int))
      (rdT (rdC b8 (o9 + x7.toNat * 1)) kR (fun (x10 : Value) =>
        cvalT Tryz.prog f_5 [x10] kB (fun (x11 : Bool) =>
         brW x11
         (K (.int .i64 x7))
         (R3 s_4 f_5 x6 (IntKind.i64.wrap (x7 + 1))))))))
    (K (.int .i64 (-1))))) (fun (R12 : Sl → Value → Int → Int → H → Prop) => R12 s_1 f_2 ((s_1.len : Nat) : Int) 0)
theorem e205 (s_1 : Sl) (f_2 : Value) (K : Value → H → Prop) : bodyF Tryz.prog tau Tryz.f205 an205 [.slice s_1.base s_1.len s_1.cap, f_2] K = g205 s_1 f_2 K := by kernel_rfl
theorem c205 (s_1 : Sl) (f_2 : Value) {K : Value → H → Prop} {σ : H} (h : g205 s_1 f_2 K σ) : callW Tryz.prog 205 [.slice s_1.base s_1.len s_1.cap, f_2] K σ := call_of_body mixed Tryz.func205 (by rw [e205]; exact h)


/-- strings.splitSeq -/
def an206 : Ann := (.seq none (.reg [] []) (.seq none (.reg [] []) .leaf))
def g206 (s_1 : ByteArray) (sep_2 : ByteArray) (sepSave_3 : Int) (K : Value → H → Prop) : H → Prop :=
  alW (.cells ⟨[.string s_1]⟩ 9 (0, 0)) (fun (b4 : Nat) =>
   alW (.cells ⟨[.string sep_2]⟩ 9 (0, 0)) (fun (b5 : Nat) =>
    alW (.cells ⟨[.int .i64 sepSave_3]⟩ 3 (0, 0)) (fun (b6 : Nat) =>
     K (.func (.func 222) ⟨[]⟩ ⟨[.pointer (some ⟨b5, 0, none⟩), .pointer (some ⟨b4, 0, none⟩), .pointer (some ⟨b6, 0, none⟩)]⟩))))
theorem e206 (s_1 : ByteArray) (sep_2 : ByteArray) (sepSave_3 : Int) (K : Value → H → Prop) : bodyF Tryz.prog tau Tryz.f206 an206 [.string s_1, .string sep_2, .int .i64 sepSave_3] K = g206 s_1 sep_2 sepSave_3 K := by kernel_rfl
theorem c206 (s_1 : ByteArray) (sep_2 : ByteArray) (sepSave_3 : Int) {K : Value → H → Prop} {σ : H} (h : g206 s_1 sep_2 sepSave_3 K σ) : callW Tryz.prog 206 [.string s_1, .string sep_2, .int .i64 sepSave_3] K σ := call_of_body mixed Tryz.func206 (by rw [e206]; exact h)


/-- unicode/utf8.ValidRune -/
def an221 : Ann := (.seq none (.reg [] []) (.seq none (.blk (.seq (some [(0, .sc (.int .i32)), (3, .sc .bool)]) (.reg [] []) (.cond (.seq none (.reg [] []) .leaf) (.seq (some [(10, .sc .bool)]) (.reg [] []) (.cond (.seq none (.reg [] []) .leaf) .leaf))))) (.seq none (.reg [] []) .leaf)))
def g221 (r_1 : Int) (K : Value → H → Prop) : H → Prop :=
  letJ (T := Int → Bool → H → Prop) (fun (r_3 : Int) (x4 : Bool) =>
   brW x4
   (K (.bool true))
   (letJ (T := Bool → H → Prop) (fun (x6 : Bool) =>
     brW x6
     (K (.bool true))
     (K (.bool false))) (fun j5 =>
     brW (decide ((57343 : Int) < r_3))
     (j5 (decide ((r_3 : Int) ≤ 1114111)))
     (j5 false)))) (fun j2 =>
   brW (decide ((0 : Int) ≤ r_1))
   (j2 r_1 (decide ((r_1 : Int) < 55296)))
   (j2 r_1 false))
theorem e221 (r_1 : Int) (K : Value → H → Prop) : bodyF Tryz.prog tau Tryz.f221 an221 [.int .i32 r_1] K = g221 r_1 K := by kernel_rfl
theorem c221 (r_1 : Int) {K : Value → H → Prop} {σ : H} (h : g221 r_1 K σ) : callW Tryz.prog 221 [.int .i32 r_1] K σ := call_of_body mixed Tryz.func221 (by rw [e221]; exact h)


/-- strings.splitSeq$1 -/
def an222 : Ann := (.seq none (.seq none (.reg [] []) (.cond (.seq none (.blk (.loop [(0, .sc .raw), (2, .sc .ptr)] (.seq none (.seq none (.reg [] []) (.cond .leaf .leaf)) (.blk (.seq none (.reg [] []) (.seq none (.seq none (.reg [] []) (.cond .leaf .leaf)) (.reg [] []))))))) .leaf) .leaf)) (.seq none (.blk (.loop [(0, .sc .raw), (1, .sc .ptr), (2, .sc .ptr), (3, .sc .ptr)] (.blk (.seq none (.reg [] []) (.seq none (.seq none (.reg [] []) (.cond .leaf .leaf)) (.seq none (.reg [] []) (.seq none (.seq none (.reg [] []) (.cond .leaf .leaf)) (.reg [] [])))))))) (.reg [] [])))
def g222 (yield_1 : Value) (x2 : Option Addr) (x3 : Option Addr) (x4 : Option Addr) (K : Value → H → Prop) : H → Prop :=
  ptrW x2 (fun (b5 o6 : Nat) =>
   rdT (rdC b5 o6) kS (fun (x7 : ByteArray) =>
    brW ((((x7.size : Nat) : Int) : Int) == 0)
    (loopW [.sc .raw, .sc .ptr] (fun (R8 : Value → Option Addr → H → Prop) => (fun (yield_9 : Value) (x10 : Option Addr) =>
       ptrW x10 (fun (b11 o12 : Nat) =>
        rdT (rdC b11 o12) kS (fun (x13 : ByteArray) =>
         brW (decide ((((x13.size : Nat) : Int) : Int) > 0))
         (ptrW x10 (fun (b14 o15 : Nat) =>
           rdT (rdC b14 o15) kS (fun (x16 : ByteArray) =>
            callT Tryz.prog 131 [.string x16] (.tup [.sc (.int .i32), .sc (.int .i64)]) (fun (_x17 : Int) (x18 : Int) =>
             ptrW x10 (fun (b19 o20 : Nat) =>
              rdT (rdC b19 o20) kS (fun (x21 : ByteArray) =>
               ifW (bndOk (some x18) x21.size ∧ bndOk none (x18.toNat))
               (cvalT Tryz.prog yield_9 [.string (x21.extract 0 x18.toNat)] kB (fun (x22 : Bool) =>
                 brW (!x22)
                 (K (.tuple ⟨[]⟩))
                 (ptrW x10 (fun (b23 o24 : Nat) =>
                   rdT (rdC b23 o24) kS (fun (x25 : ByteArray) =>
                    ifW (bndOk none x25.size ∧ bndOk (some x18) (x25.size))
                    (stW Tryz.prog 9 (.pointer x10) (.string (x25.extract x18.toNat x25.size)) (R8 yield_9 x10)))))))))))))
         (K (.tuple ⟨[]⟩)))))) (fun (R26 : Value → Option Addr → H → Prop) => R26 yield_1 x3))
    (loopW [.sc .raw, .sc .ptr, .sc .ptr, .sc .ptr] (fun (R27 : Value → Option Addr → Option Addr → Option Addr → H → Prop) => (fun (yield_28 : Value) (x29 : Option Addr) (x30 : Option Addr) (x31 : Option Addr) =>
       ptrW x30 (fun (b32 o33 : Nat) =>
        rdT (rdC b32 o33) kS (fun (x34 : ByteArray) =>
         ptrW x29 (fun (b35 o36 : Nat) =>
          rdT (rdC b35 o36) kS (fun (x37 : ByteArray) =>
           callT Tryz.prog 130 [.string x34, .string x37] kI (fun (x38 : Int) =>
            brW (decide ((x38 : Int) < 0))
            (ptrW x30 (fun (b39 o40 : Nat) =>
              rdT (rdC b39 o40) kS (fun (x41 : ByteArray) =>
               cvalT Tryz.prog yield_28 [.string x41] kB (fun (_x42 : Bool) =>
                K (.tuple ⟨[]⟩)))))
            (ptrW x30 (fun (b43 o44 : Nat) =>
              rdT (rdC b43 o44) kS (fun (x45 : ByteArray) =>
               ptrW x31 (fun (b46 o47 : Nat) =>
                rdT (rdC b46 o47) kI (fun (x48 : Int) =>
                 ifW (bndOk (some (IntKind.i64.wrap (x38 + x48))) x45.size ∧ bndOk none ((IntKind.i64.wrap (x38 + x48)).toNat))
                 (cvalT Tryz.prog yield_28 [.string (x45.extract 0 ((IntKind.i64.wrap (x38 + x48)).toNat))] kB (fun (x49 : Bool) =>
                   brW (!x49)
                   (K (.tuple ⟨[]⟩))
                   (ptrW x30 (fun (b50 o51 : Nat) =>
                     rdT (rdC b50 o51) kS (fun (x52 : ByteArray) =>
                      ptrW x29 (fun (b53 o54 : Nat) =>
                      rdT (rdC b53 o54) kS (fun (x55 : ByteArray) =>
                      ifW (bndOk none x52.size ∧ bndOk (some (IntKind.i64.wrap (x38 + ((x55.size : Nat) : Int)))) (x52.size))
                      (stW Tryz.prog 9 (.pointer x30) (.string (x52.extract ((IntKind.i64.wrap (x38 + ((x55.size : Nat) : Int))).toNat) x52.size)) (R27 yield_28 x29 x30 x31))))))))))))))))))))) (fun (R56 : Value → Option Addr → Option Addr → Option Addr → H → Prop) => R56 yield_1 x2 x3 x4))))
theorem e222 (yield_1 : Value) (x2 : Option Addr) (x3 : Option Addr) (x4 : Option Addr) (K : Value → H → Prop) : bodyF Tryz.prog tau Tryz.f222 an222 [yield_1, .pointer x2, .pointer x3, .pointer x4] K = g222 yield_1 x2 x3 x4 K := by kernel_rfl
theorem c222 (yield_1 : Value) (x2 : Option Addr) (x3 : Option Addr) (x4 : Option Addr) {K : Value → H → Prop} {σ : H} (h : g222 yield_1 x2 x3 x4 K σ) : callW Tryz.prog 222 [yield_1, .pointer x2, .pointer x3, .pointer x4] K σ := call_of_body mixed Tryz.func222 (by rw [e222]; exact h)

end Go.Proofs.YtlpcehbfoogejaaGreatDoor

/- Typed parts are handed on. -/
namespace Go.Proofs.YtlpcehbfoogejaaGreatDoor
open Go Go.HL
theorem ap0 {σ : H} {x1 : Int} {x2 : Int} {x3 : ByteArray} {x4 : Int} {F : TK.Fn (.one (.agg [(.int .i64), (.int .i64), .str, (.int .i64)])) (H → Prop)} (h : F x1 x2 x3 x4 σ) : app (.one (.agg [(.int .i64), (.int .i64), .str, (.int .i64)])) F (.agg ⟨[.int .i64 x1, .int .i64 x2, .string x3, .int .i64 x4]⟩) σ := h
theorem ap1 {σ : H} {x1 : Int} {x2 : Int} {F : TK.Fn (.one (.agg [(.int .i64), (.int .i64)])) (H → Prop)} (h : F x1 x2 σ) : app (.one (.agg [(.int .i64), (.int .i64)])) F (.agg ⟨[.int .i64 x1, .int .i64 x2]⟩) σ := h
theorem ap2 {σ : H} {x1 : Int} {x2 : ByteArray} {x3 : Int} {x4 : Bool} {F : TK.Fn (.one (.agg [(.int .i64), .str, (.int .i64), .bool])) (H → Prop)} (h : F x1 x2 x3 x4 σ) : app (.one (.agg [(.int .i64), .str, (.int .i64), .bool])) F (.agg ⟨[.int .i64 x1, .string x2, .int .i64 x3, .bool x4]⟩) σ := h
theorem ap3 {σ : H} {x1 : Int} {x2 : ByteArray} {x3 : Int} {F : TK.Fn (.one (.agg [(.int .i64), .str, (.int .i64)])) (H → Prop)} (h : F x1 x2 x3 σ) : app (.one (.agg [(.int .i64), .str, (.int .i64)])) F (.agg ⟨[.int .i64 x1, .string x2, .int .i64 x3]⟩) σ := h
theorem ap4 {σ : H} {x1 : Int} {x2 : Int} {F : TK.Fn (.one (.agg [(.int .u8), (.int .u8)])) (H → Prop)} (h : F x1 x2 σ) : app (.one (.agg [(.int .u8), (.int .u8)])) F (.agg ⟨[.int .u8 x1, .int .u8 x2]⟩) σ := h
theorem ap5 {σ : H} {x1 : Int} {x2 : ByteArray} {x3 : ByteArray} {x4 : Int} {F : TK.Fn (.one (.agg [(.int .u8), .str, .str, (.int .i64)])) (H → Prop)} (h : F x1 x2 x3 x4 σ) : app (.one (.agg [(.int .u8), .str, .str, (.int .i64)])) F (.agg ⟨[.int .u8 x1, .string x2, .string x3, .int .i64 x4]⟩) σ := h
theorem ap6 {σ : H} {x1 : Int} {x2 : ByteArray} {x3 : ByteArray} {x4 : ByteArray} {x5 : Int} {x6 : Bool} {F : TK.Fn (.one (.agg [(.int .u8), .str, .str, .str, (.int .i64), .bool])) (H → Prop)} (h : F x1 x2 x3 x4 x5 x6 σ) : app (.one (.agg [(.int .u8), .str, .str, .str, (.int .i64), .bool])) F (.agg ⟨[.int .u8 x1, .string x2, .string x3, .string x4, .int .i64 x5, .bool x6]⟩) σ := h
theorem ap7 {σ : H} {x1 : Option Addr} {F : TK.Fn (.one (.agg [.ptr])) (H → Prop)} (h : F x1 σ) : app (.one (.agg [.ptr])) F (.agg ⟨[.pointer x1]⟩) σ := h
theorem ap8 {σ : H} {x1 : ByteArray} {x2 : Int} {x3 : Bool} {x4 : ByteArray} {x5b : Option Addr} {x5l x5c : Nat} {F : TK.Fn (.one (.agg [.str, (.int .i64), .bool, .str, .slc])) (H → Prop)} (h : F x1 x2 x3 x4 ⟨x5b, x5l, x5c⟩ σ) : app (.one (.agg [.str, (.int .i64), .bool, .str, .slc])) F (.agg ⟨[.string x1, .int .i64 x2, .bool x3, .string x4, .slice x5b x5l x5c]⟩) σ := h
theorem ap9 {σ : H} {x1 : ByteArray} {x2 : Int} {F : TK.Fn (.one (.agg [.str, (.int .i64)])) (H → Prop)} (h : F x1 x2 σ) : app (.one (.agg [.str, (.int .i64)])) F (.agg ⟨[.string x1, .int .i64 x2]⟩) σ := h
theorem ap10 {σ : H} {x1 : Int} {F : TK.Fn (.one (.sc (.int .u64))) (H → Prop)} (h : F x1 σ) : app (.one (.sc (.int .u64))) F (.int .u64 x1) σ := h
theorem ap11 {σ : H} {x1 : Int} {x2 : Int} {x3 : ByteArray} {x4 : Int} {x5 : Int} {F : TK.Fn (.tup [.agg [(.int .i64), (.int .i64), .str, (.int .i64)], .sc (.int .i64)]) (H → Prop)} (h : F x1 x2 x3 x4 x5 σ) : app (.tup [.agg [(.int .i64), (.int .i64), .str, (.int .i64)], .sc (.int .i64)]) F (.tuple ⟨[.agg ⟨[.int .i64 x1, .int .i64 x2, .string x3, .int .i64 x4]⟩, .int .i64 x5]⟩) σ := h
theorem ap12 {σ : H} {x1 : Int} {x2 : Int} {x3 : ByteArray} {x4 : Int} {x5 : Bool} {F : TK.Fn (.tup [.agg [(.int .i64), (.int .i64), .str, (.int .i64)], .sc .bool]) (H → Prop)} (h : F x1 x2 x3 x4 x5 σ) : app (.tup [.agg [(.int .i64), (.int .i64), .str, (.int .i64)], .sc .bool]) F (.tuple ⟨[.agg ⟨[.int .i64 x1, .int .i64 x2, .string x3, .int .i64 x4]⟩, .bool x5]⟩) σ := h
theorem ap13 {σ : H} {x1 : Int} {x2 : ByteArray} {x3 : Int} {x4 : Bool} {x5 : Int} {x6 : ByteArray} {x7 : Int} {x8 : Bool} {x9 : Int} {F : TK.Fn (.tup [.agg [(.int .i64), .str, (.int .i64), .bool], .agg [(.int .i64), .str, (.int .i64), .bool], .sc (.int .i64)]) (H → Prop)} (h : F x1 x2 x3 x4 x5 x6 x7 x8 x9 σ) : app (.tup [.agg [(.int .i64), .str, (.int .i64), .bool], .agg [(.int .i64), .str, (.int .i64), .bool], .sc (.int .i64)]) F (.tuple ⟨[.agg ⟨[.int .i64 x1, .string x2, .int .i64 x3, .bool x4]⟩, .agg ⟨[.int .i64 x5, .string x6, .int .i64 x7, .bool x8]⟩, .int .i64 x9]⟩) σ := h
theorem ap14 {σ : H} {x1 : Int} {x2 : ByteArray} {x3 : Int} {x4 : Bool} {x5 : Int} {F : TK.Fn (.tup [.agg [(.int .i64), .str, (.int .i64), .bool], .sc (.int .i64)]) (H → Prop)} (h : F x1 x2 x3 x4 x5 σ) : app (.tup [.agg [(.int .i64), .str, (.int .i64), .bool], .sc (.int .i64)]) F (.tuple ⟨[.agg ⟨[.int .i64 x1, .string x2, .int .i64 x3, .bool x4]⟩, .int .i64 x5]⟩) σ := h
theorem ap15 {σ : H} {x1 : Int} {x2 : ByteArray} {x3 : Int} {x4 : Int} {F : TK.Fn (.tup [.agg [(.int .i64), .str, (.int .i64)], .sc (.int .i64)]) (H → Prop)} (h : F x1 x2 x3 x4 σ) : app (.tup [.agg [(.int .i64), .str, (.int .i64)], .sc (.int .i64)]) F (.tuple ⟨[.agg ⟨[.int .i64 x1, .string x2, .int .i64 x3]⟩, .int .i64 x4]⟩) σ := h
theorem ap16 {σ : H} {x1 : ByteArray} {x2 : Int} {x3 : Bool} {x4 : ByteArray} {x5b : Option Addr} {x5l x5c : Nat} {x6 : Int} {F : TK.Fn (.tup [.agg [.str, (.int .i64), .bool, .str, .slc], .sc (.int .i64)]) (H → Prop)} (h : F x1 x2 x3 x4 ⟨x5b, x5l, x5c⟩ x6 σ) : app (.tup [.agg [.str, (.int .i64), .bool, .str, .slc], .sc (.int .i64)]) F (.tuple ⟨[.agg ⟨[.string x1, .int .i64 x2, .bool x3, .string x4, .slice x5b x5l x5c]⟩, .int .i64 x6]⟩) σ := h
theorem ap17 {σ : H} {x1 : Int} {x2 : Int} {F : TK.Fn (.tup [.sc (.int .i32), .sc (.int .i64)]) (H → Prop)} (h : F x1 x2 σ) : app (.tup [.sc (.int .i32), .sc (.int .i64)]) F (.tuple ⟨[.int .i32 x1, .int .i64 x2]⟩) σ := h
theorem ap18 {σ : H} {x1 : Int} {x2 : Int} {F : TK.Fn (.tup [.sc (.int .i64), .sc (.int .i64)]) (H → Prop)} (h : F x1 x2 σ) : app (.tup [.sc (.int .i64), .sc (.int .i64)]) F (.tuple ⟨[.int .i64 x1, .int .i64 x2]⟩) σ := h
theorem ap19 {σ : H} {x1 : Int} {x2 : Bool} {F : TK.Fn (.tup [.sc (.int .i64), .sc .bool]) (H → Prop)} (h : F x1 x2 σ) : app (.tup [.sc (.int .i64), .sc .bool]) F (.tuple ⟨[.int .i64 x1, .bool x2]⟩) σ := h
theorem ap20 {σ : H} {x1 : Int} {x2 : Value} {F : TK.Fn (.tup [.sc (.int .i64), .sc .raw]) (H → Prop)} (h : F x1 x2 σ) : app (.tup [.sc (.int .i64), .sc .raw]) F (.tuple ⟨[.int .i64 x1, x2]⟩) σ := h
theorem ap21 {σ : H} {x1 : Int} {x2 : Int} {F : TK.Fn (.tup [.sc (.int .u32), .sc (.int .u32)]) (H → Prop)} (h : F x1 x2 σ) : app (.tup [.sc (.int .u32), .sc (.int .u32)]) F (.tuple ⟨[.int .u32 x1, .int .u32 x2]⟩) σ := h
theorem ap22 {σ : H} {x1 : Int} {x2 : Int} {F : TK.Fn (.tup [.sc (.int .u64), .sc (.int .u64)]) (H → Prop)} (h : F x1 x2 σ) : app (.tup [.sc (.int .u64), .sc (.int .u64)]) F (.tuple ⟨[.int .u64 x1, .int .u64 x2]⟩) σ := h
theorem ap23 {σ : H} {x1 : Value} {x2 : Bool} {F : TK.Fn (.tup [.sc .raw, .sc .bool]) (H → Prop)} (h : F x1 x2 σ) : app (.tup [.sc .raw, .sc .bool]) F (.tuple ⟨[x1, .bool x2]⟩) σ := h
theorem ap24 {σ : H} {x1b : Option Addr} {x1l x1c : Nat} {x2 : Int} {F : TK.Fn (.tup [.sc .slc, .sc (.int .i64)]) (H → Prop)} (h : F ⟨x1b, x1l, x1c⟩ x2 σ) : app (.tup [.sc .slc, .sc (.int .i64)]) F (.tuple ⟨[.slice x1b x1l x1c, .int .i64 x2]⟩) σ := h
theorem ap25 {σ : H} {x1 : ByteArray} {x2 : Int} {F : TK.Fn (.tup [.sc .str, .sc (.int .i64)]) (H → Prop)} (h : F x1 x2 σ) : app (.tup [.sc .str, .sc (.int .i64)]) F (.tuple ⟨[.string x1, .int .i64 x2]⟩) σ := h

end Go.Proofs.YtlpcehbfoogejaaGreatDoor

/- THE TABLE OF INODES: how it lies in memory; what is read of it. -/
set_option maxRecDepth 100000
namespace Go.Proofs.YtlpcehbfoogejaaGreatDoor
open Go Go.HL Go.Wk
attribute [local irreducible] ptrW ifW brW andW rdT alW letJ stW muW biW vaW imW callT cvalT app callW invW callVW sizeT oW nilF oneK loopW rfW funW begW roundK exW idxW Gr Put
/-- an inode, with where it lies -/
structure Nd where
  blk : Nat
  kind : Int
  mode : Int
  data : ByteArray
  links : Int
  up : Int
  eb : Option Nat
  ents : List (ByteArray × Int)
structure Tb where
  qi : Int
  qb : Int
  ui : Int
  ub : Int
  last : Int
  mb : Nat
  nodes : List (Int × Nd)
def Nd.cells (n : Nd) : Obj := .cells ⟨[.int .i64 n.kind, .int .i64 n.mode, .string n.data, .int .i64 n.links, .int .i64 n.up, .map n.eb]⟩ 142 (0, 0)
def Nd.ptr (n : Nd) : Value := .pointer (some ⟨n.blk, 0, none⟩)
def Tb.cells (T : Tb) : Obj := .cells ⟨[.int .i64 T.qi, .int .i64 T.qb, .int .i64 T.ui, .int .i64 T.ub, .map (some T.mb), .int .i64 T.last]⟩ 145 (0, 0)
def valI (n : Int) : Value := .int .i64 n
structure NdAt (σ : H) (n : Nd) : Prop where
  cells : σ n.blk = some n.cells
  ents : ∀ e, n.eb = some e → MapAt σ e (encL kkS valI n.ents)
  none : n.eb = none → n.ents = []
  dir : n.kind = 2 → n.eb ≠ Option.none
def Tb.get (T : Tb) (ino : Int) : Option Nd := lk ino T.nodes
structure TAt (σ : H) (bt : Nat) (T : Tb) : Prop where
  cells : σ bt = some T.cells
  nodes : MapAt σ T.mb (encL kkI Nd.ptr T.nodes)
  each : ∀ i n, T.get i = some n → NdAt σ n
theorem NdAt.gr {σ σ' : H} {n : Nd} (h : NdAt σ n) (hg : Gr σ σ') : NdAt σ' n := ⟨hg.get h.cells, fun e he => (h.ents e he).gr hg, h.none, h.dir⟩
theorem TAt.gr {σ σ' : H} {bt : Nat} {T : Tb} (h : TAt σ bt T) (hg : Gr σ σ') : TAt σ' bt T := ⟨hg.get h.cells, h.nodes.gr hg, fun i n hn => (h.each i n hn).gr hg⟩
theorem TAt.get {σ : H} {bt : Nat} {T : Tb} (h : TAt σ bt T) {ino : Int} {n : Nd} (hn : T.get ino = some n) : NdAt σ n := h.each ino n hn
theorem get_ptr (o : Option Nd) : (o.map Nd.ptr).getD (.pointer none) = .pointer (o.map fun n => ⟨n.blk, 0, none⟩) := by cases o <;> rfl

/-- get -/
theorem s_get {σ : H} {bt : Nat} {T : Tb} (hT : TAt σ bt T) (ino : Int) {K : Value → H → Prop} (hK : K (.pointer ((T.get ino).map fun n => ⟨n.blk, 0, none⟩)) σ) : callW Tryz.prog 115 [.pointer (some ⟨bt, 0, none⟩), .int .i64 ino] K σ := by
  refine c115 _ _ ?_
  unfold g115
  refine br_f rfl ?_
  refine ptr_i ?_
  refine rd_M (rdC_of hT.cells (by rfl)) ?_
  refine rd_P (x := (T.get ino).map fun n => ⟨n.blk, 0, none⟩) ?_ hK
  rw [← get_ptr]
  exact rdM_at (kk := kkI) hT.nodes _ false ino
theorem s_get_nil (ino : Int) {σ : H} {K : Value → H → Prop} (hK : K (.pointer none) σ) : callW Tryz.prog 115 [.pointer none, .int .i64 ino] K σ := by
  refine c115 _ _ ?_
  unfold g115
  exact br_t rfl hK

def Tb.find (T : Tb) (dir : Int) (name : ByteArray) : Option Int := (T.get dir).bind fun n => lk name n.ents
/-- Find -/
theorem s_Find {σ : H} {bt : Nat} {T : Tb} (hT : TAt σ bt T) (dir : Int) (name : ByteArray) {K : Value → H → Prop} (hK : K (.tuple ⟨[.int .i64 ((T.find dir name).getD 0), .bool (T.find dir name).isSome]⟩) σ) :
    callW Tryz.prog 102 [.pointer (some ⟨bt, 0, none⟩), .int .i64 dir, .string name] K σ := by
  refine c102 _ _ _ ?_
  unfold g102
  refine call_i (s_get hT dir ?_)
  refine app_P ?_
  unfold Tb.find at hK
  cases hn : T.get dir with
  | none => rw [hn] at hK; exact br_t rfl hK
  | some n =>
    rw [hn] at hK
    have hN := hT.get hn
    refine br_f rfl (ptr_i ?_)
    refine rd_M (rdC_of hN.cells (by rfl)) ?_
    cases he : n.eb with
    | none =>
      have := hN.none he
      simp only [Option.bind_some, this] at hK
      exact rd_G rfl (app_IB hK)
    | some e =>
      refine rd_G (rdM_at (kk := kkS) (hN.ents e he) _ true name) ?_
      have hv : ((lk name n.ents).map valI).getD (.int .i64 0) = .int .i64 ((lk name n.ents).getD 0) := by cases lk name n.ents <;> rfl
      rw [hv]
      exact app_IB hK
/-- must -/
theorem s_must (is : Bool) (e : Int) {σ : H} {K : Value → H → Prop} (hK : K (.int .i64 (if is then 0 else e)) σ) : callW Tryz.prog 104 [.bool is, .int .i64 e] K σ := by
  refine c104 _ _ ?_
  unfold g104
  cases is
  · exact br_t rfl hK
  · exact br_f rfl hK
/-- there -/
theorem s_there (t : Option Addr) {σ : H} {K : Value → H → Prop} (hK : K (.int .i64 (if t.isSome then 0 else 1)) σ) : callW Tryz.prog 106 [.pointer t] K σ := by
  refine c106 _ ?_
  unfold g106
  refine call_i (s_must _ _ ?_)
  refine app_I ?_
  cases t <;> exact hK
/-- Up -/
def Tb.up (T : Tb) (dir : Int) : Int := ((T.get dir).map (·.up)).getD 0
theorem s_Up {σ : H} {bt : Nat} {T : Tb} (hT : TAt σ bt T) (dir : Int) {K : Value → H → Prop} (hK : K (.int .i64 (T.up dir)) σ) : callW Tryz.prog 101 [.pointer (some ⟨bt, 0, none⟩), .int .i64 dir] K σ := by
  refine c101 _ _ ?_
  unfold g101
  refine call_i (s_get hT dir (app_P ?_))
  unfold Tb.up at hK
  cases hn : T.get dir with
  | none => rw [hn] at hK; exact br_t rfl hK
  | some n =>
    rw [hn] at hK
    have hN := hT.get hn
    refine br_f rfl (ptr_i ?_)
    exact rd_I (rdC_of hN.cells (by rfl)) hK
/-- Root -/
theorem s_Root (bt : Addr) {σ : H} {K : Value → H → Prop} (hK : K (.int .i64 1) σ) : callW Tryz.prog 100 [.pointer (some bt)] K σ := by
  refine c100 _ ?_
  unfold g100
  exact br_f rfl hK

/-- dir: a directory? -/
def Tb.dirE (T : Tb) (ino : Int) : Int := match T.get ino with
  | none => 5
  | some n => if n.kind == 2 then 0 else 8
theorem s_dir1 {σ : H} {bt : Nat} {T : Tb} (hT : TAt σ bt T) {b1 b2 : Nat} {ino : Int} {t1 t2 : TypeId} (h1 : σ b1 = some (.cells ⟨[.pointer (some ⟨bt, 0, none⟩)]⟩ t1 (0, 0))) (h2 : σ b2 = some (.cells ⟨[.int .i64 ino]⟩ t2 (0, 0))) {K : Value → H → Prop}
    (hK : K (.int .i64 (T.dirE ino)) σ) : callW Tryz.prog 155 [.pointer (some ⟨b1, 0, none⟩), .pointer (some ⟨b2, 0, none⟩)] K σ := by
  refine c155 _ _ ?_
  unfold g155
  (repeat (first | refine ptr_i ?_ | refine rdT_of (by repeat (first | assumption | refine gG ‹_› ?_ | exact pE ‹_› | refine pG ‹_› (by first | assumption | exact Ne.symm ‹_› | exact ne_fr ‹_› (by repeat (first | exact io ‹_› | exact mS ‹_› | refine gS ‹_› ?_ | refine pS ‹_› ?_)) | exact Ne.symm (ne_fr ‹_› (by repeat (first | exact io ‹_› | exact mS ‹_› | refine gS ‹_› ?_ | refine pS ‹_› ?_)))) ?_)) (by rfl) ?_ | (refine al_i ?_; intro _ _ _ _ _) | refine and_i (rdC_of (by repeat (first | assumption | refine gG ‹_› ?_ | exact pE ‹_› | refine pG ‹_› (by first | assumption | exact Ne.symm ‹_› | exact ne_fr ‹_› (by repeat (first | exact io ‹_› | exact mS ‹_› | refine gS ‹_› ?_ | refine pS ‹_› ?_)) | exact Ne.symm (ne_fr ‹_› (by repeat (first | exact io ‹_› | exact mS ‹_› | refine gS ‹_› ?_ | refine pS ‹_› ?_)))) ?_)) (by rfl)) ?_ | refine rdA_i (by repeat (first | assumption | refine gG ‹_› ?_ | exact pE ‹_› | refine pG ‹_› (by first | assumption | exact Ne.symm ‹_› | exact ne_fr ‹_› (by repeat (first | exact io ‹_› | exact mS ‹_› | refine gS ‹_› ?_ | refine pS ‹_› ?_)) | exact Ne.symm (ne_fr ‹_› (by repeat (first | exact io ‹_› | exact mS ‹_› | refine gS ‹_› ?_ | refine pS ‹_› ?_)))) ?_)) (by rfl) ?_ | (refine st_i2 (by repeat (first | assumption | refine gG ‹_› ?_ | exact pE ‹_› | refine pG ‹_› (by first | assumption | exact Ne.symm ‹_› | exact ne_fr ‹_› (by repeat (first | exact io ‹_› | exact mS ‹_› | refine gS ‹_› ?_ | refine pS ‹_› ?_)) | exact Ne.symm (ne_fr ‹_› (by repeat (first | exact io ‹_› | exact mS ‹_› | refine gS ‹_› ?_ | refine pS ‹_› ?_)))) ?_)) (by first | exact sz_int | exact sz_string | exact sz_bool | exact sz_Inode | exact sz_Quota | exact sz_MSI | exact sz_place | exact sz_Errno) (by rfl) (by rfl) ?_; intro _ _) | refine app_P ?_ | refine app_I ?_ | refine app_S ?_ | refine app_B ?_ | refine app_M ?_ | refine app_L ?_ | refine app_U ?_ | refine app_R ?_ | (refine app_of rfl ?_; try dsimp only)))
  refine call_i (s_get hT ino (app_P ?_))
  unfold Tb.dirE at hK
  cases hn : T.get ino with
  | none => rw [hn] at hK; exact br_t rfl hK
  | some n =>
    rw [hn] at hK
    have hN := hT.get hn
    refine br_f rfl (ptr_i ?_)
    refine rd_I (rdC_of hN.cells (by rfl)) ?_
    exact call_i (s_must _ _ (app_I hK))
theorem s_free1 {σ : H} {bt : Nat} {T : Tb} (hT : TAt σ bt T) {b1 b2 b3 : Nat} {dir : Int} {name : ByteArray} {t1 t2 t3 : TypeId} (h1 : σ b1 = some (.cells ⟨[.pointer (some ⟨bt, 0, none⟩)]⟩ t1 (0, 0))) (h2 : σ b2 = some (.cells ⟨[.int .i64 dir]⟩ t2 (0, 0))) (h3 : σ b3 = some (.cells ⟨[.string name]⟩ t3 (0, 0))) {K : Value → H → Prop}
    (hK : K (.int .i64 (if (T.find dir name).isSome then 6 else 0)) σ) : callW Tryz.prog 158 [.pointer (some ⟨b1, 0, none⟩), .pointer (some ⟨b2, 0, none⟩), .pointer (some ⟨b3, 0, none⟩)] K σ := by
  refine c158 _ _ _ ?_
  unfold g158
  (repeat (first | refine ptr_i ?_ | refine rdT_of (by repeat (first | assumption | refine gG ‹_› ?_ | exact pE ‹_› | refine pG ‹_› (by first | assumption | exact Ne.symm ‹_› | exact ne_fr ‹_› (by repeat (first | exact io ‹_› | exact mS ‹_› | refine gS ‹_› ?_ | refine pS ‹_› ?_)) | exact Ne.symm (ne_fr ‹_› (by repeat (first | exact io ‹_› | exact mS ‹_› | refine gS ‹_› ?_ | refine pS ‹_› ?_)))) ?_)) (by rfl) ?_ | (refine al_i ?_; intro _ _ _ _ _) | refine and_i (rdC_of (by repeat (first | assumption | refine gG ‹_› ?_ | exact pE ‹_› | refine pG ‹_› (by first | assumption | exact Ne.symm ‹_› | exact ne_fr ‹_› (by repeat (first | exact io ‹_› | exact mS ‹_› | refine gS ‹_› ?_ | refine pS ‹_› ?_)) | exact Ne.symm (ne_fr ‹_› (by repeat (first | exact io ‹_› | exact mS ‹_› | refine gS ‹_› ?_ | refine pS ‹_› ?_)))) ?_)) (by rfl)) ?_ | refine rdA_i (by repeat (first | assumption | refine gG ‹_› ?_ | exact pE ‹_› | refine pG ‹_› (by first | assumption | exact Ne.symm ‹_› | exact ne_fr ‹_› (by repeat (first | exact io ‹_› | exact mS ‹_› | refine gS ‹_› ?_ | refine pS ‹_› ?_)) | exact Ne.symm (ne_fr ‹_› (by repeat (first | exact io ‹_› | exact mS ‹_› | refine gS ‹_› ?_ | refine pS ‹_› ?_)))) ?_)) (by rfl) ?_ | (refine st_i2 (by repeat (first | assumption | refine gG ‹_› ?_ | exact pE ‹_› | refine pG ‹_› (by first | assumption | exact Ne.symm ‹_› | exact ne_fr ‹_› (by repeat (first | exact io ‹_› | exact mS ‹_› | refine gS ‹_› ?_ | refine pS ‹_› ?_)) | exact Ne.symm (ne_fr ‹_› (by repeat (first | exact io ‹_› | exact mS ‹_› | refine gS ‹_› ?_ | refine pS ‹_› ?_)))) ?_)) (by first | exact sz_int | exact sz_string | exact sz_bool | exact sz_Inode | exact sz_Quota | exact sz_MSI | exact sz_place | exact sz_Errno) (by rfl) (by rfl) ?_; intro _ _) | refine app_P ?_ | refine app_I ?_ | refine app_S ?_ | refine app_B ?_ | refine app_M ?_ | refine app_L ?_ | refine app_U ?_ | refine app_R ?_ | (refine app_of rfl ?_; try dsimp only)))
  refine call_i (s_Find hT dir name (app_IB ?_))
  refine call_i (s_must _ _ (app_I ?_))
  cases h : (T.find dir name).isSome <;> simpa [h] using hK
theorem s_entry1 {σ : H} {bt : Nat} {T : Tb} (hT : TAt σ bt T) {b1 b2 b3 : Nat} {dir : Int} {name : ByteArray} {t1 t2 t3 : TypeId} (h1 : σ b1 = some (.cells ⟨[.pointer (some ⟨bt, 0, none⟩)]⟩ t1 (0, 0))) (h2 : σ b2 = some (.cells ⟨[.int .i64 dir]⟩ t2 (0, 0))) (h3 : σ b3 = some (.cells ⟨[.string name]⟩ t3 (0, 0))) {K : Value → H → Prop}
    (hK : K (.int .i64 (if (T.find dir name).isSome then 0 else 5)) σ) : callW Tryz.prog 174 [.pointer (some ⟨b1, 0, none⟩), .pointer (some ⟨b2, 0, none⟩), .pointer (some ⟨b3, 0, none⟩)] K σ := by
  refine c174 _ _ _ ?_
  unfold g174
  (repeat (first | refine ptr_i ?_ | refine rdT_of (by repeat (first | assumption | refine gG ‹_› ?_ | exact pE ‹_› | refine pG ‹_› (by first | assumption | exact Ne.symm ‹_› | exact ne_fr ‹_› (by repeat (first | exact io ‹_› | exact mS ‹_› | refine gS ‹_› ?_ | refine pS ‹_› ?_)) | exact Ne.symm (ne_fr ‹_› (by repeat (first | exact io ‹_› | exact mS ‹_› | refine gS ‹_› ?_ | refine pS ‹_› ?_)))) ?_)) (by rfl) ?_ | (refine al_i ?_; intro _ _ _ _ _) | refine and_i (rdC_of (by repeat (first | assumption | refine gG ‹_› ?_ | exact pE ‹_› | refine pG ‹_› (by first | assumption | exact Ne.symm ‹_› | exact ne_fr ‹_› (by repeat (first | exact io ‹_› | exact mS ‹_› | refine gS ‹_› ?_ | refine pS ‹_› ?_)) | exact Ne.symm (ne_fr ‹_› (by repeat (first | exact io ‹_› | exact mS ‹_› | refine gS ‹_› ?_ | refine pS ‹_› ?_)))) ?_)) (by rfl)) ?_ | refine rdA_i (by repeat (first | assumption | refine gG ‹_› ?_ | exact pE ‹_› | refine pG ‹_› (by first | assumption | exact Ne.symm ‹_› | exact ne_fr ‹_› (by repeat (first | exact io ‹_› | exact mS ‹_› | refine gS ‹_› ?_ | refine pS ‹_› ?_)) | exact Ne.symm (ne_fr ‹_› (by repeat (first | exact io ‹_› | exact mS ‹_› | refine gS ‹_› ?_ | refine pS ‹_› ?_)))) ?_)) (by rfl) ?_ | (refine st_i2 (by repeat (first | assumption | refine gG ‹_› ?_ | exact pE ‹_› | refine pG ‹_› (by first | assumption | exact Ne.symm ‹_› | exact ne_fr ‹_› (by repeat (first | exact io ‹_› | exact mS ‹_› | refine gS ‹_› ?_ | refine pS ‹_› ?_)) | exact Ne.symm (ne_fr ‹_› (by repeat (first | exact io ‹_› | exact mS ‹_› | refine gS ‹_› ?_ | refine pS ‹_› ?_)))) ?_)) (by first | exact sz_int | exact sz_string | exact sz_bool | exact sz_Inode | exact sz_Quota | exact sz_MSI | exact sz_place | exact sz_Errno) (by rfl) (by rfl) ?_; intro _ _) | refine app_P ?_ | refine app_I ?_ | refine app_S ?_ | refine app_B ?_ | refine app_M ?_ | refine app_L ?_ | refine app_U ?_ | refine app_R ?_ | (refine app_of rfl ?_; try dsimp only)))
  refine call_i (s_Find hT dir name (app_IB ?_))
  exact call_i (s_must _ _ (app_I hK))
def Tb.fileE (T : Tb) (ino : Int) : Int := match T.get ino with
  | none => 5
  | some n => if n.kind == 2 then 7 else if n.kind == 1 then 0 else 2
theorem s_file1 {σ : H} {bt : Nat} {T : Tb} (hT : TAt σ bt T) {b1 b2 : Nat} {ino : Int} {t1 t2 : TypeId} (h1 : σ b1 = some (.cells ⟨[.pointer (some ⟨bt, 0, none⟩)]⟩ t1 (0, 0))) (h2 : σ b2 = some (.cells ⟨[.int .i64 ino]⟩ t2 (0, 0))) {K : Value → H → Prop}
    (hK : K (.int .i64 (T.fileE ino)) σ) : callW Tryz.prog 169 [.pointer (some ⟨b1, 0, none⟩), .pointer (some ⟨b2, 0, none⟩)] K σ := by
  refine c169 _ _ ?_
  unfold g169
  (repeat (first | refine ptr_i ?_ | refine rdT_of (by repeat (first | assumption | refine gG ‹_› ?_ | exact pE ‹_› | refine pG ‹_› (by first | assumption | exact Ne.symm ‹_› | exact ne_fr ‹_› (by repeat (first | exact io ‹_› | exact mS ‹_› | refine gS ‹_› ?_ | refine pS ‹_› ?_)) | exact Ne.symm (ne_fr ‹_› (by repeat (first | exact io ‹_› | exact mS ‹_› | refine gS ‹_› ?_ | refine pS ‹_› ?_)))) ?_)) (by rfl) ?_ | (refine al_i ?_; intro _ _ _ _ _) | refine and_i (rdC_of (by repeat (first | assumption | refine gG ‹_› ?_ | exact pE ‹_› | refine pG ‹_› (by first | assumption | exact Ne.symm ‹_› | exact ne_fr ‹_› (by repeat (first | exact io ‹_› | exact mS ‹_› | refine gS ‹_› ?_ | refine pS ‹_› ?_)) | exact Ne.symm (ne_fr ‹_› (by repeat (first | exact io ‹_› | exact mS ‹_› | refine gS ‹_› ?_ | refine pS ‹_› ?_)))) ?_)) (by rfl)) ?_ | refine rdA_i (by repeat (first | assumption | refine gG ‹_› ?_ | exact pE ‹_› | refine pG ‹_› (by first | assumption | exact Ne.symm ‹_› | exact ne_fr ‹_› (by repeat (first | exact io ‹_› | exact mS ‹_› | refine gS ‹_› ?_ | refine pS ‹_› ?_)) | exact Ne.symm (ne_fr ‹_› (by repeat (first | exact io ‹_› | exact mS ‹_› | refine gS ‹_› ?_ | refine pS ‹_› ?_)))) ?_)) (by rfl) ?_ | (refine st_i2 (by repeat (first | assumption | refine gG ‹_› ?_ | exact pE ‹_› | refine pG ‹_› (by first | assumption | exact Ne.symm ‹_› | exact ne_fr ‹_› (by repeat (first | exact io ‹_› | exact mS ‹_› | refine gS ‹_› ?_ | refine pS ‹_› ?_)) | exact Ne.symm (ne_fr ‹_› (by repeat (first | exact io ‹_› | exact mS ‹_› | refine gS ‹_› ?_ | refine pS ‹_› ?_)))) ?_)) (by first | exact sz_int | exact sz_string | exact sz_bool | exact sz_Inode | exact sz_Quota | exact sz_MSI | exact sz_place | exact sz_Errno) (by rfl) (by rfl) ?_; intro _ _) | refine app_P ?_ | refine app_I ?_ | refine app_S ?_ | refine app_B ?_ | refine app_M ?_ | refine app_L ?_ | refine app_U ?_ | refine app_R ?_ | (refine app_of rfl ?_; try dsimp only)))
  refine call_i (s_get hT ino (app_P ?_))
  unfold Tb.fileE at hK
  cases hn : T.get ino with
  | none => rw [hn] at hK; exact br_t rfl hK
  | some n =>
    rw [hn] at hK
    have hN := hT.get hn
    refine br_f rfl (ptr_i ?_)
    refine rd_I (rdC_of hN.cells (by rfl)) ?_
    cases hk : (n.kind == 2) with
    | true => simp only [hk] at hK; exact br_t rfl hK
    | false =>
      simp only [hk] at hK
      refine br_f rfl (ptr_i ?_)
      refine rd_I (rdC_of hN.cells (by rfl)) ?_
      exact call_i (s_must _ _ (app_I hK))
theorem sz_int : sizeT Tryz.prog 3 = some 1 := by kernel_rfl
theorem sz_string : sizeT Tryz.prog 9 = some 1 := by kernel_rfl
theorem sz_bool : sizeT Tryz.prog 4 = some 1 := by kernel_rfl
theorem sz_Inode : sizeT Tryz.prog 54 = some 4 := by kernel_rfl
theorem sz_Quota : sizeT Tryz.prog 31 = some 2 := by kernel_rfl
theorem sz_MSI : sizeT Tryz.prog 140 = some 1 := by kernel_rfl
/-- Node -/
def Tb.node (T : Tb) (ino : Int) : List Value := match T.get ino with
  | none => [.int .i64 0, .int .i64 0, .string ⟨⟨[]⟩⟩, .int .i64 0]
  | some n => [.int .i64 n.kind, .int .i64 n.mode, .string n.data, .int .i64 n.links]
theorem s_Node {σ : H} {bt : Nat} {T : Tb} (hT : TAt σ bt T) (ino : Int) {K : Value → H → Prop} (hK : K (.tuple ⟨[.agg ⟨T.node ino⟩, .bool (T.get ino).isSome]⟩) σ) : callW Tryz.prog 63 [.pointer (some ⟨bt, 0, none⟩), .int .i64 ino] K σ := by
  refine pure_i _ hK (c63 _ _ ?_)
  unfold g63
  refine al_i ?_
  intro b σ1 hg hb hn
  refine call_i (s_get (hT.gr hg) ino (app_P ?_))
  unfold Tb.node
  cases hnn : T.get ino with
  | none =>
    refine br_t rfl ?_
    (repeat (first | refine ptr_i ?_ | refine rdT_of (by repeat (first | assumption | refine gG ‹_› ?_ | exact pE ‹_› | refine pG ‹_› (by first | assumption | exact Ne.symm ‹_› | exact ne_fr ‹_› (by repeat (first | exact io ‹_› | exact mS ‹_› | refine gS ‹_› ?_ | refine pS ‹_› ?_)) | exact Ne.symm (ne_fr ‹_› (by repeat (first | exact io ‹_› | exact mS ‹_› | refine gS ‹_› ?_ | refine pS ‹_› ?_)))) ?_)) (by rfl) ?_ | (refine al_i ?_; intro _ _ _ _ _) | refine and_i (rdC_of (by repeat (first | assumption | refine gG ‹_› ?_ | exact pE ‹_› | refine pG ‹_› (by first | assumption | exact Ne.symm ‹_› | exact ne_fr ‹_› (by repeat (first | exact io ‹_› | exact mS ‹_› | refine gS ‹_› ?_ | refine pS ‹_› ?_)) | exact Ne.symm (ne_fr ‹_› (by repeat (first | exact io ‹_› | exact mS ‹_› | refine gS ‹_› ?_ | refine pS ‹_› ?_)))) ?_)) (by rfl)) ?_ | refine rdA_i (by repeat (first | assumption | refine gG ‹_› ?_ | exact pE ‹_› | refine pG ‹_› (by first | assumption | exact Ne.symm ‹_› | exact ne_fr ‹_› (by repeat (first | exact io ‹_› | exact mS ‹_› | refine gS ‹_› ?_ | refine pS ‹_› ?_)) | exact Ne.symm (ne_fr ‹_› (by repeat (first | exact io ‹_› | exact mS ‹_› | refine gS ‹_› ?_ | refine pS ‹_› ?_)))) ?_)) (by rfl) ?_ | (refine st_i2 (by repeat (first | assumption | refine gG ‹_› ?_ | exact pE ‹_› | refine pG ‹_› (by first | assumption | exact Ne.symm ‹_› | exact ne_fr ‹_› (by repeat (first | exact io ‹_› | exact mS ‹_› | refine gS ‹_› ?_ | refine pS ‹_› ?_)) | exact Ne.symm (ne_fr ‹_› (by repeat (first | exact io ‹_› | exact mS ‹_› | refine gS ‹_› ?_ | refine pS ‹_› ?_)))) ?_)) (by first | exact sz_int | exact sz_string | exact sz_bool | exact sz_Inode | exact sz_Quota | exact sz_MSI | exact sz_place | exact sz_Errno) (by rfl) (by rfl) ?_; intro _ _) | refine app_P ?_ | refine app_I ?_ | refine app_S ?_ | refine app_B ?_ | refine app_M ?_ | refine app_L ?_ | refine app_U ?_ | refine app_R ?_ | (refine app_of rfl ?_; try dsimp only)))
    exact ⟨rfl, by repeat (first | exact Gr.refl _ | assumption | refine Gr.trans ?_ ‹_› | refine Gr.putF ?_ ‹_› (none_of ?_ ‹_›))⟩
  | some n =>
    have hN := ((hT.gr hg).get hnn).cells
    unfold Nd.cells at hN
    refine br_f rfl (ptr_i ?_)
    (repeat (first | refine ptr_i ?_ | refine rdT_of (by repeat (first | assumption | refine gG ‹_› ?_ | exact pE ‹_› | refine pG ‹_› (by first | assumption | exact Ne.symm ‹_› | exact ne_fr ‹_› (by repeat (first | exact io ‹_› | exact mS ‹_› | refine gS ‹_› ?_ | refine pS ‹_› ?_)) | exact Ne.symm (ne_fr ‹_› (by repeat (first | exact io ‹_› | exact mS ‹_› | refine gS ‹_› ?_ | refine pS ‹_› ?_)))) ?_)) (by rfl) ?_ | (refine al_i ?_; intro _ _ _ _ _) | refine and_i (rdC_of (by repeat (first | assumption | refine gG ‹_› ?_ | exact pE ‹_› | refine pG ‹_› (by first | assumption | exact Ne.symm ‹_› | exact ne_fr ‹_› (by repeat (first | exact io ‹_› | exact mS ‹_› | refine gS ‹_› ?_ | refine pS ‹_› ?_)) | exact Ne.symm (ne_fr ‹_› (by repeat (first | exact io ‹_› | exact mS ‹_› | refine gS ‹_› ?_ | refine pS ‹_› ?_)))) ?_)) (by rfl)) ?_ | refine rdA_i (by repeat (first | assumption | refine gG ‹_› ?_ | exact pE ‹_› | refine pG ‹_› (by first | assumption | exact Ne.symm ‹_› | exact ne_fr ‹_› (by repeat (first | exact io ‹_› | exact mS ‹_› | refine gS ‹_› ?_ | refine pS ‹_› ?_)) | exact Ne.symm (ne_fr ‹_› (by repeat (first | exact io ‹_› | exact mS ‹_› | refine gS ‹_› ?_ | refine pS ‹_› ?_)))) ?_)) (by rfl) ?_ | (refine st_i2 (by repeat (first | assumption | refine gG ‹_› ?_ | exact pE ‹_› | refine pG ‹_› (by first | assumption | exact Ne.symm ‹_› | exact ne_fr ‹_› (by repeat (first | exact io ‹_› | exact mS ‹_› | refine gS ‹_› ?_ | refine pS ‹_› ?_)) | exact Ne.symm (ne_fr ‹_› (by repeat (first | exact io ‹_› | exact mS ‹_› | refine gS ‹_› ?_ | refine pS ‹_› ?_)))) ?_)) (by first | exact sz_int | exact sz_string | exact sz_bool | exact sz_Inode | exact sz_Quota | exact sz_MSI | exact sz_place | exact sz_Errno) (by rfl) (by rfl) ?_; intro _ _) | refine app_P ?_ | refine app_I ?_ | refine app_S ?_ | refine app_B ?_ | refine app_M ?_ | refine app_L ?_ | refine app_U ?_ | refine app_R ?_ | (refine app_of rfl ?_; try dsimp only)))
    exact ⟨rfl, by repeat (first | exact Gr.refl _ | assumption | refine Gr.trans ?_ ‹_› | refine Gr.putF ?_ ‹_› (none_of ?_ ‹_›))⟩
/-- Used, Quota -/
theorem s_UsedT {σ : H} {bt : Nat} {T : Tb} (hT : TAt σ bt T) {K : Value → H → Prop} (hK : K (.agg ⟨[.int .i64 T.ui, .int .i64 T.ub]⟩) σ) : callW Tryz.prog 61 [.pointer (some ⟨bt, 0, none⟩)] K σ := by
  refine pure_i _ hK (c61 _ ?_)
  unfold g61
  have hc := hT.cells
  unfold Tb.cells at hc
  refine al_i ?_
  intro b σ1 hg hb hn
  refine br_f rfl (ptr_i ?_)
  (repeat (first | refine ptr_i ?_ | refine rdT_of (by repeat (first | assumption | refine gG ‹_› ?_ | exact pE ‹_› | refine pG ‹_› (by first | assumption | exact Ne.symm ‹_› | exact ne_fr ‹_› (by repeat (first | exact io ‹_› | exact mS ‹_› | refine gS ‹_› ?_ | refine pS ‹_› ?_)) | exact Ne.symm (ne_fr ‹_› (by repeat (first | exact io ‹_› | exact mS ‹_› | refine gS ‹_› ?_ | refine pS ‹_› ?_)))) ?_)) (by rfl) ?_ | (refine al_i ?_; intro _ _ _ _ _) | refine and_i (rdC_of (by repeat (first | assumption | refine gG ‹_› ?_ | exact pE ‹_› | refine pG ‹_› (by first | assumption | exact Ne.symm ‹_› | exact ne_fr ‹_› (by repeat (first | exact io ‹_› | exact mS ‹_› | refine gS ‹_› ?_ | refine pS ‹_› ?_)) | exact Ne.symm (ne_fr ‹_› (by repeat (first | exact io ‹_› | exact mS ‹_› | refine gS ‹_› ?_ | refine pS ‹_› ?_)))) ?_)) (by rfl)) ?_ | refine rdA_i (by repeat (first | assumption | refine gG ‹_› ?_ | exact pE ‹_› | refine pG ‹_› (by first | assumption | exact Ne.symm ‹_› | exact ne_fr ‹_› (by repeat (first | exact io ‹_› | exact mS ‹_› | refine gS ‹_› ?_ | refine pS ‹_› ?_)) | exact Ne.symm (ne_fr ‹_› (by repeat (first | exact io ‹_› | exact mS ‹_› | refine gS ‹_› ?_ | refine pS ‹_› ?_)))) ?_)) (by rfl) ?_ | (refine st_i2 (by repeat (first | assumption | refine gG ‹_› ?_ | exact pE ‹_› | refine pG ‹_› (by first | assumption | exact Ne.symm ‹_› | exact ne_fr ‹_› (by repeat (first | exact io ‹_› | exact mS ‹_› | refine gS ‹_› ?_ | refine pS ‹_› ?_)) | exact Ne.symm (ne_fr ‹_› (by repeat (first | exact io ‹_› | exact mS ‹_› | refine gS ‹_› ?_ | refine pS ‹_› ?_)))) ?_)) (by first | exact sz_int | exact sz_string | exact sz_bool | exact sz_Inode | exact sz_Quota | exact sz_MSI | exact sz_place | exact sz_Errno) (by rfl) (by rfl) ?_; intro _ _) | refine app_P ?_ | refine app_I ?_ | refine app_S ?_ | refine app_B ?_ | refine app_M ?_ | refine app_L ?_ | refine app_U ?_ | refine app_R ?_ | (refine app_of rfl ?_; try dsimp only)))
  exact ⟨rfl, by repeat (first | exact Gr.refl _ | assumption | refine Gr.trans ?_ ‹_› | refine Gr.putF ?_ ‹_› (none_of ?_ ‹_›))⟩
theorem s_QuotaT {σ : H} {bt : Nat} {T : Tb} (hT : TAt σ bt T) {K : Value → H → Prop} (hK : K (.agg ⟨[.int .i64 T.qi, .int .i64 T.qb]⟩) σ) : callW Tryz.prog 58 [.pointer (some ⟨bt, 0, none⟩)] K σ := by
  refine pure_i _ hK (c58 _ ?_)
  unfold g58
  have hc := hT.cells
  unfold Tb.cells at hc
  refine al_i ?_
  intro b σ1 hg hb hn
  refine br_f rfl (ptr_i ?_)
  (repeat (first | refine ptr_i ?_ | refine rdT_of (by repeat (first | assumption | refine gG ‹_› ?_ | exact pE ‹_› | refine pG ‹_› (by first | assumption | exact Ne.symm ‹_› | exact ne_fr ‹_› (by repeat (first | exact io ‹_› | exact mS ‹_› | refine gS ‹_› ?_ | refine pS ‹_› ?_)) | exact Ne.symm (ne_fr ‹_› (by repeat (first | exact io ‹_› | exact mS ‹_› | refine gS ‹_› ?_ | refine pS ‹_› ?_)))) ?_)) (by rfl) ?_ | (refine al_i ?_; intro _ _ _ _ _) | refine and_i (rdC_of (by repeat (first | assumption | refine gG ‹_› ?_ | exact pE ‹_› | refine pG ‹_› (by first | assumption | exact Ne.symm ‹_› | exact ne_fr ‹_› (by repeat (first | exact io ‹_› | exact mS ‹_› | refine gS ‹_› ?_ | refine pS ‹_› ?_)) | exact Ne.symm (ne_fr ‹_› (by repeat (first | exact io ‹_› | exact mS ‹_› | refine gS ‹_› ?_ | refine pS ‹_› ?_)))) ?_)) (by rfl)) ?_ | refine rdA_i (by repeat (first | assumption | refine gG ‹_› ?_ | exact pE ‹_› | refine pG ‹_› (by first | assumption | exact Ne.symm ‹_› | exact ne_fr ‹_› (by repeat (first | exact io ‹_› | exact mS ‹_› | refine gS ‹_› ?_ | refine pS ‹_› ?_)) | exact Ne.symm (ne_fr ‹_› (by repeat (first | exact io ‹_› | exact mS ‹_› | refine gS ‹_› ?_ | refine pS ‹_› ?_)))) ?_)) (by rfl) ?_ | (refine st_i2 (by repeat (first | assumption | refine gG ‹_› ?_ | exact pE ‹_› | refine pG ‹_› (by first | assumption | exact Ne.symm ‹_› | exact ne_fr ‹_› (by repeat (first | exact io ‹_› | exact mS ‹_› | refine gS ‹_› ?_ | refine pS ‹_› ?_)) | exact Ne.symm (ne_fr ‹_› (by repeat (first | exact io ‹_› | exact mS ‹_› | refine gS ‹_› ?_ | refine pS ‹_› ?_)))) ?_)) (by first | exact sz_int | exact sz_string | exact sz_bool | exact sz_Inode | exact sz_Quota | exact sz_MSI | exact sz_place | exact sz_Errno) (by rfl) (by rfl) ?_; intro _ _) | refine app_P ?_ | refine app_I ?_ | refine app_S ?_ | refine app_B ?_ | refine app_M ?_ | refine app_L ?_ | refine app_U ?_ | refine app_R ?_ | (refine app_of rfl ?_; try dsimp only)))
  exact ⟨rfl, by repeat (first | exact Gr.refl _ | assumption | refine Gr.trans ?_ ‹_› | refine Gr.putF ?_ ‹_› (none_of ?_ ‹_›))⟩
end Go.Proofs.YtlpcehbfoogejaaGreatDoor

/- THE TABLE OF INODES: what is asked ahead of a change. -/
set_option maxRecDepth 100000
namespace Go.Proofs.YtlpcehbfoogejaaGreatDoor
open Go Go.HL Go.Wk
attribute [local irreducible] ptrW ifW brW andW rdT alW letJ stW muW biW vaW imW callT cvalT app callW invW callVW sizeT oW nilF oneK loopW rfW funW begW roundK exW idxW Gr Put
theorem wrap_id {x : Int} (h1 : -9223372036854775808 ≤ x) (h2 : x ≤ 9223372036854775807) : IntKind.i64.wrap x = x := by
  rw [IntKind.wrap_i64]; omega
theorem go_of {g : FuncId} {fn : Func} (h : Tryz.prog.funcs[g]? = some fn) (hb : (fn.body.isSome && !(fn.name == "runtime.NumGoroutine")) = true) : isGo Tryz.prog g = true := by
  unfold isGo; rw [h]; exact hb

/-- a closure that tells a number and changes nothing -/
def Pu (σ : H) (f : Value) (e : Int) : Prop := ∀ K : Value → H → Prop, K (.int .i64 e) σ → callVW Tryz.prog f [] K σ
def FirstOk (σ : H) : List Value → List Int → Prop
  | [], [] => True
  | f :: fs, e :: es => Pu σ f e ∧ (e = 0 → FirstOk σ fs es)
  | _, _ => False
theorem s_first {σ : H} {b : Nat} {fs : List Value} {es : List Int} {t : TypeId} (hb : σ b = some (.cells ⟨fs⟩ t (0, 0))) (h : FirstOk σ fs es) (hn : fs.length ≤ 1000) {K : Value → H → Prop} (hK : K (.int .i64 (firstE es)) σ) :
    callW Tryz.prog 105 [.slice (some ⟨b, 0, none⟩) fs.length fs.length] K σ := by
  refine c105 ⟨some ⟨b, 0, none⟩, _, _⟩ ?_
  unfold g105
  refine loop_i ?_
  intro R hR
  have key : ∀ (gs : List Value) (ds : List Int) (i : Nat), fs.drop i = gs → FirstOk σ gs ds → K (.int .i64 (firstE ds)) σ → R ⟨some ⟨b, 0, none⟩, fs.length, fs.length⟩ ((fs.length : Nat) : Int) (i : Int) σ := by
    intro gs
    induction gs with
    | nil =>
      intro ds i hd hok hk
      have hge : fs.length ≤ i := by simpa using hd
      refine hR _ _ _ _ ?_
      cases ds with
      | cons d ds => exact hok.elim
      | nil => exact br_f (by simp; omega) hk
    | cons f gs ih =>
      intro ds i hd hok hk
      cases ds with
      | nil => exact hok.elim
      | cons d ds =>
        obtain ⟨hp, hok⟩ := hok
        have hlt : i < fs.length := by
          rcases Nat.lt_or_ge i fs.length with h | h
          · exact h
          · rw [List.drop_eq_nil_of_le h] at hd; cases hd
        have hf : fs[i]? = some f := by
          have : (fs.drop i)[0]? = some f := by rw [hd]; rfl
          simpa using this
        refine hR _ _ _ _ ?_
        refine br_t (by simpa using hlt) ?_
        refine ptr_i (if_i ⟨by omega, by show (i : Int) < (fs.length : Int); omega⟩ ?_)
        refine rd_R (rdC_of (v := f) hb (by simpa using hf)) ?_
        refine cvalv_i (hp _ (app_I ?_))
        by_cases he : d = 0
        · subst he
          refine br_f rfl ?_
          rw [wrap_id (by omega) (by omega)]
          have h2 : fs.drop (i + 1) = gs := by rw [← List.drop_drop, hd]; rfl
          exact ih ds (i + 1) h2 (hok rfl) (by simpa [firstE] using hk)
        · refine br_t (by simpa using he) ?_
          simpa [firstE, he] using hk
  exact key fs es 0 rfl h hK
theorem pu_of {σ : H} {g : FuncId} {as_ cs : List Value} {e : Int} (hg : isGo Tryz.prog g = true) (h : ∀ K : Value → H → Prop, K (.int .i64 e) σ → callW Tryz.prog g (as_ ++ cs) K σ) : Pu σ (.func (.func g) ⟨as_⟩ ⟨cs⟩) e := by
  intro K hk
  unfold callVW
  simp only [hg]
  simpa using h K hk
theorem go_there : isGo Tryz.prog 106 = true := by kernel_rfl
theorem go_dir1 : isGo Tryz.prog 155 = true := by kernel_rfl
theorem go_named1 : isGo Tryz.prog 156 = true := by kernel_rfl
theorem go_free1 : isGo Tryz.prog 158 = true := by kernel_rfl
theorem go_room1 : isGo Tryz.prog 159 = true := by kernel_rfl
theorem go_Make1 : isGo Tryz.prog 103 = true := by kernel_rfl
theorem go_Make2 : isGo Tryz.prog 110 = true := by kernel_rfl
theorem go_file1 : isGo Tryz.prog 169 = true := by kernel_rfl
theorem go_entry1 : isGo Tryz.prog 174 = true := by kernel_rfl
theorem go_Unlink1 : isGo Tryz.prog 121 = true := by kernel_rfl
theorem go_Move1 : isGo Tryz.prog 134 = true := by kernel_rfl
theorem go_WriteT1 : isGo Tryz.prog 116 = true := by kernel_rfl
theorem go_ChmodT1 : isGo Tryz.prog 123 = true := by kernel_rfl
theorem go_ChmodT2 : isGo Tryz.prog 124 = true := by kernel_rfl

/-! ### The makers of closures -/
theorem s_dir {σ : H} (t : Option Addr) (ino : Int) {K : Value → H → Prop} (hK : ∀ b1 b2 σ', Gr σ σ' → σ' b1 = some (.cells ⟨[.pointer t]⟩ 80 (0, 0)) → σ' b2 = some (.cells ⟨[.int .i64 ino]⟩ 3 (0, 0)) → K (.func (.func 155) ⟨[]⟩ ⟨[.pointer (some ⟨b1, 0, none⟩), .pointer (some ⟨b2, 0, none⟩)]⟩) σ') :
    callW Tryz.prog 107 [.pointer t, .int .i64 ino] K σ := by
  refine c107 _ _ ?_
  unfold g107
  (repeat (first | refine ptr_i ?_ | refine rdT_of (by repeat (first | assumption | refine gG ‹_› ?_ | exact pE ‹_› | refine pG ‹_› (by first | assumption | exact Ne.symm ‹_› | exact ne_fr ‹_› (by repeat (first | exact io ‹_› | exact mS ‹_› | refine gS ‹_› ?_ | refine pS ‹_› ?_)) | exact Ne.symm (ne_fr ‹_› (by repeat (first | exact io ‹_› | exact mS ‹_› | refine gS ‹_› ?_ | refine pS ‹_› ?_)))) ?_)) (by rfl) ?_ | (refine al_i ?_; intro _ _ _ _ _) | refine and_i (rdC_of (by repeat (first | assumption | refine gG ‹_› ?_ | exact pE ‹_› | refine pG ‹_› (by first | assumption | exact Ne.symm ‹_› | exact ne_fr ‹_› (by repeat (first | exact io ‹_› | exact mS ‹_› | refine gS ‹_› ?_ | refine pS ‹_› ?_)) | exact Ne.symm (ne_fr ‹_› (by repeat (first | exact io ‹_› | exact mS ‹_› | refine gS ‹_› ?_ | refine pS ‹_› ?_)))) ?_)) (by rfl)) ?_ | refine rdA_i (by repeat (first | assumption | refine gG ‹_› ?_ | exact pE ‹_› | refine pG ‹_› (by first | assumption | exact Ne.symm ‹_› | exact ne_fr ‹_› (by repeat (first | exact io ‹_› | exact mS ‹_› | refine gS ‹_› ?_ | refine pS ‹_› ?_)) | exact Ne.symm (ne_fr ‹_› (by repeat (first | exact io ‹_› | exact mS ‹_› | refine gS ‹_› ?_ | refine pS ‹_› ?_)))) ?_)) (by rfl) ?_ | (refine st_i2 (by repeat (first | assumption | refine gG ‹_› ?_ | exact pE ‹_› | refine pG ‹_› (by first | assumption | exact Ne.symm ‹_› | exact ne_fr ‹_› (by repeat (first | exact io ‹_› | exact mS ‹_› | refine gS ‹_› ?_ | refine pS ‹_› ?_)) | exact Ne.symm (ne_fr ‹_› (by repeat (first | exact io ‹_› | exact mS ‹_› | refine gS ‹_› ?_ | refine pS ‹_› ?_)))) ?_)) (by first | exact sz_int | exact sz_string | exact sz_bool | exact sz_Inode | exact sz_Quota | exact sz_MSI | exact sz_place | exact sz_Errno) (by rfl) (by rfl) ?_; intro _ _) | refine app_P ?_ | refine app_I ?_ | refine app_S ?_ | refine app_B ?_ | refine app_M ?_ | refine app_L ?_ | refine app_U ?_ | refine app_R ?_ | (refine app_of rfl ?_; try dsimp only)))
  exact hK _ _ _ (by repeat (first | exact Gr.refl _ | assumption | refine Gr.trans ?_ ‹_› | refine Gr.putF ?_ ‹_› (none_of ?_ ‹_›))) (by repeat (first | assumption | refine gG ‹_› ?_ | exact pE ‹_› | refine pG ‹_› (by first | assumption | exact Ne.symm ‹_› | exact ne_fr ‹_› (by repeat (first | exact io ‹_› | exact mS ‹_› | refine gS ‹_› ?_ | refine pS ‹_› ?_)) | exact Ne.symm (ne_fr ‹_› (by repeat (first | exact io ‹_› | exact mS ‹_› | refine gS ‹_› ?_ | refine pS ‹_› ?_)))) ?_)) (by repeat (first | assumption | refine gG ‹_› ?_ | exact pE ‹_› | refine pG ‹_› (by first | assumption | exact Ne.symm ‹_› | exact ne_fr ‹_› (by repeat (first | exact io ‹_› | exact mS ‹_› | refine gS ‹_› ?_ | refine pS ‹_› ?_)) | exact Ne.symm (ne_fr ‹_› (by repeat (first | exact io ‹_› | exact mS ‹_› | refine gS ‹_› ?_ | refine pS ‹_› ?_)))) ?_))
theorem s_file {σ : H} (t : Option Addr) (ino : Int) {K : Value → H → Prop} (hK : ∀ b1 b2 σ', Gr σ σ' → σ' b1 = some (.cells ⟨[.pointer t]⟩ 80 (0, 0)) → σ' b2 = some (.cells ⟨[.int .i64 ino]⟩ 3 (0, 0)) → K (.func (.func 169) ⟨[]⟩ ⟨[.pointer (some ⟨b1, 0, none⟩), .pointer (some ⟨b2, 0, none⟩)]⟩) σ') :
    callW Tryz.prog 117 [.pointer t, .int .i64 ino] K σ := by
  refine c117 _ _ ?_
  unfold g117
  (repeat (first | refine ptr_i ?_ | refine rdT_of (by repeat (first | assumption | refine gG ‹_› ?_ | exact pE ‹_› | refine pG ‹_› (by first | assumption | exact Ne.symm ‹_› | exact ne_fr ‹_› (by repeat (first | exact io ‹_› | exact mS ‹_› | refine gS ‹_› ?_ | refine pS ‹_› ?_)) | exact Ne.symm (ne_fr ‹_› (by repeat (first | exact io ‹_› | exact mS ‹_› | refine gS ‹_› ?_ | refine pS ‹_› ?_)))) ?_)) (by rfl) ?_ | (refine al_i ?_; intro _ _ _ _ _) | refine and_i (rdC_of (by repeat (first | assumption | refine gG ‹_› ?_ | exact pE ‹_› | refine pG ‹_› (by first | assumption | exact Ne.symm ‹_› | exact ne_fr ‹_› (by repeat (first | exact io ‹_› | exact mS ‹_› | refine gS ‹_› ?_ | refine pS ‹_› ?_)) | exact Ne.symm (ne_fr ‹_› (by repeat (first | exact io ‹_› | exact mS ‹_› | refine gS ‹_› ?_ | refine pS ‹_› ?_)))) ?_)) (by rfl)) ?_ | refine rdA_i (by repeat (first | assumption | refine gG ‹_› ?_ | exact pE ‹_› | refine pG ‹_› (by first | assumption | exact Ne.symm ‹_› | exact ne_fr ‹_› (by repeat (first | exact io ‹_› | exact mS ‹_› | refine gS ‹_› ?_ | refine pS ‹_› ?_)) | exact Ne.symm (ne_fr ‹_› (by repeat (first | exact io ‹_› | exact mS ‹_› | refine gS ‹_› ?_ | refine pS ‹_› ?_)))) ?_)) (by rfl) ?_ | (refine st_i2 (by repeat (first | assumption | refine gG ‹_› ?_ | exact pE ‹_› | refine pG ‹_› (by first | assumption | exact Ne.symm ‹_› | exact ne_fr ‹_› (by repeat (first | exact io ‹_› | exact mS ‹_› | refine gS ‹_› ?_ | refine pS ‹_› ?_)) | exact Ne.symm (ne_fr ‹_› (by repeat (first | exact io ‹_› | exact mS ‹_› | refine gS ‹_› ?_ | refine pS ‹_› ?_)))) ?_)) (by first | exact sz_int | exact sz_string | exact sz_bool | exact sz_Inode | exact sz_Quota | exact sz_MSI | exact sz_place | exact sz_Errno) (by rfl) (by rfl) ?_; intro _ _) | refine app_P ?_ | refine app_I ?_ | refine app_S ?_ | refine app_B ?_ | refine app_M ?_ | refine app_L ?_ | refine app_U ?_ | refine app_R ?_ | (refine app_of rfl ?_; try dsimp only)))
  exact hK _ _ _ (by repeat (first | exact Gr.refl _ | assumption | refine Gr.trans ?_ ‹_› | refine Gr.putF ?_ ‹_› (none_of ?_ ‹_›))) (by repeat (first | assumption | refine gG ‹_› ?_ | exact pE ‹_› | refine pG ‹_› (by first | assumption | exact Ne.symm ‹_› | exact ne_fr ‹_› (by repeat (first | exact io ‹_› | exact mS ‹_› | refine gS ‹_› ?_ | refine pS ‹_› ?_)) | exact Ne.symm (ne_fr ‹_› (by repeat (first | exact io ‹_› | exact mS ‹_› | refine gS ‹_› ?_ | refine pS ‹_› ?_)))) ?_)) (by repeat (first | assumption | refine gG ‹_› ?_ | exact pE ‹_› | refine pG ‹_› (by first | assumption | exact Ne.symm ‹_› | exact ne_fr ‹_› (by repeat (first | exact io ‹_› | exact mS ‹_› | refine gS ‹_› ?_ | refine pS ‹_› ?_)) | exact Ne.symm (ne_fr ‹_› (by repeat (first | exact io ‹_› | exact mS ‹_› | refine gS ‹_› ?_ | refine pS ‹_› ?_)))) ?_))
theorem s_named {σ : H} (name : ByteArray) {K : Value → H → Prop} (hK : ∀ b1 σ', Gr σ σ' → σ' b1 = some (.cells ⟨[.string name]⟩ 9 (0, 0)) → K (.func (.func 156) ⟨[]⟩ ⟨[.pointer (some ⟨b1, 0, none⟩)]⟩) σ') :
    callW Tryz.prog 108 [.string name] K σ := by
  refine c108 _ ?_
  unfold g108
  (repeat (first | refine ptr_i ?_ | refine rdT_of (by repeat (first | assumption | refine gG ‹_› ?_ | exact pE ‹_› | refine pG ‹_› (by first | assumption | exact Ne.symm ‹_› | exact ne_fr ‹_› (by repeat (first | exact io ‹_› | exact mS ‹_› | refine gS ‹_› ?_ | refine pS ‹_› ?_)) | exact Ne.symm (ne_fr ‹_› (by repeat (first | exact io ‹_› | exact mS ‹_› | refine gS ‹_› ?_ | refine pS ‹_› ?_)))) ?_)) (by rfl) ?_ | (refine al_i ?_; intro _ _ _ _ _) | refine and_i (rdC_of (by repeat (first | assumption | refine gG ‹_› ?_ | exact pE ‹_› | refine pG ‹_› (by first | assumption | exact Ne.symm ‹_› | exact ne_fr ‹_› (by repeat (first | exact io ‹_› | exact mS ‹_› | refine gS ‹_› ?_ | refine pS ‹_› ?_)) | exact Ne.symm (ne_fr ‹_› (by repeat (first | exact io ‹_› | exact mS ‹_› | refine gS ‹_› ?_ | refine pS ‹_› ?_)))) ?_)) (by rfl)) ?_ | refine rdA_i (by repeat (first | assumption | refine gG ‹_› ?_ | exact pE ‹_› | refine pG ‹_› (by first | assumption | exact Ne.symm ‹_› | exact ne_fr ‹_› (by repeat (first | exact io ‹_› | exact mS ‹_› | refine gS ‹_› ?_ | refine pS ‹_› ?_)) | exact Ne.symm (ne_fr ‹_› (by repeat (first | exact io ‹_› | exact mS ‹_› | refine gS ‹_› ?_ | refine pS ‹_› ?_)))) ?_)) (by rfl) ?_ | (refine st_i2 (by repeat (first | assumption | refine gG ‹_› ?_ | exact pE ‹_› | refine pG ‹_› (by first | assumption | exact Ne.symm ‹_› | exact ne_fr ‹_› (by repeat (first | exact io ‹_› | exact mS ‹_› | refine gS ‹_› ?_ | refine pS ‹_› ?_)) | exact Ne.symm (ne_fr ‹_› (by repeat (first | exact io ‹_› | exact mS ‹_› | refine gS ‹_› ?_ | refine pS ‹_› ?_)))) ?_)) (by first | exact sz_int | exact sz_string | exact sz_bool | exact sz_Inode | exact sz_Quota | exact sz_MSI | exact sz_place | exact sz_Errno) (by rfl) (by rfl) ?_; intro _ _) | refine app_P ?_ | refine app_I ?_ | refine app_S ?_ | refine app_B ?_ | refine app_M ?_ | refine app_L ?_ | refine app_U ?_ | refine app_R ?_ | (refine app_of rfl ?_; try dsimp only)))
  exact hK _ _ (by repeat (first | exact Gr.refl _ | assumption | refine Gr.trans ?_ ‹_› | refine Gr.putF ?_ ‹_› (none_of ?_ ‹_›))) (by repeat (first | assumption | refine gG ‹_› ?_ | exact pE ‹_› | refine pG ‹_› (by first | assumption | exact Ne.symm ‹_› | exact ne_fr ‹_› (by repeat (first | exact io ‹_› | exact mS ‹_› | refine gS ‹_› ?_ | refine pS ‹_› ?_)) | exact Ne.symm (ne_fr ‹_› (by repeat (first | exact io ‹_› | exact mS ‹_› | refine gS ‹_› ?_ | refine pS ‹_› ?_)))) ?_))
theorem s_free {σ : H} (t : Option Addr) (dir : Int) (name : ByteArray) {K : Value → H → Prop} (hK : ∀ b1 b2 b3 σ', Gr σ σ' → σ' b1 = some (.cells ⟨[.pointer t]⟩ 80 (0, 0)) → σ' b2 = some (.cells ⟨[.int .i64 dir]⟩ 3 (0, 0)) → σ' b3 = some (.cells ⟨[.string name]⟩ 9 (0, 0)) → K (.func (.func 158) ⟨[]⟩ ⟨[.pointer (some ⟨b1, 0, none⟩), .pointer (some ⟨b2, 0, none⟩), .pointer (some ⟨b3, 0, none⟩)]⟩) σ') :
    callW Tryz.prog 109 [.pointer t, .int .i64 dir, .string name] K σ := by
  refine c109 _ _ _ ?_
  unfold g109
  (repeat (first | refine ptr_i ?_ | refine rdT_of (by repeat (first | assumption | refine gG ‹_› ?_ | exact pE ‹_› | refine pG ‹_› (by first | assumption | exact Ne.symm ‹_› | exact ne_fr ‹_› (by repeat (first | exact io ‹_› | exact mS ‹_› | refine gS ‹_› ?_ | refine pS ‹_› ?_)) | exact Ne.symm (ne_fr ‹_› (by repeat (first | exact io ‹_› | exact mS ‹_› | refine gS ‹_› ?_ | refine pS ‹_› ?_)))) ?_)) (by rfl) ?_ | (refine al_i ?_; intro _ _ _ _ _) | refine and_i (rdC_of (by repeat (first | assumption | refine gG ‹_› ?_ | exact pE ‹_› | refine pG ‹_› (by first | assumption | exact Ne.symm ‹_› | exact ne_fr ‹_› (by repeat (first | exact io ‹_› | exact mS ‹_› | refine gS ‹_› ?_ | refine pS ‹_› ?_)) | exact Ne.symm (ne_fr ‹_› (by repeat (first | exact io ‹_› | exact mS ‹_› | refine gS ‹_› ?_ | refine pS ‹_› ?_)))) ?_)) (by rfl)) ?_ | refine rdA_i (by repeat (first | assumption | refine gG ‹_› ?_ | exact pE ‹_› | refine pG ‹_› (by first | assumption | exact Ne.symm ‹_› | exact ne_fr ‹_› (by repeat (first | exact io ‹_› | exact mS ‹_› | refine gS ‹_› ?_ | refine pS ‹_› ?_)) | exact Ne.symm (ne_fr ‹_› (by repeat (first | exact io ‹_› | exact mS ‹_› | refine gS ‹_› ?_ | refine pS ‹_› ?_)))) ?_)) (by rfl) ?_ | (refine st_i2 (by repeat (first | assumption | refine gG ‹_› ?_ | exact pE ‹_› | refine pG ‹_› (by first | assumption | exact Ne.symm ‹_› | exact ne_fr ‹_› (by repeat (first | exact io ‹_› | exact mS ‹_› | refine gS ‹_› ?_ | refine pS ‹_› ?_)) | exact Ne.symm (ne_fr ‹_› (by repeat (first | exact io ‹_› | exact mS ‹_› | refine gS ‹_› ?_ | refine pS ‹_› ?_)))) ?_)) (by first | exact sz_int | exact sz_string | exact sz_bool | exact sz_Inode | exact sz_Quota | exact sz_MSI | exact sz_place | exact sz_Errno) (by rfl) (by rfl) ?_; intro _ _) | refine app_P ?_ | refine app_I ?_ | refine app_S ?_ | refine app_B ?_ | refine app_M ?_ | refine app_L ?_ | refine app_U ?_ | refine app_R ?_ | (refine app_of rfl ?_; try dsimp only)))
  exact hK _ _ _ _ (by repeat (first | exact Gr.refl _ | assumption | refine Gr.trans ?_ ‹_› | refine Gr.putF ?_ ‹_› (none_of ?_ ‹_›))) (by repeat (first | assumption | refine gG ‹_› ?_ | exact pE ‹_› | refine pG ‹_› (by first | assumption | exact Ne.symm ‹_› | exact ne_fr ‹_› (by repeat (first | exact io ‹_› | exact mS ‹_› | refine gS ‹_› ?_ | refine pS ‹_› ?_)) | exact Ne.symm (ne_fr ‹_› (by repeat (first | exact io ‹_› | exact mS ‹_› | refine gS ‹_› ?_ | refine pS ‹_› ?_)))) ?_)) (by repeat (first | assumption | refine gG ‹_› ?_ | exact pE ‹_› | refine pG ‹_› (by first | assumption | exact Ne.symm ‹_› | exact ne_fr ‹_› (by repeat (first | exact io ‹_› | exact mS ‹_› | refine gS ‹_› ?_ | refine pS ‹_› ?_)) | exact Ne.symm (ne_fr ‹_› (by repeat (first | exact io ‹_› | exact mS ‹_› | refine gS ‹_› ?_ | refine pS ‹_› ?_)))) ?_)) (by repeat (first | assumption | refine gG ‹_› ?_ | exact pE ‹_› | refine pG ‹_› (by first | assumption | exact Ne.symm ‹_› | exact ne_fr ‹_› (by repeat (first | exact io ‹_› | exact mS ‹_› | refine gS ‹_› ?_ | refine pS ‹_› ?_)) | exact Ne.symm (ne_fr ‹_› (by repeat (first | exact io ‹_› | exact mS ‹_› | refine gS ‹_› ?_ | refine pS ‹_› ?_)))) ?_))
theorem s_entry {σ : H} (t : Option Addr) (dir : Int) (name : ByteArray) {K : Value → H → Prop} (hK : ∀ b1 b2 b3 σ', Gr σ σ' → σ' b1 = some (.cells ⟨[.pointer t]⟩ 80 (0, 0)) → σ' b2 = some (.cells ⟨[.int .i64 dir]⟩ 3 (0, 0)) → σ' b3 = some (.cells ⟨[.string name]⟩ 9 (0, 0)) → K (.func (.func 174) ⟨[]⟩ ⟨[.pointer (some ⟨b1, 0, none⟩), .pointer (some ⟨b2, 0, none⟩), .pointer (some ⟨b3, 0, none⟩)]⟩) σ') :
    callW Tryz.prog 122 [.pointer t, .int .i64 dir, .string name] K σ := by
  refine c122 _ _ _ ?_
  unfold g122
  (repeat (first | refine ptr_i ?_ | refine rdT_of (by repeat (first | assumption | refine gG ‹_› ?_ | exact pE ‹_› | refine pG ‹_› (by first | assumption | exact Ne.symm ‹_› | exact ne_fr ‹_› (by repeat (first | exact io ‹_› | exact mS ‹_› | refine gS ‹_› ?_ | refine pS ‹_› ?_)) | exact Ne.symm (ne_fr ‹_› (by repeat (first | exact io ‹_› | exact mS ‹_› | refine gS ‹_› ?_ | refine pS ‹_› ?_)))) ?_)) (by rfl) ?_ | (refine al_i ?_; intro _ _ _ _ _) | refine and_i (rdC_of (by repeat (first | assumption | refine gG ‹_› ?_ | exact pE ‹_› | refine pG ‹_› (by first | assumption | exact Ne.symm ‹_› | exact ne_fr ‹_› (by repeat (first | exact io ‹_› | exact mS ‹_› | refine gS ‹_› ?_ | refine pS ‹_› ?_)) | exact Ne.symm (ne_fr ‹_› (by repeat (first | exact io ‹_› | exact mS ‹_› | refine gS ‹_› ?_ | refine pS ‹_› ?_)))) ?_)) (by rfl)) ?_ | refine rdA_i (by repeat (first | assumption | refine gG ‹_› ?_ | exact pE ‹_› | refine pG ‹_› (by first | assumption | exact Ne.symm ‹_› | exact ne_fr ‹_› (by repeat (first | exact io ‹_› | exact mS ‹_› | refine gS ‹_› ?_ | refine pS ‹_› ?_)) | exact Ne.symm (ne_fr ‹_› (by repeat (first | exact io ‹_› | exact mS ‹_› | refine gS ‹_› ?_ | refine pS ‹_› ?_)))) ?_)) (by rfl) ?_ | (refine st_i2 (by repeat (first | assumption | refine gG ‹_› ?_ | exact pE ‹_› | refine pG ‹_› (by first | assumption | exact Ne.symm ‹_› | exact ne_fr ‹_› (by repeat (first | exact io ‹_› | exact mS ‹_› | refine gS ‹_› ?_ | refine pS ‹_› ?_)) | exact Ne.symm (ne_fr ‹_› (by repeat (first | exact io ‹_› | exact mS ‹_› | refine gS ‹_› ?_ | refine pS ‹_› ?_)))) ?_)) (by first | exact sz_int | exact sz_string | exact sz_bool | exact sz_Inode | exact sz_Quota | exact sz_MSI | exact sz_place | exact sz_Errno) (by rfl) (by rfl) ?_; intro _ _) | refine app_P ?_ | refine app_I ?_ | refine app_S ?_ | refine app_B ?_ | refine app_M ?_ | refine app_L ?_ | refine app_U ?_ | refine app_R ?_ | (refine app_of rfl ?_; try dsimp only)))
  exact hK _ _ _ _ (by repeat (first | exact Gr.refl _ | assumption | refine Gr.trans ?_ ‹_› | refine Gr.putF ?_ ‹_› (none_of ?_ ‹_›))) (by repeat (first | assumption | refine gG ‹_› ?_ | exact pE ‹_› | refine pG ‹_› (by first | assumption | exact Ne.symm ‹_› | exact ne_fr ‹_› (by repeat (first | exact io ‹_› | exact mS ‹_› | refine gS ‹_› ?_ | refine pS ‹_› ?_)) | exact Ne.symm (ne_fr ‹_› (by repeat (first | exact io ‹_› | exact mS ‹_› | refine gS ‹_› ?_ | refine pS ‹_› ?_)))) ?_)) (by repeat (first | assumption | refine gG ‹_› ?_ | exact pE ‹_› | refine pG ‹_› (by first | assumption | exact Ne.symm ‹_› | exact ne_fr ‹_› (by repeat (first | exact io ‹_› | exact mS ‹_› | refine gS ‹_› ?_ | refine pS ‹_› ?_)) | exact Ne.symm (ne_fr ‹_› (by repeat (first | exact io ‹_› | exact mS ‹_› | refine gS ‹_› ?_ | refine pS ‹_› ?_)))) ?_)) (by repeat (first | assumption | refine gG ‹_› ?_ | exact pE ‹_› | refine pG ‹_› (by first | assumption | exact Ne.symm ‹_› | exact ne_fr ‹_› (by repeat (first | exact io ‹_› | exact mS ‹_› | refine gS ‹_› ?_ | refine pS ‹_› ?_)) | exact Ne.symm (ne_fr ‹_› (by repeat (first | exact io ‹_› | exact mS ‹_› | refine gS ‹_› ?_ | refine pS ‹_› ?_)))) ?_))
theorem s_room {σ : H} (t : Option Addr) (i n : Int) {K : Value → H → Prop} (hK : ∀ b1 b2 b3 σ', Gr σ σ' → σ' b1 = some (.cells ⟨[.pointer t]⟩ 80 (0, 0)) → σ' b2 = some (.cells ⟨[.int .i64 i]⟩ 3 (0, 0)) → σ' b3 = some (.cells ⟨[.int .i64 n]⟩ 3 (0, 0)) → K (.func (.func 159) ⟨[]⟩ ⟨[.pointer (some ⟨b1, 0, none⟩), .pointer (some ⟨b2, 0, none⟩), .pointer (some ⟨b3, 0, none⟩)]⟩) σ') :
    callW Tryz.prog 111 [.pointer t, .int .i64 i, .int .i64 n] K σ := by
  refine c111 _ _ _ ?_
  unfold g111
  (repeat (first | refine ptr_i ?_ | refine rdT_of (by repeat (first | assumption | refine gG ‹_› ?_ | exact pE ‹_› | refine pG ‹_› (by first | assumption | exact Ne.symm ‹_› | exact ne_fr ‹_› (by repeat (first | exact io ‹_› | exact mS ‹_› | refine gS ‹_› ?_ | refine pS ‹_› ?_)) | exact Ne.symm (ne_fr ‹_› (by repeat (first | exact io ‹_› | exact mS ‹_› | refine gS ‹_› ?_ | refine pS ‹_› ?_)))) ?_)) (by rfl) ?_ | (refine al_i ?_; intro _ _ _ _ _) | refine and_i (rdC_of (by repeat (first | assumption | refine gG ‹_› ?_ | exact pE ‹_› | refine pG ‹_› (by first | assumption | exact Ne.symm ‹_› | exact ne_fr ‹_› (by repeat (first | exact io ‹_› | exact mS ‹_› | refine gS ‹_› ?_ | refine pS ‹_› ?_)) | exact Ne.symm (ne_fr ‹_› (by repeat (first | exact io ‹_› | exact mS ‹_› | refine gS ‹_› ?_ | refine pS ‹_› ?_)))) ?_)) (by rfl)) ?_ | refine rdA_i (by repeat (first | assumption | refine gG ‹_› ?_ | exact pE ‹_› | refine pG ‹_› (by first | assumption | exact Ne.symm ‹_› | exact ne_fr ‹_› (by repeat (first | exact io ‹_› | exact mS ‹_› | refine gS ‹_› ?_ | refine pS ‹_› ?_)) | exact Ne.symm (ne_fr ‹_› (by repeat (first | exact io ‹_› | exact mS ‹_› | refine gS ‹_› ?_ | refine pS ‹_› ?_)))) ?_)) (by rfl) ?_ | (refine st_i2 (by repeat (first | assumption | refine gG ‹_› ?_ | exact pE ‹_› | refine pG ‹_› (by first | assumption | exact Ne.symm ‹_› | exact ne_fr ‹_› (by repeat (first | exact io ‹_› | exact mS ‹_› | refine gS ‹_› ?_ | refine pS ‹_› ?_)) | exact Ne.symm (ne_fr ‹_› (by repeat (first | exact io ‹_› | exact mS ‹_› | refine gS ‹_› ?_ | refine pS ‹_› ?_)))) ?_)) (by first | exact sz_int | exact sz_string | exact sz_bool | exact sz_Inode | exact sz_Quota | exact sz_MSI | exact sz_place | exact sz_Errno) (by rfl) (by rfl) ?_; intro _ _) | refine app_P ?_ | refine app_I ?_ | refine app_S ?_ | refine app_B ?_ | refine app_M ?_ | refine app_L ?_ | refine app_U ?_ | refine app_R ?_ | (refine app_of rfl ?_; try dsimp only)))
  exact hK _ _ _ _ (by repeat (first | exact Gr.refl _ | assumption | refine Gr.trans ?_ ‹_› | refine Gr.putF ?_ ‹_› (none_of ?_ ‹_›))) (by repeat (first | assumption | refine gG ‹_› ?_ | exact pE ‹_› | refine pG ‹_› (by first | assumption | exact Ne.symm ‹_› | exact ne_fr ‹_› (by repeat (first | exact io ‹_› | exact mS ‹_› | refine gS ‹_› ?_ | refine pS ‹_› ?_)) | exact Ne.symm (ne_fr ‹_› (by repeat (first | exact io ‹_› | exact mS ‹_› | refine gS ‹_› ?_ | refine pS ‹_› ?_)))) ?_)) (by repeat (first | assumption | refine gG ‹_› ?_ | exact pE ‹_› | refine pG ‹_› (by first | assumption | exact Ne.symm ‹_› | exact ne_fr ‹_› (by repeat (first | exact io ‹_› | exact mS ‹_› | refine gS ‹_› ?_ | refine pS ‹_› ?_)) | exact Ne.symm (ne_fr ‹_› (by repeat (first | exact io ‹_› | exact mS ‹_› | refine gS ‹_› ?_ | refine pS ‹_› ?_)))) ?_)) (by repeat (first | assumption | refine gG ‹_› ?_ | exact pE ‹_› | refine pG ‹_› (by first | assumption | exact Ne.symm ‹_› | exact ne_fr ‹_› (by repeat (first | exact io ‹_› | exact mS ‹_› | refine gS ‹_› ?_ | refine pS ‹_› ?_)) | exact Ne.symm (ne_fr ‹_› (by repeat (first | exact io ‹_› | exact mS ‹_› | refine gS ‹_› ?_ | refine pS ‹_› ?_)))) ?_))
/-- room -/
def Tb.roomE (T : Tb) (i n : Int) : Int := if IntKind.i64.wrap (T.ui + i) ≤ T.qi ∧ IntKind.i64.wrap (T.ub + n) ≤ T.qb then 0 else 10
theorem s_room1 {σ : H} {bt : Nat} {T : Tb} (hT : TAt σ bt T) {b1 b2 b3 : Nat} {i n : Int} {t1 t2 t3 : TypeId} (h1 : σ b1 = some (.cells ⟨[.pointer (some ⟨bt, 0, none⟩)]⟩ t1 (0, 0))) (h2 : σ b2 = some (.cells ⟨[.int .i64 i]⟩ t2 (0, 0))) (h3 : σ b3 = some (.cells ⟨[.int .i64 n]⟩ t3 (0, 0))) {K : Value → H → Prop}
    (hK : K (.int .i64 (T.roomE i n)) σ) : callW Tryz.prog 159 [.pointer (some ⟨b1, 0, none⟩), .pointer (some ⟨b2, 0, none⟩), .pointer (some ⟨b3, 0, none⟩)] K σ := by
  refine c159 _ _ _ ?_
  unfold g159
  have hc := hT.cells
  unfold Tb.cells at hc
  (repeat (first | refine ptr_i ?_ | refine rdT_of (by repeat (first | assumption | refine gG ‹_› ?_ | exact pE ‹_› | refine pG ‹_› (by first | assumption | exact Ne.symm ‹_› | exact ne_fr ‹_› (by repeat (first | exact io ‹_› | exact mS ‹_› | refine gS ‹_› ?_ | refine pS ‹_› ?_)) | exact Ne.symm (ne_fr ‹_› (by repeat (first | exact io ‹_› | exact mS ‹_› | refine gS ‹_› ?_ | refine pS ‹_› ?_)))) ?_)) (by rfl) ?_ | (refine al_i ?_; intro _ _ _ _ _) | refine and_i (rdC_of (by repeat (first | assumption | refine gG ‹_› ?_ | exact pE ‹_› | refine pG ‹_› (by first | assumption | exact Ne.symm ‹_› | exact ne_fr ‹_› (by repeat (first | exact io ‹_› | exact mS ‹_› | refine gS ‹_› ?_ | refine pS ‹_› ?_)) | exact Ne.symm (ne_fr ‹_› (by repeat (first | exact io ‹_› | exact mS ‹_› | refine gS ‹_› ?_ | refine pS ‹_› ?_)))) ?_)) (by rfl)) ?_ | refine rdA_i (by repeat (first | assumption | refine gG ‹_› ?_ | exact pE ‹_› | refine pG ‹_› (by first | assumption | exact Ne.symm ‹_› | exact ne_fr ‹_› (by repeat (first | exact io ‹_› | exact mS ‹_› | refine gS ‹_› ?_ | refine pS ‹_› ?_)) | exact Ne.symm (ne_fr ‹_› (by repeat (first | exact io ‹_› | exact mS ‹_› | refine gS ‹_› ?_ | refine pS ‹_› ?_)))) ?_)) (by rfl) ?_ | (refine st_i2 (by repeat (first | assumption | refine gG ‹_› ?_ | exact pE ‹_› | refine pG ‹_› (by first | assumption | exact Ne.symm ‹_› | exact ne_fr ‹_› (by repeat (first | exact io ‹_› | exact mS ‹_› | refine gS ‹_› ?_ | refine pS ‹_› ?_)) | exact Ne.symm (ne_fr ‹_› (by repeat (first | exact io ‹_› | exact mS ‹_› | refine gS ‹_› ?_ | refine pS ‹_› ?_)))) ?_)) (by first | exact sz_int | exact sz_string | exact sz_bool | exact sz_Inode | exact sz_Quota | exact sz_MSI | exact sz_place | exact sz_Errno) (by rfl) (by rfl) ?_; intro _ _) | refine app_P ?_ | refine app_I ?_ | refine app_S ?_ | refine app_B ?_ | refine app_M ?_ | refine app_L ?_ | refine app_U ?_ | refine app_R ?_ | (refine app_of rfl ?_; try dsimp only)))
  unfold Tb.roomE at hK
  by_cases ha : IntKind.i64.wrap (T.ui + i) ≤ T.qi
  · refine br_t (by simpa using ha) ?_
    (repeat (first | refine ptr_i ?_ | refine rdT_of (by repeat (first | assumption | refine gG ‹_› ?_ | exact pE ‹_› | refine pG ‹_› (by first | assumption | exact Ne.symm ‹_› | exact ne_fr ‹_› (by repeat (first | exact io ‹_› | exact mS ‹_› | refine gS ‹_› ?_ | refine pS ‹_› ?_)) | exact Ne.symm (ne_fr ‹_› (by repeat (first | exact io ‹_› | exact mS ‹_› | refine gS ‹_› ?_ | refine pS ‹_› ?_)))) ?_)) (by rfl) ?_ | (refine al_i ?_; intro _ _ _ _ _) | refine and_i (rdC_of (by repeat (first | assumption | refine gG ‹_› ?_ | exact pE ‹_› | refine pG ‹_› (by first | assumption | exact Ne.symm ‹_› | exact ne_fr ‹_› (by repeat (first | exact io ‹_› | exact mS ‹_› | refine gS ‹_› ?_ | refine pS ‹_› ?_)) | exact Ne.symm (ne_fr ‹_› (by repeat (first | exact io ‹_› | exact mS ‹_› | refine gS ‹_› ?_ | refine pS ‹_› ?_)))) ?_)) (by rfl)) ?_ | refine rdA_i (by repeat (first | assumption | refine gG ‹_› ?_ | exact pE ‹_› | refine pG ‹_› (by first | assumption | exact Ne.symm ‹_› | exact ne_fr ‹_› (by repeat (first | exact io ‹_› | exact mS ‹_› | refine gS ‹_› ?_ | refine pS ‹_› ?_)) | exact Ne.symm (ne_fr ‹_› (by repeat (first | exact io ‹_› | exact mS ‹_› | refine gS ‹_› ?_ | refine pS ‹_› ?_)))) ?_)) (by rfl) ?_ | (refine st_i2 (by repeat (first | assumption | refine gG ‹_› ?_ | exact pE ‹_› | refine pG ‹_› (by first | assumption | exact Ne.symm ‹_› | exact ne_fr ‹_› (by repeat (first | exact io ‹_› | exact mS ‹_› | refine gS ‹_› ?_ | refine pS ‹_› ?_)) | exact Ne.symm (ne_fr ‹_› (by repeat (first | exact io ‹_› | exact mS ‹_› | refine gS ‹_› ?_ | refine pS ‹_› ?_)))) ?_)) (by first | exact sz_int | exact sz_string | exact sz_bool | exact sz_Inode | exact sz_Quota | exact sz_MSI | exact sz_place | exact sz_Errno) (by rfl) (by rfl) ?_; intro _ _) | refine app_P ?_ | refine app_I ?_ | refine app_S ?_ | refine app_B ?_ | refine app_M ?_ | refine app_L ?_ | refine app_U ?_ | refine app_R ?_ | (refine app_of rfl ?_; try dsimp only)))
    refine call_i (s_must _ _ (app_I ?_))
    simpa [ha] using hK
  · refine br_f (by simpa using ha) ?_
    refine call_i (s_must _ _ (app_I ?_))
    simpa [ha] using hK
theorem und_MIB : Tryz.prog.underlying 146 = some (.map 3 4) := by kernel_rfl
theorem und_int : Tryz.prog.underlying 3 = some (.int .i64) := by kernel_rfl
theorem und_string : Tryz.prog.underlying 9 = some .string := by kernel_rfl
/-- what is asked of strings.IndexByte: is that byte there? -/
def IByte : Prop := ∀ (s : ByteArray) (σ : H) (K : Value → H → Prop), (∀ n : Int, (decide (n < 0) = !hasNul s) → K (.int .i64 n) σ) → callW Tryz.prog 65 [.string s, .int .u8 0] K σ
def CAny : Prop := ∀ (s : ByteArray) (_ : s.size ≤ 1000000) (σ : H) (K : Value → H → Prop), K (.bool (badByte s)) σ → callW Tryz.prog 157 [.string s, .string ⟨⟨[47, 0]⟩⟩] K σ
theorem s_Make1 (hI : IByte) {σ : H} {b1 b2 b3 : Nat} {data : ByteArray} {kind mode : Int} {t1 t2 t3 : TypeId} (h1 : σ b1 = some (.cells ⟨[.string data]⟩ t1 (0, 0))) (h2 : σ b2 = some (.cells ⟨[.int .i64 kind]⟩ t2 (0, 0))) (h3 : σ b3 = some (.cells ⟨[.int .i64 mode]⟩ t3 (0, 0))) {K : Value → H → Prop}
    (hK : K (.int .i64 (likeE kind mode data)) σ) : callW Tryz.prog 103 [.pointer (some ⟨b1, 0, none⟩), .pointer (some ⟨b2, 0, none⟩), .pointer (some ⟨b3, 0, none⟩)] K σ := by
  have hsE : sEq data ⟨⟨[]⟩⟩ = strEq data ⟨⟨[]⟩⟩ := sEq_eq _ _
  refine pure_i _ hK (c103 _ _ _ ?_)
  unfold g103
  refine j_i (fun j => ∀ σ', Gr σ σ' → j (some ⟨b1, 0, none⟩) (some ⟨b2, 0, none⟩) (some ⟨b3, 0, none⟩) (linkOk data) σ') ?_ ?_
  · intro σ' hg
    refine al_i ?_
    intro b σ1 hg1 hb hn
    have m0 : MapAt σ1 b (encL kkI Value.bool []) := MapAt.new hb
    refine mu_i (kk := kkI) (f := Value.bool) und_MIB und_int m0 1 true ?_
    intro o1 σ2 hp1 m1
    have hne1 : b1 ≠ b := ne_fresh (hg.get h1) hn
    have hne2 : b2 ≠ b := ne_fresh (hg.get h2) hn
    have hne3 : b3 ≠ b := ne_fresh (hg.get h3) hn
    refine ptr_i (rd_S (rdC_of (by repeat (first | assumption | refine gG ‹_› ?_ | exact pE ‹_› | refine pG ‹_› (by first | assumption | exact Ne.symm ‹_› | exact ne_fr ‹_› (by repeat (first | exact io ‹_› | exact mS ‹_› | refine gS ‹_› ?_ | refine pS ‹_› ?_)) | exact Ne.symm (ne_fr ‹_› (by repeat (first | exact io ‹_› | exact mS ‹_› | refine gS ‹_› ?_ | refine pS ‹_› ?_)))) ?_)) (by rfl)) ?_)
    refine mu_i (kk := kkI) (f := Value.bool) und_MIB und_int m1 2 _ ?_
    intro o2 σ3 hp2 m2
    refine mu_i (kk := kkI) (f := Value.bool) und_MIB und_int m2 3 _ ?_
    intro o3 σ4 hp3 m3
    refine ptr_i (rd_I (rdC_of (by repeat (first | assumption | refine gG ‹_› ?_ | exact pE ‹_› | refine pG ‹_› (by first | assumption | exact Ne.symm ‹_› | exact ne_fr ‹_› (by repeat (first | exact io ‹_› | exact mS ‹_› | refine gS ‹_› ?_ | refine pS ‹_› ?_)) | exact Ne.symm (ne_fr ‹_› (by repeat (first | exact io ‹_› | exact mS ‹_› | refine gS ‹_› ?_ | refine pS ‹_› ?_)))) ?_)) (by rfl)) ?_)
    have hv : ((lk kind (up 3 (linkOk data) (up 2 (strEq data ⟨⟨[]⟩⟩) (up 1 true [])))).map Value.bool).getD (.bool false) = .bool (kindOkE kind data) := by
      show ((lk kind [((1 : Int), true), (2, strEq data ⟨⟨[]⟩⟩), (3, linkOk data)]).map Value.bool).getD (.bool false) = _
      unfold kindOkE
      rw [hsE]
      cases lk kind [((1 : Int), true), (2, strEq data ⟨⟨[]⟩⟩), (3, linkOk data)] <;> rfl
    have hr := rdM_at (kk := kkI) m3 (.bool false) false kind
    refine rd_B (x := kindOkE kind data) (by rw [← hv]; exact hr) ?_
    have hgr : Gr σ σ4 := by repeat (first | exact Gr.refl _ | assumption | refine Gr.trans ?_ ‹_› | refine Gr.putF ?_ ‹_› (none_of ?_ ‹_›))
    unfold likeE
    cases hk : kindOkE kind data with
    | false =>
      refine br_f rfl (call_i (s_must _ _ (app_I ⟨rfl, hgr⟩)))
    | true =>
      refine br_t rfl (ptr_i (rd_I (rdC_of (by repeat (first | assumption | refine gG ‹_› ?_ | exact pE ‹_› | refine pG ‹_› (by first | assumption | exact Ne.symm ‹_› | exact ne_fr ‹_› (by repeat (first | exact io ‹_› | exact mS ‹_› | refine gS ‹_› ?_ | refine pS ‹_› ?_)) | exact Ne.symm (ne_fr ‹_› (by repeat (first | exact io ‹_› | exact mS ‹_› | refine gS ‹_› ?_ | refine pS ‹_› ?_)))) ?_)) (by rfl)) ?_))
      by_cases hm : 0 ≤ mode
      · refine br_t (by simpa using hm) (ptr_i (rd_I (rdC_of (by repeat (first | assumption | refine gG ‹_› ?_ | exact pE ‹_› | refine pG ‹_› (by first | assumption | exact Ne.symm ‹_› | exact ne_fr ‹_› (by repeat (first | exact io ‹_› | exact mS ‹_› | refine gS ‹_› ?_ | refine pS ‹_› ?_)) | exact Ne.symm (ne_fr ‹_› (by repeat (first | exact io ‹_› | exact mS ‹_› | refine gS ‹_› ?_ | refine pS ‹_› ?_)))) ?_)) (by rfl)) ?_))
        refine call_i (s_must _ _ (app_I ⟨?_, hgr⟩))
        simp [hm]
      · refine br_f (by simpa using hm) (call_i (s_must _ _ (app_I ⟨?_, hgr⟩)))
        simp [hm]
  · intro j hj
    refine ptr_i (rd_S (rdC_of (by repeat (first | assumption | refine gG ‹_› ?_ | exact pE ‹_› | refine pG ‹_› (by first | assumption | exact Ne.symm ‹_› | exact ne_fr ‹_› (by repeat (first | exact io ‹_› | exact mS ‹_› | refine gS ‹_› ?_ | refine pS ‹_› ?_)) | exact Ne.symm (ne_fr ‹_› (by repeat (first | exact io ‹_› | exact mS ‹_› | refine gS ‹_› ?_ | refine pS ‹_› ?_)))) ?_)) (by rfl)) ?_)
    unfold linkOk at hj
    rw [hsE] at hj
    cases he : strEq data ⟨⟨[]⟩⟩ with
    | true => refine br_f rfl ?_; rw [he] at hj; exact hj σ (Gr.refl _)
    | false =>
      rw [he] at hj
      refine br_t rfl (ptr_i (rd_S (rdC_of (by repeat (first | assumption | refine gG ‹_› ?_ | exact pE ‹_› | refine pG ‹_› (by first | assumption | exact Ne.symm ‹_› | exact ne_fr ‹_› (by repeat (first | exact io ‹_› | exact mS ‹_› | refine gS ‹_› ?_ | refine pS ‹_› ?_)) | exact Ne.symm (ne_fr ‹_› (by repeat (first | exact io ‹_› | exact mS ‹_› | refine gS ‹_› ?_ | refine pS ‹_› ?_)))) ?_)) (by rfl)) ?_))
      by_cases hl : data.size ≤ 255
      · refine br_t (by simp; omega) (ptr_i (rd_S (rdC_of (by repeat (first | assumption | refine gG ‹_› ?_ | exact pE ‹_› | refine pG ‹_› (by first | assumption | exact Ne.symm ‹_› | exact ne_fr ‹_› (by repeat (first | exact io ‹_› | exact mS ‹_› | refine gS ‹_› ?_ | refine pS ‹_› ?_)) | exact Ne.symm (ne_fr ‹_› (by repeat (first | exact io ‹_› | exact mS ‹_› | refine gS ‹_› ?_ | refine pS ‹_› ?_)))) ?_)) (by rfl)) ?_))
        refine call_i (hI data σ _ ?_)
        intro n hn
        refine app_I ?_
        rw [hn]
        simpa [hl] using hj σ (Gr.refl _)
      · refine br_f (by simp; omega) ?_
        simpa [hl] using hj σ (Gr.refl _)
end Go.Proofs.YtlpcehbfoogejaaGreatDoor

/- THE TABLE OF INODES: how it is changed in memory. -/
set_option maxRecDepth 100000
namespace Go.Proofs.YtlpcehbfoogejaaGreatDoor
open Go Go.HL Go.Wk
attribute [local irreducible] ptrW ifW brW andW rdT alW letJ stW muW biW vaW imW callT cvalT app callW invW callVW sizeT oW nilF oneK loopW rfW funW begW roundK exW idxW Gr Put
def Nd.abs (n : Nd) : AN := ⟨n.kind, n.mode, n.data, n.links, n.up, n.ents⟩
def Tb.abs (T : Tb) : AT := ⟨T.qi, T.qb, T.ui, T.ub, T.last, T.nodes.map fun p => (p.1, p.2.abs)⟩
theorem abs_get (T : Tb) (i : Int) : T.abs.get i = (T.get i).map Nd.abs := lk_map _ _ _
theorem abs_find (T : Tb) (d : Int) (s : ByteArray) : T.abs.find d s = T.find d s := by
  unfold AT.find Tb.find; rw [abs_get]; cases T.get d <;> rfl
theorem abs_dirE (T : Tb) (d : Int) : T.abs.dirE d = T.dirE d := by
  unfold AT.dirE Tb.dirE; rw [abs_get]; cases T.get d <;> rfl
theorem abs_fileE (T : Tb) (d : Int) : T.abs.fileE d = T.fileE d := by
  unfold AT.fileE Tb.fileE; rw [abs_get]; cases T.get d <;> rfl
theorem abs_up (T : Tb) (d : Int) : T.abs.upOf d = T.up d := by
  unfold AT.upOf Tb.up; rw [abs_get]; cases T.get d <;> rfl
theorem abs_roomE (T : Tb) (i n : Int) : T.abs.roomE i n = T.roomE i n := rfl
/-- no block serves twice -/
structure Own (T : Tb) : Prop where
  blk : ∀ i j n m, T.get i = some n → T.get j = some m → n.blk = m.blk → i = j
  eb : ∀ i j n m e, T.get i = some n → T.get j = some m → n.eb = some e → m.eb = some e → i = j
  mb : ∀ i n, T.get i = some n → n.eb ≠ some T.mb
def Tb.own (bt : Nat) (T : Tb) (b : Nat) : Prop := b = bt ∨ b = T.mb ∨ ∃ i n, T.get i = some n ∧ (b = n.blk ∨ n.eb = some b)
def Tb.set (T : Tb) (i : Int) (n : Nd) : Tb := { T with nodes := HL.up i n T.nodes }
theorem get_set (T : Tb) (i j : Int) (n : Nd) : (T.set i n).get j = if j = i then some n else T.get j := by
  unfold Tb.set Tb.get; simp only [lk_up]
  by_cases h : j = i <;> simp [h]
theorem get_set_self (T : Tb) (i : Int) (n : Nd) : (T.set i n).get i = some n := by rw [get_set]; simp
theorem abs_set (T : Tb) (i : Int) (n : Nd) : (T.set i n).abs = T.abs.set i n.abs := by
  unfold Tb.set Tb.abs AT.set; simp only [up_map]
section
variable {σ σ' : H} {bt : Nat} {T : Tb} {b : Nat} {o : Obj}
theorem NdAt.put {m : Nd} (h : NdAt σ m) (hp : Put σ b o σ') (h1 : m.blk ≠ b) (h2 : m.eb ≠ some b) : NdAt σ' m :=
  ⟨hp.get h1 h.cells, fun e he => (h.ents e he).put hp (by intro e'; subst e'; exact h2 he), h.none, h.dir⟩
theorem ne_cm {c d : Nat} {l : List (Value × Value)} {es : Array Value} {t : TypeId} {fz : Nat × Nat} (hc : σ c = some (.cells es t fz)) (hd : MapAt σ d l) : c ≠ d := by
  obtain ⟨es', k, hd, _⟩ := hd
  intro e; subst e; rw [hc] at hd; cases hd
theorem TAt.bt_mb (h : TAt σ bt T) : bt ≠ T.mb := ne_cm h.cells h.nodes
theorem TAt.blk_bt (h : TAt σ bt T) {i : Int} {n : Nd} (hn : T.get i = some n) : n.blk ≠ bt := by
  intro e
  have h1 := (h.get hn).cells
  have h2 := h.cells
  rw [e, h2] at h1
  unfold Tb.cells Nd.cells at h1
  simp at h1
theorem TAt.blk_mb (h : TAt σ bt T) {i : Int} {n : Nd} (hn : T.get i = some n) : n.blk ≠ T.mb := ne_cm (h.get hn).cells h.nodes
theorem TAt.eb_bt (h : TAt σ bt T) {i : Int} {n : Nd} (hn : T.get i = some n) : n.eb ≠ some bt := by
  intro e; exact ne_cm h.cells ((h.get hn).ents _ e) rfl
theorem TAt.eb_blk (h : TAt σ bt T) {i j : Int} {n m : Nd} (hn : T.get i = some n) (hm : T.get j = some m) : n.eb ≠ some m.blk := by
  intro e; exact ne_cm (h.get hm).cells ((h.get hn).ents _ e) rfl
theorem TAt.own_some (h : TAt σ bt T) (hb : T.own bt b) : ∃ o, σ b = some o := by
  rcases hb with e | e | ⟨i, n, hn, e | e⟩
  · subst e; exact ⟨_, h.cells⟩
  · subst e; obtain ⟨_, _, h1, _⟩ := h.nodes; exact ⟨_, h1⟩
  · subst e; exact ⟨_, (h.get hn).cells⟩
  · obtain ⟨_, _, h1, _⟩ := (h.get hn).ents _ e; exact ⟨_, h1⟩
/-- a block elsewhere is set -/
theorem TAt.put (h : TAt σ bt T) (hp : Put σ b o σ') (hn : ¬ T.own bt b) : TAt σ' bt T := by
  refine ⟨hp.get ?_ h.cells, h.nodes.put hp ?_, fun i n hg => (h.get hg).put hp ?_ ?_⟩
  · intro e; exact hn (.inl e.symm)
  · intro e; exact hn (.inr (.inl e.symm))
  · intro e; exact hn (.inr (.inr ⟨i, n, hg, .inl e.symm⟩))
  · intro e; exact hn (.inr (.inr ⟨i, n, hg, .inr e⟩))
/-- the table's own cells are set -/
theorem TAt.putT {T' : Tb} (h : TAt σ bt T) (hp : Put σ bt T'.cells σ') (h1 : T'.mb = T.mb) (h2 : T'.nodes = T.nodes) : TAt σ' bt T' := by
  have hg : ∀ i, T'.get i = T.get i := by intro i; unfold Tb.get; rw [h2]
  refine ⟨hp.same, ?_, fun i n hn => ?_⟩
  · rw [h1, h2]; exact h.nodes.put hp (h.bt_mb).symm
  · rw [hg] at hn
    exact (h.get hn).put hp (h.blk_bt hn) (h.eb_bt hn)
theorem Own.same {T' : Tb} (h : Own T) (h1 : T'.mb = T.mb) (h2 : T'.nodes = T.nodes) : Own T' := by
  have hg : ∀ i, T'.get i = T.get i := by intro i; unfold Tb.get; rw [h2]
  refine ⟨?_, ?_, ?_⟩
  · intro i j n m; rw [hg, hg]; exact h.blk i j n m
  · intro i j n m e; rw [hg, hg]; exact h.eb i j n m e
  · intro i n; rw [hg, h1]; exact h.mb i n
theorem own_same {T' : Tb} (h1 : T'.mb = T.mb) (h2 : T'.nodes = T.nodes) (b : Nat) : T'.own bt b ↔ T.own bt b := by
  have hg : ∀ i, T'.get i = T.get i := by intro i; unfold Tb.get; rw [h2]
  unfold Tb.own; simp only [hg, h1]
/-- an inode's cells are set -/
theorem TAt.putN (h : TAt σ bt T) (ho : Own T) {i : Int} {n n' : Nd} (hn : T.get i = some n) (hp : Put σ n.blk n'.cells σ') (h1 : n'.blk = n.blk) (h2 : n'.eb = n.eb) (h3 : n'.ents = n.ents) (h4 : n'.kind = n.kind) : TAt σ' bt (T.set i n') := by
  refine ⟨hp.get (h.blk_bt hn).symm h.cells, ?_, fun j m hm => ?_⟩
  · have := enc_up_same (kk := kkI) (f := Nd.ptr) (k := i) (v := n') (u := n) (l := T.nodes) hn (by unfold Nd.ptr; rw [h1])
    show MapAt σ' T.mb (encL kkI Nd.ptr (up i n' T.nodes))
    rw [this]
    exact h.nodes.put hp (h.blk_mb hn).symm
  · rw [get_set] at hm
    by_cases e : j = i
    · rw [if_pos e] at hm; cases hm
      have hN := h.get hn
      refine ⟨by rw [h1]; exact hp.same, fun e he => ?_, fun he => ?_, fun hk => ?_⟩
      · rw [h2] at he; rw [h3]
        exact (hN.ents e he).put hp (ne_cm hN.cells (hN.ents e he)).symm
      · rw [h2] at he; rw [h3]; exact hN.none he
      · rw [h2]; rw [h4] at hk; exact hN.dir hk
    · rw [if_neg e] at hm
      exact (h.get hm).put hp (fun e' => e (ho.blk j i m n hm hn e')) (h.eb_blk hm hn)
theorem Own.set (ho : Own T) {i : Int} {n n' : Nd} (hn : T.get i = some n) (h1 : n'.blk = n.blk) (h2 : n'.eb = n.eb) : Own (T.set i n') := by
  have key : ∀ j m, (T.set i n').get j = some m → ∃ m', T.get j = some m' ∧ m.blk = m'.blk ∧ m.eb = m'.eb := by
    intro j m hm
    rw [get_set] at hm
    by_cases e : j = i
    · rw [if_pos e] at hm; cases hm; subst e; exact ⟨n, hn, h1, h2⟩
    · rw [if_neg e] at hm; exact ⟨m, hm, rfl, rfl⟩
  refine ⟨?_, ?_, ?_⟩
  · intro a c x y hx hy hb
    obtain ⟨x', hx', e1, _⟩ := key a x hx
    obtain ⟨y', hy', e2, _⟩ := key c y hy
    exact ho.blk a c x' y' hx' hy' (by rw [← e1, ← e2]; exact hb)
  · intro a c x y e hx hy h3 h4
    obtain ⟨x', hx', _, e1⟩ := key a x hx
    obtain ⟨y', hy', _, e2⟩ := key c y hy
    exact ho.eb a c x' y' e hx' hy' (by rw [← e1]; exact h3) (by rw [← e2]; exact h4)
  · intro a x hx
    obtain ⟨x', hx', _, e1⟩ := key a x hx
    rw [e1]; exact ho.mb a x' hx'
theorem own_set {i : Int} {n n' : Nd} (hn : T.get i = some n) (h1 : n'.blk = n.blk) (h2 : n'.eb = n.eb) (b : Nat) : (T.set i n').own bt b ↔ T.own bt b := by
  unfold Tb.own
  have : (T.set i n').mb = T.mb := rfl
  rw [this]
  refine or_congr_right (or_congr_right ⟨?_, ?_⟩)
  · rintro ⟨j, m, hm, hb⟩
    rw [get_set] at hm
    by_cases e : j = i
    · rw [if_pos e] at hm; cases hm; exact ⟨i, n, hn, by rw [← h1, ← h2]; exact hb⟩
    · rw [if_neg e] at hm; exact ⟨j, m, hm, hb⟩
  · rintro ⟨j, m, hm, hb⟩
    by_cases e : j = i
    · subst e; rw [hn] at hm; cases hm; exact ⟨j, n', get_set_self .., by rw [h1, h2]; exact hb⟩
    · exact ⟨j, m, by rw [get_set, if_neg e]; exact hm, hb⟩
/-- what a directory names is set -/
theorem TAt.putE (h : TAt σ bt T) (ho : Own T) {i : Int} {n : Nd} {e : Nat} {l : List (ByteArray × Int)} (hn : T.get i = some n) (he : n.eb = some e) (hp : Put σ e o σ') (hm : MapAt σ' e (encL kkS valI l)) : TAt σ' bt (T.set i { n with ents := l }) := by
  have hE := (h.get hn).ents e he
  refine ⟨hp.get (ne_cm h.cells hE) h.cells, ?_, fun j m hj => ?_⟩
  · have := enc_up_same (kk := kkI) (f := Nd.ptr) (k := i) (v := { n with ents := l }) (u := n) (l := T.nodes) hn rfl
    show MapAt σ' T.mb (encL kkI Nd.ptr (up i _ T.nodes))
    rw [this]
    exact h.nodes.put hp (by intro e'; exact ho.mb i n hn (by rw [he, e']))
  · rw [get_set] at hj
    by_cases e' : j = i
    · rw [if_pos e'] at hj; cases hj
      have hN := h.get hn
      refine ⟨hp.get (ne_cm hN.cells hE) hN.cells, fun e2 he2 => ?_, fun h0 => ?_, hN.dir⟩
      · have : e2 = e := by have := he2.symm.trans he; cases this; rfl
        subst this; exact hm
      · have := he.symm.trans h0; cases this
    · rw [if_neg e'] at hj
      have hN := h.get hj
      exact hN.put hp (ne_cm hN.cells hE) (fun h2 => e' (ho.eb j i m n e hj hn h2 he))
/-- another inode -/
theorem TAt.putA (h : TAt σ bt T) (ho : Own T) {i : Int} {n : Nd} (hN : NdAt σ n) (hp : Put σ T.mb o σ') (hm : MapAt σ' T.mb (encL kkI Nd.ptr (up i n T.nodes))) (hf : n.eb ≠ some T.mb) : TAt σ' bt (T.set i n) := by
  refine ⟨hp.get h.bt_mb h.cells, hm, fun j m hj => ?_⟩
  rw [get_set] at hj
  by_cases e : j = i
  · rw [if_pos e] at hj; cases hj
    exact hN.put hp (ne_cm hN.cells h.nodes) hf
  · rw [if_neg e] at hj
    exact (h.get hj).put hp (h.blk_mb hj) (ho.mb j m hj)
theorem Own.add (ho : Own T) {i : Int} {n : Nd} (h1 : ¬ T.own bt n.blk) (h2 : ∀ e, n.eb = some e → ¬ T.own bt e) : Own (T.set i n) := by
  have hb : ∀ j m, T.get j = some m → m.blk ≠ n.blk := fun j m hm e => h1 (.inr (.inr ⟨j, m, hm, .inl e.symm⟩))
  have he : ∀ j m e, T.get j = some m → n.eb = some e → m.eb ≠ some e := fun j m e hm hn h => h2 e hn (.inr (.inr ⟨j, m, hm, .inr h⟩))
  refine ⟨?_, ?_, ?_⟩
  · intro a c x y hx hy hxy
    rw [get_set] at hx hy
    by_cases ea : a = i <;> by_cases ec : c = i
    · rw [ea, ec]
    · rw [if_pos ea] at hx; rw [if_neg ec] at hy; cases hx; exact absurd hxy.symm (hb c y hy)
    · rw [if_neg ea] at hx; rw [if_pos ec] at hy; cases hy; exact absurd hxy (hb a x hx)
    · rw [if_neg ea] at hx; rw [if_neg ec] at hy; exact ho.blk a c x y hx hy hxy
  · intro a c x y e hx hy h3 h4
    rw [get_set] at hx hy
    by_cases ea : a = i <;> by_cases ec : c = i
    · rw [ea, ec]
    · rw [if_pos ea] at hx; rw [if_neg ec] at hy; cases hx; exact absurd h4 (he c y e hy h3)
    · rw [if_neg ea] at hx; rw [if_pos ec] at hy; cases hy; exact absurd h3 (he a x e hx h4)
    · rw [if_neg ea] at hx; rw [if_neg ec] at hy; exact ho.eb a c x y e hx hy h3 h4
  · intro a x hx
    rw [get_set] at hx
    by_cases ea : a = i
    · rw [if_pos ea] at hx; cases hx
      intro h; exact h2 _ h (.inr (.inl rfl))
    · rw [if_neg ea] at hx; exact ho.mb a x hx
theorem own_add {i : Int} {n : Nd} (b : Nat) (h : (T.set i n).own bt b) : T.own bt b ∨ b = n.blk ∨ n.eb = some b := by
  rcases h with e | e | ⟨j, m, hm, hb⟩
  · exact .inl (.inl e)
  · exact .inl (.inr (.inl e))
  · rw [get_set] at hm
    by_cases e : j = i
    · rw [if_pos e] at hm; cases hm; exact .inr hb
    · rw [if_neg e] at hm; exact .inl (.inr (.inr ⟨j, m, hm, hb⟩))
/-- an inode goes -/
def Tb.del (T : Tb) (i : Int) : Tb := { T with nodes := rm i T.nodes }
theorem get_del (hk : (keysL T.nodes).Nodup) (i j : Int) : (T.del i).get j = if j = i then none else T.get j := by
  unfold Tb.del Tb.get; simp only [lk_rm hk]; by_cases h : j = i <;> simp [h]
theorem get_del_some (hk : (keysL T.nodes).Nodup) {i j : Int} {m : Nd} (h : (T.del i).get j = some m) : T.get j = some m := by
  rw [get_del hk] at h
  by_cases e : j = i
  · rw [if_pos e] at h; cases h
  · rw [if_neg e] at h; exact h
theorem TAt.putD (h : TAt σ bt T) (ho : Own T) (hk : (keysL T.nodes).Nodup) {i : Int} (hp : Put σ T.mb o σ') (hm : MapAt σ' T.mb (encL kkI Nd.ptr (rm i T.nodes))) : TAt σ' bt (T.del i) := by
  refine ⟨hp.get h.bt_mb h.cells, hm, fun j m hj => ?_⟩
  have := get_del_some hk hj
  exact (h.get this).put hp (h.blk_mb this) (ho.mb j m this)
theorem Own.del (ho : Own T) (hk : (keysL T.nodes).Nodup) (i : Int) : Own (T.del i) :=
  ⟨fun a c x y hx hy => ho.blk a c x y (get_del_some hk hx) (get_del_some hk hy), fun a c x y e hx hy => ho.eb a c x y e (get_del_some hk hx) (get_del_some hk hy), fun a x hx => ho.mb a x (get_del_some hk hx)⟩
theorem own_del (hk : (keysL T.nodes).Nodup) {i : Int} {b : Nat} (h : (T.del i).own bt b) : T.own bt b := by
  rcases h with e | e | ⟨j, m, hm, hb⟩
  · exact .inl e
  · exact .inr (.inl e)
  · exact .inr (.inr ⟨j, m, get_del_some hk hm, hb⟩)
theorem abs_del (T : Tb) (i : Int) : (T.del i).abs = { T.abs with nodes := rm i T.abs.nodes } := by
  unfold Tb.del Tb.abs; simp only [rm_map]
theorem keys_abs (T : Tb) : keysL T.abs.nodes = keysL T.nodes := keys_map _ _
end
/-- what is there stays there, hidden from searches -/
structure Lng (σ σ' : H) : Prop where
  gr : Gr σ σ'
/-! ### A table with a foot -/
/-- a table lies there; B: its blocks -/
def TabAt (σ : H) (bt : Nat) (A : AT) (B : Nat → Prop) : Prop := ∃ T, TAt σ bt T ∧ Own T ∧ T.abs = A ∧ ∀ b, T.own bt b ↔ B b
/-- what lies elsewhere stays, and stays elsewhere -/
def Sep (σ : H) (B : Nat → Prop) (σ' : H) (B' : Nat → Prop) : Prop := ∀ b o, σ b = some o → ¬ B b → σ' b = some o ∧ ¬ B' b
theorem Sep.refl (σ : H) (B : Nat → Prop) : Sep σ B σ B := fun _ _ h k => ⟨h, k⟩
theorem Sep.trans {σ σ' σ'' : H} {B B' B'' : Nat → Prop} (h : Sep σ B σ' B') (k : Sep σ' B' σ'' B'') : Sep σ B σ'' B'' := fun b o hb hn => k b o (h b o hb hn).1 (h b o hb hn).2
theorem Sep.gr {σ σ' : H} {B : Nat → Prop} (h : Gr σ σ') : Sep σ B σ' B := fun b o hb hn => ⟨h.get hb, hn⟩
theorem TabAt.gr {σ σ' : H} {bt : Nat} {A : AT} {B : Nat → Prop} (h : TabAt σ bt A B) (hg : Gr σ σ') : TabAt σ' bt A B := by
  obtain ⟨T, h1, h2⟩ := h; exact ⟨T, h1.gr hg, h2⟩
theorem TabAt.put {σ σ' : H} {bt b : Nat} {A : AT} {B : Nat → Prop} {o : Obj} (h : TabAt σ bt A B) (hp : Put σ b o σ') (hn : ¬ B b) : TabAt σ' bt A B := by
  obtain ⟨T, h1, h2, h3, h4⟩ := h; exact ⟨T, h1.put hp (by rw [h4]; exact hn), h2, h3, h4⟩
theorem TabAt.some {σ : H} {bt b : Nat} {A : AT} {B : Nat → Prop} (h : TabAt σ bt A B) (hb : B b) : ∃ o, σ b = some o := by
  obtain ⟨T, h1, h2, h3, h4⟩ := h; exact h1.own_some ((h4 b).2 hb)
theorem TabAt.fresh {σ : H} {bt b : Nat} {A : AT} {B : Nat → Prop} (h : TabAt σ bt A B) (hb : σ b = none) : ¬ B b := by
  intro hB; obtain ⟨o, ho⟩ := h.some hB; rw [hb] at ho; cases ho
end Go.Proofs.YtlpcehbfoogejaaGreatDoor

/- THE TABLE OF INODES: closures; Make. -/
set_option maxRecDepth 100000
namespace Go.Proofs.YtlpcehbfoogejaaGreatDoor
open Go Go.HL Go.Wk
attribute [local irreducible] ptrW ifW brW andW rdT alW letJ stW muW biW vaW imW callT cvalT app callW invW callVW sizeT oW nilF oneK loopW rfW funW begW roundK exW idxW Gr Put
theorem s_named1 (hC : CAny) {σ : H} {b1 : Nat} {name : ByteArray} {t1 : TypeId} (h1 : σ b1 = some (.cells ⟨[.string name]⟩ t1 (0, 0))) {K : Value → H → Prop}
    (hK : K (.int .i64 (namedE name)) σ) : callW Tryz.prog 156 [.pointer (some ⟨b1, 0, none⟩)] K σ := by
  refine c156 _ ?_
  unfold g156
  (repeat (first | refine ptr_i ?_ | refine rdT_of (by repeat (first | assumption | refine gG ‹_› ?_ | exact pE ‹_› | refine pG ‹_› (by first | assumption | exact Ne.symm ‹_› | exact ne_fr ‹_› (by repeat (first | exact io ‹_› | exact mS ‹_› | refine gS ‹_› ?_ | refine pS ‹_› ?_)) | exact Ne.symm (ne_fr ‹_› (by repeat (first | exact io ‹_› | exact mS ‹_› | refine gS ‹_› ?_ | refine pS ‹_› ?_)))) ?_)) (by rfl) ?_ | (refine al_i ?_; intro _ _ _ _ _) | refine and_i (rdC_of (by repeat (first | assumption | refine gG ‹_› ?_ | exact pE ‹_› | refine pG ‹_› (by first | assumption | exact Ne.symm ‹_› | exact ne_fr ‹_› (by repeat (first | exact io ‹_› | exact mS ‹_› | refine gS ‹_› ?_ | refine pS ‹_› ?_)) | exact Ne.symm (ne_fr ‹_› (by repeat (first | exact io ‹_› | exact mS ‹_› | refine gS ‹_› ?_ | refine pS ‹_› ?_)))) ?_)) (by rfl)) ?_ | refine rdA_i (by repeat (first | assumption | refine gG ‹_› ?_ | exact pE ‹_› | refine pG ‹_› (by first | assumption | exact Ne.symm ‹_› | exact ne_fr ‹_› (by repeat (first | exact io ‹_› | exact mS ‹_› | refine gS ‹_› ?_ | refine pS ‹_› ?_)) | exact Ne.symm (ne_fr ‹_› (by repeat (first | exact io ‹_› | exact mS ‹_› | refine gS ‹_› ?_ | refine pS ‹_› ?_)))) ?_)) (by rfl) ?_ | (refine st_i2 (by repeat (first | assumption | refine gG ‹_› ?_ | exact pE ‹_› | refine pG ‹_› (by first | assumption | exact Ne.symm ‹_› | exact ne_fr ‹_› (by repeat (first | exact io ‹_› | exact mS ‹_› | refine gS ‹_› ?_ | refine pS ‹_› ?_)) | exact Ne.symm (ne_fr ‹_› (by repeat (first | exact io ‹_› | exact mS ‹_› | refine gS ‹_› ?_ | refine pS ‹_› ?_)))) ?_)) (by first | exact sz_int | exact sz_string | exact sz_bool | exact sz_Inode | exact sz_Quota | exact sz_MSI | exact sz_place | exact sz_Errno) (by rfl) (by rfl) ?_; intro _ _) | refine app_P ?_ | refine app_I ?_ | refine app_S ?_ | refine app_B ?_ | refine app_M ?_ | refine app_L ?_ | refine app_U ?_ | refine app_R ?_ | (refine app_of rfl ?_; try dsimp only)))
  unfold namedE at hK
  simp only [sEq_eq] at hK
  by_cases hl : name.size > 56
  · rw [if_pos hl] at hK; exact br_t (by simp; omega) hK
  rw [if_neg hl] at hK
  refine br_f (by simp; omega) ?_
  (repeat (first | refine ptr_i ?_ | refine rdT_of (by repeat (first | assumption | refine gG ‹_› ?_ | exact pE ‹_› | refine pG ‹_› (by first | assumption | exact Ne.symm ‹_› | exact ne_fr ‹_› (by repeat (first | exact io ‹_› | exact mS ‹_› | refine gS ‹_› ?_ | refine pS ‹_› ?_)) | exact Ne.symm (ne_fr ‹_› (by repeat (first | exact io ‹_› | exact mS ‹_› | refine gS ‹_› ?_ | refine pS ‹_› ?_)))) ?_)) (by rfl) ?_ | (refine al_i ?_; intro _ _ _ _ _) | refine and_i (rdC_of (by repeat (first | assumption | refine gG ‹_› ?_ | exact pE ‹_› | refine pG ‹_› (by first | assumption | exact Ne.symm ‹_› | exact ne_fr ‹_› (by repeat (first | exact io ‹_› | exact mS ‹_› | refine gS ‹_› ?_ | refine pS ‹_› ?_)) | exact Ne.symm (ne_fr ‹_› (by repeat (first | exact io ‹_› | exact mS ‹_› | refine gS ‹_› ?_ | refine pS ‹_› ?_)))) ?_)) (by rfl)) ?_ | refine rdA_i (by repeat (first | assumption | refine gG ‹_› ?_ | exact pE ‹_› | refine pG ‹_› (by first | assumption | exact Ne.symm ‹_› | exact ne_fr ‹_› (by repeat (first | exact io ‹_› | exact mS ‹_› | refine gS ‹_› ?_ | refine pS ‹_› ?_)) | exact Ne.symm (ne_fr ‹_› (by repeat (first | exact io ‹_› | exact mS ‹_› | refine gS ‹_› ?_ | refine pS ‹_› ?_)))) ?_)) (by rfl) ?_ | (refine st_i2 (by repeat (first | assumption | refine gG ‹_› ?_ | exact pE ‹_› | refine pG ‹_› (by first | assumption | exact Ne.symm ‹_› | exact ne_fr ‹_› (by repeat (first | exact io ‹_› | exact mS ‹_› | refine gS ‹_› ?_ | refine pS ‹_› ?_)) | exact Ne.symm (ne_fr ‹_› (by repeat (first | exact io ‹_› | exact mS ‹_› | refine gS ‹_› ?_ | refine pS ‹_› ?_)))) ?_)) (by first | exact sz_int | exact sz_string | exact sz_bool | exact sz_Inode | exact sz_Quota | exact sz_MSI | exact sz_place | exact sz_Errno) (by rfl) (by rfl) ?_; intro _ _) | refine app_P ?_ | refine app_I ?_ | refine app_S ?_ | refine app_B ?_ | refine app_M ?_ | refine app_L ?_ | refine app_U ?_ | refine app_R ?_ | (refine app_of rfl ?_; try dsimp only)))
  cases ha : strEq name ⟨⟨[]⟩⟩ with
  | true => rw [ha] at hK; exact br_f rfl (call_i (s_must _ _ (app_I hK)))
  | false =>
    rw [ha] at hK
    refine br_t rfl ?_
    (repeat (first | refine ptr_i ?_ | refine rdT_of (by repeat (first | assumption | refine gG ‹_› ?_ | exact pE ‹_› | refine pG ‹_› (by first | assumption | exact Ne.symm ‹_› | exact ne_fr ‹_› (by repeat (first | exact io ‹_› | exact mS ‹_› | refine gS ‹_› ?_ | refine pS ‹_› ?_)) | exact Ne.symm (ne_fr ‹_› (by repeat (first | exact io ‹_› | exact mS ‹_› | refine gS ‹_› ?_ | refine pS ‹_› ?_)))) ?_)) (by rfl) ?_ | (refine al_i ?_; intro _ _ _ _ _) | refine and_i (rdC_of (by repeat (first | assumption | refine gG ‹_› ?_ | exact pE ‹_› | refine pG ‹_› (by first | assumption | exact Ne.symm ‹_› | exact ne_fr ‹_› (by repeat (first | exact io ‹_› | exact mS ‹_› | refine gS ‹_› ?_ | refine pS ‹_› ?_)) | exact Ne.symm (ne_fr ‹_› (by repeat (first | exact io ‹_› | exact mS ‹_› | refine gS ‹_› ?_ | refine pS ‹_› ?_)))) ?_)) (by rfl)) ?_ | refine rdA_i (by repeat (first | assumption | refine gG ‹_› ?_ | exact pE ‹_› | refine pG ‹_› (by first | assumption | exact Ne.symm ‹_› | exact ne_fr ‹_› (by repeat (first | exact io ‹_› | exact mS ‹_› | refine gS ‹_› ?_ | refine pS ‹_› ?_)) | exact Ne.symm (ne_fr ‹_› (by repeat (first | exact io ‹_› | exact mS ‹_› | refine gS ‹_› ?_ | refine pS ‹_› ?_)))) ?_)) (by rfl) ?_ | (refine st_i2 (by repeat (first | assumption | refine gG ‹_› ?_ | exact pE ‹_› | refine pG ‹_› (by first | assumption | exact Ne.symm ‹_› | exact ne_fr ‹_› (by repeat (first | exact io ‹_› | exact mS ‹_› | refine gS ‹_› ?_ | refine pS ‹_› ?_)) | exact Ne.symm (ne_fr ‹_› (by repeat (first | exact io ‹_› | exact mS ‹_› | refine gS ‹_› ?_ | refine pS ‹_› ?_)))) ?_)) (by first | exact sz_int | exact sz_string | exact sz_bool | exact sz_Inode | exact sz_Quota | exact sz_MSI | exact sz_place | exact sz_Errno) (by rfl) (by rfl) ?_; intro _ _) | refine app_P ?_ | refine app_I ?_ | refine app_S ?_ | refine app_B ?_ | refine app_M ?_ | refine app_L ?_ | refine app_U ?_ | refine app_R ?_ | (refine app_of rfl ?_; try dsimp only)))
    cases hb : strEq name ⟨⟨[46]⟩⟩ with
    | true => rw [hb] at hK; exact br_f rfl (call_i (s_must _ _ (app_I hK)))
    | false =>
      rw [hb] at hK
      refine br_t rfl ?_
      (repeat (first | refine ptr_i ?_ | refine rdT_of (by repeat (first | assumption | refine gG ‹_› ?_ | exact pE ‹_› | refine pG ‹_› (by first | assumption | exact Ne.symm ‹_› | exact ne_fr ‹_› (by repeat (first | exact io ‹_› | exact mS ‹_› | refine gS ‹_› ?_ | refine pS ‹_› ?_)) | exact Ne.symm (ne_fr ‹_› (by repeat (first | exact io ‹_› | exact mS ‹_› | refine gS ‹_› ?_ | refine pS ‹_› ?_)))) ?_)) (by rfl) ?_ | (refine al_i ?_; intro _ _ _ _ _) | refine and_i (rdC_of (by repeat (first | assumption | refine gG ‹_› ?_ | exact pE ‹_› | refine pG ‹_› (by first | assumption | exact Ne.symm ‹_› | exact ne_fr ‹_› (by repeat (first | exact io ‹_› | exact mS ‹_› | refine gS ‹_› ?_ | refine pS ‹_› ?_)) | exact Ne.symm (ne_fr ‹_› (by repeat (first | exact io ‹_› | exact mS ‹_› | refine gS ‹_› ?_ | refine pS ‹_› ?_)))) ?_)) (by rfl)) ?_ | refine rdA_i (by repeat (first | assumption | refine gG ‹_› ?_ | exact pE ‹_› | refine pG ‹_› (by first | assumption | exact Ne.symm ‹_› | exact ne_fr ‹_› (by repeat (first | exact io ‹_› | exact mS ‹_› | refine gS ‹_› ?_ | refine pS ‹_› ?_)) | exact Ne.symm (ne_fr ‹_› (by repeat (first | exact io ‹_› | exact mS ‹_› | refine gS ‹_› ?_ | refine pS ‹_› ?_)))) ?_)) (by rfl) ?_ | (refine st_i2 (by repeat (first | assumption | refine gG ‹_› ?_ | exact pE ‹_› | refine pG ‹_› (by first | assumption | exact Ne.symm ‹_› | exact ne_fr ‹_› (by repeat (first | exact io ‹_› | exact mS ‹_› | refine gS ‹_› ?_ | refine pS ‹_› ?_)) | exact Ne.symm (ne_fr ‹_› (by repeat (first | exact io ‹_› | exact mS ‹_› | refine gS ‹_› ?_ | refine pS ‹_› ?_)))) ?_)) (by first | exact sz_int | exact sz_string | exact sz_bool | exact sz_Inode | exact sz_Quota | exact sz_MSI | exact sz_place | exact sz_Errno) (by rfl) (by rfl) ?_; intro _ _) | refine app_P ?_ | refine app_I ?_ | refine app_S ?_ | refine app_B ?_ | refine app_M ?_ | refine app_L ?_ | refine app_U ?_ | refine app_R ?_ | (refine app_of rfl ?_; try dsimp only)))
      cases hc : strEq name ⟨⟨[46, 46]⟩⟩ with
      | true => rw [hc] at hK; exact br_f rfl (call_i (s_must _ _ (app_I hK)))
      | false =>
        rw [hc] at hK
        refine br_t rfl ?_
        (repeat (first | refine ptr_i ?_ | refine rdT_of (by repeat (first | assumption | refine gG ‹_› ?_ | exact pE ‹_› | refine pG ‹_› (by first | assumption | exact Ne.symm ‹_› | exact ne_fr ‹_› (by repeat (first | exact io ‹_› | exact mS ‹_› | refine gS ‹_› ?_ | refine pS ‹_› ?_)) | exact Ne.symm (ne_fr ‹_› (by repeat (first | exact io ‹_› | exact mS ‹_› | refine gS ‹_› ?_ | refine pS ‹_› ?_)))) ?_)) (by rfl) ?_ | (refine al_i ?_; intro _ _ _ _ _) | refine and_i (rdC_of (by repeat (first | assumption | refine gG ‹_› ?_ | exact pE ‹_› | refine pG ‹_› (by first | assumption | exact Ne.symm ‹_› | exact ne_fr ‹_› (by repeat (first | exact io ‹_› | exact mS ‹_› | refine gS ‹_› ?_ | refine pS ‹_› ?_)) | exact Ne.symm (ne_fr ‹_› (by repeat (first | exact io ‹_› | exact mS ‹_› | refine gS ‹_› ?_ | refine pS ‹_› ?_)))) ?_)) (by rfl)) ?_ | refine rdA_i (by repeat (first | assumption | refine gG ‹_› ?_ | exact pE ‹_› | refine pG ‹_› (by first | assumption | exact Ne.symm ‹_› | exact ne_fr ‹_› (by repeat (first | exact io ‹_› | exact mS ‹_› | refine gS ‹_› ?_ | refine pS ‹_› ?_)) | exact Ne.symm (ne_fr ‹_› (by repeat (first | exact io ‹_› | exact mS ‹_› | refine gS ‹_› ?_ | refine pS ‹_› ?_)))) ?_)) (by rfl) ?_ | (refine st_i2 (by repeat (first | assumption | refine gG ‹_› ?_ | exact pE ‹_› | refine pG ‹_› (by first | assumption | exact Ne.symm ‹_› | exact ne_fr ‹_› (by repeat (first | exact io ‹_› | exact mS ‹_› | refine gS ‹_› ?_ | refine pS ‹_› ?_)) | exact Ne.symm (ne_fr ‹_› (by repeat (first | exact io ‹_› | exact mS ‹_› | refine gS ‹_› ?_ | refine pS ‹_› ?_)))) ?_)) (by first | exact sz_int | exact sz_string | exact sz_bool | exact sz_Inode | exact sz_Quota | exact sz_MSI | exact sz_place | exact sz_Errno) (by rfl) (by rfl) ?_; intro _ _) | refine app_P ?_ | refine app_I ?_ | refine app_S ?_ | refine app_B ?_ | refine app_M ?_ | refine app_L ?_ | refine app_U ?_ | refine app_R ?_ | (refine app_of rfl ?_; try dsimp only)))
        refine call_i (hC _ (by omega) _ _ (app_B ?_))
        exact call_i (s_must _ _ (app_I (by simpa using hK)))
theorem s_Make2 {σ : H} {bt : Nat} {T : Tb} (hT : TAt σ bt T) {b1 b2 : Nat} {data : ByteArray} {t1 t2 : TypeId} (h1 : σ b1 = some (.cells ⟨[.pointer (some ⟨bt, 0, none⟩)]⟩ t1 (0, 0))) (h2 : σ b2 = some (.cells ⟨[.string data]⟩ t2 (0, 0))) {K : Value → H → Prop}
    (hK : K (.int .i64 (T.roomE 1 data.size)) σ) : callW Tryz.prog 110 [.pointer (some ⟨b1, 0, none⟩), .pointer (some ⟨b2, 0, none⟩)] K σ := by
  refine pure_i _ hK (c110 _ _ ?_)
  unfold g110
  (repeat (first | refine ptr_i ?_ | refine rdT_of (by repeat (first | assumption | refine gG ‹_› ?_ | exact pE ‹_› | refine pG ‹_› (by first | assumption | exact Ne.symm ‹_› | exact ne_fr ‹_› (by repeat (first | exact io ‹_› | exact mS ‹_› | refine gS ‹_› ?_ | refine pS ‹_› ?_)) | exact Ne.symm (ne_fr ‹_› (by repeat (first | exact io ‹_› | exact mS ‹_› | refine gS ‹_› ?_ | refine pS ‹_› ?_)))) ?_)) (by rfl) ?_ | (refine al_i ?_; intro _ _ _ _ _) | refine and_i (rdC_of (by repeat (first | assumption | refine gG ‹_› ?_ | exact pE ‹_› | refine pG ‹_› (by first | assumption | exact Ne.symm ‹_› | exact ne_fr ‹_› (by repeat (first | exact io ‹_› | exact mS ‹_› | refine gS ‹_› ?_ | refine pS ‹_› ?_)) | exact Ne.symm (ne_fr ‹_› (by repeat (first | exact io ‹_› | exact mS ‹_› | refine gS ‹_› ?_ | refine pS ‹_› ?_)))) ?_)) (by rfl)) ?_ | refine rdA_i (by repeat (first | assumption | refine gG ‹_› ?_ | exact pE ‹_› | refine pG ‹_› (by first | assumption | exact Ne.symm ‹_› | exact ne_fr ‹_› (by repeat (first | exact io ‹_› | exact mS ‹_› | refine gS ‹_› ?_ | refine pS ‹_› ?_)) | exact Ne.symm (ne_fr ‹_› (by repeat (first | exact io ‹_› | exact mS ‹_› | refine gS ‹_› ?_ | refine pS ‹_› ?_)))) ?_)) (by rfl) ?_ | (refine st_i2 (by repeat (first | assumption | refine gG ‹_› ?_ | exact pE ‹_› | refine pG ‹_› (by first | assumption | exact Ne.symm ‹_› | exact ne_fr ‹_› (by repeat (first | exact io ‹_› | exact mS ‹_› | refine gS ‹_› ?_ | refine pS ‹_› ?_)) | exact Ne.symm (ne_fr ‹_› (by repeat (first | exact io ‹_› | exact mS ‹_› | refine gS ‹_› ?_ | refine pS ‹_› ?_)))) ?_)) (by first | exact sz_int | exact sz_string | exact sz_bool | exact sz_Inode | exact sz_Quota | exact sz_MSI | exact sz_place | exact sz_Errno) (by rfl) (by rfl) ?_; intro _ _) | refine app_P ?_ | refine app_I ?_ | refine app_S ?_ | refine app_B ?_ | refine app_M ?_ | refine app_L ?_ | refine app_U ?_ | refine app_R ?_ | (refine app_of rfl ?_; try dsimp only)))
  refine call_i (s_room _ _ _ ?_)
  intro c1 c2 c3 σ' hg e1 e2 e3
  refine app_R ?_
  refine cval_i go_room1 ?_
  exact s_room1 (hT.gr hg) e1 e2 e3 (app_I ⟨rfl, hg⟩)
theorem one_f {f : Fn} {as_ cs : Array Value} {g : H → Prop} {σ : H} (h : g σ) : oneK (.func f as_ cs) g σ := by unfold oneK; exact h
theorem und_MSI : Tryz.prog.underlying 140 = some (.map 9 3) := by kernel_rfl
theorem und_MIN : Tryz.prog.underlying 143 = some (.map 3 139) := by kernel_rfl
theorem firstE_z {e : Int} {es : List Int} (h : firstE (e :: es) = 0) : e = 0 ∧ firstE es = 0 := by
  unfold firstE at h
  by_cases he : e = 0
  · rw [if_pos he] at h; exact ⟨he, h⟩
  · rw [if_neg he] at h; exact absurd h he
theorem dirE_z {T : Tb} {d : Int} (h : T.dirE d = 0) : ∃ n, T.get d = some n ∧ n.kind = 2 := by
  unfold Tb.dirE at h
  cases hn : T.get d with
  | none => rw [hn] at h; cases h
  | some n =>
    rw [hn] at h
    refine ⟨n, rfl, ?_⟩
    cases hk : (n.kind == 2) with
    | true => simpa using hk
    | false => simp [hk] at h
theorem TAt.dir {σ : H} {bt : Nat} {T : Tb} (hT : TAt σ bt T) {d : Int} {n : Nd} (hn : T.get d = some n) (hk : n.kind = 2) : ∃ e, n.eb = some e := by
  have := (hT.get hn).dir hk
  cases he : n.eb with
  | none => exact absurd he this
  | some e => exact ⟨e, rfl⟩
theorem rdN {σ : H} {bt : Nat} {T : Tb} (hT : TAt σ bt T) {i : Int} {n : Nd} (hn : T.get i = some n) {F : Option Addr → H → Prop} (h : F (some ⟨n.blk, 0, none⟩) σ) : rdT (rdM (.int .i64) (.pointer none) false (some T.mb) (.int .i64 i)) kP F σ := by
  refine rd_P (x := some ⟨n.blk, 0, none⟩) ?_ h
  have := rdM_at (kk := kkI) hT.nodes (.pointer none) false i
  unfold Tb.get at hn
  rw [hn] at this
  exact this
theorem s_Make (hI : IByte) (hC : CAny) {σ : H} {bt : Nat} {A : AT} {B : Nat → Prop} (hA : TabAt σ bt A B) (dir : Int) (name : ByteArray) (kind mode : Int) (data : ByteArray) (hL : A.get (wr (A.last + 1)) = none) {K : Value → H → Prop}
    (hK : ∀ σ' B', TabAt σ' bt (AT.makeR A dir name kind mode data).2.2 B' → Sep σ B σ' B' → K (.tuple ⟨[.int .i64 (AT.makeR A dir name kind mode data).1, .int .i64 (AT.makeR A dir name kind mode data).2.1]⟩) σ') :
    callW Tryz.prog 53 [.pointer (some ⟨bt, 0, none⟩), .int .i64 dir, .string name, .int .i64 kind, .int .i64 mode, .string data] K σ := by
  obtain ⟨T, hT, hO, rfl, hB⟩ := hA
  have hc0 := hT.cells
  refine c53 _ _ _ _ _ _ ?_
  unfold g53
  refine al_i ?_; intro b7 σ1 g1 e1 n1
  refine al_i ?_; intro b8 σ2 g2 e2 n2
  refine al_i ?_; intro b9 σ3 g3 e3 n3
  refine al_i ?_; intro b10 σ4 g4 e4 n4
  (repeat (first | refine ptr_i ?_ | refine rdT_of (by repeat (first | assumption | refine gG ‹_› ?_ | exact pE ‹_› | refine pG ‹_› (by first | assumption | exact Ne.symm ‹_› | exact ne_fr ‹_› (by repeat (first | exact io ‹_› | exact mS ‹_› | refine gS ‹_› ?_ | refine pS ‹_› ?_)) | exact Ne.symm (ne_fr ‹_› (by repeat (first | exact io ‹_› | exact mS ‹_› | refine gS ‹_› ?_ | refine pS ‹_› ?_)))) ?_)) (by rfl) ?_ | (refine al_i ?_; intro _ _ _ _ _) | refine and_i (rdC_of (by repeat (first | assumption | refine gG ‹_› ?_ | exact pE ‹_› | refine pG ‹_› (by first | assumption | exact Ne.symm ‹_› | exact ne_fr ‹_› (by repeat (first | exact io ‹_› | exact mS ‹_› | refine gS ‹_› ?_ | refine pS ‹_› ?_)) | exact Ne.symm (ne_fr ‹_› (by repeat (first | exact io ‹_› | exact mS ‹_› | refine gS ‹_› ?_ | refine pS ‹_› ?_)))) ?_)) (by rfl)) ?_ | refine rdA_i (by repeat (first | assumption | refine gG ‹_› ?_ | exact pE ‹_› | refine pG ‹_› (by first | assumption | exact Ne.symm ‹_› | exact ne_fr ‹_› (by repeat (first | exact io ‹_› | exact mS ‹_› | refine gS ‹_› ?_ | refine pS ‹_› ?_)) | exact Ne.symm (ne_fr ‹_› (by repeat (first | exact io ‹_› | exact mS ‹_› | refine gS ‹_› ?_ | refine pS ‹_› ?_)))) ?_)) (by rfl) ?_ | (refine st_i2 (by repeat (first | assumption | refine gG ‹_› ?_ | exact pE ‹_› | refine pG ‹_› (by first | assumption | exact Ne.symm ‹_› | exact ne_fr ‹_› (by repeat (first | exact io ‹_› | exact mS ‹_› | refine gS ‹_› ?_ | refine pS ‹_› ?_)) | exact Ne.symm (ne_fr ‹_› (by repeat (first | exact io ‹_› | exact mS ‹_› | refine gS ‹_› ?_ | refine pS ‹_› ?_)))) ?_)) (by first | exact sz_int | exact sz_string | exact sz_bool | exact sz_Inode | exact sz_Quota | exact sz_MSI | exact sz_place | exact sz_Errno) (by rfl) (by rfl) ?_; intro _ _) | refine app_P ?_ | refine app_I ?_ | refine app_S ?_ | refine app_B ?_ | refine app_M ?_ | refine app_L ?_ | refine app_U ?_ | refine app_R ?_ | (refine app_of rfl ?_; try dsimp only)))
  refine call_i (s_dir _ _ ?_)
  intro c1 c2 σ5 g5 f1 f2
  refine app_R ?_
  (repeat (first | refine ptr_i ?_ | refine rdT_of (by repeat (first | assumption | refine gG ‹_› ?_ | exact pE ‹_› | refine pG ‹_› (by first | assumption | exact Ne.symm ‹_› | exact ne_fr ‹_› (by repeat (first | exact io ‹_› | exact mS ‹_› | refine gS ‹_› ?_ | refine pS ‹_› ?_)) | exact Ne.symm (ne_fr ‹_› (by repeat (first | exact io ‹_› | exact mS ‹_› | refine gS ‹_› ?_ | refine pS ‹_› ?_)))) ?_)) (by rfl) ?_ | (refine al_i ?_; intro _ _ _ _ _) | refine and_i (rdC_of (by repeat (first | assumption | refine gG ‹_› ?_ | exact pE ‹_› | refine pG ‹_› (by first | assumption | exact Ne.symm ‹_› | exact ne_fr ‹_› (by repeat (first | exact io ‹_› | exact mS ‹_› | refine gS ‹_› ?_ | refine pS ‹_› ?_)) | exact Ne.symm (ne_fr ‹_› (by repeat (first | exact io ‹_› | exact mS ‹_› | refine gS ‹_› ?_ | refine pS ‹_› ?_)))) ?_)) (by rfl)) ?_ | refine rdA_i (by repeat (first | assumption | refine gG ‹_› ?_ | exact pE ‹_› | refine pG ‹_› (by first | assumption | exact Ne.symm ‹_› | exact ne_fr ‹_› (by repeat (first | exact io ‹_› | exact mS ‹_› | refine gS ‹_› ?_ | refine pS ‹_› ?_)) | exact Ne.symm (ne_fr ‹_› (by repeat (first | exact io ‹_› | exact mS ‹_› | refine gS ‹_› ?_ | refine pS ‹_› ?_)))) ?_)) (by rfl) ?_ | (refine st_i2 (by repeat (first | assumption | refine gG ‹_› ?_ | exact pE ‹_› | refine pG ‹_› (by first | assumption | exact Ne.symm ‹_› | exact ne_fr ‹_› (by repeat (first | exact io ‹_› | exact mS ‹_› | refine gS ‹_› ?_ | refine pS ‹_› ?_)) | exact Ne.symm (ne_fr ‹_› (by repeat (first | exact io ‹_› | exact mS ‹_› | refine gS ‹_› ?_ | refine pS ‹_› ?_)))) ?_)) (by first | exact sz_int | exact sz_string | exact sz_bool | exact sz_Inode | exact sz_Quota | exact sz_MSI | exact sz_place | exact sz_Errno) (by rfl) (by rfl) ?_; intro _ _) | refine app_P ?_ | refine app_I ?_ | refine app_S ?_ | refine app_B ?_ | refine app_M ?_ | refine app_L ?_ | refine app_U ?_ | refine app_R ?_ | (refine app_of rfl ?_; try dsimp only)))
  refine call_i (s_named _ ?_)
  intro c3 σ6 g6 f3
  refine app_R ?_
  (repeat (first | refine ptr_i ?_ | refine rdT_of (by repeat (first | assumption | refine gG ‹_› ?_ | exact pE ‹_› | refine pG ‹_› (by first | assumption | exact Ne.symm ‹_› | exact ne_fr ‹_› (by repeat (first | exact io ‹_› | exact mS ‹_› | refine gS ‹_› ?_ | refine pS ‹_› ?_)) | exact Ne.symm (ne_fr ‹_› (by repeat (first | exact io ‹_› | exact mS ‹_› | refine gS ‹_› ?_ | refine pS ‹_› ?_)))) ?_)) (by rfl) ?_ | (refine al_i ?_; intro _ _ _ _ _) | refine and_i (rdC_of (by repeat (first | assumption | refine gG ‹_› ?_ | exact pE ‹_› | refine pG ‹_› (by first | assumption | exact Ne.symm ‹_› | exact ne_fr ‹_› (by repeat (first | exact io ‹_› | exact mS ‹_› | refine gS ‹_› ?_ | refine pS ‹_› ?_)) | exact Ne.symm (ne_fr ‹_› (by repeat (first | exact io ‹_› | exact mS ‹_› | refine gS ‹_› ?_ | refine pS ‹_› ?_)))) ?_)) (by rfl)) ?_ | refine rdA_i (by repeat (first | assumption | refine gG ‹_› ?_ | exact pE ‹_› | refine pG ‹_› (by first | assumption | exact Ne.symm ‹_› | exact ne_fr ‹_› (by repeat (first | exact io ‹_› | exact mS ‹_› | refine gS ‹_› ?_ | refine pS ‹_› ?_)) | exact Ne.symm (ne_fr ‹_› (by repeat (first | exact io ‹_› | exact mS ‹_› | refine gS ‹_› ?_ | refine pS ‹_› ?_)))) ?_)) (by rfl) ?_ | (refine st_i2 (by repeat (first | assumption | refine gG ‹_› ?_ | exact pE ‹_› | refine pG ‹_› (by first | assumption | exact Ne.symm ‹_› | exact ne_fr ‹_› (by repeat (first | exact io ‹_› | exact mS ‹_› | refine gS ‹_› ?_ | refine pS ‹_› ?_)) | exact Ne.symm (ne_fr ‹_› (by repeat (first | exact io ‹_› | exact mS ‹_› | refine gS ‹_› ?_ | refine pS ‹_› ?_)))) ?_)) (by first | exact sz_int | exact sz_string | exact sz_bool | exact sz_Inode | exact sz_Quota | exact sz_MSI | exact sz_place | exact sz_Errno) (by rfl) (by rfl) ?_; intro _ _) | refine app_P ?_ | refine app_I ?_ | refine app_S ?_ | refine app_B ?_ | refine app_M ?_ | refine app_L ?_ | refine app_U ?_ | refine app_R ?_ | (refine app_of rfl ?_; try dsimp only)))
  refine call_i (s_free _ _ _ ?_)
  intro c4 c5 c6 σ7 g7 f4 f5 f6
  refine app_R ?_
  (repeat (first | refine ptr_i ?_ | refine rdT_of (by repeat (first | assumption | refine gG ‹_› ?_ | exact pE ‹_› | refine pG ‹_› (by first | assumption | exact Ne.symm ‹_› | exact ne_fr ‹_› (by repeat (first | exact io ‹_› | exact mS ‹_› | refine gS ‹_› ?_ | refine pS ‹_› ?_)) | exact Ne.symm (ne_fr ‹_› (by repeat (first | exact io ‹_› | exact mS ‹_› | refine gS ‹_› ?_ | refine pS ‹_› ?_)))) ?_)) (by rfl) ?_ | (refine al_i ?_; intro _ _ _ _ _) | refine and_i (rdC_of (by repeat (first | assumption | refine gG ‹_› ?_ | exact pE ‹_› | refine pG ‹_› (by first | assumption | exact Ne.symm ‹_› | exact ne_fr ‹_› (by repeat (first | exact io ‹_› | exact mS ‹_› | refine gS ‹_› ?_ | refine pS ‹_› ?_)) | exact Ne.symm (ne_fr ‹_› (by repeat (first | exact io ‹_› | exact mS ‹_› | refine gS ‹_› ?_ | refine pS ‹_› ?_)))) ?_)) (by rfl)) ?_ | refine rdA_i (by repeat (first | assumption | refine gG ‹_› ?_ | exact pE ‹_› | refine pG ‹_› (by first | assumption | exact Ne.symm ‹_› | exact ne_fr ‹_› (by repeat (first | exact io ‹_› | exact mS ‹_› | refine gS ‹_› ?_ | refine pS ‹_› ?_)) | exact Ne.symm (ne_fr ‹_› (by repeat (first | exact io ‹_› | exact mS ‹_› | refine gS ‹_› ?_ | refine pS ‹_› ?_)))) ?_)) (by rfl) ?_ | (refine st_i2 (by repeat (first | assumption | refine gG ‹_› ?_ | exact pE ‹_› | refine pG ‹_› (by first | assumption | exact Ne.symm ‹_› | exact ne_fr ‹_› (by repeat (first | exact io ‹_› | exact mS ‹_› | refine gS ‹_› ?_ | refine pS ‹_› ?_)) | exact Ne.symm (ne_fr ‹_› (by repeat (first | exact io ‹_› | exact mS ‹_› | refine gS ‹_› ?_ | refine pS ‹_› ?_)))) ?_)) (by first | exact sz_int | exact sz_string | exact sz_bool | exact sz_Inode | exact sz_Quota | exact sz_MSI | exact sz_place | exact sz_Errno) (by rfl) (by rfl) ?_; intro _ _) | refine app_P ?_ | refine app_I ?_ | refine app_S ?_ | refine app_B ?_ | refine app_M ?_ | refine app_L ?_ | refine app_U ?_ | refine app_R ?_ | (refine app_of rfl ?_; try dsimp only)))
  refine one_f (one_f (one_f ?_))
  refine al_i ?_; intro b17 σ8 g8 e8 n8
  have hgr : Lng σ σ8 := ⟨by repeat (first | exact Gr.refl _ | assumption | refine Gr.trans ?_ ‹_› | refine Gr.putF ?_ ‹_› (none_of ?_ ‹_›))⟩
  have hT8 := hT.gr hgr.gr
  refine call_i (s_first (es := [0, T.dirE dir, namedE name, likeE kind mode data, if (T.find dir name).isSome then 6 else 0, T.roomE 1 data.size]) e8 ?_ (by simp) (app_I ?_))
  · refine ⟨pu_of go_there fun K hk => s_there _ hk, fun _ => ⟨pu_of go_dir1 fun K hk => s_dir1 hT8 (by repeat (first | assumption | refine gG ‹_› ?_ | exact pE ‹_› | refine pG ‹_› (by first | assumption | exact Ne.symm ‹_› | exact ne_fr ‹_› (by repeat (first | exact io ‹_› | exact mS ‹_› | refine gS ‹_› ?_ | refine pS ‹_› ?_)) | exact Ne.symm (ne_fr ‹_› (by repeat (first | exact io ‹_› | exact mS ‹_› | refine gS ‹_› ?_ | refine pS ‹_› ?_)))) ?_)) (by repeat (first | assumption | refine gG ‹_› ?_ | exact pE ‹_› | refine pG ‹_› (by first | assumption | exact Ne.symm ‹_› | exact ne_fr ‹_› (by repeat (first | exact io ‹_› | exact mS ‹_› | refine gS ‹_› ?_ | refine pS ‹_› ?_)) | exact Ne.symm (ne_fr ‹_› (by repeat (first | exact io ‹_› | exact mS ‹_› | refine gS ‹_› ?_ | refine pS ‹_› ?_)))) ?_)) hk, fun _ => ⟨pu_of go_named1 fun K hk => s_named1 hC (by repeat (first | assumption | refine gG ‹_› ?_ | exact pE ‹_› | refine pG ‹_› (by first | assumption | exact Ne.symm ‹_› | exact ne_fr ‹_› (by repeat (first | exact io ‹_› | exact mS ‹_› | refine gS ‹_› ?_ | refine pS ‹_› ?_)) | exact Ne.symm (ne_fr ‹_› (by repeat (first | exact io ‹_› | exact mS ‹_› | refine gS ‹_› ?_ | refine pS ‹_› ?_)))) ?_)) hk, fun _ => ⟨pu_of go_Make1 fun K hk => s_Make1 hI (by repeat (first | assumption | refine gG ‹_› ?_ | exact pE ‹_› | refine pG ‹_› (by first | assumption | exact Ne.symm ‹_› | exact ne_fr ‹_› (by repeat (first | exact io ‹_› | exact mS ‹_› | refine gS ‹_› ?_ | refine pS ‹_› ?_)) | exact Ne.symm (ne_fr ‹_› (by repeat (first | exact io ‹_› | exact mS ‹_› | refine gS ‹_› ?_ | refine pS ‹_› ?_)))) ?_)) (by repeat (first | assumption | refine gG ‹_› ?_ | exact pE ‹_› | refine pG ‹_› (by first | assumption | exact Ne.symm ‹_› | exact ne_fr ‹_› (by repeat (first | exact io ‹_› | exact mS ‹_› | refine gS ‹_› ?_ | refine pS ‹_› ?_)) | exact Ne.symm (ne_fr ‹_› (by repeat (first | exact io ‹_› | exact mS ‹_› | refine gS ‹_› ?_ | refine pS ‹_› ?_)))) ?_)) (by repeat (first | assumption | refine gG ‹_› ?_ | exact pE ‹_› | refine pG ‹_› (by first | assumption | exact Ne.symm ‹_› | exact ne_fr ‹_› (by repeat (first | exact io ‹_› | exact mS ‹_› | refine gS ‹_› ?_ | refine pS ‹_› ?_)) | exact Ne.symm (ne_fr ‹_› (by repeat (first | exact io ‹_› | exact mS ‹_› | refine gS ‹_› ?_ | refine pS ‹_› ?_)))) ?_)) hk, fun _ => ⟨pu_of go_free1 fun K hk => s_free1 hT8 (by repeat (first | assumption | refine gG ‹_› ?_ | exact pE ‹_› | refine pG ‹_› (by first | assumption | exact Ne.symm ‹_› | exact ne_fr ‹_› (by repeat (first | exact io ‹_› | exact mS ‹_› | refine gS ‹_› ?_ | refine pS ‹_› ?_)) | exact Ne.symm (ne_fr ‹_› (by repeat (first | exact io ‹_› | exact mS ‹_› | refine gS ‹_› ?_ | refine pS ‹_› ?_)))) ?_)) (by repeat (first | assumption | refine gG ‹_› ?_ | exact pE ‹_› | refine pG ‹_› (by first | assumption | exact Ne.symm ‹_› | exact ne_fr ‹_› (by repeat (first | exact io ‹_› | exact mS ‹_› | refine gS ‹_› ?_ | refine pS ‹_› ?_)) | exact Ne.symm (ne_fr ‹_› (by repeat (first | exact io ‹_› | exact mS ‹_› | refine gS ‹_› ?_ | refine pS ‹_› ?_)))) ?_)) (by repeat (first | assumption | refine gG ‹_› ?_ | exact pE ‹_› | refine pG ‹_› (by first | assumption | exact Ne.symm ‹_› | exact ne_fr ‹_› (by repeat (first | exact io ‹_› | exact mS ‹_› | refine gS ‹_› ?_ | refine pS ‹_› ?_)) | exact Ne.symm (ne_fr ‹_› (by repeat (first | exact io ‹_› | exact mS ‹_› | refine gS ‹_› ?_ | refine pS ‹_› ?_)))) ?_)) hk, fun _ => ⟨pu_of go_Make2 fun K hk => s_Make2 hT8 (by repeat (first | assumption | refine gG ‹_› ?_ | exact pE ‹_› | refine pG ‹_› (by first | assumption | exact Ne.symm ‹_› | exact ne_fr ‹_› (by repeat (first | exact io ‹_› | exact mS ‹_› | refine gS ‹_› ?_ | refine pS ‹_› ?_)) | exact Ne.symm (ne_fr ‹_› (by repeat (first | exact io ‹_› | exact mS ‹_› | refine gS ‹_› ?_ | refine pS ‹_› ?_)))) ?_)) (by repeat (first | assumption | refine gG ‹_› ?_ | exact pE ‹_› | refine pG ‹_› (by first | assumption | exact Ne.symm ‹_› | exact ne_fr ‹_› (by repeat (first | exact io ‹_› | exact mS ‹_› | refine gS ‹_› ?_ | refine pS ‹_› ?_)) | exact Ne.symm (ne_fr ‹_› (by repeat (first | exact io ‹_› | exact mS ‹_› | refine gS ‹_› ?_ | refine pS ‹_› ?_)))) ?_)) hk, fun _ => trivial⟩⟩⟩⟩⟩⟩
  have hE : firstE [0, T.dirE dir, namedE name, likeE kind mode data, if (T.find dir name).isSome then 6 else 0, T.roomE 1 data.size] = T.abs.makeE dir name kind mode data := by
    unfold AT.makeE; rw [abs_dirE, abs_find, abs_roomE]
  rw [hE]
  have hK' := hK; clear hK
  unfold AT.makeR at hK'
  by_cases h0 : T.abs.makeE dir name kind mode data = 0
  case neg =>
    rw [if_neg h0] at hK'
    refine br_t (by simpa using h0) ?_
    exact hK' σ8 B ⟨T, hT8, hO, rfl, hB⟩ (Sep.gr hgr.gr)
  rw [if_pos h0] at hK'
  refine br_f (by simpa using h0) ?_
  rw [← hE] at h0
  have hd := (firstE_z (firstE_z h0).2).1
  obtain ⟨nd, hnd, hkd⟩ := dirE_z hd
  have hc := hT8.cells
  unfold Tb.cells at hc
  have hb7 : ¬ T.own bt b7 := by rw [hB]; intro h; obtain ⟨o, ho⟩ := hT.own_some ((hB _).2 h); exact ne_fresh ho n1 rfl
  (repeat (first | refine ptr_i ?_ | refine rdT_of (by repeat (first | assumption | refine gG ‹_› ?_ | exact pE ‹_› | refine pG ‹_› (by first | assumption | exact Ne.symm ‹_› | exact ne_fr ‹_› (by repeat (first | exact io ‹_› | exact mS ‹_› | refine gS ‹_› ?_ | refine pS ‹_› ?_)) | exact Ne.symm (ne_fr ‹_› (by repeat (first | exact io ‹_› | exact mS ‹_› | refine gS ‹_› ?_ | refine pS ‹_› ?_)))) ?_)) (by rfl) ?_ | (refine al_i ?_; intro _ _ _ _ _) | refine and_i (rdC_of (by repeat (first | assumption | refine gG ‹_› ?_ | exact pE ‹_› | refine pG ‹_› (by first | assumption | exact Ne.symm ‹_› | exact ne_fr ‹_› (by repeat (first | exact io ‹_› | exact mS ‹_› | refine gS ‹_› ?_ | refine pS ‹_› ?_)) | exact Ne.symm (ne_fr ‹_› (by repeat (first | exact io ‹_› | exact mS ‹_› | refine gS ‹_› ?_ | refine pS ‹_› ?_)))) ?_)) (by rfl)) ?_ | refine rdA_i (by repeat (first | assumption | refine gG ‹_› ?_ | exact pE ‹_› | refine pG ‹_› (by first | assumption | exact Ne.symm ‹_› | exact ne_fr ‹_› (by repeat (first | exact io ‹_› | exact mS ‹_› | refine gS ‹_› ?_ | refine pS ‹_› ?_)) | exact Ne.symm (ne_fr ‹_› (by repeat (first | exact io ‹_› | exact mS ‹_› | refine gS ‹_› ?_ | refine pS ‹_› ?_)))) ?_)) (by rfl) ?_ | (refine st_i2 (by repeat (first | assumption | refine gG ‹_› ?_ | exact pE ‹_› | refine pG ‹_› (by first | assumption | exact Ne.symm ‹_› | exact ne_fr ‹_› (by repeat (first | exact io ‹_› | exact mS ‹_› | refine gS ‹_› ?_ | refine pS ‹_› ?_)) | exact Ne.symm (ne_fr ‹_› (by repeat (first | exact io ‹_› | exact mS ‹_› | refine gS ‹_› ?_ | refine pS ‹_› ?_)))) ?_)) (by first | exact sz_int | exact sz_string | exact sz_bool | exact sz_Inode | exact sz_Quota | exact sz_MSI | exact sz_place | exact sz_Errno) (by rfl) (by rfl) ?_; intro _ _) | refine app_P ?_ | refine app_I ?_ | refine app_S ?_ | refine app_B ?_ | refine app_M ?_ | refine app_L ?_ | refine app_U ?_ | refine app_R ?_ | (refine app_of rfl ?_; try dsimp only)))
  rename_i σ9 p9 b28 σ10 g10 e10 n10
  let T1 : Tb := { T with last := wr (T.last + 1) }
  have hT9 : TAt σ9 bt T1 := hT8.putT p9 rfl rfl
  have hT10 := hT9.gr g10
  have hO1 : Own T1 := hO.same rfl rfl
  have o1 : ∀ b, T1.own bt b ↔ B b := fun b => (own_same rfl rfl b).trans (hB b)
  have s10 : Sep σ B σ10 B := by
    intro b o hb hn
    refine ⟨g10.get (p9.get ?_ (hgr.gr.get hb)), hn⟩
    intro e; subst e; exact hn ((hB _).1 (.inl rfl))
  have k7 : σ10 b7 = some (.cells ⟨[.pointer (some ⟨bt, 0, none⟩)]⟩ 80 (0, 0)) := by repeat (first | assumption | refine gG ‹_› ?_ | exact pE ‹_› | refine pG ‹_› (by first | assumption | exact Ne.symm ‹_› | exact ne_fr ‹_› (by repeat (first | exact io ‹_› | exact mS ‹_› | refine gS ‹_› ?_ | refine pS ‹_› ?_)) | exact Ne.symm (ne_fr ‹_› (by repeat (first | exact io ‹_› | exact mS ‹_› | refine gS ‹_› ?_ | refine pS ‹_› ?_)))) ?_)
  have k8 : σ10 b8 = some (.cells ⟨[.int .i64 kind]⟩ 3 (0, 0)) := by repeat (first | assumption | refine gG ‹_› ?_ | exact pE ‹_› | refine pG ‹_› (by first | assumption | exact Ne.symm ‹_› | exact ne_fr ‹_› (by repeat (first | exact io ‹_› | exact mS ‹_› | refine gS ‹_› ?_ | refine pS ‹_› ?_)) | exact Ne.symm (ne_fr ‹_› (by repeat (first | exact io ‹_› | exact mS ‹_› | refine gS ‹_› ?_ | refine pS ‹_› ?_)))) ?_)
  have k10 : σ10 b10 = some (.cells ⟨[.string data]⟩ 9 (0, 0)) := by repeat (first | assumption | refine gG ‹_› ?_ | exact pE ‹_› | refine pG ‹_› (by first | assumption | exact Ne.symm ‹_› | exact ne_fr ‹_› (by repeat (first | exact io ‹_› | exact mS ‹_› | refine gS ‹_› ?_ | refine pS ‹_› ?_)) | exact Ne.symm (ne_fr ‹_› (by repeat (first | exact io ‹_› | exact mS ‹_› | refine gS ‹_› ?_ | refine pS ‹_› ?_)))) ?_)
  have nb : ∀ b, T1.own bt b → ∃ o, σ b = some o := by
    intro b hb; exact hT.own_some ((own_same rfl rfl b).1 hb)
  have q7 : b7 ≠ b28 := ne_fr n10 (by repeat (first | exact io ‹_› | exact mS ‹_› | refine gS ‹_› ?_ | refine pS ‹_› ?_))
  have q10 : b10 ≠ b28 := ne_fr n10 (by repeat (first | exact io ‹_› | exact mS ‹_› | refine gS ‹_› ?_ | refine pS ‹_› ?_))
  have f28 : σ b28 = none := none_of hgr.gr (by
    cases hx : σ8 b28 with
    | none => rfl
    | some o' =>
      exfalso
      have : b28 ≠ bt := ne_fr n10 (by repeat (first | exact io ‹_› | exact mS ‹_› | refine gS ‹_› ?_ | refine pS ‹_› ?_)) |>.symm
      exact ne_fresh (p9.get this hx) n10 rfl)
  have hfr : ¬ T1.own bt b28 := by
    intro h; obtain ⟨o, ho⟩ := nb _ h
    rw [f28] at ho; cases ho
  refine j_i (fun j => ∀ σ' eb, NdAt σ' ⟨b28, kind, mode, data, 1, if kind == 2 then dir else 0, eb, []⟩ → TAt σ' bt T1 → (∀ e, eb = some e → σ e = none) → σ' b7 = some (.cells ⟨[.pointer (some ⟨bt, 0, none⟩)]⟩ 80 (0, 0)) → σ' b10 = some (.cells ⟨[.string data]⟩ 9 (0, 0)) → Sep σ B σ' B → j dir name (some ⟨b7, 0, none⟩) (some ⟨b10, 0, none⟩) (some ⟨b28, 0, none⟩) σ') ?_ ?_
  · intro σ' eb hN hT' heb h7 h10 hs
    have hcT := hT'.cells
    unfold Tb.cells at hcT
    have hm := hT'.nodes
    have e28 := hN.cells
    have nm : bt ≠ T1.mb := hT'.bt_mb
    have n7m : b7 ≠ T1.mb := ne_cm h7 hm
    have n10m : b10 ≠ T1.mb := ne_cm h10 hm
    have n7t : b7 ≠ bt := by first | assumption | exact Ne.symm ‹_› | exact ne_fr ‹_› (by repeat (first | exact io ‹_› | exact mS ‹_› | refine gS ‹_› ?_ | refine pS ‹_› ?_)) | exact Ne.symm (ne_fr ‹_› (by repeat (first | exact io ‹_› | exact mS ‹_› | refine gS ‹_› ?_ | refine pS ‹_› ?_)))
    have n10t : b10 ≠ bt := by first | assumption | exact Ne.symm ‹_› | exact ne_fr ‹_› (by repeat (first | exact io ‹_› | exact mS ‹_› | refine gS ‹_› ?_ | refine pS ‹_› ?_)) | exact Ne.symm (ne_fr ‹_› (by repeat (first | exact io ‹_› | exact mS ‹_› | refine gS ‹_› ?_ | refine pS ‹_› ?_)))
    let nn : Nd := ⟨b28, kind, mode, data, 1, if kind == 2 then dir else 0, eb, []⟩
    have hfe : ∀ e, eb = some e → ¬ T1.own bt e := by
      intro e he h; obtain ⟨o, ho⟩ := nb _ h; rw [heb e he] at ho; cases ho
    (repeat (first | refine ptr_i ?_ | refine rdT_of (by repeat (first | assumption | refine gG ‹_› ?_ | exact pE ‹_› | refine pG ‹_› (by first | assumption | exact Ne.symm ‹_› | exact ne_fr ‹_› (by repeat (first | exact io ‹_› | exact mS ‹_› | refine gS ‹_› ?_ | refine pS ‹_› ?_)) | exact Ne.symm (ne_fr ‹_› (by repeat (first | exact io ‹_› | exact mS ‹_› | refine gS ‹_› ?_ | refine pS ‹_› ?_)))) ?_)) (by rfl) ?_ | (refine al_i ?_; intro _ _ _ _ _) | refine and_i (rdC_of (by repeat (first | assumption | refine gG ‹_› ?_ | exact pE ‹_› | refine pG ‹_› (by first | assumption | exact Ne.symm ‹_› | exact ne_fr ‹_› (by repeat (first | exact io ‹_› | exact mS ‹_› | refine gS ‹_› ?_ | refine pS ‹_› ?_)) | exact Ne.symm (ne_fr ‹_› (by repeat (first | exact io ‹_› | exact mS ‹_› | refine gS ‹_› ?_ | refine pS ‹_› ?_)))) ?_)) (by rfl)) ?_ | refine rdA_i (by repeat (first | assumption | refine gG ‹_› ?_ | exact pE ‹_› | refine pG ‹_› (by first | assumption | exact Ne.symm ‹_› | exact ne_fr ‹_› (by repeat (first | exact io ‹_› | exact mS ‹_› | refine gS ‹_› ?_ | refine pS ‹_› ?_)) | exact Ne.symm (ne_fr ‹_› (by repeat (first | exact io ‹_› | exact mS ‹_› | refine gS ‹_› ?_ | refine pS ‹_› ?_)))) ?_)) (by rfl) ?_ | (refine st_i2 (by repeat (first | assumption | refine gG ‹_› ?_ | exact pE ‹_› | refine pG ‹_› (by first | assumption | exact Ne.symm ‹_› | exact ne_fr ‹_› (by repeat (first | exact io ‹_› | exact mS ‹_› | refine gS ‹_› ?_ | refine pS ‹_› ?_)) | exact Ne.symm (ne_fr ‹_› (by repeat (first | exact io ‹_› | exact mS ‹_› | refine gS ‹_› ?_ | refine pS ‹_› ?_)))) ?_)) (by first | exact sz_int | exact sz_string | exact sz_bool | exact sz_Inode | exact sz_Quota | exact sz_MSI | exact sz_place | exact sz_Errno) (by rfl) (by rfl) ?_; intro _ _) | refine app_P ?_ | refine app_I ?_ | refine app_S ?_ | refine app_B ?_ | refine app_M ?_ | refine app_L ?_ | refine app_U ?_ | refine app_R ?_ | (refine app_of rfl ?_; try dsimp only)))
    refine mu_i (kk := kkI) (f := Nd.ptr) und_MIN und_int hm (wr (T.last + 1)) nn ?_
    intro o11 σ11 p11 m11
    have hT11 : TAt σ11 bt (T1.set (wr (T.last + 1)) nn) := hT'.putA hO1 hN p11 m11 (by intro h; exact hfe _ h (.inr (.inl rfl)))
    have hO11 : Own (T1.set (wr (T.last + 1)) nn) := hO1.add hfr hfe
    (repeat (first | refine ptr_i ?_ | refine rdT_of (by repeat (first | assumption | refine gG ‹_› ?_ | exact pE ‹_› | refine pG ‹_› (by first | assumption | exact Ne.symm ‹_› | exact ne_fr ‹_› (by repeat (first | exact io ‹_› | exact mS ‹_› | refine gS ‹_› ?_ | refine pS ‹_› ?_)) | exact Ne.symm (ne_fr ‹_› (by repeat (first | exact io ‹_› | exact mS ‹_› | refine gS ‹_› ?_ | refine pS ‹_› ?_)))) ?_)) (by rfl) ?_ | (refine al_i ?_; intro _ _ _ _ _) | refine and_i (rdC_of (by repeat (first | assumption | refine gG ‹_› ?_ | exact pE ‹_› | refine pG ‹_› (by first | assumption | exact Ne.symm ‹_› | exact ne_fr ‹_› (by repeat (first | exact io ‹_› | exact mS ‹_› | refine gS ‹_› ?_ | refine pS ‹_› ?_)) | exact Ne.symm (ne_fr ‹_› (by repeat (first | exact io ‹_› | exact mS ‹_› | refine gS ‹_› ?_ | refine pS ‹_› ?_)))) ?_)) (by rfl)) ?_ | refine rdA_i (by repeat (first | assumption | refine gG ‹_› ?_ | exact pE ‹_› | refine pG ‹_› (by first | assumption | exact Ne.symm ‹_› | exact ne_fr ‹_› (by repeat (first | exact io ‹_› | exact mS ‹_› | refine gS ‹_› ?_ | refine pS ‹_› ?_)) | exact Ne.symm (ne_fr ‹_› (by repeat (first | exact io ‹_› | exact mS ‹_› | refine gS ‹_› ?_ | refine pS ‹_› ?_)))) ?_)) (by rfl) ?_ | (refine st_i2 (by repeat (first | assumption | refine gG ‹_› ?_ | exact pE ‹_› | refine pG ‹_› (by first | assumption | exact Ne.symm ‹_› | exact ne_fr ‹_› (by repeat (first | exact io ‹_› | exact mS ‹_› | refine gS ‹_› ?_ | refine pS ‹_› ?_)) | exact Ne.symm (ne_fr ‹_› (by repeat (first | exact io ‹_› | exact mS ‹_› | refine gS ‹_› ?_ | refine pS ‹_› ?_)))) ?_)) (by first | exact sz_int | exact sz_string | exact sz_bool | exact sz_Inode | exact sz_Quota | exact sz_MSI | exact sz_place | exact sz_Errno) (by rfl) (by rfl) ?_; intro _ _) | refine app_P ?_ | refine app_I ?_ | refine app_S ?_ | refine app_B ?_ | refine app_M ?_ | refine app_L ?_ | refine app_U ?_ | refine app_R ?_ | (refine app_of rfl ?_; try dsimp only)))
    have hL' : T1.get (wr (T.last + 1)) = none := by
      rw [abs_get] at hL
      exact Option.map_eq_none_iff.1 hL
    have hdl : dir ≠ wr (T.last + 1) := by
      intro e; rw [← e] at hL'; have : T1.get dir = T.get dir := rfl; rw [this, hnd] at hL'; cases hL'
    have hd11 : (T1.set (wr (T.last + 1)) nn).get dir = some nd := by rw [get_set, if_neg hdl]; exact hnd
    refine rdN hT11 hd11 ?_
    obtain ⟨ed, hed⟩ := hT11.dir hd11 hkd
    have cD := (hT11.get hd11).cells
    unfold Nd.cells at cD
    rw [hed] at cD
    (repeat (first | refine ptr_i ?_ | refine rdT_of (by repeat (first | assumption | refine gG ‹_› ?_ | exact pE ‹_› | refine pG ‹_› (by first | assumption | exact Ne.symm ‹_› | exact ne_fr ‹_› (by repeat (first | exact io ‹_› | exact mS ‹_› | refine gS ‹_› ?_ | refine pS ‹_› ?_)) | exact Ne.symm (ne_fr ‹_› (by repeat (first | exact io ‹_› | exact mS ‹_› | refine gS ‹_› ?_ | refine pS ‹_› ?_)))) ?_)) (by rfl) ?_ | (refine al_i ?_; intro _ _ _ _ _) | refine and_i (rdC_of (by repeat (first | assumption | refine gG ‹_› ?_ | exact pE ‹_› | refine pG ‹_› (by first | assumption | exact Ne.symm ‹_› | exact ne_fr ‹_› (by repeat (first | exact io ‹_› | exact mS ‹_› | refine gS ‹_› ?_ | refine pS ‹_› ?_)) | exact Ne.symm (ne_fr ‹_› (by repeat (first | exact io ‹_› | exact mS ‹_› | refine gS ‹_› ?_ | refine pS ‹_› ?_)))) ?_)) (by rfl)) ?_ | refine rdA_i (by repeat (first | assumption | refine gG ‹_› ?_ | exact pE ‹_› | refine pG ‹_› (by first | assumption | exact Ne.symm ‹_› | exact ne_fr ‹_› (by repeat (first | exact io ‹_› | exact mS ‹_› | refine gS ‹_› ?_ | refine pS ‹_› ?_)) | exact Ne.symm (ne_fr ‹_› (by repeat (first | exact io ‹_› | exact mS ‹_› | refine gS ‹_› ?_ | refine pS ‹_› ?_)))) ?_)) (by rfl) ?_ | (refine st_i2 (by repeat (first | assumption | refine gG ‹_› ?_ | exact pE ‹_› | refine pG ‹_› (by first | assumption | exact Ne.symm ‹_› | exact ne_fr ‹_› (by repeat (first | exact io ‹_› | exact mS ‹_› | refine gS ‹_› ?_ | refine pS ‹_› ?_)) | exact Ne.symm (ne_fr ‹_› (by repeat (first | exact io ‹_› | exact mS ‹_› | refine gS ‹_› ?_ | refine pS ‹_› ?_)))) ?_)) (by first | exact sz_int | exact sz_string | exact sz_bool | exact sz_Inode | exact sz_Quota | exact sz_MSI | exact sz_place | exact sz_Errno) (by rfl) (by rfl) ?_; intro _ _) | refine app_P ?_ | refine app_I ?_ | refine app_S ?_ | refine app_B ?_ | refine app_M ?_ | refine app_L ?_ | refine app_U ?_ | refine app_R ?_ | (refine app_of rfl ?_; try dsimp only)))
    have mE := (hT11.get hd11).ents ed hed
    refine mu_i (kk := kkS) (f := valI) und_MSI und_string mE name (wr (T.last + 1)) ?_
    intro o12 σ12 p12 m12
    have hT12 := hT11.putE hO11 hd11 hed p12 m12
    have hO12 : Own ((T1.set (wr (T.last + 1)) nn).set dir { nd with ents := HL.up name (wr (T.last + 1)) nd.ents }) := hO11.set hd11 rfl rfl
    have n7e : b7 ≠ ed := ne_cm (p11.get n7m h7) mE
    have n10e : b10 ≠ ed := ne_cm (p11.get n10m h10) mE
    have nte : bt ≠ ed := ne_cm hT11.cells mE
    (repeat (first | refine ptr_i ?_ | refine rdT_of (by repeat (first | assumption | refine gG ‹_› ?_ | exact pE ‹_› | refine pG ‹_› (by first | assumption | exact Ne.symm ‹_› | exact ne_fr ‹_› (by repeat (first | exact io ‹_› | exact mS ‹_› | refine gS ‹_› ?_ | refine pS ‹_› ?_)) | exact Ne.symm (ne_fr ‹_› (by repeat (first | exact io ‹_› | exact mS ‹_› | refine gS ‹_› ?_ | refine pS ‹_› ?_)))) ?_)) (by rfl) ?_ | (refine al_i ?_; intro _ _ _ _ _) | refine and_i (rdC_of (by repeat (first | assumption | refine gG ‹_› ?_ | exact pE ‹_› | refine pG ‹_› (by first | assumption | exact Ne.symm ‹_› | exact ne_fr ‹_› (by repeat (first | exact io ‹_› | exact mS ‹_› | refine gS ‹_› ?_ | refine pS ‹_› ?_)) | exact Ne.symm (ne_fr ‹_› (by repeat (first | exact io ‹_› | exact mS ‹_› | refine gS ‹_› ?_ | refine pS ‹_› ?_)))) ?_)) (by rfl)) ?_ | refine rdA_i (by repeat (first | assumption | refine gG ‹_› ?_ | exact pE ‹_› | refine pG ‹_› (by first | assumption | exact Ne.symm ‹_› | exact ne_fr ‹_› (by repeat (first | exact io ‹_› | exact mS ‹_› | refine gS ‹_› ?_ | refine pS ‹_› ?_)) | exact Ne.symm (ne_fr ‹_› (by repeat (first | exact io ‹_› | exact mS ‹_› | refine gS ‹_› ?_ | refine pS ‹_› ?_)))) ?_)) (by rfl) ?_ | (refine st_i2 (by repeat (first | assumption | refine gG ‹_› ?_ | exact pE ‹_› | refine pG ‹_› (by first | assumption | exact Ne.symm ‹_› | exact ne_fr ‹_› (by repeat (first | exact io ‹_› | exact mS ‹_› | refine gS ‹_› ?_ | refine pS ‹_› ?_)) | exact Ne.symm (ne_fr ‹_› (by repeat (first | exact io ‹_› | exact mS ‹_› | refine gS ‹_› ?_ | refine pS ‹_› ?_)))) ?_)) (by first | exact sz_int | exact sz_string | exact sz_bool | exact sz_Inode | exact sz_Quota | exact sz_MSI | exact sz_place | exact sz_Errno) (by rfl) (by rfl) ?_; intro _ _) | refine app_P ?_ | refine app_I ?_ | refine app_S ?_ | refine app_B ?_ | refine app_M ?_ | refine app_L ?_ | refine app_U ?_ | refine app_R ?_ | (refine app_of rfl ?_; try dsimp only)))
    rename_i σ13 p13 σ14 p14
    have hT13 := hT12.putT (T' := { ((T1.set (wr (T.last + 1)) nn).set dir { nd with ents := HL.up name (wr (T.last + 1)) nd.ents }) with ui := wr (T.ui + 1) }) p13 rfl rfl
    have hT14 := hT13.putT (T' := { ((T1.set (wr (T.last + 1)) nn).set dir { nd with ents := HL.up name (wr (T.last + 1)) nd.ents }) with ui := wr (T.ui + 1), ub := wr (T.ub + data.size) }) p14 rfl rfl
    refine hK' σ14 (Tb.own bt { ((T1.set (wr (T.last + 1)) nn).set dir { nd with ents := HL.up name (wr (T.last + 1)) nd.ents }) with ui := wr (T.ui + 1), ub := wr (T.ub + data.size) }) ⟨_, hT14, hO12.same rfl rfl, ?_, fun _ => Iff.rfl⟩ ?_
    · have hA1 : (T1.set (wr (T.last + 1)) nn).abs = { T.abs with last := wr (T.abs.last + 1), nodes := HL.up (wr (T.abs.last + 1)) ⟨kind, mode, data, 1, if kind == 2 then dir else 0, []⟩ T.abs.nodes } := abs_set ..
      have hg1 : (T1.set (wr (T.last + 1)) nn).abs.get dir = some nd.abs := by rw [abs_get, hd11]; rfl
      unfold AT.made AT.ent
      simp only
      rw [← hA1, hg1]
      simp only
      have h5 := abs_set (T1.set (wr (T.last + 1)) nn) dir { nd with ents := HL.up name (wr (T.last + 1)) nd.ents }
      show ({ ((T1.set (wr (T.last + 1)) nn).set dir { nd with ents := HL.up name (wr (T.last + 1)) nd.ents }).abs with ui := wr (T.ui + 1), ub := wr (T.ub + data.size) } : AT) = _
      rw [h5]; rfl
    · intro b o hb hn
      obtain ⟨hb', _⟩ := hs b o hb hn
      have q1 : b ≠ bt := by intro e; subst e; exact hn ((o1 _).1 (.inl rfl))
      have q2 : b ≠ T1.mb := by intro e; subst e; exact hn ((o1 _).1 (.inr (.inl rfl)))
      have q3 : b ≠ ed := by intro e; subst e; exact hn ((o1 _).1 (.inr (.inr ⟨dir, nd, hnd, .inr hed⟩)))
      refine ⟨p14.get q1 (p13.get q1 (p12.get q3 (p11.get q2 hb'))), ?_⟩
      intro hown
      have h1 := (own_same (T := (T1.set (wr (T.last + 1)) nn).set dir { nd with ents := HL.up name (wr (T.last + 1)) nd.ents }) rfl rfl b).1 hown
      have h2 := (own_set (n' := { nd with ents := HL.up name (wr (T.last + 1)) nd.ents }) hd11 rfl rfl b).1 h1
      rcases own_add b h2 with h3 | h3 | h3
      · exact hn ((o1 _).1 h3)
      · exact ne_fresh hb f28 h3
      · exact ne_fresh hb (heb b h3) rfl
  · intro j hj
    (repeat (first | refine ptr_i ?_ | refine rdT_of (by repeat (first | assumption | refine gG ‹_› ?_ | exact pE ‹_› | refine pG ‹_› (by first | assumption | exact Ne.symm ‹_› | exact ne_fr ‹_› (by repeat (first | exact io ‹_› | exact mS ‹_› | refine gS ‹_› ?_ | refine pS ‹_› ?_)) | exact Ne.symm (ne_fr ‹_› (by repeat (first | exact io ‹_› | exact mS ‹_› | refine gS ‹_› ?_ | refine pS ‹_› ?_)))) ?_)) (by rfl) ?_ | (refine al_i ?_; intro _ _ _ _ _) | refine and_i (rdC_of (by repeat (first | assumption | refine gG ‹_› ?_ | exact pE ‹_› | refine pG ‹_› (by first | assumption | exact Ne.symm ‹_› | exact ne_fr ‹_› (by repeat (first | exact io ‹_› | exact mS ‹_› | refine gS ‹_› ?_ | refine pS ‹_› ?_)) | exact Ne.symm (ne_fr ‹_› (by repeat (first | exact io ‹_› | exact mS ‹_› | refine gS ‹_› ?_ | refine pS ‹_› ?_)))) ?_)) (by rfl)) ?_ | refine rdA_i (by repeat (first | assumption | refine gG ‹_› ?_ | exact pE ‹_› | refine pG ‹_› (by first | assumption | exact Ne.symm ‹_› | exact ne_fr ‹_› (by repeat (first | exact io ‹_› | exact mS ‹_› | refine gS ‹_› ?_ | refine pS ‹_› ?_)) | exact Ne.symm (ne_fr ‹_› (by repeat (first | exact io ‹_› | exact mS ‹_› | refine gS ‹_› ?_ | refine pS ‹_› ?_)))) ?_)) (by rfl) ?_ | (refine st_i2 (by repeat (first | assumption | refine gG ‹_› ?_ | exact pE ‹_› | refine pG ‹_› (by first | assumption | exact Ne.symm ‹_› | exact ne_fr ‹_› (by repeat (first | exact io ‹_› | exact mS ‹_› | refine gS ‹_› ?_ | refine pS ‹_› ?_)) | exact Ne.symm (ne_fr ‹_› (by repeat (first | exact io ‹_› | exact mS ‹_› | refine gS ‹_› ?_ | refine pS ‹_› ?_)))) ?_)) (by first | exact sz_int | exact sz_string | exact sz_bool | exact sz_Inode | exact sz_Quota | exact sz_MSI | exact sz_place | exact sz_Errno) (by rfl) (by rfl) ?_; intro _ _) | refine app_P ?_ | refine app_I ?_ | refine app_S ?_ | refine app_B ?_ | refine app_M ?_ | refine app_L ?_ | refine app_U ?_ | refine app_R ?_ | (refine app_of rfl ?_; try dsimp only)))
    cases hk2 : (kind == 2) with
    | false =>
      refine br_f rfl ?_
      refine hj σ10 none ⟨by rw [hk2]; exact e10, fun _ h => (by cases h), fun _ => rfl, fun h => ?_⟩ hT10 (fun _ h => (by cases h)) k7 k10 s10
      exfalso; simp at hk2; exact hk2 h
    | true =>
      refine br_t rfl ?_
      (repeat (first | refine ptr_i ?_ | refine rdT_of (by repeat (first | assumption | refine gG ‹_› ?_ | exact pE ‹_› | refine pG ‹_› (by first | assumption | exact Ne.symm ‹_› | exact ne_fr ‹_› (by repeat (first | exact io ‹_› | exact mS ‹_› | refine gS ‹_› ?_ | refine pS ‹_› ?_)) | exact Ne.symm (ne_fr ‹_› (by repeat (first | exact io ‹_› | exact mS ‹_› | refine gS ‹_› ?_ | refine pS ‹_› ?_)))) ?_)) (by rfl) ?_ | (refine al_i ?_; intro _ _ _ _ _) | refine and_i (rdC_of (by repeat (first | assumption | refine gG ‹_› ?_ | exact pE ‹_› | refine pG ‹_› (by first | assumption | exact Ne.symm ‹_› | exact ne_fr ‹_› (by repeat (first | exact io ‹_› | exact mS ‹_› | refine gS ‹_› ?_ | refine pS ‹_› ?_)) | exact Ne.symm (ne_fr ‹_› (by repeat (first | exact io ‹_› | exact mS ‹_› | refine gS ‹_› ?_ | refine pS ‹_› ?_)))) ?_)) (by rfl)) ?_ | refine rdA_i (by repeat (first | assumption | refine gG ‹_› ?_ | exact pE ‹_› | refine pG ‹_› (by first | assumption | exact Ne.symm ‹_› | exact ne_fr ‹_› (by repeat (first | exact io ‹_› | exact mS ‹_› | refine gS ‹_› ?_ | refine pS ‹_› ?_)) | exact Ne.symm (ne_fr ‹_› (by repeat (first | exact io ‹_› | exact mS ‹_› | refine gS ‹_› ?_ | refine pS ‹_› ?_)))) ?_)) (by rfl) ?_ | (refine st_i2 (by repeat (first | assumption | refine gG ‹_› ?_ | exact pE ‹_› | refine pG ‹_› (by first | assumption | exact Ne.symm ‹_› | exact ne_fr ‹_› (by repeat (first | exact io ‹_› | exact mS ‹_› | refine gS ‹_› ?_ | refine pS ‹_› ?_)) | exact Ne.symm (ne_fr ‹_› (by repeat (first | exact io ‹_› | exact mS ‹_› | refine gS ‹_› ?_ | refine pS ‹_› ?_)))) ?_)) (by first | exact sz_int | exact sz_string | exact sz_bool | exact sz_Inode | exact sz_Quota | exact sz_MSI | exact sz_place | exact sz_Errno) (by rfl) (by rfl) ?_; intro _ _) | refine app_P ?_ | refine app_I ?_ | refine app_S ?_ | refine app_B ?_ | refine app_M ?_ | refine app_L ?_ | refine app_U ?_ | refine app_R ?_ | (refine app_of rfl ?_; try dsimp only)))
      rename_i b89 σ11 g11 e11 n11 σ12 p12 σ13 p13
      have n89 : ∀ b o, σ10 b = some o → b ≠ b89 := fun b o hb => ne_fresh hb n11
      have hf89 : ¬ T1.own bt b89 := by
        intro h; obtain ⟨o, ho⟩ := hT10.own_some h; exact n89 _ _ ho rfl
      have f89 : σ b89 = none := by
        cases hx : σ b89 with
        | none => rfl
        | some o => exfalso; exact hf89 ((o1 _).2 (Classical.byContradiction fun h => n89 _ _ (s10 _ _ hx h).1 rfl))
      refine hj σ13 (some b89) ⟨by rw [hk2]; exact p13.same, fun e he => ?_, fun h => (by cases h), fun _ h => (by cases h)⟩ (((hT10.gr g11).put p12 hfr).put p13 hfr) (fun e he => by cases he; exact f89) (by repeat (first | assumption | refine gG ‹_› ?_ | exact pE ‹_› | refine pG ‹_› (by first | assumption | exact Ne.symm ‹_› | exact ne_fr ‹_› (by repeat (first | exact io ‹_› | exact mS ‹_› | refine gS ‹_› ?_ | refine pS ‹_› ?_)) | exact Ne.symm (ne_fr ‹_› (by repeat (first | exact io ‹_› | exact mS ‹_› | refine gS ‹_› ?_ | refine pS ‹_› ?_)))) ?_)) (by repeat (first | assumption | refine gG ‹_› ?_ | exact pE ‹_› | refine pG ‹_› (by first | assumption | exact Ne.symm ‹_› | exact ne_fr ‹_› (by repeat (first | exact io ‹_› | exact mS ‹_› | refine gS ‹_› ?_ | refine pS ‹_› ?_)) | exact Ne.symm (ne_fr ‹_› (by repeat (first | exact io ‹_› | exact mS ‹_› | refine gS ‹_› ?_ | refine pS ‹_› ?_)))) ?_)) ?_
      · cases he
        refine MapAt.new ?_
        have : b89 ≠ b28 := (n89 _ _ e10).symm
        exact p13.get this (p12.get this e11)
      · intro b o hb hn
        have q : b ≠ b28 := ne_fresh hb f28
        exact ⟨p13.get q (p12.get q (g11.get (s10 b o hb hn).1)), hn⟩
end Go.Proofs.YtlpcehbfoogejaaGreatDoor

