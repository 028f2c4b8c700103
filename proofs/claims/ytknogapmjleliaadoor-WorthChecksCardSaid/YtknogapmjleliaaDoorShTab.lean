/- The table of the functions. No condition. -/
import Derived.Test.YtknogapmjleliaaDoorSh0
import Derived.Test.YtknogapmjleliaaDoorSh1
import Derived.Test.YtknogapmjleliaaDoorExt
namespace Go.Proofs.YtknogapmjleliaaDoor
open Go Go.AM
set_option linter.unusedVariables false
set_option maxRecDepth 100000

def Tb : Nat → Option AFn
  | 3 => some (.code F3)
  | 4 => some (.code F4)
  | 5 => some (.code F5)
  | 6 => some (.code F6)
  | 7 => some (.code F7)
  | 8 => some (.code F8)
  | 9 => some (.code F9)
  | 10 => some (.code F10)
  | 11 => some (.code F11)
  | 12 => some (.code F12)
  | 13 => some (.code F13)
  | 14 => some (.code F14)
  | 15 => some (.code F15)
  | 16 => some (.code F16)
  | 17 => some (.code F17)
  | 18 => some (.code F18)
  | 19 => some (.code F19)
  | 20 => some (.code F20)
  | 21 => some (.code F21)
  | 22 => some (.code F22)
  | 24 => some (.code F24)
  | 25 => some (.code F25)
  | 26 => some (.code F26)
  | 27 => some (.code F27)
  | 28 => some (.code F28)
  | 30 => some (.code F30)
  | 31 => some (.code F31)
  | 32 => some (.code F32)
  | 33 => some (.code F33)
  | 39 => some (.code F39)
  | 41 => some (.code F41)
  | 49 => some (.code F49)
  | 23 => some (.ext (gStr 51 5))
  | 29 => some (.ext (gCopy 51))
  | _ => none

theorem tb_ok : TableOk Tryd.prog Tb := by
  refine ⟨fun f af h => ?_, fun f g h => ?_⟩
  · unfold Tb at h
    split at h
    · simp only [Option.some.injEq, AFn.code.injEq] at h; subst h; exact chk3
    · simp only [Option.some.injEq, AFn.code.injEq] at h; subst h; exact chk4
    · simp only [Option.some.injEq, AFn.code.injEq] at h; subst h; exact chk5
    · simp only [Option.some.injEq, AFn.code.injEq] at h; subst h; exact chk6
    · simp only [Option.some.injEq, AFn.code.injEq] at h; subst h; exact chk7
    · simp only [Option.some.injEq, AFn.code.injEq] at h; subst h; exact chk8
    · simp only [Option.some.injEq, AFn.code.injEq] at h; subst h; exact chk9
    · simp only [Option.some.injEq, AFn.code.injEq] at h; subst h; exact chk10
    · simp only [Option.some.injEq, AFn.code.injEq] at h; subst h; exact chk11
    · simp only [Option.some.injEq, AFn.code.injEq] at h; subst h; exact chk12
    · simp only [Option.some.injEq, AFn.code.injEq] at h; subst h; exact chk13
    · simp only [Option.some.injEq, AFn.code.injEq] at h; subst h; exact chk14
    · simp only [Option.some.injEq, AFn.code.injEq] at h; subst h; exact chk15
    · simp only [Option.some.injEq, AFn.code.injEq] at h; subst h; exact chk16
    · simp only [Option.some.injEq, AFn.code.injEq] at h; subst h; exact chk17
    · simp only [Option.some.injEq, AFn.code.injEq] at h; subst h; exact chk18
    · simp only [Option.some.injEq, AFn.code.injEq] at h; subst h; exact chk19
    · simp only [Option.some.injEq, AFn.code.injEq] at h; subst h; exact chk20
    · simp only [Option.some.injEq, AFn.code.injEq] at h; subst h; exact chk21
    · simp only [Option.some.injEq, AFn.code.injEq] at h; subst h; exact chk22
    · simp only [Option.some.injEq, AFn.code.injEq] at h; subst h; exact chk24
    · simp only [Option.some.injEq, AFn.code.injEq] at h; subst h; exact chk25
    · simp only [Option.some.injEq, AFn.code.injEq] at h; subst h; exact chk26
    · simp only [Option.some.injEq, AFn.code.injEq] at h; subst h; exact chk27
    · simp only [Option.some.injEq, AFn.code.injEq] at h; subst h; exact chk28
    · simp only [Option.some.injEq, AFn.code.injEq] at h; subst h; exact chk30
    · simp only [Option.some.injEq, AFn.code.injEq] at h; subst h; exact chk31
    · simp only [Option.some.injEq, AFn.code.injEq] at h; subst h; exact chk32
    · simp only [Option.some.injEq, AFn.code.injEq] at h; subst h; exact chk33
    · simp only [Option.some.injEq, AFn.code.injEq] at h; subst h; exact chk39
    · simp only [Option.some.injEq, AFn.code.injEq] at h; subst h; exact chk41
    · simp only [Option.some.injEq, AFn.code.injEq] at h; subst h; exact chk49
    · simp at h
    · simp at h
    · simp at h
  · unfold Tb at h
    split at h
    · simp at h
    · simp at h
    · simp at h
    · simp at h
    · simp at h
    · simp at h
    · simp at h
    · simp at h
    · simp at h
    · simp at h
    · simp at h
    · simp at h
    · simp at h
    · simp at h
    · simp at h
    · simp at h
    · simp at h
    · simp at h
    · simp at h
    · simp at h
    · simp at h
    · simp at h
    · simp at h
    · simp at h
    · simp at h
    · simp at h
    · simp at h
    · simp at h
    · simp at h
    · simp at h
    · simp at h
    · simp at h
    · simp only [Option.some.injEq, AFn.ext.injEq] at h; subst h; exact ext23
    · simp only [Option.some.injEq, AFn.ext.injEq] at h; subst h; exact ext29
    · simp at h

theorem c3 {a0 : Option Addr} {n0 : Nat} {c0 : Nat} {H : Heap} {Q : Value → Heap → Prop} (h : Ret (s3 Tb same a0 n0 c0 H) Q) : Ret (CT Tb same 3 [(.slice a0 n0 c0)] H) Q := h.via fun _ q => g3_ok rfl q
theorem c4 {a0 : Option Addr} {n0 : Nat} {c0 : Nat} {H : Heap} {Q : Value → Heap → Prop} (h : Ret (s4 Tb same a0 n0 c0 H) Q) : Ret (CT Tb same 4 [(.slice a0 n0 c0)] H) Q := h.via fun _ q => g4_ok rfl q
theorem c5 {a0 : Option Addr} {n0 : Nat} {c0 : Nat} {H : Heap} {Q : Value → Heap → Prop} (h : Ret (s5 Tb same a0 n0 c0 H) Q) : Ret (CT Tb same 5 [(.slice a0 n0 c0)] H) Q := h.via fun _ q => g5_ok rfl q
theorem c6 {a0 : Option Addr} {n0 : Nat} {c0 : Nat} {H : Heap} {Q : Value → Heap → Prop} (h : Ret (s6 Tb same a0 n0 c0 H) Q) : Ret (CT Tb same 6 [(.slice a0 n0 c0)] H) Q := h.via fun _ q => g6_ok rfl q
theorem c7 {a0 : Option Addr} {n0 : Nat} {c0 : Nat} {H : Heap} {Q : Value → Heap → Prop} (h : Ret (s7 Tb same a0 n0 c0 H) Q) : Ret (CT Tb same 7 [(.slice a0 n0 c0)] H) Q := h.via fun _ q => g7_ok rfl q
theorem c8 {a0 : Option Addr} {n0 : Nat} {c0 : Nat} {H : Heap} {Q : Value → Heap → Prop} (h : Ret (s8 Tb same a0 n0 c0 H) Q) : Ret (CT Tb same 8 [(.slice a0 n0 c0)] H) Q := h.via fun _ q => g8_ok rfl q
theorem c9 {a0 : Option Addr} {n0 : Nat} {c0 : Nat} {a1 : Option Addr} {n1 : Nat} {c1 : Nat} {H : Heap} {Q : Value → Heap → Prop} (h : Ret (s9 Tb same a0 n0 c0 a1 n1 c1 H) Q) : Ret (CT Tb same 9 [(.slice a0 n0 c0), (.slice a1 n1 c1)] H) Q := h.via fun _ q => g9_ok rfl q
theorem c10 {x0 : Int} {H : Heap} {Q : Value → Heap → Prop} (h : Ret (s10 Tb same x0 H) Q) : Ret (CT Tb same 10 [(.int .i64 x0)] H) Q := h.via fun _ q => g10_ok rfl q
theorem c11 {x0 : Int} {H : Heap} {Q : Value → Heap → Prop} (h : Ret (s11 Tb same x0 H) Q) : Ret (CT Tb same 11 [(.int .i64 x0)] H) Q := h.via fun _ q => g11_ok rfl q
theorem c12 {x0_0 : Int} {x0_1 : ByteArray} {x0_2 : Int} {H : Heap} {Q : Value → Heap → Prop} (h : Ret (s12 Tb same x0_0 x0_1 x0_2 H) Q) : Ret (CT Tb same 12 [(.agg #[(.int .i64 x0_0), (.string x0_1), (.int .i64 x0_2)])] H) Q := h.via fun _ q => g12_ok rfl q
theorem c13 {x0_0 : Int} {x0_1 : Int} {x1_0 : Int} {x1_1 : Int} {H : Heap} {Q : Value → Heap → Prop} (h : Ret (s13 Tb same x0_0 x0_1 x1_0 x1_1 H) Q) : Ret (CT Tb same 13 [(.agg #[(.int .i64 x0_0), (.int .i64 x0_1)]), (.agg #[(.int .i64 x1_0), (.int .i64 x1_1)])] H) Q := h.via fun _ q => g13_ok rfl q
theorem c14 {x0_0 : Int} {x0_1 : ByteArray} {x0_2 : Int} {H : Heap} {Q : Value → Heap → Prop} (h : Ret (s14 Tb same x0_0 x0_1 x0_2 H) Q) : Ret (CT Tb same 14 [(.agg #[(.int .i64 x0_0), (.string x0_1), (.int .i64 x0_2)])] H) Q := h.via fun _ q => g14_ok rfl q
theorem c15 {a0 : Option Addr} {n0 : Nat} {c0 : Nat} {x1 : Int} {H : Heap} {Q : Value → Heap → Prop} (h : Ret (s15 Tb same a0 n0 c0 x1 H) Q) : Ret (CT Tb same 15 [(.slice a0 n0 c0), (.int .i64 x1)] H) Q := h.via fun _ q => g15_ok rfl q
theorem c16 {a0 : Option Addr} {n0 : Nat} {c0 : Nat} {H : Heap} {Q : Value → Heap → Prop} (h : Ret (s16 Tb same a0 n0 c0 H) Q) : Ret (CT Tb same 16 [(.slice a0 n0 c0)] H) Q := h.via fun _ q => g16_ok rfl q
theorem c17 {x0 : Option Addr} {x1 : Int} {H : Heap} {Q : Value → Heap → Prop} (h : Ret (s17 Tb same x0 x1 H) Q) : Ret (CT Tb same 17 [(.pointer x0), (.int .u8 x1)] H) Q := h.via fun _ q => g17_ok rfl q
theorem c18 {x0_0 : Int} {x0_1 : Int} {x0_2 : Int} {x0_3 : ByteArray} {x0_4 : Bool} {x0_5 : Int} {x0_6 : Int} {x0_7 : Int} {x0_8 : Int} {x0_9 : Int} {x0_10 : Int} {H : Heap} {Q : Value → Heap → Prop} (h : Ret (s18 Tb same x0_0 x0_1 x0_2 x0_3 x0_4 x0_5 x0_6 x0_7 x0_8 x0_9 x0_10 H) Q) : Ret (CT Tb same 18 [(.agg #[(.int .i64 x0_0), (.int .i64 x0_1), (.int .i64 x0_2), (.string x0_3), (.bool x0_4), (.int .u64 x0_5), (.int .u64 x0_6), (.int .u64 x0_7), (.int .u64 x0_8), (.int .i64 x0_9), (.int .i64 x0_10)])] H) Q := h.via fun _ q => g18_ok rfl q
theorem c19 {x0 : ByteArray} {H : Heap} {Q : Value → Heap → Prop} (h : Ret (s19 Tb same x0 H) Q) : Ret (CT Tb same 19 [(.string x0)] H) Q := h.via fun _ q => g19_ok rfl q
theorem c20 {x0 : Option Addr} {x1 : ByteArray} {H : Heap} {Q : Value → Heap → Prop} (h : Ret (s20 Tb same x0 x1 H) Q) : Ret (CT Tb same 20 [(.pointer x0), (.string x1)] H) Q := h.via fun _ q => g20_ok rfl q
theorem c21 {x0 : Option Addr} {H : Heap} {Q : Value → Heap → Prop} (h : Ret (s21 Tb same x0 H) Q) : Ret (CT Tb same 21 [(.pointer x0)] H) Q := h.via fun _ q => g21_ok rfl q
theorem c22 {x0 : Option Addr} {a1 : Option Addr} {n1 : Nat} {c1 : Nat} {x2 : Bool} {H : Heap} {Q : Value → Heap → Prop} (h : Ret (s22 Tb same x0 a1 n1 c1 x2 H) Q) : Ret (CT Tb same 22 [(.pointer x0), (.slice a1 n1 c1), (.bool x2)] H) Q := h.via fun _ q => g22_ok rfl q
theorem c24 {x0 : ByteArray} {H : Heap} {Q : Value → Heap → Prop} (h : Ret (s24 Tb same x0 H) Q) : Ret (CT Tb same 24 [(.string x0)] H) Q := h.via fun _ q => g24_ok rfl q
theorem c25 {a0 : Option Addr} {n0 : Nat} {c0 : Nat} {a1 : Option Addr} {n1 : Nat} {c1 : Nat} {H : Heap} {Q : Value → Heap → Prop} (h : Ret (s25 Tb same a0 n0 c0 a1 n1 c1 H) Q) : Ret (CT Tb same 25 [(.slice a0 n0 c0), (.slice a1 n1 c1)] H) Q := h.via fun _ q => g25_ok rfl q
theorem c26 {x0 : ByteArray} {H : Heap} {Q : Value → Heap → Prop} (h : Ret (s26 Tb same x0 H) Q) : Ret (CT Tb same 26 [(.string x0)] H) Q := h.via fun _ q => g26_ok rfl q
theorem c27 {x0 : ByteArray} {H : Heap} {Q : Value → Heap → Prop} (h : Ret (s27 Tb same x0 H) Q) : Ret (CT Tb same 27 [(.string x0)] H) Q := h.via fun _ q => g27_ok rfl q
theorem c28 {x0_0 : Int} {x0_1 : Int} {x1_0 : Int} {x1_1 : Int} {H : Heap} {Q : Value → Heap → Prop} (h : Ret (s28 Tb same x0_0 x0_1 x1_0 x1_1 H) Q) : Ret (CT Tb same 28 [(.agg #[(.int .i64 x0_0), (.int .i64 x0_1)]), (.agg #[(.int .i64 x1_0), (.int .i64 x1_1)])] H) Q := h.via fun _ q => g28_ok rfl q
theorem c30 {x0_0 : Int} {x0_1 : Int} {x0_2 : Int} {x0_3 : ByteArray} {x0_4 : Bool} {x0_5 : Int} {x0_6 : Int} {x0_7 : Int} {x0_8 : Int} {x0_9 : Int} {x0_10 : Int} {H : Heap} {Q : Value → Heap → Prop} (h : Ret (s30 Tb same x0_0 x0_1 x0_2 x0_3 x0_4 x0_5 x0_6 x0_7 x0_8 x0_9 x0_10 H) Q) : Ret (CT Tb same 30 [(.agg #[(.int .i64 x0_0), (.int .i64 x0_1), (.int .i64 x0_2), (.string x0_3), (.bool x0_4), (.int .u64 x0_5), (.int .u64 x0_6), (.int .u64 x0_7), (.int .u64 x0_8), (.int .i64 x0_9), (.int .i64 x0_10)])] H) Q := h.via fun _ q => g30_ok rfl q
theorem c31 {x0_0 : Int} {x0_1 : Int} {x0_2 : Int} {x0_3 : ByteArray} {x0_4 : Bool} {x0_5 : Int} {x0_6 : Int} {x0_7 : Int} {x0_8 : Int} {x0_9 : Int} {x0_10 : Int} {H : Heap} {Q : Value → Heap → Prop} (h : Ret (s31 Tb same x0_0 x0_1 x0_2 x0_3 x0_4 x0_5 x0_6 x0_7 x0_8 x0_9 x0_10 H) Q) : Ret (CT Tb same 31 [(.agg #[(.int .i64 x0_0), (.int .i64 x0_1), (.int .i64 x0_2), (.string x0_3), (.bool x0_4), (.int .u64 x0_5), (.int .u64 x0_6), (.int .u64 x0_7), (.int .u64 x0_8), (.int .i64 x0_9), (.int .i64 x0_10)])] H) Q := h.via fun _ q => g31_ok rfl q
theorem c32 {x0 : Int} {H : Heap} {Q : Value → Heap → Prop} (h : Ret (s32 Tb same x0 H) Q) : Ret (CT Tb same 32 [(.int .u8 x0)] H) Q := h.via fun _ q => g32_ok rfl q
theorem c33 {x0 : ByteArray} {x1 : ByteArray} {H : Heap} {Q : Value → Heap → Prop} (h : Ret (s33 Tb same x0 x1 H) Q) : Ret (CT Tb same 33 [(.string x0), (.string x1)] H) Q := h.via fun _ q => g33_ok rfl q
theorem c39 {x0 : ByteArray} {H : Heap} {Q : Value → Heap → Prop} (h : Ret (s39 Tb same x0 H) Q) : Ret (CT Tb same 39 [(.string x0)] H) Q := h.via fun _ q => g39_ok rfl q
theorem c41 {x0 : ByteArray} {x1 : ByteArray} {H : Heap} {Q : Value → Heap → Prop} (h : Ret (s41 Tb same x0 x1 H) Q) : Ret (CT Tb same 41 [(.string x0), (.string x1)] H) Q := h.via fun _ q => g41_ok rfl q
theorem c49 {x0 : ByteArray} {x1 : ByteArray} {H : Heap} {Q : Value → Heap → Prop} (h : Ret (s49 Tb same x0 x1 H) Q) : Ret (CT Tb same 49 [(.string x0), (.string x1)] H) Q := h.via fun _ q => g49_ok rfl q
end Go.Proofs.YtknogapmjleliaaDoor
