/- Copies of the loaded functions for the abstract machine, their checks, their shallow forms. No condition. -/
import Derived.Test.YtknogapmjleliaaDoorProg
import Derived.Test.YtknogapmjleliaaDoorAmSb
import Derived.KernelRfl
namespace Go.Proofs.YtknogapmjleliaaDoor
open Go Go.AM
set_option linter.unusedVariables false
set_option maxRecDepth 100000

/- dowel/dowellaw26.WorthChecks -/
def F3_C0 : ACode :=
  .cond (.t 60)
  (.seq (.reg [⟨(some 2), .mov (.c (.bool false)), none, false, none, 0⟩])
  (.ret))
  (.skip)
def F3_C1 : ACode :=
  .ret
def F3_C2 : ACode :=
  .seq (.reg [⟨(some 2), .mov (.c (.bool false)), none, false, none, 0⟩])
  (.seq (.seq (.reg [⟨(some 12), .mov (.t 0), none, false, none, 0⟩,
    ⟨(some 13), .len false (.t 12), none, false, none, 0⟩,
    ⟨(some 14), .bin .gtr (.t 13) (.c (.int .i64 1048576)), none, false, none, 0⟩])
  (.cond (.t 14)
  (.seq (.reg [⟨(some 2), .mov (.c (.bool true)), none, false, none, 0⟩])
  (.ret))
  (.skip)))
  (.seq (.reg [⟨(some 15), .mov (.t 0), none, false, none, 0⟩,
    ⟨(some 16), .call 4 [.t 15], none, false, none, 0⟩,
    ⟨(some 3), .mov (.t 16), none, false, none, 0⟩])
  (.seq (.reg [⟨(some 18), .mov (.t 3), none, false, none, 0⟩,
    ⟨(some 19), .call 5 [.t 18], none, false, none, 0⟩,
    ⟨(some 17), .mov (.t 19), none, false, none, 0⟩,
    ⟨(some 20), .extract (.t 17) 0, none, false, none, 0⟩,
    ⟨(some 21), .extract (.t 17) 1, none, false, none, 0⟩,
    ⟨(some 4), .allocL [.int .i64 0, .int .i64 0], none, false, none, 0⟩,
    ⟨none, .store 2 (.t 4) (.t 20), none, false, none, 0⟩,
    ⟨(some 5), .mov (.t 21), none, false, none, 0⟩])
  (.seq (.reg [⟨(some 23), .mov (.t 0), none, false, none, 0⟩,
    ⟨(some 24), .call 6 [.t 23], none, false, none, 0⟩,
    ⟨(some 22), .mov (.t 24), none, false, none, 0⟩,
    ⟨(some 25), .extract (.t 22) 0, none, false, none, 0⟩,
    ⟨(some 26), .extract (.t 22) 1, none, false, none, 0⟩,
    ⟨(some 6), .allocL [.int .i64 0, .int .i64 0], none, false, none, 0⟩,
    ⟨none, .store 2 (.t 6) (.t 25), none, false, none, 0⟩,
    ⟨(some 7), .mov (.t 26), none, false, none, 0⟩])
  (.seq (.reg [⟨(some 28), .mov (.t 3), none, false, none, 0⟩,
    ⟨(some 29), .call 7 [.t 28], none, false, none, 0⟩,
    ⟨(some 27), .mov (.t 29), none, false, none, 0⟩,
    ⟨(some 30), .extract (.t 27) 0, none, false, none, 0⟩,
    ⟨(some 31), .extract (.t 27) 1, none, false, none, 0⟩,
    ⟨(some 8), .mov (.t 30), none, false, none, 0⟩,
    ⟨(some 9), .mov (.t 31), none, false, none, 0⟩])
  (.seq (.reg [⟨(some 33), .mov (.t 0), none, false, none, 0⟩,
    ⟨(some 34), .call 8 [.t 33], none, false, none, 0⟩,
    ⟨(some 32), .mov (.t 34), none, false, none, 0⟩,
    ⟨(some 35), .extract (.t 32) 0, none, false, none, 0⟩,
    ⟨(some 36), .extract (.t 32) 1, none, false, none, 0⟩,
    ⟨(some 10), .mov (.t 35), none, false, none, 0⟩,
    ⟨(some 11), .mov (.t 36), none, false, none, 0⟩])
  (.seq (.seqj [60] (.reg [⟨(some 37), .load true 2 (.t 4), none, false, none, 0⟩,
    ⟨(some 38), .load true 2 (.t 6), none, false, none, 0⟩,
    ⟨(some 39), .eqS true 2 [(0, .int .i64), (1, .int .i64)] (.t 37) (.t 38), none, false, none, 0⟩,
    ⟨(some 40), .mov (.t 39), none, false, none, 0⟩,
    ⟨(some 41), .mov (.t 5), (some (40, false)), false, none, 0⟩,
    ⟨(some 42), .mov (.t 7), (some (40, false)), false, none, 0⟩,
    ⟨(some 43), .bin .neq (.t 41) (.t 42), (some (40, false)), false, none, 0⟩,
    ⟨(some 44), .pick (.t 40) (.c (.bool true)) (.t 43), none, false, none, 0⟩,
    ⟨(some 45), .mov (.t 44), none, false, none, 0⟩,
    ⟨(some 46), .mov (.t 8), (some (45, false)), false, none, 0⟩,
    ⟨(some 47), .mov (.t 10), (some (45, false)), false, none, 0⟩,
    ⟨(some 48), .bin .neq (.t 46) (.t 47), (some (45, false)), false, none, 0⟩,
    ⟨(some 49), .pick (.t 45) (.c (.bool true)) (.t 48), none, false, none, 0⟩,
    ⟨(some 50), .mov (.t 49), none, false, none, 0⟩,
    ⟨(some 51), .mov (.t 9), (some (50, false)), false, none, 0⟩,
    ⟨(some 52), .mov (.t 11), (some (50, false)), false, none, 0⟩,
    ⟨(some 53), .bin .neq (.t 51) (.t 52), (some (50, false)), false, none, 0⟩,
    ⟨(some 54), .pick (.t 50) (.c (.bool true)) (.t 53), none, false, none, 0⟩,
    ⟨(some 55), .mov (.t 54), none, false, none, 0⟩,
    ⟨(some 56), .mov (.t 3), (some (55, false)), false, none, 0⟩,
    ⟨(some 57), .mov (.t 0), (some (55, false)), false, none, 0⟩,
    ⟨(some 58), .call 9 [.t 56, .t 57], (some (55, false)), false, none, 0⟩,
    ⟨(some 59), .un .not (.t 58), (some (55, false)), false, none, 0⟩,
    ⟨(some 60), .pick (.t 55) (.c (.bool true)) (.t 59), none, false, none, 0⟩])
  F3_C0)
  (.seq (.reg [⟨(some 62), .build [.int .i64 0, .string ⟨#[]⟩, .int .i64 0] [(2, 1, .c (.int .i64 2))], none, false, none, 0⟩,
    ⟨(some 63), .build [.int .i64 0, .string ⟨#[]⟩, .int .i64 0] [(0, 1, .c (.int .i64 1)), (1, 1, .c (.string ⟨#[49]⟩))], none, false, none, 0⟩,
    ⟨(some 64), .build [.int .i64 0, .string ⟨#[]⟩, .int .i64 0] [(0, 1, .c (.int .i64 1)), (1, 1, .c (.string ⟨#[45, 50]⟩))], none, false, none, 0⟩,
    ⟨(some 65), .buildSl 38 3 3 [.int .i64 0, .string ⟨#[]⟩, .int .i64 0, .int .i64 0, .string ⟨#[]⟩, .int .i64 0, .int .i64 0, .string ⟨#[]⟩, .int .i64 0] [(0, 3, .t 62), (3, 3, .t 63), (6, 3, .t 64)], none, false, none, 0⟩,
    ⟨(some 66), .call 7 [.t 65], none, false, none, 0⟩,
    ⟨(some 61), .mov (.t 66), none, false, none, 0⟩,
    ⟨(some 67), .extract (.t 61) 0, none, false, none, 0⟩,
    ⟨(some 68), .extract (.t 61) 1, none, false, none, 0⟩,
    ⟨(some 8), .mov (.t 67), none, false, none, 0⟩,
    ⟨(some 9), .mov (.t 68), none, false, none, 0⟩])
  (.seqj [2] (.reg [⟨(some 69), .mov (.t 8), none, false, none, 0⟩,
    ⟨(some 70), .bin .eql (.t 69) (.c (.string ⟨#[91, 49, 44, 32, 45, 50, 93]⟩)), none, false, none, 0⟩,
    ⟨(some 71), .mov (.t 70), none, false, none, 0⟩,
    ⟨(some 72), .mov (.t 9), (some (71, true)), false, none, 0⟩,
    ⟨(some 73), .bin .eql (.t 72) (.c (.int .i64 0)), (some (71, true)), false, none, 0⟩,
    ⟨(some 74), .pick (.t 71) (.t 73) (.c (.bool false)), none, false, none, 0⟩,
    ⟨(some 2), .mov (.t 74), none, false, none, 0⟩])
  F3_C1)))))))))
def F3_C3 : ACode :=
  .seq (.reg [⟨(some 62), .build [.int .i64 0, .string ⟨#[]⟩, .int .i64 0] [(2, 1, .c (.int .i64 2))], none, false, none, 0⟩,
    ⟨(some 63), .build [.int .i64 0, .string ⟨#[]⟩, .int .i64 0] [(0, 1, .c (.int .i64 1)), (1, 1, .c (.string ⟨#[49]⟩))], none, false, none, 0⟩,
    ⟨(some 64), .build [.int .i64 0, .string ⟨#[]⟩, .int .i64 0] [(0, 1, .c (.int .i64 1)), (1, 1, .c (.string ⟨#[45, 50]⟩))], none, false, none, 0⟩,
    ⟨(some 65), .buildSl 38 3 3 [.int .i64 0, .string ⟨#[]⟩, .int .i64 0, .int .i64 0, .string ⟨#[]⟩, .int .i64 0, .int .i64 0, .string ⟨#[]⟩, .int .i64 0] [(0, 3, .t 62), (3, 3, .t 63), (6, 3, .t 64)], none, false, none, 0⟩,
    ⟨(some 66), .call 7 [.t 65], none, false, none, 0⟩,
    ⟨(some 61), .mov (.t 66), none, false, none, 0⟩,
    ⟨(some 67), .extract (.t 61) 0, none, false, none, 0⟩,
    ⟨(some 68), .extract (.t 61) 1, none, false, none, 0⟩,
    ⟨(some 8), .mov (.t 67), none, false, none, 0⟩,
    ⟨(some 9), .mov (.t 68), none, false, none, 0⟩])
  (.seqj [2] (.reg [⟨(some 69), .mov (.t 8), none, false, none, 0⟩,
    ⟨(some 70), .bin .eql (.t 69) (.c (.string ⟨#[91, 49, 44, 32, 45, 50, 93]⟩)), none, false, none, 0⟩,
    ⟨(some 71), .mov (.t 70), none, false, none, 0⟩,
    ⟨(some 72), .mov (.t 9), (some (71, true)), false, none, 0⟩,
    ⟨(some 73), .bin .eql (.t 72) (.c (.int .i64 0)), (some (71, true)), false, none, 0⟩,
    ⟨(some 74), .pick (.t 71) (.t 73) (.c (.bool false)), none, false, none, 0⟩,
    ⟨(some 2), .mov (.t 74), none, false, none, 0⟩])
  F3_C1)
def F3 : AFunc := ⟨1, 75, [.tmp 2], F3_C2⟩
def Y3 : List VT := [.v (.one .sl), .v (.one .any), .v (.one .bool), .v (.one .sl), .v (.one .any), .v (.one (.int .i64)), .v (.one .any), .v (.one (.int .i64)), .v (.one .str), .v (.one (.int .i64)), .v (.one .str), .v (.one (.int .i64)), .v (.one .sl), .v (.one (.int .i64)), .v (.one .bool), .v (.one .sl), .v (.one .sl), .tup [.agg [.int .i64, .int .i64], .one (.int .i64)], .v (.one .sl), .tup [.agg [.int .i64, .int .i64], .one (.int .i64)], .v (.agg [.int .i64, .int .i64]), .v (.one (.int .i64)), .tup [.agg [.int .i64, .int .i64], .one (.int .i64)], .v (.one .sl), .tup [.agg [.int .i64, .int .i64], .one (.int .i64)], .v (.agg [.int .i64, .int .i64]), .v (.one (.int .i64)), .tup [.one .str, .one (.int .i64)], .v (.one .sl), .tup [.one .str, .one (.int .i64)], .v (.one .str), .v (.one (.int .i64)), .tup [.one .str, .one (.int .i64)], .v (.one .sl), .tup [.one .str, .one (.int .i64)], .v (.one .str), .v (.one (.int .i64)), .v (.agg [.int .i64, .int .i64]), .v (.agg [.int .i64, .int .i64]), .v (.one .bool), .v (.one .bool), .v (.one (.int .i64)), .v (.one (.int .i64)), .v (.one .bool), .v (.one .bool), .v (.one .bool), .v (.one .str), .v (.one .str), .v (.one .bool), .v (.one .bool), .v (.one .bool), .v (.one (.int .i64)), .v (.one (.int .i64)), .v (.one .bool), .v (.one .bool), .v (.one .bool), .v (.one .sl), .v (.one .sl), .v (.one .bool), .v (.one .bool), .v (.one .bool), .tup [.one .str, .one (.int .i64)], .v (.agg [.int .i64, .str, .int .i64]), .v (.agg [.int .i64, .str, .int .i64]), .v (.agg [.int .i64, .str, .int .i64]), .v (.one .sl), .tup [.one .str, .one (.int .i64)], .v (.one .str), .v (.one (.int .i64)), .v (.one .str), .v (.one .bool), .v (.one .bool), .v (.one (.int .i64)), .v (.one .bool), .v (.one .bool)]
noncomputable def F3_K0 (T : Nat → Option AFn) (hs : Heap → Heap → Bool) : Kont (Value × Heap) := { (kontF F3) with nrm := fun fr H => runK T hs Y3 F3_C3 fr H (kontF F3) }
noncomputable def g3_J1 (T : Nat → Option AFn) (hs : Heap → Heap → Bool) (x2 : Bool) (H : Heap) : Option (Value × Heap) := joinK T hs F3_C1 [.no, .no, (.v (.bool x2)), .no, .no, .no, .no, .no, .no, .no, .no, .no, .no, .no, .no, .no, .no, .no, .no, .no, .no, .no, .no, .no, .no, .no, .no, .no, .no, .no, .no, .no, .no, .no, .no, .no, .no, .no, .no, .no, .no, .no, .no, .no, .no, .no, .no, .no, .no, .no, .no, .no, .no, .no, .no, .no, .no, .no, .no, .no, .no, .no, .no, .no, .no, .no, .no, .no, .no, .no, .no, .no, .no, .no, .no] H (kontF F3)
noncomputable def g3_J0 (T : Nat → Option AFn) (hs : Heap → Heap → Bool) (x60 : Bool) (H : Heap) : Option (Value × Heap) := joinK T hs F3_C0 [.no, .no, .no, .no, .no, .no, .no, .no, .no, .no, .no, .no, .no, .no, .no, .no, .no, .no, .no, .no, .no, .no, .no, .no, .no, .no, .no, .no, .no, .no, .no, .no, .no, .no, .no, .no, .no, .no, .no, .no, .no, .no, .no, .no, .no, .no, .no, .no, .no, .no, .no, .no, .no, .no, .no, .no, .no, .no, .no, .no, (.v (.bool x60)), .no, .no, .no, .no, .no, .no, .no, .no, .no, .no, .no, .no, .no, .no] H (F3_K0 T hs)
noncomputable def s3_J0 (T : Nat → Option AFn) (hs : Heap → Heap → Bool) (x60 : Bool) (H : Heap) : Option (Value × Heap) :=
  cond x60
  (some ((.bool false), H))
  (let H_1 := H ++ [.cells 38 3 [(.int .i64 0), (.string (⟨#[]⟩ : ByteArray)), (.int .i64 2), (.int .i64 1), (.string (⟨#[49]⟩ : ByteArray)), (.int .i64 0), (.int .i64 1), (.string (⟨#[45, 50]⟩ : ByteArray)), (.int .i64 0)] 0 0 0 false]
  (CT T hs 7 [(.slice (some ⟨H.length, 0, some 0⟩) 3 3)] H_1).bind fun p66 =>
  ifTup p66.1 fun l66 =>
  ifCons l66 fun v66 l66_1 =>
  ifStr v66 fun x66 =>
  ifCons l66_1 fun v66_1 l66_2 =>
  ifInt .i64 v66_1 fun x66_1 =>
  ifNil l66_2 <|
  cond ((x66.toList == (⟨#[91, 49, 44, 32, 45, 50, 93]⟩ : ByteArray).toList))
  (g3_J1 T hs ((x66_1 : Int) == 0) p66.2)
  (g3_J1 T hs false p66.2))
theorem g3_J0_step (T : Nat → Option AFn) (hs : Heap → Heap → Bool) (x60 : Bool) (H : Heap) : runK T hs Y3 F3_C0 [.no, .no, .no, .no, .no, .no, .no, .no, .no, .no, .no, .no, .no, .no, .no, .no, .no, .no, .no, .no, .no, .no, .no, .no, .no, .no, .no, .no, .no, .no, .no, .no, .no, .no, .no, .no, .no, .no, .no, .no, .no, .no, .no, .no, .no, .no, .no, .no, .no, .no, .no, .no, .no, .no, .no, .no, .no, .no, .no, .no, (.v (.bool x60)), .no, .no, .no, .no, .no, .no, .no, .no, .no, .no, .no, .no, .no, .no] H (F3_K0 T hs) = s3_J0 T hs x60 H := by kernel_rfl
theorem g3_J0_ok {T : Nat → Option AFn} {hs : Heap → Heap → Bool} {x60 : Bool} {H : Heap} {r : Value × Heap} (h : s3_J0 T hs x60 H = some r) : g3_J0 T hs x60 H = some r := join_intro ((g3_J0_step T hs x60 H).trans h)
theorem g3_J0_ret {T : Nat → Option AFn} {hs : Heap → Heap → Bool} {x60 : Bool} {H : Heap} {Q : Value → Heap → Prop} (h : Ret (s3_J0 T hs x60 H) Q) : Ret (g3_J0 T hs x60 H) Q := h.via fun _ q => g3_J0_ok q
noncomputable def s3_J1 (T : Nat → Option AFn) (hs : Heap → Heap → Bool) (x2 : Bool) (H : Heap) : Option (Value × Heap) :=
  some ((.bool x2), H)
theorem g3_J1_step (T : Nat → Option AFn) (hs : Heap → Heap → Bool) (x2 : Bool) (H : Heap) : runK T hs Y3 F3_C1 [.no, .no, (.v (.bool x2)), .no, .no, .no, .no, .no, .no, .no, .no, .no, .no, .no, .no, .no, .no, .no, .no, .no, .no, .no, .no, .no, .no, .no, .no, .no, .no, .no, .no, .no, .no, .no, .no, .no, .no, .no, .no, .no, .no, .no, .no, .no, .no, .no, .no, .no, .no, .no, .no, .no, .no, .no, .no, .no, .no, .no, .no, .no, .no, .no, .no, .no, .no, .no, .no, .no, .no, .no, .no, .no, .no, .no, .no] H (kontF F3) = s3_J1 T hs x2 H := by kernel_rfl
theorem g3_J1_ok {T : Nat → Option AFn} {hs : Heap → Heap → Bool} {x2 : Bool} {H : Heap} {r : Value × Heap} (h : s3_J1 T hs x2 H = some r) : g3_J1 T hs x2 H = some r := join_intro ((g3_J1_step T hs x2 H).trans h)
theorem g3_J1_ret {T : Nat → Option AFn} {hs : Heap → Heap → Bool} {x2 : Bool} {H : Heap} {Q : Value → Heap → Prop} (h : Ret (s3_J1 T hs x2 H) Q) : Ret (g3_J1 T hs x2 H) Q := h.via fun _ q => g3_J1_ok q
noncomputable def s3 (T : Nat → Option AFn) (hs : Heap → Heap → Bool) (a0 : Option Addr) (n0 : Nat) (c0 : Nat) (H : Heap) : Option (Value × Heap) :=
  cond (decide ((((n0 : Nat) : Int) : Int) > 1048576))
  (some ((.bool true), H))
  ((CT T hs 4 [(.slice a0 n0 c0)] H).bind fun p16 =>
  ifSl p16.1 fun a16 n16 c16 =>
  (CT T hs 5 [(.slice a16 n16 c16)] p16.2).bind fun p19 =>
  ifTup p19.1 fun l19 =>
  ifCons l19 fun v19 l19_1 =>
  ifAgg v19 fun l19_2 =>
  ifCons l19_2 fun v19_1 l19_3 =>
  ifInt .i64 v19_1 fun x19 =>
  ifCons l19_3 fun v19_2 l19_4 =>
  ifInt .i64 v19_2 fun x19_1 =>
  ifNil l19_4 <|
  ifCons l19_1 fun v19_3 l19_5 =>
  ifInt .i64 v19_3 fun x19_2 =>
  ifNil l19_5 <|
  (CT T hs 6 [(.slice a0 n0 c0)] p19.2).bind fun p24 =>
  ifTup p24.1 fun l24 =>
  ifCons l24 fun v24 l24_1 =>
  ifAgg v24 fun l24_2 =>
  ifCons l24_2 fun v24_1 l24_3 =>
  ifInt .i64 v24_1 fun x24 =>
  ifCons l24_3 fun v24_2 l24_4 =>
  ifInt .i64 v24_2 fun x24_1 =>
  ifNil l24_4 <|
  ifCons l24_1 fun v24_3 l24_5 =>
  ifInt .i64 v24_3 fun x24_2 =>
  ifNil l24_5 <|
  (CT T hs 7 [(.slice a16 n16 c16)] p24.2).bind fun p29 =>
  ifTup p29.1 fun l29 =>
  ifCons l29 fun v29 l29_1 =>
  ifStr v29 fun x29 =>
  ifCons l29_1 fun v29_1 l29_2 =>
  ifInt .i64 v29_1 fun x29_1 =>
  ifNil l29_2 <|
  (CT T hs 8 [(.slice a0 n0 c0)] p29.2).bind fun p34 =>
  ifTup p34.1 fun l34 =>
  ifCons l34 fun v34 l34_1 =>
  ifStr v34 fun x34 =>
  ifCons l34_1 fun v34_1 l34_2 =>
  ifInt .i64 v34_1 fun x34_1 =>
  ifNil l34_2 <|
  cond (!(((x19 : Int) == x24) && (((x19_1 : Int) == x24_1) && true)))
  (g3_J0 T hs true p34.2)
  (cond ((x19_2 : Int) != x24_2)
  (g3_J0 T hs true p34.2)
  (cond (!(x29.toList == x34.toList))
  (g3_J0 T hs true p34.2)
  (cond ((x29_1 : Int) != x34_1)
  (g3_J0 T hs true p34.2)
  ((CT T hs 9 [(.slice a16 n16 c16), (.slice a0 n0 c0)] p34.2).bind fun p58 =>
  ifBool p58.1 fun x58 =>
  g3_J0 T hs (!x58) p58.2)))))
theorem s3_run (T : Nat → Option AFn) (hs : Heap → Heap → Bool) (a0 : Option Addr) (n0 : Nat) (c0 : Nat) (H : Heap) : runFK T hs Y3 F3 [(.slice a0 n0 c0)] H = s3 T hs a0 n0 c0 H := by kernel_rfl
theorem g3_ok {T : Nat → Option AFn} {hs : Heap → Heap → Bool} (hT : T 3 = some (.code F3)) {a0 : Option Addr} {n0 : Nat} {c0 : Nat} {H : Heap} {r : Value × Heap} (h : s3 T hs a0 n0 c0 H = some r) : CT T hs 3 [(.slice a0 n0 c0)] H = some r := runFK_ok hT ((s3_run T hs a0 n0 c0 H).trans h)
theorem chk3 : chkFunc Tryd.prog 3 F3 = true := by kernel_rfl
/- dowel/dowelbook.LendItems -/
def F4_C0 : ACode :=
  .seq (.reg [⟨(some 2), .mov (.c (.slice none 0 0)), none, false, none, 0⟩])
  (.seq (.reg [⟨(some 4), .mov (.t 0), none, false, none, 0⟩,
    ⟨(some 5), .len false (.t 4), none, false, none, 0⟩,
    ⟨(some 6), .bin .add (.t 5) (.c (.int .i64 2)), none, false, none, 0⟩,
    ⟨(some 7), .makeSl 38 3 32 [.int .i64 0, .string ⟨#[]⟩, .int .i64 0] (.t 6) (.t 6), none, false, none, 0⟩,
    ⟨(some 3), .mov (.t 7), none, false, none, 0⟩])
  (.seq (.reg [⟨(some 8), .mov (.t 3), none, false, none, 0⟩,
    ⟨(some 9), .mov (.t 0), none, false, none, 0⟩,
    ⟨(some 10), .copy 3 (.t 8) (.t 9), none, false, none, 0⟩])
  (.seq (.reg [⟨(some 11), .mov (.t 3), none, false, none, 0⟩,
    ⟨(some 12), .mov (.t 0), none, false, none, 0⟩,
    ⟨(some 13), .len false (.t 12), none, false, none, 0⟩,
    ⟨(some 14), .call 10 [.c (.int .i64 77)], none, false, none, 0⟩,
    ⟨(some 15), .indexA 3 (.t 11) (.t 13), none, false, none, 0⟩,
    ⟨none, .store 3 (.t 15) (.t 14), none, false, none, 0⟩])
  (.seq (.reg [⟨(some 16), .mov (.t 3), none, false, none, 0⟩,
    ⟨(some 17), .mov (.t 0), none, false, none, 0⟩,
    ⟨(some 18), .len false (.t 17), none, false, none, 0⟩,
    ⟨(some 19), .bin .add (.t 18) (.c (.int .i64 1)), none, false, none, 0⟩,
    ⟨(some 20), .call 11 [.c (.int .i64 77)], none, false, none, 0⟩,
    ⟨(some 21), .indexA 3 (.t 16) (.t 19), none, false, none, 0⟩,
    ⟨none, .store 3 (.t 21) (.t 20), none, false, none, 0⟩])
  (.seq (.reg [⟨(some 22), .mov (.t 3), none, false, none, 0⟩,
    ⟨(some 23), .mov (.t 0), none, false, none, 0⟩,
    ⟨(some 24), .len false (.t 23), none, false, none, 0⟩,
    ⟨(some 25), .slSl 3 (.t 22) none (some (.t 24)), none, false, none, 0⟩,
    ⟨(some 2), .mov (.t 25), none, false, none, 0⟩])
  (.ret))))))
def F4 : AFunc := ⟨1, 26, [.tmp 2], F4_C0⟩
def Y4 : List VT := [.v (.one .sl), .v (.one .any), .v (.one .sl), .v (.one .sl), .v (.one .sl), .v (.one (.int .i64)), .v (.one (.int .i64)), .v (.one .sl), .v (.one .sl), .v (.one .sl), .v (.one (.int .i64)), .v (.one .sl), .v (.one .sl), .v (.one (.int .i64)), .v (.agg [.int .i64, .str, .int .i64]), .v (.one .any), .v (.one .sl), .v (.one .sl), .v (.one (.int .i64)), .v (.one (.int .i64)), .v (.agg [.int .i64, .str, .int .i64]), .v (.one .any), .v (.one .sl), .v (.one .sl), .v (.one (.int .i64)), .v (.one .sl)]
noncomputable def s4 (T : Nat → Option AFn) (hs : Heap → Heap → Bool) (a0 : Option Addr) (n0 : Nat) (c0 : Nat) (H : Heap) : Option (Value × Heap) :=
  (mkA H 38 3 32 [.int .i64 0, .string ⟨#[]⟩, .int .i64 0] (IntKind.wrap .i64 (((n0 : Nat) : Int) + 2)) (IntKind.wrap .i64 (((n0 : Nat) : Int) + 2))).bind fun p7 =>
  ifSl p7.1 fun a7 n7 c7 =>
  (cpA p7.2 3 (.slice a7 n7 c7) (.slice a0 n0 c0)).bind fun p10 =>
  (CT T hs 10 [(.int .i64 77)] p10.2).bind fun p14 =>
  ifAgg p14.1 fun l14 =>
  ifCons l14 fun v14 l14_1 =>
  ifInt .i64 v14 fun x14 =>
  ifCons l14_1 fun v14_1 l14_2 =>
  ifStr v14_1 fun x14_1 =>
  ifCons l14_2 fun v14_2 l14_3 =>
  ifInt .i64 v14_2 fun x14_2 =>
  ifNil l14_3 <|
  (ixA p14.2 3 (.slice a7 n7 c7) ((n0 : Nat) : Int)).bind fun q15 =>
  (wrHp p14.2 q15.1 q15.2.1 q15.2.2 3 [(.int .i64 x14), (.string x14_1), (.int .i64 x14_2)]).bind fun H_1 =>
  (CT T hs 11 [(.int .i64 77)] H_1).bind fun p20 =>
  ifAgg p20.1 fun l20 =>
  ifCons l20 fun v20 l20_1 =>
  ifInt .i64 v20 fun x20 =>
  ifCons l20_1 fun v20_1 l20_2 =>
  ifStr v20_1 fun x20_1 =>
  ifCons l20_2 fun v20_2 l20_3 =>
  ifInt .i64 v20_2 fun x20_2 =>
  ifNil l20_3 <|
  (ixA p20.2 3 (.slice a7 n7 c7) (IntKind.wrap .i64 (((n0 : Nat) : Int) + 1))).bind fun q21 =>
  (wrHp p20.2 q21.1 q21.2.1 q21.2.2 3 [(.int .i64 x20), (.string x20_1), (.int .i64 x20_2)]).bind fun H_2 =>
  (slA H_2 3 (.slice a7 n7 c7) none (some ((n0 : Nat) : Int))).bind fun s25 =>
  ifSl s25 fun a25 n25 c25 =>
  some ((.slice a25 n25 c25), H_2)
theorem s4_run (T : Nat → Option AFn) (hs : Heap → Heap → Bool) (a0 : Option Addr) (n0 : Nat) (c0 : Nat) (H : Heap) : runFK T hs Y4 F4 [(.slice a0 n0 c0)] H = s4 T hs a0 n0 c0 H := by kernel_rfl
theorem g4_ok {T : Nat → Option AFn} {hs : Heap → Heap → Bool} (hT : T 4 = some (.code F4)) {a0 : Option Addr} {n0 : Nat} {c0 : Nat} {H : Heap} {r : Value × Heap} (h : s4 T hs a0 n0 c0 H = some r) : CT T hs 4 [(.slice a0 n0 c0)] H = some r := runFK_ok hT ((s4_run T hs a0 n0 c0 H).trans h)
theorem chk4 : chkFunc Tryd.prog 4 F4 = true := by kernel_rfl
/- dowel/worth.Check -/
def F5_C0 : ACode :=
  .cond (.t 20)
  (.seq (.reg [⟨(some 21), .build [.int .i64 0, .int .i64 0] [], none, false, none, 0⟩,
    ⟨none, .store 2 (.t 2) (.t 21), none, false, none, 0⟩,
    ⟨(some 3), .mov (.c (.int .i64 6)), none, false, none, 0⟩])
  (.ret))
  (.skip)
def F5_C1 : ACode :=
  .cond (.t 62)
  (.seq (.reg [⟨(some 63), .build [.int .i64 0, .int .i64 0] [], none, false, none, 0⟩,
    ⟨none, .store 2 (.t 2) (.t 63), none, false, none, 0⟩,
    ⟨(some 3), .mov (.c (.int .i64 6)), none, false, none, 0⟩])
  (.ret))
  (.skip)
def F5_C2 : ACode :=
  .seq (.reg [⟨(some 74), .bin .lss (.t 73) (.t 72), none, false, none, 0⟩])
  (.seq (.cond (.t 74)
  (.skip)
  (.exit 2))
  (.seq (.block 3 (.seq (.reg [⟨(some 75), .indexA 2 (.t 71) (.t 73), none, false, none, 0⟩,
    ⟨(some 76), .load true 2 (.t 75), none, false, none, 0⟩,
    ⟨(some 11), .allocL [.int .i64 0, .int .i64 0], none, false, none, 0⟩,
    ⟨none, .store 2 (.t 11) (.t 76), none, false, none, 0⟩])
  (.seq (.reg [⟨(some 12), .mov (.c (.bool false)), none, false, none, 0⟩])
  (.seq (.reg [⟨(some 78), .load true 2 (.t 9), none, false, none, 0⟩,
    ⟨(some 79), .load true 2 (.t 11), none, false, none, 0⟩,
    ⟨(some 80), .call 13 [.t 78, .t 79], none, false, none, 0⟩,
    ⟨(some 77), .mov (.t 80), none, false, none, 0⟩,
    ⟨(some 81), .extract (.t 77) 0, none, false, none, 0⟩,
    ⟨(some 82), .extract (.t 77) 1, none, false, none, 0⟩,
    ⟨none, .store 2 (.t 9) (.t 81), none, false, none, 0⟩,
    ⟨(some 12), .mov (.t 82), none, false, none, 0⟩])
  (.seq (.reg [⟨(some 83), .mov (.t 12), none, false, none, 0⟩,
    ⟨(some 84), .un .not (.t 83), none, false, none, 0⟩])
  (.cond (.t 84)
  (.seq (.reg [⟨(some 85), .build [.int .i64 0, .int .i64 0] [], none, false, none, 0⟩,
    ⟨none, .store 2 (.t 2) (.t 85), none, false, none, 0⟩,
    ⟨(some 3), .mov (.c (.int .i64 6)), none, false, none, 0⟩])
  (.ret))
  (.skip)))))))
  (.reg [⟨(some 86), .bin .add (.t 73) (.c (.int .i64 1)), none, false, none, 0⟩,
    ⟨(some 73), .mov (.t 86), none, false, none, 0⟩])))
def F5_C3 : ACode :=
  .reg [⟨(some 27), .mov (.t 5), none, false, none, 0⟩,
    ⟨(some 28), .bin .sub (.t 27) (.c (.int .i64 1)), none, false, none, 0⟩,
    ⟨(some 5), .mov (.t 28), none, false, none, 0⟩]
def F5_C4 : ACode :=
  .seq (.seq (.reg [⟨(some 25), .mov (.t 5), none, false, none, 0⟩,
    ⟨(some 26), .bin .geq (.t 25) (.c (.int .i64 0)), none, false, none, 0⟩])
  (.cond (.t 26)
  (.skip)
  (.exit 0)))
  (.seqj [0, 2, 4, 5] (.block 1 (.seq (.reg [⟨(some 29), .mov (.t 0), none, false, none, 0⟩,
    ⟨(some 30), .mov (.t 5), none, false, none, 0⟩,
    ⟨(some 31), .indexA 3 (.t 29) (.t 30), none, false, none, 0⟩,
    ⟨(some 32), .load true 3 (.t 31), none, false, none, 0⟩,
    ⟨(some 6), .allocL [.int .i64 0, .string ⟨#[]⟩, .int .i64 0], none, false, none, 0⟩,
    ⟨none, .store 3 (.t 6) (.t 32), none, false, none, 0⟩])
  (.seq (.seq (.reg [⟨(some 33), .fieldA 0 (.t 6), none, false, none, 0⟩,
    ⟨(some 34), .load false 1 (.t 33), none, false, none, 0⟩,
    ⟨(some 35), .bin .neq (.t 34) (.c (.int .i64 0)), none, false, none, 0⟩])
  (.cond (.t 35)
  (.seq (.reg [⟨(some 37), .load true 3 (.t 6), none, false, none, 0⟩,
    ⟨(some 38), .call 12 [.t 37], none, false, none, 0⟩,
    ⟨(some 36), .mov (.t 38), none, false, none, 0⟩,
    ⟨(some 39), .extract (.t 36) 0, none, false, none, 0⟩,
    ⟨(some 40), .extract (.t 36) 1, none, false, none, 0⟩,
    ⟨(some 7), .allocL [.int .i64 0, .int .i64 0], none, false, none, 0⟩,
    ⟨none, .store 2 (.t 7) (.t 39), none, false, none, 0⟩,
    ⟨(some 8), .mov (.t 40), none, false, none, 0⟩])
  (.seq (.seq (.reg [⟨(some 41), .mov (.t 8), none, false, none, 0⟩,
    ⟨(some 42), .un .not (.t 41), none, false, none, 0⟩])
  (.cond (.t 42)
  (.seq (.reg [⟨(some 43), .build [.int .i64 0, .int .i64 0] [], none, false, none, 0⟩,
    ⟨none, .store 2 (.t 2) (.t 43), none, false, none, 0⟩,
    ⟨(some 3), .mov (.c (.int .i64 6)), none, false, none, 0⟩])
  (.ret))
  (.skip)))
  (.seq (.reg [⟨(some 44), .mov (.t 4), none, false, none, 0⟩,
    ⟨(some 45), .load true 2 (.t 7), none, false, none, 0⟩,
    ⟨(some 46), .buildSl 26 2 1 [.int .i64 0, .int .i64 0] [(0, 2, .t 45)], none, false, none, 0⟩,
    ⟨(some 47), .append 26 2 16 (.t 44) (.t 46), none, false, none, 0⟩,
    ⟨(some 4), .mov (.t 47), none, false, none, 0⟩])
  (.exit 1))))
  (.skip)))
  (.seq (.seqj [0, 2, 4, 5, 6, 62] (.reg [⟨(some 48), .fieldA 2 (.t 6), none, false, none, 0⟩,
    ⟨(some 49), .load false 1 (.t 48), none, false, none, 0⟩,
    ⟨(some 50), .bin .lss (.t 49) (.c (.int .i64 0)), none, false, none, 0⟩,
    ⟨(some 51), .mov (.t 50), none, false, none, 0⟩,
    ⟨(some 52), .fieldA 2 (.t 6), (some (51, false)), false, none, 0⟩,
    ⟨(some 53), .load false 1 (.t 52), (some (51, false)), false, none, 0⟩,
    ⟨(some 54), .mov (.t 4), (some (51, false)), false, none, 0⟩,
    ⟨(some 55), .len false (.t 54), (some (51, false)), false, none, 0⟩,
    ⟨(some 56), .bin .gtr (.t 53) (.t 55), (some (51, false)), false, none, 0⟩,
    ⟨(some 57), .pick (.t 51) (.c (.bool true)) (.t 56), none, false, none, 0⟩,
    ⟨(some 58), .mov (.t 57), none, false, none, 0⟩,
    ⟨(some 59), .fieldA 1 (.t 6), (some (58, false)), false, none, 0⟩,
    ⟨(some 60), .load false 1 (.t 59), (some (58, false)), false, none, 0⟩,
    ⟨(some 61), .bin .neq (.t 60) (.c (.string ⟨#[]⟩)), (some (58, false)), false, none, 0⟩,
    ⟨(some 62), .pick (.t 58) (.c (.bool true)) (.t 61), none, false, none, 0⟩])
  F5_C1)
  (.seq (.reg [⟨(some 64), .build [.int .i64 0, .int .i64 0] [], none, false, none, 0⟩,
    ⟨(some 9), .allocL [.int .i64 0, .int .i64 0], none, false, none, 0⟩,
    ⟨none, .store 2 (.t 9) (.t 64), none, false, none, 0⟩])
  (.seq (.seq (.reg [⟨(some 65), .mov (.t 4), none, false, none, 0⟩,
    ⟨(some 66), .mov (.t 4), none, false, none, 0⟩,
    ⟨(some 67), .len false (.t 66), none, false, none, 0⟩,
    ⟨(some 68), .fieldA 2 (.t 6), none, false, none, 0⟩,
    ⟨(some 69), .load false 1 (.t 68), none, false, none, 0⟩,
    ⟨(some 70), .bin .sub (.t 67) (.t 69), none, false, none, 0⟩,
    ⟨(some 71), .slSl 2 (.t 65) (some (.t 70)) none, none, false, none, 0⟩,
    ⟨(some 72), .len false (.t 71), none, false, none, 0⟩,
    ⟨(some 73), .mov (.c (.int .i64 0)), none, false, none, 0⟩])
  (.block 2 (.loop [0, 2, 4, 5, 6, 9, 71, 72, 73] F5_C2)))
  (.regD [⟨(some 87), .mov (.t 4), none, false, none, 0⟩,
    ⟨(some 88), .mov (.t 4), none, false, none, 0⟩,
    ⟨(some 89), .len false (.t 88), none, false, none, 0⟩,
    ⟨(some 90), .fieldA 2 (.t 6), none, false, none, 0⟩,
    ⟨(some 91), .load false 1 (.t 90), none, false, (some 6), 0⟩,
    ⟨(some 92), .bin .sub (.t 89) (.t 91), none, false, none, 0⟩,
    ⟨(some 93), .slSl 2 (.t 87) none (some (.t 92)), none, false, none, 14⟩,
    ⟨(some 94), .fieldA 0 (.t 9), none, false, none, 0⟩,
    ⟨(some 95), .load false 1 (.t 94), none, false, (some 9), 0⟩,
    ⟨(some 96), .fieldA 1 (.t 9), none, false, none, 0⟩,
    ⟨(some 97), .load false 1 (.t 96), none, false, (some 9), 0⟩,
    ⟨(some 98), .bin .add (.t 97) (.c (.int .i64 1)), none, false, none, 0⟩,
    ⟨(some 99), .build [.int .i64 0, .int .i64 0] [(0, 1, .t 95), (1, 1, .t 98)], none, false, none, 0⟩,
    ⟨(some 100), .buildSl 26 2 1 [.int .i64 0, .int .i64 0] [(0, 2, .t 99)], none, true, none, 0⟩,
    ⟨(some 101), .append 26 2 16 (.t 93) (.t 100), none, true, none, 0⟩,
    ⟨(some 4), .mov (.t 101), none, false, none, 0⟩])))))))
  F5_C3)
def F5_C5 : ACode :=
  .cond (.t 111)
  (.seq (.reg [⟨(some 112), .build [.int .i64 0, .int .i64 0] [], none, false, none, 0⟩,
    ⟨none, .store 2 (.t 2) (.t 112), none, false, none, 0⟩,
    ⟨(some 3), .mov (.c (.int .i64 6)), none, false, none, 0⟩])
  (.ret))
  (.skip)
def F5_C6 : ACode :=
  .seq (.reg [⟨(some 2), .allocL [.int .i64 0, .int .i64 0], none, false, none, 0⟩,
    ⟨(some 3), .mov (.c (.int .i64 0)), none, false, none, 0⟩])
  (.seq (.seqj [0, 2, 20] (.reg [⟨(some 13), .mov (.t 0), none, false, none, 0⟩,
    ⟨(some 14), .len false (.t 13), none, false, none, 0⟩,
    ⟨(some 15), .bin .eql (.t 14) (.c (.int .i64 0)), none, false, none, 0⟩,
    ⟨(some 16), .mov (.t 15), none, false, none, 0⟩,
    ⟨(some 17), .mov (.t 0), (some (16, false)), false, none, 0⟩,
    ⟨(some 18), .len false (.t 17), (some (16, false)), false, none, 0⟩,
    ⟨(some 19), .bin .gtr (.t 18) (.c (.int .i64 65536)), (some (16, false)), false, none, 0⟩,
    ⟨(some 20), .pick (.t 16) (.c (.bool true)) (.t 19), none, false, none, 0⟩])
  F5_C0)
  (.seq (.reg [⟨(some 4), .mov (.c (.slice none 0 0)), none, false, none, 0⟩])
  (.seq (.seq (.reg [⟨(some 22), .mov (.t 0), none, false, none, 0⟩,
    ⟨(some 23), .len false (.t 22), none, false, none, 0⟩,
    ⟨(some 24), .bin .sub (.t 23) (.c (.int .i64 1)), none, false, none, 0⟩,
    ⟨(some 5), .mov (.t 24), none, false, none, 0⟩])
  (.block 0 (.loop [0, 2, 4, 5] F5_C4)))
  (.seq (.seqj [2, 4, 111] (.reg [⟨(some 102), .mov (.t 4), none, false, none, 0⟩,
    ⟨(some 103), .len false (.t 102), none, false, none, 0⟩,
    ⟨(some 104), .bin .neq (.t 103) (.c (.int .i64 1)), none, false, none, 0⟩,
    ⟨(some 105), .mov (.t 104), none, false, none, 0⟩,
    ⟨(some 106), .mov (.t 4), (some (105, false)), false, none, 0⟩,
    ⟨(some 107), .indexA 2 (.t 106) (.c (.int .i64 0)), (some (105, false)), false, none, 0⟩,
    ⟨(some 108), .fieldA 1 (.t 107), (some (105, false)), false, none, 0⟩,
    ⟨(some 109), .load false 1 (.t 108), (some (105, false)), false, none, 0⟩,
    ⟨(some 110), .bin .gtr (.t 109) (.c (.int .i64 8)), (some (105, false)), false, none, 0⟩,
    ⟨(some 111), .pick (.t 105) (.c (.bool true)) (.t 110), none, false, none, 0⟩])
  F5_C5)
  (.seq (.reg [⟨(some 113), .mov (.t 4), none, false, none, 0⟩,
    ⟨(some 114), .indexA 2 (.t 113) (.c (.int .i64 0)), none, false, none, 0⟩,
    ⟨(some 115), .load true 2 (.t 114), none, false, none, 0⟩,
    ⟨none, .store 2 (.t 2) (.t 115), none, false, none, 0⟩,
    ⟨(some 3), .mov (.c (.int .i64 0)), none, false, none, 0⟩])
  (.ret))))))
def F5_C7 : ACode :=
  .seq (.seqj [2, 4, 111] (.reg [⟨(some 102), .mov (.t 4), none, false, none, 0⟩,
    ⟨(some 103), .len false (.t 102), none, false, none, 0⟩,
    ⟨(some 104), .bin .neq (.t 103) (.c (.int .i64 1)), none, false, none, 0⟩,
    ⟨(some 105), .mov (.t 104), none, false, none, 0⟩,
    ⟨(some 106), .mov (.t 4), (some (105, false)), false, none, 0⟩,
    ⟨(some 107), .indexA 2 (.t 106) (.c (.int .i64 0)), (some (105, false)), false, none, 0⟩,
    ⟨(some 108), .fieldA 1 (.t 107), (some (105, false)), false, none, 0⟩,
    ⟨(some 109), .load false 1 (.t 108), (some (105, false)), false, none, 0⟩,
    ⟨(some 110), .bin .gtr (.t 109) (.c (.int .i64 8)), (some (105, false)), false, none, 0⟩,
    ⟨(some 111), .pick (.t 105) (.c (.bool true)) (.t 110), none, false, none, 0⟩])
  F5_C5)
  (.seq (.reg [⟨(some 113), .mov (.t 4), none, false, none, 0⟩,
    ⟨(some 114), .indexA 2 (.t 113) (.c (.int .i64 0)), none, false, none, 0⟩,
    ⟨(some 115), .load true 2 (.t 114), none, false, none, 0⟩,
    ⟨none, .store 2 (.t 2) (.t 115), none, false, none, 0⟩,
    ⟨(some 3), .mov (.c (.int .i64 0)), none, false, none, 0⟩])
  (.ret))
def F5_C8 : ACode :=
  .regD [⟨(some 87), .mov (.t 4), none, false, none, 0⟩,
    ⟨(some 88), .mov (.t 4), none, false, none, 0⟩,
    ⟨(some 89), .len false (.t 88), none, false, none, 0⟩,
    ⟨(some 90), .fieldA 2 (.t 6), none, false, none, 0⟩,
    ⟨(some 91), .load false 1 (.t 90), none, false, (some 6), 0⟩,
    ⟨(some 92), .bin .sub (.t 89) (.t 91), none, false, none, 0⟩,
    ⟨(some 93), .slSl 2 (.t 87) none (some (.t 92)), none, false, none, 14⟩,
    ⟨(some 94), .fieldA 0 (.t 9), none, false, none, 0⟩,
    ⟨(some 95), .load false 1 (.t 94), none, false, (some 9), 0⟩,
    ⟨(some 96), .fieldA 1 (.t 9), none, false, none, 0⟩,
    ⟨(some 97), .load false 1 (.t 96), none, false, (some 9), 0⟩,
    ⟨(some 98), .bin .add (.t 97) (.c (.int .i64 1)), none, false, none, 0⟩,
    ⟨(some 99), .build [.int .i64 0, .int .i64 0] [(0, 1, .t 95), (1, 1, .t 98)], none, false, none, 0⟩,
    ⟨(some 100), .buildSl 26 2 1 [.int .i64 0, .int .i64 0] [(0, 2, .t 99)], none, true, none, 0⟩,
    ⟨(some 101), .append 26 2 16 (.t 93) (.t 100), none, true, none, 0⟩,
    ⟨(some 4), .mov (.t 101), none, false, none, 0⟩]
def F5_C9 : ACode :=
  .seq (.reg [⟨(some 64), .build [.int .i64 0, .int .i64 0] [], none, false, none, 0⟩,
    ⟨(some 9), .allocL [.int .i64 0, .int .i64 0], none, false, none, 0⟩,
    ⟨none, .store 2 (.t 9) (.t 64), none, false, none, 0⟩])
  (.seq (.seq (.reg [⟨(some 65), .mov (.t 4), none, false, none, 0⟩,
    ⟨(some 66), .mov (.t 4), none, false, none, 0⟩,
    ⟨(some 67), .len false (.t 66), none, false, none, 0⟩,
    ⟨(some 68), .fieldA 2 (.t 6), none, false, none, 0⟩,
    ⟨(some 69), .load false 1 (.t 68), none, false, none, 0⟩,
    ⟨(some 70), .bin .sub (.t 67) (.t 69), none, false, none, 0⟩,
    ⟨(some 71), .slSl 2 (.t 65) (some (.t 70)) none, none, false, none, 0⟩,
    ⟨(some 72), .len false (.t 71), none, false, none, 0⟩,
    ⟨(some 73), .mov (.c (.int .i64 0)), none, false, none, 0⟩])
  (.block 2 (.loop [0, 2, 4, 5, 6, 9, 71, 72, 73] F5_C2)))
  (.regD [⟨(some 87), .mov (.t 4), none, false, none, 0⟩,
    ⟨(some 88), .mov (.t 4), none, false, none, 0⟩,
    ⟨(some 89), .len false (.t 88), none, false, none, 0⟩,
    ⟨(some 90), .fieldA 2 (.t 6), none, false, none, 0⟩,
    ⟨(some 91), .load false 1 (.t 90), none, false, (some 6), 0⟩,
    ⟨(some 92), .bin .sub (.t 89) (.t 91), none, false, none, 0⟩,
    ⟨(some 93), .slSl 2 (.t 87) none (some (.t 92)), none, false, none, 14⟩,
    ⟨(some 94), .fieldA 0 (.t 9), none, false, none, 0⟩,
    ⟨(some 95), .load false 1 (.t 94), none, false, (some 9), 0⟩,
    ⟨(some 96), .fieldA 1 (.t 9), none, false, none, 0⟩,
    ⟨(some 97), .load false 1 (.t 96), none, false, (some 9), 0⟩,
    ⟨(some 98), .bin .add (.t 97) (.c (.int .i64 1)), none, false, none, 0⟩,
    ⟨(some 99), .build [.int .i64 0, .int .i64 0] [(0, 1, .t 95), (1, 1, .t 98)], none, false, none, 0⟩,
    ⟨(some 100), .buildSl 26 2 1 [.int .i64 0, .int .i64 0] [(0, 2, .t 99)], none, true, none, 0⟩,
    ⟨(some 101), .append 26 2 16 (.t 93) (.t 100), none, true, none, 0⟩,
    ⟨(some 4), .mov (.t 101), none, false, none, 0⟩]))
def F5_C10 : ACode :=
  .seq (.reg [⟨(some 113), .mov (.t 4), none, false, none, 0⟩,
    ⟨(some 114), .indexA 2 (.t 113) (.c (.int .i64 0)), none, false, none, 0⟩,
    ⟨(some 115), .load true 2 (.t 114), none, false, none, 0⟩,
    ⟨none, .store 2 (.t 2) (.t 115), none, false, none, 0⟩,
    ⟨(some 3), .mov (.c (.int .i64 0)), none, false, none, 0⟩])
  (.ret)
def F5_C11 : ACode :=
  .seq (.reg [⟨(some 4), .mov (.c (.slice none 0 0)), none, false, none, 0⟩])
  (.seq (.seq (.reg [⟨(some 22), .mov (.t 0), none, false, none, 0⟩,
    ⟨(some 23), .len false (.t 22), none, false, none, 0⟩,
    ⟨(some 24), .bin .sub (.t 23) (.c (.int .i64 1)), none, false, none, 0⟩,
    ⟨(some 5), .mov (.t 24), none, false, none, 0⟩])
  (.block 0 (.loop [0, 2, 4, 5] F5_C4)))
  (.seq (.seqj [2, 4, 111] (.reg [⟨(some 102), .mov (.t 4), none, false, none, 0⟩,
    ⟨(some 103), .len false (.t 102), none, false, none, 0⟩,
    ⟨(some 104), .bin .neq (.t 103) (.c (.int .i64 1)), none, false, none, 0⟩,
    ⟨(some 105), .mov (.t 104), none, false, none, 0⟩,
    ⟨(some 106), .mov (.t 4), (some (105, false)), false, none, 0⟩,
    ⟨(some 107), .indexA 2 (.t 106) (.c (.int .i64 0)), (some (105, false)), false, none, 0⟩,
    ⟨(some 108), .fieldA 1 (.t 107), (some (105, false)), false, none, 0⟩,
    ⟨(some 109), .load false 1 (.t 108), (some (105, false)), false, none, 0⟩,
    ⟨(some 110), .bin .gtr (.t 109) (.c (.int .i64 8)), (some (105, false)), false, none, 0⟩,
    ⟨(some 111), .pick (.t 105) (.c (.bool true)) (.t 110), none, false, none, 0⟩])
  F5_C5)
  (.seq (.reg [⟨(some 113), .mov (.t 4), none, false, none, 0⟩,
    ⟨(some 114), .indexA 2 (.t 113) (.c (.int .i64 0)), none, false, none, 0⟩,
    ⟨(some 115), .load true 2 (.t 114), none, false, none, 0⟩,
    ⟨none, .store 2 (.t 2) (.t 115), none, false, none, 0⟩,
    ⟨(some 3), .mov (.c (.int .i64 0)), none, false, none, 0⟩])
  (.ret))))
def F5 : AFunc := ⟨1, 116, [.cell 2 true 2, .tmp 3], F5_C6⟩
def Y5 : List VT := [.v (.one .sl), .v (.one .any), .v (.one .any), .v (.one (.int .i64)), .v (.one .sl), .v (.one (.int .i64)), .v (.one .any), .v (.one .any), .v (.one .bool), .v (.one .any), .v (.one .any), .v (.one .any), .v (.one .bool), .v (.one .sl), .v (.one (.int .i64)), .v (.one .bool), .v (.one .bool), .v (.one .sl), .v (.one (.int .i64)), .v (.one .bool), .v (.one .bool), .v (.agg [.int .i64, .int .i64]), .v (.one .sl), .v (.one (.int .i64)), .v (.one (.int .i64)), .v (.one (.int .i64)), .v (.one .bool), .v (.one (.int .i64)), .v (.one (.int .i64)), .v (.one .sl), .v (.one (.int .i64)), .v (.one .any), .v (.agg [.int .i64, .str, .int .i64]), .v (.one .any), .v (.one (.int .i64)), .v (.one .bool), .tup [.agg [.int .i64, .int .i64], .one .bool], .v (.agg [.int .i64, .str, .int .i64]), .tup [.agg [.int .i64, .int .i64], .one .bool], .v (.agg [.int .i64, .int .i64]), .v (.one .bool), .v (.one .bool), .v (.one .bool), .v (.agg [.int .i64, .int .i64]), .v (.one .sl), .v (.agg [.int .i64, .int .i64]), .v (.one .sl), .v (.one .sl), .v (.one .any), .v (.one (.int .i64)), .v (.one .bool), .v (.one .bool), .v (.one .any), .v (.one (.int .i64)), .v (.one .sl), .v (.one (.int .i64)), .v (.one .bool), .v (.one .bool), .v (.one .bool), .v (.one .any), .v (.one .str), .v (.one .bool), .v (.one .bool), .v (.agg [.int .i64, .int .i64]), .v (.agg [.int .i64, .int .i64]), .v (.one .sl), .v (.one .sl), .v (.one (.int .i64)), .v (.one .any), .v (.one (.int .i64)), .v (.one (.int .i64)), .v (.one .sl), .v (.one (.int .i64)), .v (.one (.int .i64)), .v (.one .any), .v (.one .any), .v (.agg [.int .i64, .int .i64]), .tup [.agg [.int .i64, .int .i64], .one .bool], .v (.agg [.int .i64, .int .i64]), .v (.agg [.int .i64, .int .i64]), .tup [.agg [.int .i64, .int .i64], .one .bool], .v (.agg [.int .i64, .int .i64]), .v (.one .bool), .v (.one .bool), .v (.one .bool), .v (.agg [.int .i64, .int .i64]), .v (.one (.int .i64)), .v (.one .sl), .v (.one .sl), .v (.one (.int .i64)), .v (.one .any), .v (.one (.int .i64)), .v (.one (.int .i64)), .v (.one .sl), .v (.one .any), .v (.one (.int .i64)), .v (.one .any), .v (.one (.int .i64)), .v (.one (.int .i64)), .v (.agg [.int .i64, .int .i64]), .v (.one .sl), .v (.one .sl), .v (.one .sl), .v (.one (.int .i64)), .v (.one .bool), .v (.one .bool), .v (.one .sl), .v (.one .any), .v (.one .any), .v (.one (.int .i64)), .v (.one .bool), .v (.one .bool), .v (.agg [.int .i64, .int .i64]), .v (.one .sl), .v (.one .any), .v (.agg [.int .i64, .int .i64])]
noncomputable def F5_K0 (T : Nat → Option AFn) (hs : Heap → Heap → Bool) : Kont (Value × Heap) := { (kontF F5) with nrm := fun fr H => runK T hs Y5 F5_C7 fr H (kontF F5) }
noncomputable def F5_K1 (T : Nat → Option AFn) (hs : Heap → Heap → Bool) : Kont (Value × Heap) := { (F5_K0 T hs) with ex := fun i fr H => if i = 0 then (F5_K0 T hs).nrm fr H else (F5_K0 T hs).ex i fr H }
noncomputable def F5_K2 (T : Nat → Option AFn) (hs : Heap → Heap → Bool) : Kont (Value × Heap) := { (F5_K1 T hs) with nrm := fun fr H => fF (forget [0, 2, 4, 5] fr) fun fr => loopK T hs [0, 2, 4, 5] F5_C4 fr H (F5_K1 T hs) }
noncomputable def F5_K3 (T : Nat → Option AFn) (hs : Heap → Heap → Bool) : Kont (Value × Heap) := { (F5_K2 T hs) with nrm := fun fr H => fF (forget [0, 2, 4, 5] fr) fun fr => joinK T hs F5_C3 fr H (F5_K2 T hs) }
noncomputable def F5_K4 (T : Nat → Option AFn) (hs : Heap → Heap → Bool) : Kont (Value × Heap) := { (F5_K3 T hs) with ex := fun i fr H => if i = 1 then (F5_K3 T hs).nrm fr H else (F5_K3 T hs).ex i fr H }
noncomputable def F5_K5 (T : Nat → Option AFn) (hs : Heap → Heap → Bool) : Kont (Value × Heap) := { (F5_K4 T hs) with nrm := fun fr H => runK T hs Y5 F5_C8 fr H (F5_K4 T hs) }
noncomputable def F5_K6 (T : Nat → Option AFn) (hs : Heap → Heap → Bool) : Kont (Value × Heap) := { (F5_K5 T hs) with ex := fun i fr H => if i = 2 then (F5_K5 T hs).nrm fr H else (F5_K5 T hs).ex i fr H }
noncomputable def F5_K7 (T : Nat → Option AFn) (hs : Heap → Heap → Bool) : Kont (Value × Heap) := { (F5_K4 T hs) with nrm := fun fr H => runK T hs Y5 F5_C9 fr H (F5_K4 T hs) }
noncomputable def F5_K8 (T : Nat → Option AFn) (hs : Heap → Heap → Bool) : Kont (Value × Heap) := { (kontF F5) with nrm := fun fr H => runK T hs Y5 F5_C10 fr H (kontF F5) }
noncomputable def F5_K9 (T : Nat → Option AFn) (hs : Heap → Heap → Bool) : Kont (Value × Heap) := { (kontF F5) with nrm := fun fr H => runK T hs Y5 F5_C11 fr H (kontF F5) }
noncomputable def g5_J2 (T : Nat → Option AFn) (hs : Heap → Heap → Bool) (a0 : Option Addr) (n0 : Nat) (c0 : Nat) (x2 : Int) (x2_4 : Int) (a4 : Option Addr) (n4 : Nat) (c4 : Nat) (x5 : Int) (H : Heap) : Option (Value × Heap) := joinK T hs F5_C3 [(.v (.slice a0 n0 c0)), .no, (.loc [(.int .i64 x2), (.int .i64 x2_4)]), .no, (.v (.slice a4 n4 c4)), (.v (.int .i64 x5)), .no, .no, .no, .no, .no, .no, .no, .no, .no, .no, .no, .no, .no, .no, .no, .no, .no, .no, .no, .no, .no, .no, .no, .no, .no, .no, .no, .no, .no, .no, .no, .no, .no, .no, .no, .no, .no, .no, .no, .no, .no, .no, .no, .no, .no, .no, .no, .no, .no, .no, .no, .no, .no, .no, .no, .no, .no, .no, .no, .no, .no, .no, .no, .no, .no, .no, .no, .no, .no, .no, .no, .no, .no, .no, .no, .no, .no, .no, .no, .no, .no, .no, .no, .no, .no, .no, .no, .no, .no, .no, .no, .no, .no, .no, .no, .no, .no, .no, .no, .no, .no, .no, .no, .no, .no, .no, .no, .no, .no, .no] H (F5_K2 T hs)
noncomputable def g5_L4 (T : Nat → Option AFn) (hs : Heap → Heap → Bool) (a0 : Option Addr) (n0 : Nat) (c0 : Nat) (x2 : Int) (x2_4 : Int) (a4 : Option Addr) (n4 : Nat) (c4 : Nat) (x5 : Int) (x6 : Int) (x6_10 : ByteArray) (x6_11 : Int) (x9 : Int) (x9_13 : Int) (a71 : Option Addr) (n71 : Nat) (c71 : Nat) (x72 : Int) (x73 : Int) (H : Heap) : Option (Value × Heap) := loopK T hs [0, 2, 4, 5, 6, 9, 71, 72, 73] F5_C2 [(.v (.slice a0 n0 c0)), .no, (.loc [(.int .i64 x2), (.int .i64 x2_4)]), .no, (.v (.slice a4 n4 c4)), (.v (.int .i64 x5)), (.loc [(.int .i64 x6), (.string x6_10), (.int .i64 x6_11)]), .no, .no, (.loc [(.int .i64 x9), (.int .i64 x9_13)]), .no, .no, .no, .no, .no, .no, .no, .no, .no, .no, .no, .no, .no, .no, .no, .no, .no, .no, .no, .no, .no, .no, .no, .no, .no, .no, .no, .no, .no, .no, .no, .no, .no, .no, .no, .no, .no, .no, .no, .no, .no, .no, .no, .no, .no, .no, .no, .no, .no, .no, .no, .no, .no, .no, .no, .no, .no, .no, .no, .no, .no, (.v (.slice a71 n71 c71)), (.v (.int .i64 x72)), (.v (.int .i64 x73)), .no, .no, .no, .no, .no, .no, .no, .no, .no, .no, .no, .no, .no, .no, .no, .no, .no, .no, .no, .no, .no, .no, .no, .no, .no, .no, .no, .no, .no, .no, .no, .no, .no, .no, .no, .no, .no, .no, .no, .no, .no, .no] H (F5_K6 T hs)
noncomputable def g5_J3 (T : Nat → Option AFn) (hs : Heap → Heap → Bool) (a0 : Option Addr) (n0 : Nat) (c0 : Nat) (x2 : Int) (x2_4 : Int) (a4 : Option Addr) (n4 : Nat) (c4 : Nat) (x5 : Int) (x6 : Int) (x6_10 : ByteArray) (x6_11 : Int) (x62 : Bool) (H : Heap) : Option (Value × Heap) := joinK T hs F5_C1 [(.v (.slice a0 n0 c0)), .no, (.loc [(.int .i64 x2), (.int .i64 x2_4)]), .no, (.v (.slice a4 n4 c4)), (.v (.int .i64 x5)), (.loc [(.int .i64 x6), (.string x6_10), (.int .i64 x6_11)]), .no, .no, .no, .no, .no, .no, .no, .no, .no, .no, .no, .no, .no, .no, .no, .no, .no, .no, .no, .no, .no, .no, .no, .no, .no, .no, .no, .no, .no, .no, .no, .no, .no, .no, .no, .no, .no, .no, .no, .no, .no, .no, .no, .no, .no, .no, .no, .no, .no, .no, .no, .no, .no, .no, .no, (.v (.bool x62)), .no, .no, .no, .no, .no, .no, .no, .no, .no, .no, .no, .no, .no, .no, .no, .no, .no, .no, .no, .no, .no, .no, .no, .no, .no, .no, .no, .no, .no, .no, .no, .no, .no, .no, .no, .no, .no, .no, .no, .no, .no, .no, .no, .no, .no, .no, .no, .no, .no, .no, .no, .no, .no] H (F5_K7 T hs)
noncomputable def g5_J5 (T : Nat → Option AFn) (hs : Heap → Heap → Bool) (x2 : Int) (x2_1 : Int) (a4 : Option Addr) (n4 : Nat) (c4 : Nat) (x111 : Bool) (H : Heap) : Option (Value × Heap) := joinK T hs F5_C5 [.no, .no, (.loc [(.int .i64 x2), (.int .i64 x2_1)]), .no, (.v (.slice a4 n4 c4)), .no, .no, .no, .no, .no, .no, .no, .no, .no, .no, .no, .no, .no, .no, .no, .no, .no, .no, .no, .no, .no, .no, .no, .no, .no, .no, .no, .no, .no, .no, .no, .no, .no, .no, .no, .no, .no, .no, .no, .no, .no, .no, .no, .no, .no, .no, .no, .no, .no, .no, .no, .no, .no, .no, .no, .no, .no, .no, .no, .no, .no, .no, .no, .no, .no, .no, .no, .no, .no, .no, .no, .no, .no, .no, .no, .no, .no, .no, .no, .no, .no, .no, .no, .no, .no, .no, .no, .no, .no, .no, .no, .no, .no, .no, .no, .no, .no, .no, .no, .no, .no, .no, .no, .no, .no, .no, (.v (.bool x111)), .no, .no, .no, .no] H (F5_K8 T hs)
noncomputable def g5_L1 (T : Nat → Option AFn) (hs : Heap → Heap → Bool) (a0 : Option Addr) (n0 : Nat) (c0 : Nat) (x2 : Int) (x2_4 : Int) (a4 : Option Addr) (n4 : Nat) (c4 : Nat) (x5 : Int) (H : Heap) : Option (Value × Heap) := loopK T hs [0, 2, 4, 5] F5_C4 [(.v (.slice a0 n0 c0)), .no, (.loc [(.int .i64 x2), (.int .i64 x2_4)]), .no, (.v (.slice a4 n4 c4)), (.v (.int .i64 x5)), .no, .no, .no, .no, .no, .no, .no, .no, .no, .no, .no, .no, .no, .no, .no, .no, .no, .no, .no, .no, .no, .no, .no, .no, .no, .no, .no, .no, .no, .no, .no, .no, .no, .no, .no, .no, .no, .no, .no, .no, .no, .no, .no, .no, .no, .no, .no, .no, .no, .no, .no, .no, .no, .no, .no, .no, .no, .no, .no, .no, .no, .no, .no, .no, .no, .no, .no, .no, .no, .no, .no, .no, .no, .no, .no, .no, .no, .no, .no, .no, .no, .no, .no, .no, .no, .no, .no, .no, .no, .no, .no, .no, .no, .no, .no, .no, .no, .no, .no, .no, .no, .no, .no, .no, .no, .no, .no, .no, .no, .no] H (F5_K1 T hs)
noncomputable def g5_J0 (T : Nat → Option AFn) (hs : Heap → Heap → Bool) (a0 : Option Addr) (n0 : Nat) (c0 : Nat) (x2 : Int) (x2_4 : Int) (x20 : Bool) (H : Heap) : Option (Value × Heap) := joinK T hs F5_C0 [(.v (.slice a0 n0 c0)), .no, (.loc [(.int .i64 x2), (.int .i64 x2_4)]), .no, .no, .no, .no, .no, .no, .no, .no, .no, .no, .no, .no, .no, .no, .no, .no, .no, (.v (.bool x20)), .no, .no, .no, .no, .no, .no, .no, .no, .no, .no, .no, .no, .no, .no, .no, .no, .no, .no, .no, .no, .no, .no, .no, .no, .no, .no, .no, .no, .no, .no, .no, .no, .no, .no, .no, .no, .no, .no, .no, .no, .no, .no, .no, .no, .no, .no, .no, .no, .no, .no, .no, .no, .no, .no, .no, .no, .no, .no, .no, .no, .no, .no, .no, .no, .no, .no, .no, .no, .no, .no, .no, .no, .no, .no, .no, .no, .no, .no, .no, .no, .no, .no, .no, .no, .no, .no, .no, .no, .no, .no, .no, .no, .no, .no, .no] H (F5_K9 T hs)
noncomputable def s5_J0 (T : Nat → Option AFn) (hs : Heap → Heap → Bool) (a0 : Option Addr) (n0 : Nat) (c0 : Nat) (x2 : Int) (x2_4 : Int) (x20 : Bool) (H : Heap) : Option (Value × Heap) :=
  cond x20
  (some (.tuple #[(.agg #[(.int .i64 0), (.int .i64 0)]), (.int .i64 6)], H))
  (g5_L1 T hs a0 n0 c0 x2 x2_4 none 0 0 (IntKind.wrap .i64 (((n0 : Nat) : Int) - 1)) H)
theorem g5_J0_step (T : Nat → Option AFn) (hs : Heap → Heap → Bool) (a0 : Option Addr) (n0 : Nat) (c0 : Nat) (x2 : Int) (x2_4 : Int) (x20 : Bool) (H : Heap) : runK T hs Y5 F5_C0 [(.v (.slice a0 n0 c0)), .no, (.loc [(.int .i64 x2), (.int .i64 x2_4)]), .no, .no, .no, .no, .no, .no, .no, .no, .no, .no, .no, .no, .no, .no, .no, .no, .no, (.v (.bool x20)), .no, .no, .no, .no, .no, .no, .no, .no, .no, .no, .no, .no, .no, .no, .no, .no, .no, .no, .no, .no, .no, .no, .no, .no, .no, .no, .no, .no, .no, .no, .no, .no, .no, .no, .no, .no, .no, .no, .no, .no, .no, .no, .no, .no, .no, .no, .no, .no, .no, .no, .no, .no, .no, .no, .no, .no, .no, .no, .no, .no, .no, .no, .no, .no, .no, .no, .no, .no, .no, .no, .no, .no, .no, .no, .no, .no, .no, .no, .no, .no, .no, .no, .no, .no, .no, .no, .no, .no, .no, .no, .no, .no, .no, .no, .no] H (F5_K9 T hs) = s5_J0 T hs a0 n0 c0 x2 x2_4 x20 H := by kernel_rfl
theorem g5_J0_ok {T : Nat → Option AFn} {hs : Heap → Heap → Bool} {a0 : Option Addr} {n0 : Nat} {c0 : Nat} {x2 : Int} {x2_4 : Int} {x20 : Bool} {H : Heap} {r : Value × Heap} (h : s5_J0 T hs a0 n0 c0 x2 x2_4 x20 H = some r) : g5_J0 T hs a0 n0 c0 x2 x2_4 x20 H = some r := join_intro ((g5_J0_step T hs a0 n0 c0 x2 x2_4 x20 H).trans h)
theorem g5_J0_ret {T : Nat → Option AFn} {hs : Heap → Heap → Bool} {a0 : Option Addr} {n0 : Nat} {c0 : Nat} {x2 : Int} {x2_4 : Int} {x20 : Bool} {H : Heap} {Q : Value → Heap → Prop} (h : Ret (s5_J0 T hs a0 n0 c0 x2 x2_4 x20 H) Q) : Ret (g5_J0 T hs a0 n0 c0 x2 x2_4 x20 H) Q := h.via fun _ q => g5_J0_ok q
noncomputable def s5_L1 (T : Nat → Option AFn) (hs : Heap → Heap → Bool) (a0 : Option Addr) (n0 : Nat) (c0 : Nat) (x2 : Int) (x2_4 : Int) (a4 : Option Addr) (n4 : Nat) (c4 : Nat) (x5 : Int) (H : Heap) : Option (Value × Heap) :=
  cond (decide ((x5 : Int) ≥ 0))
  ((ixA H 3 (.slice a0 n0 c0) x5).bind fun q31 =>
  (rdHp H q31.1 q31.2.1 q31.2.2 3 3).bind fun w32 =>
  ifCons w32 fun v32 l32 =>
  ifInt .i64 v32 fun x32 =>
  ifCons l32 fun v32_1 l32_1 =>
  ifStr v32_1 fun x32_1 =>
  ifCons l32_1 fun v32_2 l32_2 =>
  ifInt .i64 v32_2 fun x32_2 =>
  ifNil l32_2 <|
  cond ((x32 : Int) != 0)
  ((CT T hs 12 [(.agg #[(.int .i64 x32), (.string x32_1), (.int .i64 x32_2)])] H).bind fun p38 =>
  ifTup p38.1 fun l38 =>
  ifCons l38 fun v38 l38_1 =>
  ifAgg v38 fun l38_2 =>
  ifCons l38_2 fun v38_1 l38_3 =>
  ifInt .i64 v38_1 fun x38 =>
  ifCons l38_3 fun v38_2 l38_4 =>
  ifInt .i64 v38_2 fun x38_1 =>
  ifNil l38_4 <|
  ifCons l38_1 fun v38_3 l38_5 =>
  ifBool v38_3 fun x38_2 =>
  ifNil l38_5 <|
  cond (!x38_2)
  (some (.tuple #[(.agg #[(.int .i64 0), (.int .i64 0)]), (.int .i64 6)], p38.2))
  (let H_1 := p38.2 ++ [.cells 26 2 [(.int .i64 x38), (.int .i64 x38_1)] 0 0 0 false]
  (apA H_1 26 2 16 (.slice a4 n4 c4) (.slice (some ⟨p38.2.length, 0, some 0⟩) 1 1)).bind fun p47 =>
  ifSl p47.1 fun a47 n47 c47 =>
  g5_J2 T hs a0 n0 c0 x2 x2_4 a47 n47 c47 x5 p47.2))
  (cond (decide ((x32_2 : Int) < 0))
  (g5_J3 T hs a0 n0 c0 x2 x2_4 a4 n4 c4 x5 x32 x32_1 x32_2 true H)
  (cond (decide ((x32_2 : Int) > ((n4 : Nat) : Int)))
  (g5_J3 T hs a0 n0 c0 x2 x2_4 a4 n4 c4 x5 x32 x32_1 x32_2 true H)
  (g5_J3 T hs a0 n0 c0 x2 x2_4 a4 n4 c4 x5 x32 x32_1 x32_2 (!(x32_1.toList == (⟨#[]⟩ : ByteArray).toList)) H))))
  (cond ((((n4 : Nat) : Int) : Int) != 1)
  (g5_J5 T hs x2 x2_4 a4 n4 c4 true H)
  ((ixA H 2 (.slice a4 n4 c4) 0).bind fun q107 =>
  (rdHp H q107.1 (q107.2.1 + 1) q107.2.2 1 1).bind fun w109 =>
  ifCons w109 fun v109 l109 => ifNil l109 <|
  ifInt .i64 v109 fun x109 =>
  g5_J5 T hs x2 x2_4 a4 n4 c4 (decide ((x109 : Int) > 8)) H))
theorem g5_L1_step (T : Nat → Option AFn) (hs : Heap → Heap → Bool) (a0 : Option Addr) (n0 : Nat) (c0 : Nat) (x2 : Int) (x2_4 : Int) (a4 : Option Addr) (n4 : Nat) (c4 : Nat) (x5 : Int) (H : Heap) : loopB T hs Y5 [0, 2, 4, 5] F5_C4 [(.v (.slice a0 n0 c0)), .no, (.loc [(.int .i64 x2), (.int .i64 x2_4)]), .no, (.v (.slice a4 n4 c4)), (.v (.int .i64 x5)), .no, .no, .no, .no, .no, .no, .no, .no, .no, .no, .no, .no, .no, .no, .no, .no, .no, .no, .no, .no, .no, .no, .no, .no, .no, .no, .no, .no, .no, .no, .no, .no, .no, .no, .no, .no, .no, .no, .no, .no, .no, .no, .no, .no, .no, .no, .no, .no, .no, .no, .no, .no, .no, .no, .no, .no, .no, .no, .no, .no, .no, .no, .no, .no, .no, .no, .no, .no, .no, .no, .no, .no, .no, .no, .no, .no, .no, .no, .no, .no, .no, .no, .no, .no, .no, .no, .no, .no, .no, .no, .no, .no, .no, .no, .no, .no, .no, .no, .no, .no, .no, .no, .no, .no, .no, .no, .no, .no, .no, .no] H (F5_K1 T hs) = s5_L1 T hs a0 n0 c0 x2 x2_4 a4 n4 c4 x5 H := by kernel_rfl
theorem g5_L1_ok {T : Nat → Option AFn} {hs : Heap → Heap → Bool} {a0 : Option Addr} {n0 : Nat} {c0 : Nat} {x2 : Int} {x2_4 : Int} {a4 : Option Addr} {n4 : Nat} {c4 : Nat} {x5 : Int} {H : Heap} {r : Value × Heap} (h : s5_L1 T hs a0 n0 c0 x2 x2_4 a4 n4 c4 x5 H = some r) : g5_L1 T hs a0 n0 c0 x2 x2_4 a4 n4 c4 x5 H = some r := loopB_ok ((g5_L1_step T hs a0 n0 c0 x2 x2_4 a4 n4 c4 x5 H).trans h)
theorem g5_L1_ret {T : Nat → Option AFn} {hs : Heap → Heap → Bool} {a0 : Option Addr} {n0 : Nat} {c0 : Nat} {x2 : Int} {x2_4 : Int} {a4 : Option Addr} {n4 : Nat} {c4 : Nat} {x5 : Int} {H : Heap} {Q : Value → Heap → Prop} (h : Ret (s5_L1 T hs a0 n0 c0 x2 x2_4 a4 n4 c4 x5 H) Q) : Ret (g5_L1 T hs a0 n0 c0 x2 x2_4 a4 n4 c4 x5 H) Q := h.via fun _ q => g5_L1_ok q
noncomputable def s5_J2 (T : Nat → Option AFn) (hs : Heap → Heap → Bool) (a0 : Option Addr) (n0 : Nat) (c0 : Nat) (x2 : Int) (x2_4 : Int) (a4 : Option Addr) (n4 : Nat) (c4 : Nat) (x5 : Int) (H : Heap) : Option (Value × Heap) :=
  g5_L1 T hs a0 n0 c0 x2 x2_4 a4 n4 c4 (IntKind.wrap .i64 (x5 - 1)) H
theorem g5_J2_step (T : Nat → Option AFn) (hs : Heap → Heap → Bool) (a0 : Option Addr) (n0 : Nat) (c0 : Nat) (x2 : Int) (x2_4 : Int) (a4 : Option Addr) (n4 : Nat) (c4 : Nat) (x5 : Int) (H : Heap) : runK T hs Y5 F5_C3 [(.v (.slice a0 n0 c0)), .no, (.loc [(.int .i64 x2), (.int .i64 x2_4)]), .no, (.v (.slice a4 n4 c4)), (.v (.int .i64 x5)), .no, .no, .no, .no, .no, .no, .no, .no, .no, .no, .no, .no, .no, .no, .no, .no, .no, .no, .no, .no, .no, .no, .no, .no, .no, .no, .no, .no, .no, .no, .no, .no, .no, .no, .no, .no, .no, .no, .no, .no, .no, .no, .no, .no, .no, .no, .no, .no, .no, .no, .no, .no, .no, .no, .no, .no, .no, .no, .no, .no, .no, .no, .no, .no, .no, .no, .no, .no, .no, .no, .no, .no, .no, .no, .no, .no, .no, .no, .no, .no, .no, .no, .no, .no, .no, .no, .no, .no, .no, .no, .no, .no, .no, .no, .no, .no, .no, .no, .no, .no, .no, .no, .no, .no, .no, .no, .no, .no, .no, .no] H (F5_K2 T hs) = s5_J2 T hs a0 n0 c0 x2 x2_4 a4 n4 c4 x5 H := by kernel_rfl
theorem g5_J2_ok {T : Nat → Option AFn} {hs : Heap → Heap → Bool} {a0 : Option Addr} {n0 : Nat} {c0 : Nat} {x2 : Int} {x2_4 : Int} {a4 : Option Addr} {n4 : Nat} {c4 : Nat} {x5 : Int} {H : Heap} {r : Value × Heap} (h : s5_J2 T hs a0 n0 c0 x2 x2_4 a4 n4 c4 x5 H = some r) : g5_J2 T hs a0 n0 c0 x2 x2_4 a4 n4 c4 x5 H = some r := join_intro ((g5_J2_step T hs a0 n0 c0 x2 x2_4 a4 n4 c4 x5 H).trans h)
theorem g5_J2_ret {T : Nat → Option AFn} {hs : Heap → Heap → Bool} {a0 : Option Addr} {n0 : Nat} {c0 : Nat} {x2 : Int} {x2_4 : Int} {a4 : Option Addr} {n4 : Nat} {c4 : Nat} {x5 : Int} {H : Heap} {Q : Value → Heap → Prop} (h : Ret (s5_J2 T hs a0 n0 c0 x2 x2_4 a4 n4 c4 x5 H) Q) : Ret (g5_J2 T hs a0 n0 c0 x2 x2_4 a4 n4 c4 x5 H) Q := h.via fun _ q => g5_J2_ok q
noncomputable def s5_J3 (T : Nat → Option AFn) (hs : Heap → Heap → Bool) (a0 : Option Addr) (n0 : Nat) (c0 : Nat) (x2 : Int) (x2_4 : Int) (a4 : Option Addr) (n4 : Nat) (c4 : Nat) (x5 : Int) (x6 : Int) (x6_10 : ByteArray) (x6_11 : Int) (x62 : Bool) (H : Heap) : Option (Value × Heap) :=
  cond x62
  (some (.tuple #[(.agg #[(.int .i64 0), (.int .i64 0)]), (.int .i64 6)], H))
  ((slA H 2 (.slice a4 n4 c4) (some (IntKind.wrap .i64 (((n4 : Nat) : Int) - x6_11))) none).bind fun s71 =>
  ifSl s71 fun a71 n71 c71 =>
  g5_L4 T hs a0 n0 c0 x2 x2_4 a4 n4 c4 x5 x6 x6_10 x6_11 0 0 a71 n71 c71 ((n71 : Nat) : Int) 0 H)
theorem g5_J3_step (T : Nat → Option AFn) (hs : Heap → Heap → Bool) (a0 : Option Addr) (n0 : Nat) (c0 : Nat) (x2 : Int) (x2_4 : Int) (a4 : Option Addr) (n4 : Nat) (c4 : Nat) (x5 : Int) (x6 : Int) (x6_10 : ByteArray) (x6_11 : Int) (x62 : Bool) (H : Heap) : runK T hs Y5 F5_C1 [(.v (.slice a0 n0 c0)), .no, (.loc [(.int .i64 x2), (.int .i64 x2_4)]), .no, (.v (.slice a4 n4 c4)), (.v (.int .i64 x5)), (.loc [(.int .i64 x6), (.string x6_10), (.int .i64 x6_11)]), .no, .no, .no, .no, .no, .no, .no, .no, .no, .no, .no, .no, .no, .no, .no, .no, .no, .no, .no, .no, .no, .no, .no, .no, .no, .no, .no, .no, .no, .no, .no, .no, .no, .no, .no, .no, .no, .no, .no, .no, .no, .no, .no, .no, .no, .no, .no, .no, .no, .no, .no, .no, .no, .no, .no, (.v (.bool x62)), .no, .no, .no, .no, .no, .no, .no, .no, .no, .no, .no, .no, .no, .no, .no, .no, .no, .no, .no, .no, .no, .no, .no, .no, .no, .no, .no, .no, .no, .no, .no, .no, .no, .no, .no, .no, .no, .no, .no, .no, .no, .no, .no, .no, .no, .no, .no, .no, .no, .no, .no, .no, .no] H (F5_K7 T hs) = s5_J3 T hs a0 n0 c0 x2 x2_4 a4 n4 c4 x5 x6 x6_10 x6_11 x62 H := by kernel_rfl
theorem g5_J3_ok {T : Nat → Option AFn} {hs : Heap → Heap → Bool} {a0 : Option Addr} {n0 : Nat} {c0 : Nat} {x2 : Int} {x2_4 : Int} {a4 : Option Addr} {n4 : Nat} {c4 : Nat} {x5 : Int} {x6 : Int} {x6_10 : ByteArray} {x6_11 : Int} {x62 : Bool} {H : Heap} {r : Value × Heap} (h : s5_J3 T hs a0 n0 c0 x2 x2_4 a4 n4 c4 x5 x6 x6_10 x6_11 x62 H = some r) : g5_J3 T hs a0 n0 c0 x2 x2_4 a4 n4 c4 x5 x6 x6_10 x6_11 x62 H = some r := join_intro ((g5_J3_step T hs a0 n0 c0 x2 x2_4 a4 n4 c4 x5 x6 x6_10 x6_11 x62 H).trans h)
theorem g5_J3_ret {T : Nat → Option AFn} {hs : Heap → Heap → Bool} {a0 : Option Addr} {n0 : Nat} {c0 : Nat} {x2 : Int} {x2_4 : Int} {a4 : Option Addr} {n4 : Nat} {c4 : Nat} {x5 : Int} {x6 : Int} {x6_10 : ByteArray} {x6_11 : Int} {x62 : Bool} {H : Heap} {Q : Value → Heap → Prop} (h : Ret (s5_J3 T hs a0 n0 c0 x2 x2_4 a4 n4 c4 x5 x6 x6_10 x6_11 x62 H) Q) : Ret (g5_J3 T hs a0 n0 c0 x2 x2_4 a4 n4 c4 x5 x6 x6_10 x6_11 x62 H) Q := h.via fun _ q => g5_J3_ok q
noncomputable def s5_L4 (T : Nat → Option AFn) (hs : Heap → Heap → Bool) (a0 : Option Addr) (n0 : Nat) (c0 : Nat) (x2 : Int) (x2_4 : Int) (a4 : Option Addr) (n4 : Nat) (c4 : Nat) (x5 : Int) (x6 : Int) (x6_10 : ByteArray) (x6_11 : Int) (x9 : Int) (x9_13 : Int) (a71 : Option Addr) (n71 : Nat) (c71 : Nat) (x72 : Int) (x73 : Int) (H : Heap) : Option (Value × Heap) :=
  cond (decide ((x73 : Int) < x72))
  ((ixA H 2 (.slice a71 n71 c71) x73).bind fun q75 =>
  (rdHp H q75.1 q75.2.1 q75.2.2 2 2).bind fun w76 =>
  ifCons w76 fun v76 l76 =>
  ifInt .i64 v76 fun x76 =>
  ifCons l76 fun v76_1 l76_1 =>
  ifInt .i64 v76_1 fun x76_1 =>
  ifNil l76_1 <|
  (CT T hs 13 [(.agg #[(.int .i64 x9), (.int .i64 x9_13)]), (.agg #[(.int .i64 x76), (.int .i64 x76_1)])] H).bind fun p80 =>
  ifTup p80.1 fun l80 =>
  ifCons l80 fun v80 l80_1 =>
  ifAgg v80 fun l80_2 =>
  ifCons l80_2 fun v80_1 l80_3 =>
  ifInt .i64 v80_1 fun x80 =>
  ifCons l80_3 fun v80_2 l80_4 =>
  ifInt .i64 v80_2 fun x80_1 =>
  ifNil l80_4 <|
  ifCons l80_1 fun v80_3 l80_5 =>
  ifBool v80_3 fun x80_2 =>
  ifNil l80_5 <|
  cond (!x80_2)
  (some (.tuple #[(.agg #[(.int .i64 0), (.int .i64 0)]), (.int .i64 6)], p80.2))
  (g5_L4 T hs a0 n0 c0 x2 x2_4 a4 n4 c4 x5 x6 x6_10 x6_11 x80 x80_1 a71 n71 c71 x72 (IntKind.wrap .i64 (x73 + 1)) p80.2))
  ((slA H 2 (.slice a4 n4 c4) none (some (IntKind.wrap .i64 (((n4 : Nat) : Int) - x6_11)))).bind fun s93 =>
  ifSl s93 fun a93 n93 c93 =>
  let H_1 := H ++ [.cells 26 2 [(.int .i64 x9), (.int .i64 (IntKind.wrap .i64 (x9_13 + 1)))] 0 0 0 false]
  (slA H_1 2 (.slice a4 n4 c4) none (some (IntKind.wrap .i64 (((n4 : Nat) : Int) - x6_11)))).bind fun s93_1 =>
  cond (hs (scH (.v s93_1)) (scH (.v s93)) && true)
  ((apA H_1 26 2 16 (.slice a93 n93 c93) (.slice (some ⟨H.length, 0, some 0⟩) 1 1)).bind fun p101 =>
  ifSl p101.1 fun a101 n101 c101 =>
  g5_J2 T hs a0 n0 c0 x2 x2_4 a101 n101 c101 x5 p101.2)
  none)
theorem g5_L4_step (T : Nat → Option AFn) (hs : Heap → Heap → Bool) (a0 : Option Addr) (n0 : Nat) (c0 : Nat) (x2 : Int) (x2_4 : Int) (a4 : Option Addr) (n4 : Nat) (c4 : Nat) (x5 : Int) (x6 : Int) (x6_10 : ByteArray) (x6_11 : Int) (x9 : Int) (x9_13 : Int) (a71 : Option Addr) (n71 : Nat) (c71 : Nat) (x72 : Int) (x73 : Int) (H : Heap) : loopB T hs Y5 [0, 2, 4, 5, 6, 9, 71, 72, 73] F5_C2 [(.v (.slice a0 n0 c0)), .no, (.loc [(.int .i64 x2), (.int .i64 x2_4)]), .no, (.v (.slice a4 n4 c4)), (.v (.int .i64 x5)), (.loc [(.int .i64 x6), (.string x6_10), (.int .i64 x6_11)]), .no, .no, (.loc [(.int .i64 x9), (.int .i64 x9_13)]), .no, .no, .no, .no, .no, .no, .no, .no, .no, .no, .no, .no, .no, .no, .no, .no, .no, .no, .no, .no, .no, .no, .no, .no, .no, .no, .no, .no, .no, .no, .no, .no, .no, .no, .no, .no, .no, .no, .no, .no, .no, .no, .no, .no, .no, .no, .no, .no, .no, .no, .no, .no, .no, .no, .no, .no, .no, .no, .no, .no, .no, (.v (.slice a71 n71 c71)), (.v (.int .i64 x72)), (.v (.int .i64 x73)), .no, .no, .no, .no, .no, .no, .no, .no, .no, .no, .no, .no, .no, .no, .no, .no, .no, .no, .no, .no, .no, .no, .no, .no, .no, .no, .no, .no, .no, .no, .no, .no, .no, .no, .no, .no, .no, .no, .no, .no, .no, .no] H (F5_K6 T hs) = s5_L4 T hs a0 n0 c0 x2 x2_4 a4 n4 c4 x5 x6 x6_10 x6_11 x9 x9_13 a71 n71 c71 x72 x73 H := by kernel_rfl
theorem g5_L4_ok {T : Nat → Option AFn} {hs : Heap → Heap → Bool} {a0 : Option Addr} {n0 : Nat} {c0 : Nat} {x2 : Int} {x2_4 : Int} {a4 : Option Addr} {n4 : Nat} {c4 : Nat} {x5 : Int} {x6 : Int} {x6_10 : ByteArray} {x6_11 : Int} {x9 : Int} {x9_13 : Int} {a71 : Option Addr} {n71 : Nat} {c71 : Nat} {x72 : Int} {x73 : Int} {H : Heap} {r : Value × Heap} (h : s5_L4 T hs a0 n0 c0 x2 x2_4 a4 n4 c4 x5 x6 x6_10 x6_11 x9 x9_13 a71 n71 c71 x72 x73 H = some r) : g5_L4 T hs a0 n0 c0 x2 x2_4 a4 n4 c4 x5 x6 x6_10 x6_11 x9 x9_13 a71 n71 c71 x72 x73 H = some r := loopB_ok ((g5_L4_step T hs a0 n0 c0 x2 x2_4 a4 n4 c4 x5 x6 x6_10 x6_11 x9 x9_13 a71 n71 c71 x72 x73 H).trans h)
theorem g5_L4_ret {T : Nat → Option AFn} {hs : Heap → Heap → Bool} {a0 : Option Addr} {n0 : Nat} {c0 : Nat} {x2 : Int} {x2_4 : Int} {a4 : Option Addr} {n4 : Nat} {c4 : Nat} {x5 : Int} {x6 : Int} {x6_10 : ByteArray} {x6_11 : Int} {x9 : Int} {x9_13 : Int} {a71 : Option Addr} {n71 : Nat} {c71 : Nat} {x72 : Int} {x73 : Int} {H : Heap} {Q : Value → Heap → Prop} (h : Ret (s5_L4 T hs a0 n0 c0 x2 x2_4 a4 n4 c4 x5 x6 x6_10 x6_11 x9 x9_13 a71 n71 c71 x72 x73 H) Q) : Ret (g5_L4 T hs a0 n0 c0 x2 x2_4 a4 n4 c4 x5 x6 x6_10 x6_11 x9 x9_13 a71 n71 c71 x72 x73 H) Q := h.via fun _ q => g5_L4_ok q
noncomputable def s5_J5 (T : Nat → Option AFn) (hs : Heap → Heap → Bool) (x2 : Int) (x2_1 : Int) (a4 : Option Addr) (n4 : Nat) (c4 : Nat) (x111 : Bool) (H : Heap) : Option (Value × Heap) :=
  cond x111
  (some (.tuple #[(.agg #[(.int .i64 0), (.int .i64 0)]), (.int .i64 6)], H))
  ((ixA H 2 (.slice a4 n4 c4) 0).bind fun q114 =>
  (rdHp H q114.1 q114.2.1 q114.2.2 2 2).bind fun w115 =>
  ifCons w115 fun v115 l115 =>
  ifInt .i64 v115 fun x115 =>
  ifCons l115 fun v115_1 l115_1 =>
  ifInt .i64 v115_1 fun x115_1 =>
  ifNil l115_1 <|
  some (.tuple #[(.agg #[(.int .i64 x115), (.int .i64 x115_1)]), (.int .i64 0)], H))
theorem g5_J5_step (T : Nat → Option AFn) (hs : Heap → Heap → Bool) (x2 : Int) (x2_1 : Int) (a4 : Option Addr) (n4 : Nat) (c4 : Nat) (x111 : Bool) (H : Heap) : runK T hs Y5 F5_C5 [.no, .no, (.loc [(.int .i64 x2), (.int .i64 x2_1)]), .no, (.v (.slice a4 n4 c4)), .no, .no, .no, .no, .no, .no, .no, .no, .no, .no, .no, .no, .no, .no, .no, .no, .no, .no, .no, .no, .no, .no, .no, .no, .no, .no, .no, .no, .no, .no, .no, .no, .no, .no, .no, .no, .no, .no, .no, .no, .no, .no, .no, .no, .no, .no, .no, .no, .no, .no, .no, .no, .no, .no, .no, .no, .no, .no, .no, .no, .no, .no, .no, .no, .no, .no, .no, .no, .no, .no, .no, .no, .no, .no, .no, .no, .no, .no, .no, .no, .no, .no, .no, .no, .no, .no, .no, .no, .no, .no, .no, .no, .no, .no, .no, .no, .no, .no, .no, .no, .no, .no, .no, .no, .no, .no, (.v (.bool x111)), .no, .no, .no, .no] H (F5_K8 T hs) = s5_J5 T hs x2 x2_1 a4 n4 c4 x111 H := by kernel_rfl
theorem g5_J5_ok {T : Nat → Option AFn} {hs : Heap → Heap → Bool} {x2 : Int} {x2_1 : Int} {a4 : Option Addr} {n4 : Nat} {c4 : Nat} {x111 : Bool} {H : Heap} {r : Value × Heap} (h : s5_J5 T hs x2 x2_1 a4 n4 c4 x111 H = some r) : g5_J5 T hs x2 x2_1 a4 n4 c4 x111 H = some r := join_intro ((g5_J5_step T hs x2 x2_1 a4 n4 c4 x111 H).trans h)
theorem g5_J5_ret {T : Nat → Option AFn} {hs : Heap → Heap → Bool} {x2 : Int} {x2_1 : Int} {a4 : Option Addr} {n4 : Nat} {c4 : Nat} {x111 : Bool} {H : Heap} {Q : Value → Heap → Prop} (h : Ret (s5_J5 T hs x2 x2_1 a4 n4 c4 x111 H) Q) : Ret (g5_J5 T hs x2 x2_1 a4 n4 c4 x111 H) Q := h.via fun _ q => g5_J5_ok q
noncomputable def s5 (T : Nat → Option AFn) (hs : Heap → Heap → Bool) (a0 : Option Addr) (n0 : Nat) (c0 : Nat) (H : Heap) : Option (Value × Heap) :=
  cond ((((n0 : Nat) : Int) : Int) == 0)
  (g5_J0 T hs a0 n0 c0 0 0 true H)
  (g5_J0 T hs a0 n0 c0 0 0 (decide ((((n0 : Nat) : Int) : Int) > 65536)) H)
theorem s5_run (T : Nat → Option AFn) (hs : Heap → Heap → Bool) (a0 : Option Addr) (n0 : Nat) (c0 : Nat) (H : Heap) : runFK T hs Y5 F5 [(.slice a0 n0 c0)] H = s5 T hs a0 n0 c0 H := by kernel_rfl
theorem g5_ok {T : Nat → Option AFn} {hs : Heap → Heap → Bool} (hT : T 5 = some (.code F5)) {a0 : Option Addr} {n0 : Nat} {c0 : Nat} {H : Heap} {r : Value × Heap} (h : s5 T hs a0 n0 c0 H = some r) : CT T hs 5 [(.slice a0 n0 c0)] H = some r := runFK_ok hT ((s5_run T hs a0 n0 c0 H).trans h)
theorem chk5 : chkFunc Tryd.prog 5 F5 = true := by kernel_rfl
/- dowel/dowelref26.Check -/
def F6_C0 : ACode :=
  .cond (.t 14)
  (.seq (.reg [⟨(some 15), .build [.int .i64 0, .int .i64 0] [], none, false, none, 0⟩,
    ⟨none, .store 2 (.t 2) (.t 15), none, false, none, 0⟩,
    ⟨(some 3), .mov (.c (.int .i64 6)), none, false, none, 0⟩])
  (.ret))
  (.skip)
def F6_C1 : ACode :=
  .seq (.seq (.reg [⟨(some 16), .mov (.t 4), none, false, none, 0⟩,
    ⟨(some 17), .mov (.t 0), none, false, none, 0⟩,
    ⟨(some 18), .len false (.t 17), none, false, none, 0⟩,
    ⟨(some 19), .bin .lss (.t 16) (.t 18), none, false, none, 0⟩])
  (.cond (.t 19)
  (.skip)
  (.exit 0)))
  (.seq (.block 1 (.seq (.reg [⟨(some 22), .mov (.t 0), none, false, none, 0⟩,
    ⟨(some 23), .mov (.t 4), none, false, none, 0⟩,
    ⟨(some 24), .indexA 3 (.t 22) (.t 23), none, false, none, 0⟩,
    ⟨(some 25), .load true 3 (.t 24), none, false, none, 0⟩,
    ⟨(some 26), .call 14 [.t 25], none, false, none, 0⟩,
    ⟨(some 27), .un .not (.t 26), none, false, none, 0⟩])
  (.cond (.t 27)
  (.seq (.reg [⟨(some 28), .build [.int .i64 0, .int .i64 0] [], none, false, none, 0⟩,
    ⟨none, .store 2 (.t 2) (.t 28), none, false, none, 0⟩,
    ⟨(some 3), .mov (.c (.int .i64 6)), none, false, none, 0⟩])
  (.ret))
  (.skip))))
  (.reg [⟨(some 20), .mov (.t 4), none, false, none, 0⟩,
    ⟨(some 21), .bin .add (.t 20) (.c (.int .i64 1)), none, false, none, 0⟩,
    ⟨(some 4), .mov (.t 21), none, false, none, 0⟩]))
def F6_C2 : ACode :=
  .seq (.reg [⟨(some 2), .allocL [.int .i64 0, .int .i64 0], none, false, none, 0⟩,
    ⟨(some 3), .mov (.c (.int .i64 0)), none, false, none, 0⟩])
  (.seq (.seqj [0, 2, 14] (.reg [⟨(some 7), .mov (.t 0), none, false, none, 0⟩,
    ⟨(some 8), .len false (.t 7), none, false, none, 0⟩,
    ⟨(some 9), .bin .eql (.t 8) (.c (.int .i64 0)), none, false, none, 0⟩,
    ⟨(some 10), .mov (.t 9), none, false, none, 0⟩,
    ⟨(some 11), .mov (.t 0), (some (10, false)), false, none, 0⟩,
    ⟨(some 12), .len false (.t 11), (some (10, false)), false, none, 0⟩,
    ⟨(some 13), .bin .gtr (.t 12) (.c (.int .i64 65536)), (some (10, false)), false, none, 0⟩,
    ⟨(some 14), .pick (.t 10) (.c (.bool true)) (.t 13), none, false, none, 0⟩])
  F6_C0)
  (.seq (.seq (.reg [⟨(some 4), .mov (.c (.int .i64 0)), none, false, none, 0⟩])
  (.block 0 (.loop [0, 2, 4] F6_C1)))
  (.seq (.seq (.reg [⟨(some 29), .mov (.t 0), none, false, none, 0⟩,
    ⟨(some 30), .call 15 [.t 29, .c (.int .i64 0)], none, false, none, 0⟩,
    ⟨(some 31), .mov (.t 0), none, false, none, 0⟩,
    ⟨(some 32), .len false (.t 31), none, false, none, 0⟩,
    ⟨(some 33), .bin .neq (.t 30) (.t 32), none, false, none, 0⟩])
  (.cond (.t 33)
  (.seq (.reg [⟨(some 34), .build [.int .i64 0, .int .i64 0] [], none, false, none, 0⟩,
    ⟨none, .store 2 (.t 2) (.t 34), none, false, none, 0⟩,
    ⟨(some 3), .mov (.c (.int .i64 6)), none, false, none, 0⟩])
  (.ret))
  (.skip)))
  (.seq (.reg [⟨(some 36), .mov (.t 0), none, false, none, 0⟩,
    ⟨(some 37), .call 16 [.t 36], none, false, none, 0⟩,
    ⟨(some 35), .mov (.t 37), none, false, none, 0⟩,
    ⟨(some 38), .extract (.t 35) 0, none, false, none, 0⟩,
    ⟨(some 39), .extract (.t 35) 1, none, false, none, 0⟩,
    ⟨(some 5), .allocL [.int .i64 0, .int .i64 0], none, false, none, 0⟩,
    ⟨none, .store 2 (.t 5) (.t 38), none, false, none, 0⟩,
    ⟨(some 6), .mov (.t 39), none, false, none, 0⟩])
  (.seq (.seq (.reg [⟨(some 40), .mov (.t 6), none, false, none, 0⟩,
    ⟨(some 41), .un .not (.t 40), none, false, none, 0⟩])
  (.cond (.t 41)
  (.seq (.reg [⟨(some 42), .build [.int .i64 0, .int .i64 0] [], none, false, none, 0⟩,
    ⟨none, .store 2 (.t 2) (.t 42), none, false, none, 0⟩,
    ⟨(some 3), .mov (.c (.int .i64 6)), none, false, none, 0⟩])
  (.ret))
  (.skip)))
  (.seq (.reg [⟨(some 43), .load true 2 (.t 5), none, false, none, 0⟩,
    ⟨none, .store 2 (.t 2) (.t 43), none, false, none, 0⟩,
    ⟨(some 3), .mov (.c (.int .i64 0)), none, false, none, 0⟩])
  (.ret)))))))
def F6_C3 : ACode :=
  .seq (.seq (.reg [⟨(some 29), .mov (.t 0), none, false, none, 0⟩,
    ⟨(some 30), .call 15 [.t 29, .c (.int .i64 0)], none, false, none, 0⟩,
    ⟨(some 31), .mov (.t 0), none, false, none, 0⟩,
    ⟨(some 32), .len false (.t 31), none, false, none, 0⟩,
    ⟨(some 33), .bin .neq (.t 30) (.t 32), none, false, none, 0⟩])
  (.cond (.t 33)
  (.seq (.reg [⟨(some 34), .build [.int .i64 0, .int .i64 0] [], none, false, none, 0⟩,
    ⟨none, .store 2 (.t 2) (.t 34), none, false, none, 0⟩,
    ⟨(some 3), .mov (.c (.int .i64 6)), none, false, none, 0⟩])
  (.ret))
  (.skip)))
  (.seq (.reg [⟨(some 36), .mov (.t 0), none, false, none, 0⟩,
    ⟨(some 37), .call 16 [.t 36], none, false, none, 0⟩,
    ⟨(some 35), .mov (.t 37), none, false, none, 0⟩,
    ⟨(some 38), .extract (.t 35) 0, none, false, none, 0⟩,
    ⟨(some 39), .extract (.t 35) 1, none, false, none, 0⟩,
    ⟨(some 5), .allocL [.int .i64 0, .int .i64 0], none, false, none, 0⟩,
    ⟨none, .store 2 (.t 5) (.t 38), none, false, none, 0⟩,
    ⟨(some 6), .mov (.t 39), none, false, none, 0⟩])
  (.seq (.seq (.reg [⟨(some 40), .mov (.t 6), none, false, none, 0⟩,
    ⟨(some 41), .un .not (.t 40), none, false, none, 0⟩])
  (.cond (.t 41)
  (.seq (.reg [⟨(some 42), .build [.int .i64 0, .int .i64 0] [], none, false, none, 0⟩,
    ⟨none, .store 2 (.t 2) (.t 42), none, false, none, 0⟩,
    ⟨(some 3), .mov (.c (.int .i64 6)), none, false, none, 0⟩])
  (.ret))
  (.skip)))
  (.seq (.reg [⟨(some 43), .load true 2 (.t 5), none, false, none, 0⟩,
    ⟨none, .store 2 (.t 2) (.t 43), none, false, none, 0⟩,
    ⟨(some 3), .mov (.c (.int .i64 0)), none, false, none, 0⟩])
  (.ret))))
def F6_C4 : ACode :=
  .seq (.seq (.reg [⟨(some 4), .mov (.c (.int .i64 0)), none, false, none, 0⟩])
  (.block 0 (.loop [0, 2, 4] F6_C1)))
  (.seq (.seq (.reg [⟨(some 29), .mov (.t 0), none, false, none, 0⟩,
    ⟨(some 30), .call 15 [.t 29, .c (.int .i64 0)], none, false, none, 0⟩,
    ⟨(some 31), .mov (.t 0), none, false, none, 0⟩,
    ⟨(some 32), .len false (.t 31), none, false, none, 0⟩,
    ⟨(some 33), .bin .neq (.t 30) (.t 32), none, false, none, 0⟩])
  (.cond (.t 33)
  (.seq (.reg [⟨(some 34), .build [.int .i64 0, .int .i64 0] [], none, false, none, 0⟩,
    ⟨none, .store 2 (.t 2) (.t 34), none, false, none, 0⟩,
    ⟨(some 3), .mov (.c (.int .i64 6)), none, false, none, 0⟩])
  (.ret))
  (.skip)))
  (.seq (.reg [⟨(some 36), .mov (.t 0), none, false, none, 0⟩,
    ⟨(some 37), .call 16 [.t 36], none, false, none, 0⟩,
    ⟨(some 35), .mov (.t 37), none, false, none, 0⟩,
    ⟨(some 38), .extract (.t 35) 0, none, false, none, 0⟩,
    ⟨(some 39), .extract (.t 35) 1, none, false, none, 0⟩,
    ⟨(some 5), .allocL [.int .i64 0, .int .i64 0], none, false, none, 0⟩,
    ⟨none, .store 2 (.t 5) (.t 38), none, false, none, 0⟩,
    ⟨(some 6), .mov (.t 39), none, false, none, 0⟩])
  (.seq (.seq (.reg [⟨(some 40), .mov (.t 6), none, false, none, 0⟩,
    ⟨(some 41), .un .not (.t 40), none, false, none, 0⟩])
  (.cond (.t 41)
  (.seq (.reg [⟨(some 42), .build [.int .i64 0, .int .i64 0] [], none, false, none, 0⟩,
    ⟨none, .store 2 (.t 2) (.t 42), none, false, none, 0⟩,
    ⟨(some 3), .mov (.c (.int .i64 6)), none, false, none, 0⟩])
  (.ret))
  (.skip)))
  (.seq (.reg [⟨(some 43), .load true 2 (.t 5), none, false, none, 0⟩,
    ⟨none, .store 2 (.t 2) (.t 43), none, false, none, 0⟩,
    ⟨(some 3), .mov (.c (.int .i64 0)), none, false, none, 0⟩])
  (.ret)))))
def F6 : AFunc := ⟨1, 44, [.cell 2 true 2, .tmp 3], F6_C2⟩
def Y6 : List VT := [.v (.one .sl), .v (.one .any), .v (.one .any), .v (.one (.int .i64)), .v (.one (.int .i64)), .v (.one .any), .v (.one .bool), .v (.one .sl), .v (.one (.int .i64)), .v (.one .bool), .v (.one .bool), .v (.one .sl), .v (.one (.int .i64)), .v (.one .bool), .v (.one .bool), .v (.agg [.int .i64, .int .i64]), .v (.one (.int .i64)), .v (.one .sl), .v (.one (.int .i64)), .v (.one .bool), .v (.one (.int .i64)), .v (.one (.int .i64)), .v (.one .sl), .v (.one (.int .i64)), .v (.one .any), .v (.agg [.int .i64, .str, .int .i64]), .v (.one .bool), .v (.one .bool), .v (.agg [.int .i64, .int .i64]), .v (.one .sl), .v (.one (.int .i64)), .v (.one .sl), .v (.one (.int .i64)), .v (.one .bool), .v (.agg [.int .i64, .int .i64]), .tup [.agg [.int .i64, .int .i64], .one .bool], .v (.one .sl), .tup [.agg [.int .i64, .int .i64], .one .bool], .v (.agg [.int .i64, .int .i64]), .v (.one .bool), .v (.one .bool), .v (.one .bool), .v (.agg [.int .i64, .int .i64]), .v (.agg [.int .i64, .int .i64])]
noncomputable def F6_K0 (T : Nat → Option AFn) (hs : Heap → Heap → Bool) : Kont (Value × Heap) := { (kontF F6) with nrm := fun fr H => runK T hs Y6 F6_C3 fr H (kontF F6) }
noncomputable def F6_K1 (T : Nat → Option AFn) (hs : Heap → Heap → Bool) : Kont (Value × Heap) := { (F6_K0 T hs) with ex := fun i fr H => if i = 0 then (F6_K0 T hs).nrm fr H else (F6_K0 T hs).ex i fr H }
noncomputable def F6_K2 (T : Nat → Option AFn) (hs : Heap → Heap → Bool) : Kont (Value × Heap) := { (kontF F6) with nrm := fun fr H => runK T hs Y6 F6_C4 fr H (kontF F6) }
noncomputable def g6_L1 (T : Nat → Option AFn) (hs : Heap → Heap → Bool) (a0 : Option Addr) (n0 : Nat) (c0 : Nat) (x2 : Int) (x2_4 : Int) (x4 : Int) (H : Heap) : Option (Value × Heap) := loopK T hs [0, 2, 4] F6_C1 [(.v (.slice a0 n0 c0)), .no, (.loc [(.int .i64 x2), (.int .i64 x2_4)]), .no, (.v (.int .i64 x4)), .no, .no, .no, .no, .no, .no, .no, .no, .no, .no, .no, .no, .no, .no, .no, .no, .no, .no, .no, .no, .no, .no, .no, .no, .no, .no, .no, .no, .no, .no, .no, .no, .no, .no, .no, .no, .no, .no, .no] H (F6_K1 T hs)
noncomputable def g6_J0 (T : Nat → Option AFn) (hs : Heap → Heap → Bool) (a0 : Option Addr) (n0 : Nat) (c0 : Nat) (x2 : Int) (x2_4 : Int) (x14 : Bool) (H : Heap) : Option (Value × Heap) := joinK T hs F6_C0 [(.v (.slice a0 n0 c0)), .no, (.loc [(.int .i64 x2), (.int .i64 x2_4)]), .no, .no, .no, .no, .no, .no, .no, .no, .no, .no, .no, (.v (.bool x14)), .no, .no, .no, .no, .no, .no, .no, .no, .no, .no, .no, .no, .no, .no, .no, .no, .no, .no, .no, .no, .no, .no, .no, .no, .no, .no, .no, .no, .no] H (F6_K2 T hs)
noncomputable def s6_J0 (T : Nat → Option AFn) (hs : Heap → Heap → Bool) (a0 : Option Addr) (n0 : Nat) (c0 : Nat) (x2 : Int) (x2_4 : Int) (x14 : Bool) (H : Heap) : Option (Value × Heap) :=
  cond x14
  (some (.tuple #[(.agg #[(.int .i64 0), (.int .i64 0)]), (.int .i64 6)], H))
  (g6_L1 T hs a0 n0 c0 x2 x2_4 0 H)
theorem g6_J0_step (T : Nat → Option AFn) (hs : Heap → Heap → Bool) (a0 : Option Addr) (n0 : Nat) (c0 : Nat) (x2 : Int) (x2_4 : Int) (x14 : Bool) (H : Heap) : runK T hs Y6 F6_C0 [(.v (.slice a0 n0 c0)), .no, (.loc [(.int .i64 x2), (.int .i64 x2_4)]), .no, .no, .no, .no, .no, .no, .no, .no, .no, .no, .no, (.v (.bool x14)), .no, .no, .no, .no, .no, .no, .no, .no, .no, .no, .no, .no, .no, .no, .no, .no, .no, .no, .no, .no, .no, .no, .no, .no, .no, .no, .no, .no, .no] H (F6_K2 T hs) = s6_J0 T hs a0 n0 c0 x2 x2_4 x14 H := by kernel_rfl
theorem g6_J0_ok {T : Nat → Option AFn} {hs : Heap → Heap → Bool} {a0 : Option Addr} {n0 : Nat} {c0 : Nat} {x2 : Int} {x2_4 : Int} {x14 : Bool} {H : Heap} {r : Value × Heap} (h : s6_J0 T hs a0 n0 c0 x2 x2_4 x14 H = some r) : g6_J0 T hs a0 n0 c0 x2 x2_4 x14 H = some r := join_intro ((g6_J0_step T hs a0 n0 c0 x2 x2_4 x14 H).trans h)
theorem g6_J0_ret {T : Nat → Option AFn} {hs : Heap → Heap → Bool} {a0 : Option Addr} {n0 : Nat} {c0 : Nat} {x2 : Int} {x2_4 : Int} {x14 : Bool} {H : Heap} {Q : Value → Heap → Prop} (h : Ret (s6_J0 T hs a0 n0 c0 x2 x2_4 x14 H) Q) : Ret (g6_J0 T hs a0 n0 c0 x2 x2_4 x14 H) Q := h.via fun _ q => g6_J0_ok q
noncomputable def s6_L1 (T : Nat → Option AFn) (hs : Heap → Heap → Bool) (a0 : Option Addr) (n0 : Nat) (c0 : Nat) (x2 : Int) (x2_4 : Int) (x4 : Int) (H : Heap) : Option (Value × Heap) :=
  cond (decide ((x4 : Int) < ((n0 : Nat) : Int)))
  ((ixA H 3 (.slice a0 n0 c0) x4).bind fun q24 =>
  (rdHp H q24.1 q24.2.1 q24.2.2 3 3).bind fun w25 =>
  ifCons w25 fun v25 l25 =>
  ifInt .i64 v25 fun x25 =>
  ifCons l25 fun v25_1 l25_1 =>
  ifStr v25_1 fun x25_1 =>
  ifCons l25_1 fun v25_2 l25_2 =>
  ifInt .i64 v25_2 fun x25_2 =>
  ifNil l25_2 <|
  (CT T hs 14 [(.agg #[(.int .i64 x25), (.string x25_1), (.int .i64 x25_2)])] H).bind fun p26 =>
  ifBool p26.1 fun x26 =>
  cond (!x26)
  (some (.tuple #[(.agg #[(.int .i64 0), (.int .i64 0)]), (.int .i64 6)], p26.2))
  (g6_L1 T hs a0 n0 c0 x2 x2_4 (IntKind.wrap .i64 (x4 + 1)) p26.2))
  ((CT T hs 15 [(.slice a0 n0 c0), (.int .i64 0)] H).bind fun p30 =>
  ifInt .i64 p30.1 fun x30 =>
  cond ((x30 : Int) != ((n0 : Nat) : Int))
  (some (.tuple #[(.agg #[(.int .i64 0), (.int .i64 0)]), (.int .i64 6)], p30.2))
  ((CT T hs 16 [(.slice a0 n0 c0)] p30.2).bind fun p37 =>
  ifTup p37.1 fun l37 =>
  ifCons l37 fun v37 l37_1 =>
  ifAgg v37 fun l37_2 =>
  ifCons l37_2 fun v37_1 l37_3 =>
  ifInt .i64 v37_1 fun x37 =>
  ifCons l37_3 fun v37_2 l37_4 =>
  ifInt .i64 v37_2 fun x37_1 =>
  ifNil l37_4 <|
  ifCons l37_1 fun v37_3 l37_5 =>
  ifBool v37_3 fun x37_2 =>
  ifNil l37_5 <|
  cond (!x37_2)
  (some (.tuple #[(.agg #[(.int .i64 0), (.int .i64 0)]), (.int .i64 6)], p37.2))
  (some (.tuple #[(.agg #[(.int .i64 x37), (.int .i64 x37_1)]), (.int .i64 0)], p37.2))))
theorem g6_L1_step (T : Nat → Option AFn) (hs : Heap → Heap → Bool) (a0 : Option Addr) (n0 : Nat) (c0 : Nat) (x2 : Int) (x2_4 : Int) (x4 : Int) (H : Heap) : loopB T hs Y6 [0, 2, 4] F6_C1 [(.v (.slice a0 n0 c0)), .no, (.loc [(.int .i64 x2), (.int .i64 x2_4)]), .no, (.v (.int .i64 x4)), .no, .no, .no, .no, .no, .no, .no, .no, .no, .no, .no, .no, .no, .no, .no, .no, .no, .no, .no, .no, .no, .no, .no, .no, .no, .no, .no, .no, .no, .no, .no, .no, .no, .no, .no, .no, .no, .no, .no] H (F6_K1 T hs) = s6_L1 T hs a0 n0 c0 x2 x2_4 x4 H := by kernel_rfl
theorem g6_L1_ok {T : Nat → Option AFn} {hs : Heap → Heap → Bool} {a0 : Option Addr} {n0 : Nat} {c0 : Nat} {x2 : Int} {x2_4 : Int} {x4 : Int} {H : Heap} {r : Value × Heap} (h : s6_L1 T hs a0 n0 c0 x2 x2_4 x4 H = some r) : g6_L1 T hs a0 n0 c0 x2 x2_4 x4 H = some r := loopB_ok ((g6_L1_step T hs a0 n0 c0 x2 x2_4 x4 H).trans h)
theorem g6_L1_ret {T : Nat → Option AFn} {hs : Heap → Heap → Bool} {a0 : Option Addr} {n0 : Nat} {c0 : Nat} {x2 : Int} {x2_4 : Int} {x4 : Int} {H : Heap} {Q : Value → Heap → Prop} (h : Ret (s6_L1 T hs a0 n0 c0 x2 x2_4 x4 H) Q) : Ret (g6_L1 T hs a0 n0 c0 x2 x2_4 x4 H) Q := h.via fun _ q => g6_L1_ok q
noncomputable def s6 (T : Nat → Option AFn) (hs : Heap → Heap → Bool) (a0 : Option Addr) (n0 : Nat) (c0 : Nat) (H : Heap) : Option (Value × Heap) :=
  cond ((((n0 : Nat) : Int) : Int) == 0)
  (g6_J0 T hs a0 n0 c0 0 0 true H)
  (g6_J0 T hs a0 n0 c0 0 0 (decide ((((n0 : Nat) : Int) : Int) > 65536)) H)
theorem s6_run (T : Nat → Option AFn) (hs : Heap → Heap → Bool) (a0 : Option Addr) (n0 : Nat) (c0 : Nat) (H : Heap) : runFK T hs Y6 F6 [(.slice a0 n0 c0)] H = s6 T hs a0 n0 c0 H := by kernel_rfl
theorem g6_ok {T : Nat → Option AFn} {hs : Heap → Heap → Bool} (hT : T 6 = some (.code F6)) {a0 : Option Addr} {n0 : Nat} {c0 : Nat} {H : Heap} {r : Value × Heap} (h : s6 T hs a0 n0 c0 H = some r) : CT T hs 6 [(.slice a0 n0 c0)] H = some r := runFK_ok hT ((s6_run T hs a0 n0 c0 H).trans h)
theorem chk6 : chkFunc Tryd.prog 6 F6 = true := by kernel_rfl
/- dowel/worth.Text -/
def F7_C0 : ACode :=
  .reg [⟨(some 48), .mov (.t 10), none, false, none, 0⟩,
    ⟨(some 49), .call 20 [.t 6, .t 48], none, false, none, 0⟩]
def F7_C1 : ACode :=
  .reg [⟨(some 60), .mov (.t 7), none, false, none, 0⟩,
    ⟨(some 61), .fieldA 0 (.t 9), none, false, none, 0⟩,
    ⟨(some 62), .load false 1 (.t 61), none, false, none, 0⟩,
    ⟨(some 63), .bin .eql (.t 62) (.c (.int .i64 0)), none, false, none, 0⟩,
    ⟨(some 64), .call 22 [.t 6, .t 60, .t 63], none, false, none, 0⟩,
    ⟨(some 7), .mov (.t 64), none, false, none, 0⟩]
def F7_C2 : ACode :=
  .seq (.seq (.reg [⟨(some 50), .call 21 [.t 6], none, false, none, 0⟩,
    ⟨(some 51), .bin .gtr (.t 50) (.c (.int .i64 4194304)), none, false, none, 0⟩])
  (.cond (.t 51)
  (.seq (.reg [⟨(some 2), .mov (.c (.string ⟨#[]⟩)), none, false, none, 0⟩,
    ⟨(some 3), .mov (.c (.int .i64 2)), none, false, none, 0⟩])
  (.ret))
  (.skip)))
  (.seqj [6, 7, 9, 20, 21, 22] (.seq (.reg [⟨(some 52), .fieldA 0 (.t 9), none, false, none, 0⟩,
    ⟨(some 53), .load false 1 (.t 52), none, false, none, 0⟩,
    ⟨(some 54), .bin .eql (.t 53) (.c (.int .i64 0)), none, false, none, 0⟩])
  (.cond (.t 54)
  (.reg [⟨(some 55), .mov (.t 7), none, false, none, 0⟩,
    ⟨(some 56), .fieldA 2 (.t 9), none, false, none, 0⟩,
    ⟨(some 57), .load false 1 (.t 56), none, false, none, 0⟩,
    ⟨(some 58), .buildSl 3 1 1 [.int .i64 0] [(0, 1, .t 57)], none, false, none, 0⟩,
    ⟨(some 59), .append 3 1 8 (.t 55) (.t 58), none, false, none, 0⟩,
    ⟨(some 7), .mov (.t 59), none, false, none, 0⟩])
  (.skip)))
  F7_C1)
def F7_C3 : ACode :=
  .seq (.reg [⟨(some 23), .bin .lss (.t 22) (.t 21), none, false, none, 0⟩])
  (.seq (.cond (.t 23)
  (.skip)
  (.exit 0))
  (.seq (.block 1 (.seq (.reg [⟨(some 24), .indexA 3 (.t 20) (.t 22), none, false, none, 0⟩,
    ⟨(some 25), .load true 3 (.t 24), none, false, none, 0⟩,
    ⟨(some 9), .allocL [.int .i64 0, .string ⟨#[]⟩, .int .i64 0], none, false, none, 0⟩,
    ⟨none, .store 3 (.t 9) (.t 25), none, false, none, 0⟩])
  (.seqj [6, 7, 9, 20, 21, 22] (.seq (.reg [⟨(some 26), .fieldA 0 (.t 9), none, false, none, 0⟩,
    ⟨(some 27), .load false 1 (.t 26), none, false, none, 0⟩])
  (.block 2 (.seq (.reg [⟨(some 32), .bin .eql (.t 27) (.c (.int .i64 0)), none, false, none, 0⟩,
    ⟨(some 31), .mov (.t 32), none, false, none, 0⟩])
  (.cond (.t 31)
  (.reg [⟨(some 33), .call 17 [.t 6, .c (.int .u8 91)], none, false, none, 0⟩])
  (.seq (.reg [⟨(some 35), .bin .eql (.t 27) (.c (.int .i64 2)), none, false, none, 0⟩,
    ⟨(some 34), .mov (.t 35), none, false, none, 0⟩])
  (.cond (.t 34)
  (.seq (.reg [⟨(some 37), .fieldA 1 (.t 9), none, false, none, 0⟩,
    ⟨(some 38), .load false 1 (.t 37), none, false, none, 0⟩,
    ⟨(some 39), .build [.int .i64 0, .int .i64 0, .int .i64 0, .string ⟨#[]⟩, .bool false, .int .u64 0, .int .u64 0, .int .u64 0, .int .u64 0, .int .i64 0, .int .i64 0] [(0, 1, .c (.int .i64 14)), (3, 1, .t 38)], none, false, none, 0⟩,
    ⟨(some 40), .call 18 [.t 39], none, false, none, 0⟩,
    ⟨(some 36), .mov (.t 40), none, false, none, 0⟩,
    ⟨(some 41), .extract (.t 36) 0, none, false, none, 0⟩,
    ⟨(some 42), .extract (.t 36) 1, none, false, none, 0⟩,
    ⟨(some 10), .mov (.t 41), none, false, none, 0⟩,
    ⟨(some 11), .mov (.t 42), none, false, none, 0⟩])
  (.seqj [6, 7, 9, 10, 20, 21, 22] (.seq (.reg [⟨(some 43), .mov (.t 10), none, false, none, 0⟩,
    ⟨(some 44), .bin .eql (.t 43) (.c (.string ⟨#[]⟩)), none, false, none, 0⟩])
  (.cond (.t 44)
  (.reg [⟨(some 45), .fieldA 1 (.t 9), none, false, none, 0⟩,
    ⟨(some 46), .load false 1 (.t 45), none, false, none, 0⟩,
    ⟨(some 47), .call 19 [.t 46], none, false, none, 0⟩,
    ⟨(some 10), .mov (.t 47), none, false, none, 0⟩])
  (.skip)))
  F7_C0))
  (.reg [⟨(some 28), .fieldA 1 (.t 9), none, false, none, 0⟩,
    ⟨(some 29), .load false 1 (.t 28), none, false, none, 0⟩,
    ⟨(some 30), .call 20 [.t 6, .t 29], none, false, none, 0⟩])))))))
  F7_C2)))
  (.reg [⟨(some 65), .bin .add (.t 22) (.c (.int .i64 1)), none, false, none, 0⟩,
    ⟨(some 22), .mov (.t 65), none, false, none, 0⟩])))
def F7_C4 : ACode :=
  .seq (.reg [⟨(some 2), .mov (.c (.string ⟨#[]⟩)), none, false, none, 0⟩,
    ⟨(some 3), .mov (.c (.int .i64 0)), none, false, none, 0⟩])
  (.seq (.seq (.reg [⟨(some 13), .mov (.t 0), none, false, none, 0⟩,
    ⟨(some 14), .call 5 [.t 13], none, false, none, 0⟩,
    ⟨(some 12), .mov (.t 14), none, false, none, 0⟩,
    ⟨(some 15), .extract (.t 12) 0, none, false, none, 0⟩,
    ⟨(some 16), .extract (.t 12) 1, none, false, none, 0⟩,
    ⟨(some 4), .allocL [.int .i64 0, .int .i64 0], none, false, none, 0⟩,
    ⟨none, .store 2 (.t 4) (.t 15), none, false, none, 0⟩,
    ⟨(some 5), .mov (.t 16), none, false, none, 0⟩])
  (.seq (.reg [⟨(some 17), .mov (.t 5), none, false, none, 0⟩,
    ⟨(some 18), .bin .neq (.t 17) (.c (.int .i64 0)), none, false, none, 0⟩])
  (.cond (.t 18)
  (.seq (.reg [⟨(some 19), .mov (.t 5), none, false, none, 0⟩,
    ⟨(some 2), .mov (.c (.string ⟨#[]⟩)), none, false, none, 0⟩,
    ⟨(some 3), .mov (.t 19), none, false, none, 0⟩])
  (.ret))
  (.skip))))
  (.seq (.reg [⟨(some 6), .allocH 51 [.pointer none, .slice none 0 0], none, false, none, 0⟩])
  (.seq (.reg [⟨(some 7), .mov (.c (.slice none 0 0)), none, false, none, 0⟩])
  (.seq (.seq (.reg [⟨(some 20), .mov (.t 0), none, false, none, 0⟩,
    ⟨(some 21), .len false (.t 20), none, false, none, 0⟩,
    ⟨(some 22), .mov (.c (.int .i64 0)), none, false, none, 0⟩])
  (.block 0 (.loop [6, 7, 20, 21, 22] F7_C3)))
  (.seq (.seq (.reg [⟨(some 66), .call 21 [.t 6], none, false, none, 0⟩,
    ⟨(some 67), .bin .gtr (.t 66) (.c (.int .i64 4194304)), none, false, none, 0⟩])
  (.cond (.t 67)
  (.seq (.reg [⟨(some 2), .mov (.c (.string ⟨#[]⟩)), none, false, none, 0⟩,
    ⟨(some 3), .mov (.c (.int .i64 2)), none, false, none, 0⟩])
  (.ret))
  (.skip)))
  (.seq (.reg [⟨(some 68), .call 23 [.t 6], none, false, none, 0⟩,
    ⟨(some 2), .mov (.t 68), none, false, none, 0⟩,
    ⟨(some 3), .mov (.c (.int .i64 0)), none, false, none, 0⟩])
  (.ret)))))))
def F7_C5 : ACode :=
  .seq (.seq (.reg [⟨(some 66), .call 21 [.t 6], none, false, none, 0⟩,
    ⟨(some 67), .bin .gtr (.t 66) (.c (.int .i64 4194304)), none, false, none, 0⟩])
  (.cond (.t 67)
  (.seq (.reg [⟨(some 2), .mov (.c (.string ⟨#[]⟩)), none, false, none, 0⟩,
    ⟨(some 3), .mov (.c (.int .i64 2)), none, false, none, 0⟩])
  (.ret))
  (.skip)))
  (.seq (.reg [⟨(some 68), .call 23 [.t 6], none, false, none, 0⟩,
    ⟨(some 2), .mov (.t 68), none, false, none, 0⟩,
    ⟨(some 3), .mov (.c (.int .i64 0)), none, false, none, 0⟩])
  (.ret))
def F7_C6 : ACode :=
  .reg [⟨(some 65), .bin .add (.t 22) (.c (.int .i64 1)), none, false, none, 0⟩,
    ⟨(some 22), .mov (.t 65), none, false, none, 0⟩]
def F7 : AFunc := ⟨1, 69, [.tmp 2, .tmp 3], F7_C4⟩
def Y7 : List VT := [.v (.one .sl), .v (.one .any), .v (.one .str), .v (.one (.int .i64)), .v (.one .any), .v (.one (.int .i64)), .v (.one .any), .v (.one .sl), .v (.one .any), .v (.one .any), .v (.one .str), .v (.one (.int .i64)), .tup [.agg [.int .i64, .int .i64], .one (.int .i64)], .v (.one .sl), .tup [.agg [.int .i64, .int .i64], .one (.int .i64)], .v (.agg [.int .i64, .int .i64]), .v (.one (.int .i64)), .v (.one (.int .i64)), .v (.one .bool), .v (.one (.int .i64)), .v (.one .sl), .v (.one (.int .i64)), .v (.one (.int .i64)), .v (.one .any), .v (.one .any), .v (.agg [.int .i64, .str, .int .i64]), .v (.one .any), .v (.one (.int .i64)), .v (.one .any), .v (.one .str), .tup [.one (.int .i64), .one .any], .v (.one .bool), .v (.one .bool), .v (.one .any), .v (.one .bool), .v (.one .bool), .tup [.one .str, .one (.int .i64)], .v (.one .any), .v (.one .str), .v (.agg [.int .i64, .int .i64, .int .i64, .str, .bool, .int .u64, .int .u64, .int .u64, .int .u64, .int .i64, .int .i64]), .tup [.one .str, .one (.int .i64)], .v (.one .str), .v (.one (.int .i64)), .v (.one .str), .v (.one .bool), .v (.one .any), .v (.one .str), .v (.one .str), .v (.one .str), .tup [.one (.int .i64), .one .any], .v (.one (.int .i64)), .v (.one .bool), .v (.one .any), .v (.one (.int .i64)), .v (.one .bool), .v (.one .sl), .v (.one .any), .v (.one (.int .i64)), .v (.one .sl), .v (.one .sl), .v (.one .sl), .v (.one .any), .v (.one (.int .i64)), .v (.one .bool), .v (.one .sl), .v (.one (.int .i64)), .v (.one (.int .i64)), .v (.one .bool), .v (.one .str)]
noncomputable def F7_K0 (T : Nat → Option AFn) (hs : Heap → Heap → Bool) : Kont (Value × Heap) := { (kontF F7) with nrm := fun fr H => runK T hs Y7 F7_C5 fr H (kontF F7) }
noncomputable def F7_K1 (T : Nat → Option AFn) (hs : Heap → Heap → Bool) : Kont (Value × Heap) := { (F7_K0 T hs) with ex := fun i fr H => if i = 0 then (F7_K0 T hs).nrm fr H else (F7_K0 T hs).ex i fr H }
noncomputable def F7_K2 (T : Nat → Option AFn) (hs : Heap → Heap → Bool) : Kont (Value × Heap) := { (F7_K1 T hs) with nrm := fun fr H => fF (forget [6, 7, 20, 21, 22] fr) fun fr => loopK T hs [6, 7, 20, 21, 22] F7_C3 fr H (F7_K1 T hs) }
noncomputable def F7_K3 (T : Nat → Option AFn) (hs : Heap → Heap → Bool) : Kont (Value × Heap) := { (F7_K2 T hs) with nrm := fun fr H => runK T hs Y7 F7_C6 fr H (F7_K2 T hs) }
noncomputable def F7_K4 (T : Nat → Option AFn) (hs : Heap → Heap → Bool) : Kont (Value × Heap) := { (F7_K3 T hs) with ex := fun i fr H => if i = 1 then (F7_K3 T hs).nrm fr H else (F7_K3 T hs).ex i fr H }
noncomputable def F7_K5 (T : Nat → Option AFn) (hs : Heap → Heap → Bool) : Kont (Value × Heap) := { (F7_K4 T hs) with nrm := fun fr H => fF (forget [6, 7, 9, 20, 21, 22] fr) fun fr => joinK T hs F7_C2 fr H (F7_K4 T hs) }
noncomputable def F7_K6 (T : Nat → Option AFn) (hs : Heap → Heap → Bool) : Kont (Value × Heap) := { (F7_K5 T hs) with ex := fun i fr H => if i = 2 then (F7_K5 T hs).nrm fr H else (F7_K5 T hs).ex i fr H }
noncomputable def g7_J2 (T : Nat → Option AFn) (hs : Heap → Heap → Bool) (f6 : Nat) (o6 : Nat) (a7 : Option Addr) (n7 : Nat) (c7 : Nat) (x9 : Int) (x9_6 : ByteArray) (x9_7 : Int) (a20 : Option Addr) (n20 : Nat) (c20 : Nat) (x21 : Int) (x22 : Int) (H : Heap) : Option (Value × Heap) := joinK T hs F7_C1 [.no, .no, .no, .no, .no, .no, (.v (.pointer (some ⟨f6, o6, some 0⟩))), (.v (.slice a7 n7 c7)), .no, (.loc [(.int .i64 x9), (.string x9_6), (.int .i64 x9_7)]), .no, .no, .no, .no, .no, .no, .no, .no, .no, .no, (.v (.slice a20 n20 c20)), (.v (.int .i64 x21)), (.v (.int .i64 x22)), .no, .no, .no, .no, .no, .no, .no, .no, .no, .no, .no, .no, .no, .no, .no, .no, .no, .no, .no, .no, .no, .no, .no, .no, .no, .no, .no, .no, .no, .no, .no, .no, .no, .no, .no, .no, .no, .no, .no, .no, .no, .no, .no, .no, .no, .no] H (F7_K4 T hs)
noncomputable def g7_J1 (T : Nat → Option AFn) (hs : Heap → Heap → Bool) (f6 : Nat) (o6 : Nat) (a7 : Option Addr) (n7 : Nat) (c7 : Nat) (x9 : Int) (x9_6 : ByteArray) (x9_7 : Int) (a20 : Option Addr) (n20 : Nat) (c20 : Nat) (x21 : Int) (x22 : Int) (H : Heap) : Option (Value × Heap) := joinK T hs F7_C2 [.no, .no, .no, .no, .no, .no, (.v (.pointer (some ⟨f6, o6, some 0⟩))), (.v (.slice a7 n7 c7)), .no, (.loc [(.int .i64 x9), (.string x9_6), (.int .i64 x9_7)]), .no, .no, .no, .no, .no, .no, .no, .no, .no, .no, (.v (.slice a20 n20 c20)), (.v (.int .i64 x21)), (.v (.int .i64 x22)), .no, .no, .no, .no, .no, .no, .no, .no, .no, .no, .no, .no, .no, .no, .no, .no, .no, .no, .no, .no, .no, .no, .no, .no, .no, .no, .no, .no, .no, .no, .no, .no, .no, .no, .no, .no, .no, .no, .no, .no, .no, .no, .no, .no, .no, .no] H (F7_K4 T hs)
noncomputable def g7_J3 (T : Nat → Option AFn) (hs : Heap → Heap → Bool) (f6 : Nat) (o6 : Nat) (a7 : Option Addr) (n7 : Nat) (c7 : Nat) (x9 : Int) (x9_6 : ByteArray) (x9_7 : Int) (x10 : ByteArray) (a20 : Option Addr) (n20 : Nat) (c20 : Nat) (x21 : Int) (x22 : Int) (H : Heap) : Option (Value × Heap) := joinK T hs F7_C0 [.no, .no, .no, .no, .no, .no, (.v (.pointer (some ⟨f6, o6, some 0⟩))), (.v (.slice a7 n7 c7)), .no, (.loc [(.int .i64 x9), (.string x9_6), (.int .i64 x9_7)]), (.v (.string x10)), .no, .no, .no, .no, .no, .no, .no, .no, .no, (.v (.slice a20 n20 c20)), (.v (.int .i64 x21)), (.v (.int .i64 x22)), .no, .no, .no, .no, .no, .no, .no, .no, .no, .no, .no, .no, .no, .no, .no, .no, .no, .no, .no, .no, .no, .no, .no, .no, .no, .no, .no, .no, .no, .no, .no, .no, .no, .no, .no, .no, .no, .no, .no, .no, .no, .no, .no, .no, .no, .no] H (F7_K6 T hs)
noncomputable def g7_L0 (T : Nat → Option AFn) (hs : Heap → Heap → Bool) (f6 : Nat) (o6 : Nat) (a7 : Option Addr) (n7 : Nat) (c7 : Nat) (a20 : Option Addr) (n20 : Nat) (c20 : Nat) (x21 : Int) (x22 : Int) (H : Heap) : Option (Value × Heap) := loopK T hs [6, 7, 20, 21, 22] F7_C3 [.no, .no, .no, .no, .no, .no, (.v (.pointer (some ⟨f6, o6, some 0⟩))), (.v (.slice a7 n7 c7)), .no, .no, .no, .no, .no, .no, .no, .no, .no, .no, .no, .no, (.v (.slice a20 n20 c20)), (.v (.int .i64 x21)), (.v (.int .i64 x22)), .no, .no, .no, .no, .no, .no, .no, .no, .no, .no, .no, .no, .no, .no, .no, .no, .no, .no, .no, .no, .no, .no, .no, .no, .no, .no, .no, .no, .no, .no, .no, .no, .no, .no, .no, .no, .no, .no, .no, .no, .no, .no, .no, .no, .no, .no] H (F7_K1 T hs)
noncomputable def s7_L0 (T : Nat → Option AFn) (hs : Heap → Heap → Bool) (f6 : Nat) (o6 : Nat) (a7 : Option Addr) (n7 : Nat) (c7 : Nat) (a20 : Option Addr) (n20 : Nat) (c20 : Nat) (x21 : Int) (x22 : Int) (H : Heap) : Option (Value × Heap) :=
  cond (decide ((x22 : Int) < x21))
  ((ixA H 3 (.slice a20 n20 c20) x22).bind fun q24 =>
  (rdHp H q24.1 q24.2.1 q24.2.2 3 3).bind fun w25 =>
  ifCons w25 fun v25 l25 =>
  ifInt .i64 v25 fun x25 =>
  ifCons l25 fun v25_1 l25_1 =>
  ifStr v25_1 fun x25_1 =>
  ifCons l25_1 fun v25_2 l25_2 =>
  ifInt .i64 v25_2 fun x25_2 =>
  ifNil l25_2 <|
  cond ((x25 : Int) == 0)
  ((CT T hs 17 [(.pointer (some ⟨f6, o6, some 0⟩)), (.int .u8 91)] H).bind fun p33 =>
  g7_J1 T hs f6 o6 a7 n7 c7 x25 x25_1 x25_2 a20 n20 c20 x21 x22 p33.2)
  (cond ((x25 : Int) == 2)
  ((CT T hs 18 [(.agg #[(.int .i64 14), (.int .i64 0), (.int .i64 0), (.string x25_1), (.bool false), (.int .u64 0), (.int .u64 0), (.int .u64 0), (.int .u64 0), (.int .i64 0), (.int .i64 0)])] H).bind fun p40 =>
  ifTup p40.1 fun l40 =>
  ifCons l40 fun v40 l40_1 =>
  ifStr v40 fun x40 =>
  ifCons l40_1 fun v40_1 l40_2 =>
  ifInt .i64 v40_1 fun x40_1 =>
  ifNil l40_2 <|
  cond ((x40.toList == (⟨#[]⟩ : ByteArray).toList))
  ((CT T hs 19 [(.string x25_1)] p40.2).bind fun p47 =>
  ifStr p47.1 fun x47 =>
  g7_J3 T hs f6 o6 a7 n7 c7 x25 x25_1 x25_2 x47 a20 n20 c20 x21 x22 p47.2)
  (g7_J3 T hs f6 o6 a7 n7 c7 x25 x25_1 x25_2 x40 a20 n20 c20 x21 x22 p40.2))
  ((CT T hs 20 [(.pointer (some ⟨f6, o6, some 0⟩)), (.string x25_1)] H).bind fun p30 =>
  ifTup p30.1 fun l30 =>
  ifCons l30 fun v30 l30_1 =>
  ifInt .i64 v30 fun x30 =>
  ifCons l30_1 fun v30_1 l30_2 =>
  ifNil l30_2 <|
  g7_J1 T hs f6 o6 a7 n7 c7 x25 x25_1 x25_2 a20 n20 c20 x21 x22 p30.2)))
  ((CT T hs 21 [(.pointer (some ⟨f6, o6, some 0⟩))] H).bind fun p66 =>
  ifInt .i64 p66.1 fun x66 =>
  cond (decide ((x66 : Int) > 4194304))
  (some (.tuple #[(.string (⟨#[]⟩ : ByteArray)), (.int .i64 2)], p66.2))
  ((CT T hs 23 [(.pointer (some ⟨f6, o6, some 0⟩))] p66.2).bind fun p68 =>
  ifStr p68.1 fun x68 =>
  some (.tuple #[(.string x68), (.int .i64 0)], p68.2)))
theorem g7_L0_step (T : Nat → Option AFn) (hs : Heap → Heap → Bool) (f6 : Nat) (o6 : Nat) (a7 : Option Addr) (n7 : Nat) (c7 : Nat) (a20 : Option Addr) (n20 : Nat) (c20 : Nat) (x21 : Int) (x22 : Int) (H : Heap) : loopB T hs Y7 [6, 7, 20, 21, 22] F7_C3 [.no, .no, .no, .no, .no, .no, (.v (.pointer (some ⟨f6, o6, some 0⟩))), (.v (.slice a7 n7 c7)), .no, .no, .no, .no, .no, .no, .no, .no, .no, .no, .no, .no, (.v (.slice a20 n20 c20)), (.v (.int .i64 x21)), (.v (.int .i64 x22)), .no, .no, .no, .no, .no, .no, .no, .no, .no, .no, .no, .no, .no, .no, .no, .no, .no, .no, .no, .no, .no, .no, .no, .no, .no, .no, .no, .no, .no, .no, .no, .no, .no, .no, .no, .no, .no, .no, .no, .no, .no, .no, .no, .no, .no, .no] H (F7_K1 T hs) = s7_L0 T hs f6 o6 a7 n7 c7 a20 n20 c20 x21 x22 H := by kernel_rfl
theorem g7_L0_ok {T : Nat → Option AFn} {hs : Heap → Heap → Bool} {f6 : Nat} {o6 : Nat} {a7 : Option Addr} {n7 : Nat} {c7 : Nat} {a20 : Option Addr} {n20 : Nat} {c20 : Nat} {x21 : Int} {x22 : Int} {H : Heap} {r : Value × Heap} (h : s7_L0 T hs f6 o6 a7 n7 c7 a20 n20 c20 x21 x22 H = some r) : g7_L0 T hs f6 o6 a7 n7 c7 a20 n20 c20 x21 x22 H = some r := loopB_ok ((g7_L0_step T hs f6 o6 a7 n7 c7 a20 n20 c20 x21 x22 H).trans h)
theorem g7_L0_ret {T : Nat → Option AFn} {hs : Heap → Heap → Bool} {f6 : Nat} {o6 : Nat} {a7 : Option Addr} {n7 : Nat} {c7 : Nat} {a20 : Option Addr} {n20 : Nat} {c20 : Nat} {x21 : Int} {x22 : Int} {H : Heap} {Q : Value → Heap → Prop} (h : Ret (s7_L0 T hs f6 o6 a7 n7 c7 a20 n20 c20 x21 x22 H) Q) : Ret (g7_L0 T hs f6 o6 a7 n7 c7 a20 n20 c20 x21 x22 H) Q := h.via fun _ q => g7_L0_ok q
noncomputable def s7_J1 (T : Nat → Option AFn) (hs : Heap → Heap → Bool) (f6 : Nat) (o6 : Nat) (a7 : Option Addr) (n7 : Nat) (c7 : Nat) (x9 : Int) (x9_6 : ByteArray) (x9_7 : Int) (a20 : Option Addr) (n20 : Nat) (c20 : Nat) (x21 : Int) (x22 : Int) (H : Heap) : Option (Value × Heap) :=
  (CT T hs 21 [(.pointer (some ⟨f6, o6, some 0⟩))] H).bind fun p50 =>
  ifInt .i64 p50.1 fun x50 =>
  cond (decide ((x50 : Int) > 4194304))
  (some (.tuple #[(.string (⟨#[]⟩ : ByteArray)), (.int .i64 2)], p50.2))
  (cond ((x9 : Int) == 0)
  (let H_1 := p50.2 ++ [.cells 3 1 [(.int .i64 x9_7)] 0 0 0 false]
  (apA H_1 3 1 8 (.slice a7 n7 c7) (.slice (some ⟨p50.2.length, 0, some 0⟩) 1 1)).bind fun p59 =>
  ifSl p59.1 fun a59 n59 c59 =>
  g7_J2 T hs f6 o6 a59 n59 c59 x9 x9_6 x9_7 a20 n20 c20 x21 x22 p59.2)
  (g7_J2 T hs f6 o6 a7 n7 c7 x9 x9_6 x9_7 a20 n20 c20 x21 x22 p50.2))
theorem g7_J1_step (T : Nat → Option AFn) (hs : Heap → Heap → Bool) (f6 : Nat) (o6 : Nat) (a7 : Option Addr) (n7 : Nat) (c7 : Nat) (x9 : Int) (x9_6 : ByteArray) (x9_7 : Int) (a20 : Option Addr) (n20 : Nat) (c20 : Nat) (x21 : Int) (x22 : Int) (H : Heap) : runK T hs Y7 F7_C2 [.no, .no, .no, .no, .no, .no, (.v (.pointer (some ⟨f6, o6, some 0⟩))), (.v (.slice a7 n7 c7)), .no, (.loc [(.int .i64 x9), (.string x9_6), (.int .i64 x9_7)]), .no, .no, .no, .no, .no, .no, .no, .no, .no, .no, (.v (.slice a20 n20 c20)), (.v (.int .i64 x21)), (.v (.int .i64 x22)), .no, .no, .no, .no, .no, .no, .no, .no, .no, .no, .no, .no, .no, .no, .no, .no, .no, .no, .no, .no, .no, .no, .no, .no, .no, .no, .no, .no, .no, .no, .no, .no, .no, .no, .no, .no, .no, .no, .no, .no, .no, .no, .no, .no, .no, .no] H (F7_K4 T hs) = s7_J1 T hs f6 o6 a7 n7 c7 x9 x9_6 x9_7 a20 n20 c20 x21 x22 H := by kernel_rfl
theorem g7_J1_ok {T : Nat → Option AFn} {hs : Heap → Heap → Bool} {f6 : Nat} {o6 : Nat} {a7 : Option Addr} {n7 : Nat} {c7 : Nat} {x9 : Int} {x9_6 : ByteArray} {x9_7 : Int} {a20 : Option Addr} {n20 : Nat} {c20 : Nat} {x21 : Int} {x22 : Int} {H : Heap} {r : Value × Heap} (h : s7_J1 T hs f6 o6 a7 n7 c7 x9 x9_6 x9_7 a20 n20 c20 x21 x22 H = some r) : g7_J1 T hs f6 o6 a7 n7 c7 x9 x9_6 x9_7 a20 n20 c20 x21 x22 H = some r := join_intro ((g7_J1_step T hs f6 o6 a7 n7 c7 x9 x9_6 x9_7 a20 n20 c20 x21 x22 H).trans h)
theorem g7_J1_ret {T : Nat → Option AFn} {hs : Heap → Heap → Bool} {f6 : Nat} {o6 : Nat} {a7 : Option Addr} {n7 : Nat} {c7 : Nat} {x9 : Int} {x9_6 : ByteArray} {x9_7 : Int} {a20 : Option Addr} {n20 : Nat} {c20 : Nat} {x21 : Int} {x22 : Int} {H : Heap} {Q : Value → Heap → Prop} (h : Ret (s7_J1 T hs f6 o6 a7 n7 c7 x9 x9_6 x9_7 a20 n20 c20 x21 x22 H) Q) : Ret (g7_J1 T hs f6 o6 a7 n7 c7 x9 x9_6 x9_7 a20 n20 c20 x21 x22 H) Q := h.via fun _ q => g7_J1_ok q
noncomputable def s7_J2 (T : Nat → Option AFn) (hs : Heap → Heap → Bool) (f6 : Nat) (o6 : Nat) (a7 : Option Addr) (n7 : Nat) (c7 : Nat) (x9 : Int) (x9_6 : ByteArray) (x9_7 : Int) (a20 : Option Addr) (n20 : Nat) (c20 : Nat) (x21 : Int) (x22 : Int) (H : Heap) : Option (Value × Heap) :=
  (CT T hs 22 [(.pointer (some ⟨f6, o6, some 0⟩)), (.slice a7 n7 c7), (.bool ((x9 : Int) == 0))] H).bind fun p64 =>
  ifSl p64.1 fun a64 n64 c64 =>
  g7_L0 T hs f6 o6 a64 n64 c64 a20 n20 c20 x21 (IntKind.wrap .i64 (x22 + 1)) p64.2
theorem g7_J2_step (T : Nat → Option AFn) (hs : Heap → Heap → Bool) (f6 : Nat) (o6 : Nat) (a7 : Option Addr) (n7 : Nat) (c7 : Nat) (x9 : Int) (x9_6 : ByteArray) (x9_7 : Int) (a20 : Option Addr) (n20 : Nat) (c20 : Nat) (x21 : Int) (x22 : Int) (H : Heap) : runK T hs Y7 F7_C1 [.no, .no, .no, .no, .no, .no, (.v (.pointer (some ⟨f6, o6, some 0⟩))), (.v (.slice a7 n7 c7)), .no, (.loc [(.int .i64 x9), (.string x9_6), (.int .i64 x9_7)]), .no, .no, .no, .no, .no, .no, .no, .no, .no, .no, (.v (.slice a20 n20 c20)), (.v (.int .i64 x21)), (.v (.int .i64 x22)), .no, .no, .no, .no, .no, .no, .no, .no, .no, .no, .no, .no, .no, .no, .no, .no, .no, .no, .no, .no, .no, .no, .no, .no, .no, .no, .no, .no, .no, .no, .no, .no, .no, .no, .no, .no, .no, .no, .no, .no, .no, .no, .no, .no, .no, .no] H (F7_K4 T hs) = s7_J2 T hs f6 o6 a7 n7 c7 x9 x9_6 x9_7 a20 n20 c20 x21 x22 H := by kernel_rfl
theorem g7_J2_ok {T : Nat → Option AFn} {hs : Heap → Heap → Bool} {f6 : Nat} {o6 : Nat} {a7 : Option Addr} {n7 : Nat} {c7 : Nat} {x9 : Int} {x9_6 : ByteArray} {x9_7 : Int} {a20 : Option Addr} {n20 : Nat} {c20 : Nat} {x21 : Int} {x22 : Int} {H : Heap} {r : Value × Heap} (h : s7_J2 T hs f6 o6 a7 n7 c7 x9 x9_6 x9_7 a20 n20 c20 x21 x22 H = some r) : g7_J2 T hs f6 o6 a7 n7 c7 x9 x9_6 x9_7 a20 n20 c20 x21 x22 H = some r := join_intro ((g7_J2_step T hs f6 o6 a7 n7 c7 x9 x9_6 x9_7 a20 n20 c20 x21 x22 H).trans h)
theorem g7_J2_ret {T : Nat → Option AFn} {hs : Heap → Heap → Bool} {f6 : Nat} {o6 : Nat} {a7 : Option Addr} {n7 : Nat} {c7 : Nat} {x9 : Int} {x9_6 : ByteArray} {x9_7 : Int} {a20 : Option Addr} {n20 : Nat} {c20 : Nat} {x21 : Int} {x22 : Int} {H : Heap} {Q : Value → Heap → Prop} (h : Ret (s7_J2 T hs f6 o6 a7 n7 c7 x9 x9_6 x9_7 a20 n20 c20 x21 x22 H) Q) : Ret (g7_J2 T hs f6 o6 a7 n7 c7 x9 x9_6 x9_7 a20 n20 c20 x21 x22 H) Q := h.via fun _ q => g7_J2_ok q
noncomputable def s7_J3 (T : Nat → Option AFn) (hs : Heap → Heap → Bool) (f6 : Nat) (o6 : Nat) (a7 : Option Addr) (n7 : Nat) (c7 : Nat) (x9 : Int) (x9_6 : ByteArray) (x9_7 : Int) (x10 : ByteArray) (a20 : Option Addr) (n20 : Nat) (c20 : Nat) (x21 : Int) (x22 : Int) (H : Heap) : Option (Value × Heap) :=
  (CT T hs 20 [(.pointer (some ⟨f6, o6, some 0⟩)), (.string x10)] H).bind fun p49 =>
  ifTup p49.1 fun l49 =>
  ifCons l49 fun v49 l49_1 =>
  ifInt .i64 v49 fun x49 =>
  ifCons l49_1 fun v49_1 l49_2 =>
  ifNil l49_2 <|
  g7_J1 T hs f6 o6 a7 n7 c7 x9 x9_6 x9_7 a20 n20 c20 x21 x22 p49.2
theorem g7_J3_step (T : Nat → Option AFn) (hs : Heap → Heap → Bool) (f6 : Nat) (o6 : Nat) (a7 : Option Addr) (n7 : Nat) (c7 : Nat) (x9 : Int) (x9_6 : ByteArray) (x9_7 : Int) (x10 : ByteArray) (a20 : Option Addr) (n20 : Nat) (c20 : Nat) (x21 : Int) (x22 : Int) (H : Heap) : runK T hs Y7 F7_C0 [.no, .no, .no, .no, .no, .no, (.v (.pointer (some ⟨f6, o6, some 0⟩))), (.v (.slice a7 n7 c7)), .no, (.loc [(.int .i64 x9), (.string x9_6), (.int .i64 x9_7)]), (.v (.string x10)), .no, .no, .no, .no, .no, .no, .no, .no, .no, (.v (.slice a20 n20 c20)), (.v (.int .i64 x21)), (.v (.int .i64 x22)), .no, .no, .no, .no, .no, .no, .no, .no, .no, .no, .no, .no, .no, .no, .no, .no, .no, .no, .no, .no, .no, .no, .no, .no, .no, .no, .no, .no, .no, .no, .no, .no, .no, .no, .no, .no, .no, .no, .no, .no, .no, .no, .no, .no, .no, .no] H (F7_K6 T hs) = s7_J3 T hs f6 o6 a7 n7 c7 x9 x9_6 x9_7 x10 a20 n20 c20 x21 x22 H := by kernel_rfl
theorem g7_J3_ok {T : Nat → Option AFn} {hs : Heap → Heap → Bool} {f6 : Nat} {o6 : Nat} {a7 : Option Addr} {n7 : Nat} {c7 : Nat} {x9 : Int} {x9_6 : ByteArray} {x9_7 : Int} {x10 : ByteArray} {a20 : Option Addr} {n20 : Nat} {c20 : Nat} {x21 : Int} {x22 : Int} {H : Heap} {r : Value × Heap} (h : s7_J3 T hs f6 o6 a7 n7 c7 x9 x9_6 x9_7 x10 a20 n20 c20 x21 x22 H = some r) : g7_J3 T hs f6 o6 a7 n7 c7 x9 x9_6 x9_7 x10 a20 n20 c20 x21 x22 H = some r := join_intro ((g7_J3_step T hs f6 o6 a7 n7 c7 x9 x9_6 x9_7 x10 a20 n20 c20 x21 x22 H).trans h)
theorem g7_J3_ret {T : Nat → Option AFn} {hs : Heap → Heap → Bool} {f6 : Nat} {o6 : Nat} {a7 : Option Addr} {n7 : Nat} {c7 : Nat} {x9 : Int} {x9_6 : ByteArray} {x9_7 : Int} {x10 : ByteArray} {a20 : Option Addr} {n20 : Nat} {c20 : Nat} {x21 : Int} {x22 : Int} {H : Heap} {Q : Value → Heap → Prop} (h : Ret (s7_J3 T hs f6 o6 a7 n7 c7 x9 x9_6 x9_7 x10 a20 n20 c20 x21 x22 H) Q) : Ret (g7_J3 T hs f6 o6 a7 n7 c7 x9 x9_6 x9_7 x10 a20 n20 c20 x21 x22 H) Q := h.via fun _ q => g7_J3_ok q
noncomputable def s7 (T : Nat → Option AFn) (hs : Heap → Heap → Bool) (a0 : Option Addr) (n0 : Nat) (c0 : Nat) (H : Heap) : Option (Value × Heap) :=
  (CT T hs 5 [(.slice a0 n0 c0)] H).bind fun p14 =>
  ifTup p14.1 fun l14 =>
  ifCons l14 fun v14 l14_1 =>
  ifAgg v14 fun l14_2 =>
  ifCons l14_2 fun v14_1 l14_3 =>
  ifInt .i64 v14_1 fun x14 =>
  ifCons l14_3 fun v14_2 l14_4 =>
  ifInt .i64 v14_2 fun x14_1 =>
  ifNil l14_4 <|
  ifCons l14_1 fun v14_3 l14_5 =>
  ifInt .i64 v14_3 fun x14_2 =>
  ifNil l14_5 <|
  cond ((x14_2 : Int) != 0)
  (some (.tuple #[(.string (⟨#[]⟩ : ByteArray)), (.int .i64 x14_2)], p14.2))
  (let H_1 := p14.2 ++ [.cells 51 1 [(.pointer none), (.slice none 0 0)] 0 0 0 false]
  g7_L0 T hs p14.2.length 0 none 0 0 a0 n0 c0 ((n0 : Nat) : Int) 0 H_1)
theorem s7_run (T : Nat → Option AFn) (hs : Heap → Heap → Bool) (a0 : Option Addr) (n0 : Nat) (c0 : Nat) (H : Heap) : runFK T hs Y7 F7 [(.slice a0 n0 c0)] H = s7 T hs a0 n0 c0 H := by kernel_rfl
theorem g7_ok {T : Nat → Option AFn} {hs : Heap → Heap → Bool} (hT : T 7 = some (.code F7)) {a0 : Option Addr} {n0 : Nat} {c0 : Nat} {H : Heap} {r : Value × Heap} (h : s7 T hs a0 n0 c0 H = some r) : CT T hs 7 [(.slice a0 n0 c0)] H = some r := runFK_ok hT ((s7_run T hs a0 n0 c0 H).trans h)
theorem chk7 : chkFunc Tryd.prog 7 F7 = true := by kernel_rfl
/- dowel/dowelref26.Text -/
def F8_C0 : ACode :=
  .seq (.seq (.reg [⟨(some 90), .mov (.t 7), none, false, none, 0⟩,
    ⟨(some 91), .mov (.t 10), none, false, none, 0⟩,
    ⟨(some 92), .indexA 1 (.t 90) (.t 91), none, false, none, 0⟩,
    ⟨(some 93), .load false 1 (.t 92), none, false, none, 0⟩,
    ⟨(some 94), .bin .gtr (.t 93) (.c (.int .i64 0)), none, false, none, 0⟩])
  (.cond (.t 94)
  (.exit 3)
  (.skip)))
  (.seq (.reg [⟨(some 95), .mov (.t 6), none, false, none, 0⟩,
    ⟨(some 96), .buildSl 5 1 1 [.int .u8 0] [(0, 1, .c (.int .u8 93))], none, false, none, 0⟩,
    ⟨(some 97), .append 5 1 1 (.t 95) (.t 96), none, false, none, 0⟩,
    ⟨(some 6), .mov (.t 97), none, false, none, 0⟩])
  (.seq (.reg [⟨(some 98), .mov (.t 7), none, false, none, 0⟩,
    ⟨(some 99), .mov (.t 10), none, false, none, 0⟩,
    ⟨(some 100), .slSl 1 (.t 98) none (some (.t 99)), none, false, none, 0⟩,
    ⟨(some 7), .mov (.t 100), none, false, none, 0⟩])
  (.reg [⟨(some 9), .mov (.c (.bool true)), none, false, none, 0⟩])))
def F8_C1 : ACode :=
  .seq (.seq (.reg [⟨(some 69), .mov (.t 7), none, false, none, 0⟩,
    ⟨(some 70), .len false (.t 69), none, false, none, 0⟩,
    ⟨(some 71), .bin .gtr (.t 70) (.c (.int .i64 0)), none, false, none, 0⟩])
  (.cond (.t 71)
  (.skip)
  (.exit 3)))
  (.block 4 (.seq (.reg [⟨(some 72), .mov (.t 7), none, false, none, 0⟩,
    ⟨(some 73), .len false (.t 72), none, false, none, 0⟩,
    ⟨(some 74), .bin .sub (.t 73) (.c (.int .i64 1)), none, false, none, 0⟩,
    ⟨(some 10), .mov (.t 74), none, false, none, 0⟩])
  (.seqj [0, 6, 7, 8, 10] (.seq (.reg [⟨(some 75), .mov (.t 9), none, false, none, 0⟩])
  (.cond (.t 75)
  (.seq (.reg [⟨(some 76), .mov (.t 7), none, false, none, 0⟩,
    ⟨(some 77), .mov (.t 10), none, false, none, 0⟩,
    ⟨(some 78), .indexA 1 (.t 76) (.t 77), none, false, none, 0⟩,
    ⟨(some 79), .load false 1 (.t 78), none, false, none, 0⟩,
    ⟨(some 80), .bin .sub (.t 79) (.c (.int .i64 1)), none, false, none, 0⟩,
    ⟨(some 81), .indexA 1 (.t 76) (.t 77), none, false, none, 0⟩,
    ⟨none, .store 1 (.t 81) (.t 80), none, false, none, 0⟩])
  (.seq (.reg [⟨(some 82), .mov (.t 7), none, false, none, 0⟩,
    ⟨(some 83), .mov (.t 10), none, false, none, 0⟩,
    ⟨(some 84), .indexA 1 (.t 82) (.t 83), none, false, none, 0⟩,
    ⟨(some 85), .load false 1 (.t 84), none, false, none, 0⟩,
    ⟨(some 86), .bin .gtr (.t 85) (.c (.int .i64 0)), none, false, none, 0⟩])
  (.cond (.t 86)
  (.reg [⟨(some 87), .mov (.t 6), none, false, none, 0⟩,
    ⟨(some 88), .buildSl 5 1 2 [.int .u8 0, .int .u8 0] [(0, 1, .c (.int .u8 44)), (1, 1, .c (.int .u8 32))], none, false, none, 0⟩,
    ⟨(some 89), .append 5 1 1 (.t 87) (.t 88), none, false, none, 0⟩,
    ⟨(some 6), .mov (.t 89), none, false, none, 0⟩])
  (.skip))))
  (.skip)))
  F8_C0)))
def F8_C2 : ACode :=
  .seq (.reg [⟨(some 63), .mov (.t 0), none, false, none, 0⟩,
    ⟨(some 64), .mov (.t 8), none, false, none, 0⟩,
    ⟨(some 65), .indexA 3 (.t 63) (.t 64), none, false, none, 0⟩,
    ⟨(some 66), .fieldA 0 (.t 65), none, false, none, 0⟩,
    ⟨(some 67), .load false 1 (.t 66), none, false, none, 0⟩,
    ⟨(some 68), .bin .neq (.t 67) (.c (.int .i64 0)), none, false, none, 0⟩,
    ⟨(some 9), .mov (.t 68), none, false, none, 0⟩])
  (.block 3 (.loop [0, 6, 7, 8, 9] F8_C1))
def F8_C3 : ACode :=
  .reg [⟨(some 23), .mov (.t 8), none, false, none, 0⟩,
    ⟨(some 24), .bin .add (.t 23) (.c (.int .i64 1)), none, false, none, 0⟩,
    ⟨(some 8), .mov (.t 24), none, false, none, 0⟩]
def F8_C4 : ACode :=
  .seq (.seq (.reg [⟨(some 19), .mov (.t 8), none, false, none, 0⟩,
    ⟨(some 20), .mov (.t 0), none, false, none, 0⟩,
    ⟨(some 21), .len false (.t 20), none, false, none, 0⟩,
    ⟨(some 22), .bin .lss (.t 19) (.t 21), none, false, none, 0⟩])
  (.cond (.t 22)
  (.skip)
  (.exit 0)))
  (.seqj [0, 6, 7, 8] (.block 1 (.seq (.seq (.reg [⟨(some 25), .mov (.t 6), none, false, none, 0⟩,
    ⟨(some 26), .len false (.t 25), none, false, none, 0⟩,
    ⟨(some 27), .bin .gtr (.t 26) (.c (.int .i64 4194304)), none, false, none, 0⟩])
  (.cond (.t 27)
  (.seq (.reg [⟨(some 2), .mov (.c (.string ⟨#[]⟩)), none, false, none, 0⟩,
    ⟨(some 3), .mov (.c (.int .i64 2)), none, false, none, 0⟩])
  (.ret))
  (.skip)))
  (.seqj [0, 6, 7, 8] (.seq (.reg [⟨(some 28), .mov (.t 0), none, false, none, 0⟩,
    ⟨(some 29), .mov (.t 8), none, false, none, 0⟩,
    ⟨(some 30), .indexA 3 (.t 28) (.t 29), none, false, none, 0⟩,
    ⟨(some 31), .fieldA 0 (.t 30), none, false, none, 0⟩,
    ⟨(some 32), .load false 1 (.t 31), none, false, none, 0⟩])
  (.block 2 (.seq (.reg [⟨(some 41), .bin .eql (.t 32) (.c (.int .i64 0)), none, false, none, 0⟩,
    ⟨(some 40), .mov (.t 41), none, false, none, 0⟩])
  (.cond (.t 40)
  (.seq (.reg [⟨(some 42), .mov (.t 6), none, false, none, 0⟩,
    ⟨(some 43), .buildSl 5 1 1 [.int .u8 0] [(0, 1, .c (.int .u8 91))], none, false, none, 0⟩,
    ⟨(some 44), .append 5 1 1 (.t 42) (.t 43), none, false, none, 0⟩,
    ⟨(some 6), .mov (.t 44), none, false, none, 0⟩])
  (.reg [⟨(some 45), .mov (.t 7), none, false, none, 0⟩,
    ⟨(some 46), .mov (.t 0), none, false, none, 0⟩,
    ⟨(some 47), .mov (.t 8), none, false, none, 0⟩,
    ⟨(some 48), .indexA 3 (.t 46) (.t 47), none, false, none, 0⟩,
    ⟨(some 49), .fieldA 2 (.t 48), none, false, none, 0⟩,
    ⟨(some 50), .load false 1 (.t 49), none, false, none, 0⟩,
    ⟨(some 51), .buildSl 3 1 1 [.int .i64 0] [(0, 1, .t 50)], none, false, none, 0⟩,
    ⟨(some 52), .append 3 1 8 (.t 45) (.t 51), none, false, none, 0⟩,
    ⟨(some 7), .mov (.t 52), none, false, none, 0⟩]))
  (.seq (.reg [⟨(some 54), .bin .eql (.t 32) (.c (.int .i64 2)), none, false, none, 0⟩,
    ⟨(some 53), .mov (.t 54), none, false, none, 0⟩])
  (.cond (.t 53)
  (.reg [⟨(some 55), .mov (.t 6), none, false, none, 0⟩,
    ⟨(some 56), .mov (.t 0), none, false, none, 0⟩,
    ⟨(some 57), .mov (.t 8), none, false, none, 0⟩,
    ⟨(some 58), .indexA 3 (.t 56) (.t 57), none, false, none, 0⟩,
    ⟨(some 59), .fieldA 1 (.t 58), none, false, none, 0⟩,
    ⟨(some 60), .load false 1 (.t 59), none, false, none, 0⟩,
    ⟨(some 61), .call 24 [.t 60], none, false, none, 0⟩,
    ⟨(some 62), .append 5 1 1 (.t 55) (.t 61), none, false, none, 0⟩,
    ⟨(some 6), .mov (.t 62), none, false, none, 0⟩])
  (.reg [⟨(some 33), .mov (.t 6), none, false, none, 0⟩,
    ⟨(some 34), .mov (.t 0), none, false, none, 0⟩,
    ⟨(some 35), .mov (.t 8), none, false, none, 0⟩,
    ⟨(some 36), .indexA 3 (.t 34) (.t 35), none, false, none, 0⟩,
    ⟨(some 37), .fieldA 1 (.t 36), none, false, none, 0⟩,
    ⟨(some 38), .load false 1 (.t 37), none, false, none, 0⟩,
    ⟨(some 39), .append 5 1 1 (.t 33) (.t 38), none, false, none, 0⟩,
    ⟨(some 6), .mov (.t 39), none, false, none, 0⟩])))))))
  F8_C2)))
  F8_C3)
def F8_C5 : ACode :=
  .seq (.reg [⟨(some 2), .mov (.c (.string ⟨#[]⟩)), none, false, none, 0⟩,
    ⟨(some 3), .mov (.c (.int .i64 0)), none, false, none, 0⟩])
  (.seq (.reg [⟨(some 12), .mov (.t 0), none, false, none, 0⟩,
    ⟨(some 13), .call 6 [.t 12], none, false, none, 0⟩,
    ⟨(some 11), .mov (.t 13), none, false, none, 0⟩,
    ⟨(some 14), .extract (.t 11) 0, none, false, none, 0⟩,
    ⟨(some 15), .extract (.t 11) 1, none, false, none, 0⟩,
    ⟨(some 4), .allocL [.int .i64 0, .int .i64 0], none, false, none, 0⟩,
    ⟨none, .store 2 (.t 4) (.t 14), none, false, none, 0⟩,
    ⟨(some 5), .mov (.t 15), none, false, none, 0⟩])
  (.seq (.seq (.reg [⟨(some 16), .mov (.t 5), none, false, none, 0⟩,
    ⟨(some 17), .bin .neq (.t 16) (.c (.int .i64 0)), none, false, none, 0⟩])
  (.cond (.t 17)
  (.seq (.reg [⟨(some 18), .mov (.t 5), none, false, none, 0⟩,
    ⟨(some 2), .mov (.c (.string ⟨#[]⟩)), none, false, none, 0⟩,
    ⟨(some 3), .mov (.t 18), none, false, none, 0⟩])
  (.ret))
  (.skip)))
  (.seq (.reg [⟨(some 6), .mov (.c (.slice none 0 0)), none, false, none, 0⟩])
  (.seq (.reg [⟨(some 7), .mov (.c (.slice none 0 0)), none, false, none, 0⟩])
  (.seq (.seq (.reg [⟨(some 8), .mov (.c (.int .i64 0)), none, false, none, 0⟩])
  (.block 0 (.loop [0, 6, 7, 8] F8_C4)))
  (.seq (.seq (.reg [⟨(some 101), .mov (.t 6), none, false, none, 0⟩,
    ⟨(some 102), .len false (.t 101), none, false, none, 0⟩,
    ⟨(some 103), .bin .gtr (.t 102) (.c (.int .i64 4194304)), none, false, none, 0⟩])
  (.cond (.t 103)
  (.seq (.reg [⟨(some 2), .mov (.c (.string ⟨#[]⟩)), none, false, none, 0⟩,
    ⟨(some 3), .mov (.c (.int .i64 2)), none, false, none, 0⟩])
  (.ret))
  (.skip)))
  (.seq (.reg [⟨(some 104), .mov (.t 6), none, false, none, 0⟩,
    ⟨(some 105), .convBS (.t 104), none, false, none, 0⟩,
    ⟨(some 2), .mov (.t 105), none, false, none, 0⟩,
    ⟨(some 3), .mov (.c (.int .i64 0)), none, false, none, 0⟩])
  (.ret))))))))
def F8_C6 : ACode :=
  .seq (.seq (.reg [⟨(some 101), .mov (.t 6), none, false, none, 0⟩,
    ⟨(some 102), .len false (.t 101), none, false, none, 0⟩,
    ⟨(some 103), .bin .gtr (.t 102) (.c (.int .i64 4194304)), none, false, none, 0⟩])
  (.cond (.t 103)
  (.seq (.reg [⟨(some 2), .mov (.c (.string ⟨#[]⟩)), none, false, none, 0⟩,
    ⟨(some 3), .mov (.c (.int .i64 2)), none, false, none, 0⟩])
  (.ret))
  (.skip)))
  (.seq (.reg [⟨(some 104), .mov (.t 6), none, false, none, 0⟩,
    ⟨(some 105), .convBS (.t 104), none, false, none, 0⟩,
    ⟨(some 2), .mov (.t 105), none, false, none, 0⟩,
    ⟨(some 3), .mov (.c (.int .i64 0)), none, false, none, 0⟩])
  (.ret))
def F8 : AFunc := ⟨1, 106, [.tmp 2, .tmp 3], F8_C5⟩
def Y8 : List VT := [.v (.one .sl), .v (.one .any), .v (.one .str), .v (.one (.int .i64)), .v (.one .any), .v (.one (.int .i64)), .v (.one .sl), .v (.one .sl), .v (.one (.int .i64)), .v (.one .bool), .v (.one (.int .i64)), .tup [.agg [.int .i64, .int .i64], .one (.int .i64)], .v (.one .sl), .tup [.agg [.int .i64, .int .i64], .one (.int .i64)], .v (.agg [.int .i64, .int .i64]), .v (.one (.int .i64)), .v (.one (.int .i64)), .v (.one .bool), .v (.one (.int .i64)), .v (.one (.int .i64)), .v (.one .sl), .v (.one (.int .i64)), .v (.one .bool), .v (.one (.int .i64)), .v (.one (.int .i64)), .v (.one .sl), .v (.one (.int .i64)), .v (.one .bool), .v (.one .sl), .v (.one (.int .i64)), .v (.one .any), .v (.one .any), .v (.one (.int .i64)), .v (.one .sl), .v (.one .sl), .v (.one (.int .i64)), .v (.one .any), .v (.one .any), .v (.one .str), .v (.one .sl), .v (.one .bool), .v (.one .bool), .v (.one .sl), .v (.one .sl), .v (.one .sl), .v (.one .sl), .v (.one .sl), .v (.one (.int .i64)), .v (.one .any), .v (.one .any), .v (.one (.int .i64)), .v (.one .sl), .v (.one .sl), .v (.one .bool), .v (.one .bool), .v (.one .sl), .v (.one .sl), .v (.one (.int .i64)), .v (.one .any), .v (.one .any), .v (.one .str), .v (.one .str), .v (.one .sl), .v (.one .sl), .v (.one (.int .i64)), .v (.one .any), .v (.one .any), .v (.one (.int .i64)), .v (.one .bool), .v (.one .sl), .v (.one (.int .i64)), .v (.one .bool), .v (.one .sl), .v (.one (.int .i64)), .v (.one (.int .i64)), .v (.one .bool), .v (.one .sl), .v (.one (.int .i64)), .v (.one .any), .v (.one (.int .i64)), .v (.one (.int .i64)), .v (.one .any), .v (.one .sl), .v (.one (.int .i64)), .v (.one .any), .v (.one (.int .i64)), .v (.one .bool), .v (.one .sl), .v (.one .sl), .v (.one .sl), .v (.one .sl), .v (.one (.int .i64)), .v (.one .any), .v (.one (.int .i64)), .v (.one .bool), .v (.one .sl), .v (.one .sl), .v (.one .sl), .v (.one .sl), .v (.one (.int .i64)), .v (.one .sl), .v (.one .sl), .v (.one (.int .i64)), .v (.one .bool), .v (.one .sl), .v (.one .str)]
noncomputable def F8_K0 (T : Nat → Option AFn) (hs : Heap → Heap → Bool) : Kont (Value × Heap) := { (kontF F8) with nrm := fun fr H => runK T hs Y8 F8_C6 fr H (kontF F8) }
noncomputable def F8_K1 (T : Nat → Option AFn) (hs : Heap → Heap → Bool) : Kont (Value × Heap) := { (F8_K0 T hs) with ex := fun i fr H => if i = 0 then (F8_K0 T hs).nrm fr H else (F8_K0 T hs).ex i fr H }
noncomputable def F8_K2 (T : Nat → Option AFn) (hs : Heap → Heap → Bool) : Kont (Value × Heap) := { (F8_K1 T hs) with nrm := fun fr H => fF (forget [0, 6, 7, 8] fr) fun fr => loopK T hs [0, 6, 7, 8] F8_C4 fr H (F8_K1 T hs) }
noncomputable def F8_K3 (T : Nat → Option AFn) (hs : Heap → Heap → Bool) : Kont (Value × Heap) := { (F8_K2 T hs) with nrm := fun fr H => fF (forget [0, 6, 7, 8] fr) fun fr => joinK T hs F8_C3 fr H (F8_K2 T hs) }
noncomputable def F8_K4 (T : Nat → Option AFn) (hs : Heap → Heap → Bool) : Kont (Value × Heap) := { (F8_K3 T hs) with ex := fun i fr H => if i = 1 then (F8_K3 T hs).nrm fr H else (F8_K3 T hs).ex i fr H }
noncomputable def F8_K5 (T : Nat → Option AFn) (hs : Heap → Heap → Bool) : Kont (Value × Heap) := { (F8_K4 T hs) with ex := fun i fr H => if i = 3 then (F8_K4 T hs).nrm fr H else (F8_K4 T hs).ex i fr H }
noncomputable def F8_K6 (T : Nat → Option AFn) (hs : Heap → Heap → Bool) : Kont (Value × Heap) := { (F8_K5 T hs) with nrm := fun fr H => fF (forget [0, 6, 7, 8, 9] fr) fun fr => loopK T hs [0, 6, 7, 8, 9] F8_C1 fr H (F8_K5 T hs) }
noncomputable def F8_K7 (T : Nat → Option AFn) (hs : Heap → Heap → Bool) : Kont (Value × Heap) := { (F8_K6 T hs) with ex := fun i fr H => if i = 4 then (F8_K6 T hs).nrm fr H else (F8_K6 T hs).ex i fr H }
noncomputable def g8_J4 (T : Nat → Option AFn) (hs : Heap → Heap → Bool) (a0 : Option Addr) (n0 : Nat) (c0 : Nat) (a6 : Option Addr) (n6 : Nat) (c6 : Nat) (a7 : Option Addr) (n7 : Nat) (c7 : Nat) (x8 : Int) (H : Heap) : Option (Value × Heap) := joinK T hs F8_C3 [(.v (.slice a0 n0 c0)), .no, .no, .no, .no, .no, (.v (.slice a6 n6 c6)), (.v (.slice a7 n7 c7)), (.v (.int .i64 x8)), .no, .no, .no, .no, .no, .no, .no, .no, .no, .no, .no, .no, .no, .no, .no, .no, .no, .no, .no, .no, .no, .no, .no, .no, .no, .no, .no, .no, .no, .no, .no, .no, .no, .no, .no, .no, .no, .no, .no, .no, .no, .no, .no, .no, .no, .no, .no, .no, .no, .no, .no, .no, .no, .no, .no, .no, .no, .no, .no, .no, .no, .no, .no, .no, .no, .no, .no, .no, .no, .no, .no, .no, .no, .no, .no, .no, .no, .no, .no, .no, .no, .no, .no, .no, .no, .no, .no, .no, .no, .no, .no, .no, .no, .no, .no, .no, .no] H (F8_K2 T hs)
noncomputable def g8_J3 (T : Nat → Option AFn) (hs : Heap → Heap → Bool) (a0 : Option Addr) (n0 : Nat) (c0 : Nat) (a6 : Option Addr) (n6 : Nat) (c6 : Nat) (a7 : Option Addr) (n7 : Nat) (c7 : Nat) (x8 : Int) (x10 : Int) (H : Heap) : Option (Value × Heap) := joinK T hs F8_C0 [(.v (.slice a0 n0 c0)), .no, .no, .no, .no, .no, (.v (.slice a6 n6 c6)), (.v (.slice a7 n7 c7)), (.v (.int .i64 x8)), .no, (.v (.int .i64 x10)), .no, .no, .no, .no, .no, .no, .no, .no, .no, .no, .no, .no, .no, .no, .no, .no, .no, .no, .no, .no, .no, .no, .no, .no, .no, .no, .no, .no, .no, .no, .no, .no, .no, .no, .no, .no, .no, .no, .no, .no, .no, .no, .no, .no, .no, .no, .no, .no, .no, .no, .no, .no, .no, .no, .no, .no, .no, .no, .no, .no, .no, .no, .no, .no, .no, .no, .no, .no, .no, .no, .no, .no, .no, .no, .no, .no, .no, .no, .no, .no, .no, .no, .no, .no, .no, .no, .no, .no, .no, .no, .no, .no, .no, .no, .no] H (F8_K7 T hs)
noncomputable def g8_L2 (T : Nat → Option AFn) (hs : Heap → Heap → Bool) (a0 : Option Addr) (n0 : Nat) (c0 : Nat) (a6 : Option Addr) (n6 : Nat) (c6 : Nat) (a7 : Option Addr) (n7 : Nat) (c7 : Nat) (x8 : Int) (x9 : Bool) (H : Heap) : Option (Value × Heap) := loopK T hs [0, 6, 7, 8, 9] F8_C1 [(.v (.slice a0 n0 c0)), .no, .no, .no, .no, .no, (.v (.slice a6 n6 c6)), (.v (.slice a7 n7 c7)), (.v (.int .i64 x8)), (.v (.bool x9)), .no, .no, .no, .no, .no, .no, .no, .no, .no, .no, .no, .no, .no, .no, .no, .no, .no, .no, .no, .no, .no, .no, .no, .no, .no, .no, .no, .no, .no, .no, .no, .no, .no, .no, .no, .no, .no, .no, .no, .no, .no, .no, .no, .no, .no, .no, .no, .no, .no, .no, .no, .no, .no, .no, .no, .no, .no, .no, .no, .no, .no, .no, .no, .no, .no, .no, .no, .no, .no, .no, .no, .no, .no, .no, .no, .no, .no, .no, .no, .no, .no, .no, .no, .no, .no, .no, .no, .no, .no, .no, .no, .no, .no, .no, .no, .no] H (F8_K5 T hs)
noncomputable def g8_J1 (T : Nat → Option AFn) (hs : Heap → Heap → Bool) (a0 : Option Addr) (n0 : Nat) (c0 : Nat) (a6 : Option Addr) (n6 : Nat) (c6 : Nat) (a7 : Option Addr) (n7 : Nat) (c7 : Nat) (x8 : Int) (H : Heap) : Option (Value × Heap) := joinK T hs F8_C2 [(.v (.slice a0 n0 c0)), .no, .no, .no, .no, .no, (.v (.slice a6 n6 c6)), (.v (.slice a7 n7 c7)), (.v (.int .i64 x8)), .no, .no, .no, .no, .no, .no, .no, .no, .no, .no, .no, .no, .no, .no, .no, .no, .no, .no, .no, .no, .no, .no, .no, .no, .no, .no, .no, .no, .no, .no, .no, .no, .no, .no, .no, .no, .no, .no, .no, .no, .no, .no, .no, .no, .no, .no, .no, .no, .no, .no, .no, .no, .no, .no, .no, .no, .no, .no, .no, .no, .no, .no, .no, .no, .no, .no, .no, .no, .no, .no, .no, .no, .no, .no, .no, .no, .no, .no, .no, .no, .no, .no, .no, .no, .no, .no, .no, .no, .no, .no, .no, .no, .no, .no, .no, .no, .no] H (F8_K4 T hs)
noncomputable def g8_L0 (T : Nat → Option AFn) (hs : Heap → Heap → Bool) (a0 : Option Addr) (n0 : Nat) (c0 : Nat) (a6 : Option Addr) (n6 : Nat) (c6 : Nat) (a7 : Option Addr) (n7 : Nat) (c7 : Nat) (x8 : Int) (H : Heap) : Option (Value × Heap) := loopK T hs [0, 6, 7, 8] F8_C4 [(.v (.slice a0 n0 c0)), .no, .no, .no, .no, .no, (.v (.slice a6 n6 c6)), (.v (.slice a7 n7 c7)), (.v (.int .i64 x8)), .no, .no, .no, .no, .no, .no, .no, .no, .no, .no, .no, .no, .no, .no, .no, .no, .no, .no, .no, .no, .no, .no, .no, .no, .no, .no, .no, .no, .no, .no, .no, .no, .no, .no, .no, .no, .no, .no, .no, .no, .no, .no, .no, .no, .no, .no, .no, .no, .no, .no, .no, .no, .no, .no, .no, .no, .no, .no, .no, .no, .no, .no, .no, .no, .no, .no, .no, .no, .no, .no, .no, .no, .no, .no, .no, .no, .no, .no, .no, .no, .no, .no, .no, .no, .no, .no, .no, .no, .no, .no, .no, .no, .no, .no, .no, .no, .no] H (F8_K1 T hs)
noncomputable def s8_L0 (T : Nat → Option AFn) (hs : Heap → Heap → Bool) (a0 : Option Addr) (n0 : Nat) (c0 : Nat) (a6 : Option Addr) (n6 : Nat) (c6 : Nat) (a7 : Option Addr) (n7 : Nat) (c7 : Nat) (x8 : Int) (H : Heap) : Option (Value × Heap) :=
  cond (decide ((x8 : Int) < ((n0 : Nat) : Int)))
  (cond (decide ((((n6 : Nat) : Int) : Int) > 4194304))
  (some (.tuple #[(.string (⟨#[]⟩ : ByteArray)), (.int .i64 2)], H))
  ((ixA H 3 (.slice a0 n0 c0) x8).bind fun q30 =>
  (rdHp H q30.1 (q30.2.1 + 0) q30.2.2 3 1).bind fun w32 =>
  ifCons w32 fun v32 l32 => ifNil l32 <|
  ifInt .i64 v32 fun x32 =>
  cond ((x32 : Int) == 0)
  (let H_1 := H ++ [.cells 5 1 [(.int .u8 91)] 0 0 0 false]
  (apA H_1 5 1 1 (.slice a6 n6 c6) (.slice (some ⟨H.length, 0, some 0⟩) 1 1)).bind fun p44 =>
  ifSl p44.1 fun a44 n44 c44 =>
  (ixA p44.2 3 (.slice a0 n0 c0) x8).bind fun q48 =>
  (rdHp p44.2 q48.1 (q48.2.1 + 2) q48.2.2 1 1).bind fun w50 =>
  ifCons w50 fun v50 l50 => ifNil l50 <|
  ifInt .i64 v50 fun x50 =>
  let H_2 := p44.2 ++ [.cells 3 1 [(.int .i64 x50)] 0 0 0 false]
  (apA H_2 3 1 8 (.slice a7 n7 c7) (.slice (some ⟨p44.2.length, 0, some 0⟩) 1 1)).bind fun p52 =>
  ifSl p52.1 fun a52 n52 c52 =>
  g8_J1 T hs a0 n0 c0 a44 n44 c44 a52 n52 c52 x8 p52.2)
  (cond ((x32 : Int) == 2)
  ((ixA H 3 (.slice a0 n0 c0) x8).bind fun q58 =>
  (rdHp H q58.1 (q58.2.1 + 1) q58.2.2 2 1).bind fun w60 =>
  ifCons w60 fun v60 l60 => ifNil l60 <|
  ifStr v60 fun x60 =>
  (CT T hs 24 [(.string x60)] H).bind fun p61 =>
  ifStr p61.1 fun x61 =>
  (apA p61.2 5 1 1 (.slice a6 n6 c6) (.string x61)).bind fun p62 =>
  ifSl p62.1 fun a62 n62 c62 =>
  g8_J1 T hs a0 n0 c0 a62 n62 c62 a7 n7 c7 x8 p62.2)
  ((ixA H 3 (.slice a0 n0 c0) x8).bind fun q36 =>
  (rdHp H q36.1 (q36.2.1 + 1) q36.2.2 2 1).bind fun w38 =>
  ifCons w38 fun v38 l38 => ifNil l38 <|
  ifStr v38 fun x38 =>
  (apA H 5 1 1 (.slice a6 n6 c6) (.string x38)).bind fun p39 =>
  ifSl p39.1 fun a39 n39 c39 =>
  g8_J1 T hs a0 n0 c0 a39 n39 c39 a7 n7 c7 x8 p39.2))))
  (cond (decide ((((n6 : Nat) : Int) : Int) > 4194304))
  (some (.tuple #[(.string (⟨#[]⟩ : ByteArray)), (.int .i64 2)], H))
  ((rdSl H 1 (.slice a6 n6 c6)).bind fun w105 => (bytesOf w105).bind fun y105 =>
  some (.tuple #[(.string (⟨y105.toArray⟩ : ByteArray)), (.int .i64 0)], H)))
theorem g8_L0_step (T : Nat → Option AFn) (hs : Heap → Heap → Bool) (a0 : Option Addr) (n0 : Nat) (c0 : Nat) (a6 : Option Addr) (n6 : Nat) (c6 : Nat) (a7 : Option Addr) (n7 : Nat) (c7 : Nat) (x8 : Int) (H : Heap) : loopB T hs Y8 [0, 6, 7, 8] F8_C4 [(.v (.slice a0 n0 c0)), .no, .no, .no, .no, .no, (.v (.slice a6 n6 c6)), (.v (.slice a7 n7 c7)), (.v (.int .i64 x8)), .no, .no, .no, .no, .no, .no, .no, .no, .no, .no, .no, .no, .no, .no, .no, .no, .no, .no, .no, .no, .no, .no, .no, .no, .no, .no, .no, .no, .no, .no, .no, .no, .no, .no, .no, .no, .no, .no, .no, .no, .no, .no, .no, .no, .no, .no, .no, .no, .no, .no, .no, .no, .no, .no, .no, .no, .no, .no, .no, .no, .no, .no, .no, .no, .no, .no, .no, .no, .no, .no, .no, .no, .no, .no, .no, .no, .no, .no, .no, .no, .no, .no, .no, .no, .no, .no, .no, .no, .no, .no, .no, .no, .no, .no, .no, .no, .no] H (F8_K1 T hs) = s8_L0 T hs a0 n0 c0 a6 n6 c6 a7 n7 c7 x8 H := by kernel_rfl
theorem g8_L0_ok {T : Nat → Option AFn} {hs : Heap → Heap → Bool} {a0 : Option Addr} {n0 : Nat} {c0 : Nat} {a6 : Option Addr} {n6 : Nat} {c6 : Nat} {a7 : Option Addr} {n7 : Nat} {c7 : Nat} {x8 : Int} {H : Heap} {r : Value × Heap} (h : s8_L0 T hs a0 n0 c0 a6 n6 c6 a7 n7 c7 x8 H = some r) : g8_L0 T hs a0 n0 c0 a6 n6 c6 a7 n7 c7 x8 H = some r := loopB_ok ((g8_L0_step T hs a0 n0 c0 a6 n6 c6 a7 n7 c7 x8 H).trans h)
theorem g8_L0_ret {T : Nat → Option AFn} {hs : Heap → Heap → Bool} {a0 : Option Addr} {n0 : Nat} {c0 : Nat} {a6 : Option Addr} {n6 : Nat} {c6 : Nat} {a7 : Option Addr} {n7 : Nat} {c7 : Nat} {x8 : Int} {H : Heap} {Q : Value → Heap → Prop} (h : Ret (s8_L0 T hs a0 n0 c0 a6 n6 c6 a7 n7 c7 x8 H) Q) : Ret (g8_L0 T hs a0 n0 c0 a6 n6 c6 a7 n7 c7 x8 H) Q := h.via fun _ q => g8_L0_ok q
noncomputable def s8_J1 (T : Nat → Option AFn) (hs : Heap → Heap → Bool) (a0 : Option Addr) (n0 : Nat) (c0 : Nat) (a6 : Option Addr) (n6 : Nat) (c6 : Nat) (a7 : Option Addr) (n7 : Nat) (c7 : Nat) (x8 : Int) (H : Heap) : Option (Value × Heap) :=
  (ixA H 3 (.slice a0 n0 c0) x8).bind fun q65 =>
  (rdHp H q65.1 (q65.2.1 + 0) q65.2.2 3 1).bind fun w67 =>
  ifCons w67 fun v67 l67 => ifNil l67 <|
  ifInt .i64 v67 fun x67 =>
  g8_L2 T hs a0 n0 c0 a6 n6 c6 a7 n7 c7 x8 ((x67 : Int) != 0) H
theorem g8_J1_step (T : Nat → Option AFn) (hs : Heap → Heap → Bool) (a0 : Option Addr) (n0 : Nat) (c0 : Nat) (a6 : Option Addr) (n6 : Nat) (c6 : Nat) (a7 : Option Addr) (n7 : Nat) (c7 : Nat) (x8 : Int) (H : Heap) : runK T hs Y8 F8_C2 [(.v (.slice a0 n0 c0)), .no, .no, .no, .no, .no, (.v (.slice a6 n6 c6)), (.v (.slice a7 n7 c7)), (.v (.int .i64 x8)), .no, .no, .no, .no, .no, .no, .no, .no, .no, .no, .no, .no, .no, .no, .no, .no, .no, .no, .no, .no, .no, .no, .no, .no, .no, .no, .no, .no, .no, .no, .no, .no, .no, .no, .no, .no, .no, .no, .no, .no, .no, .no, .no, .no, .no, .no, .no, .no, .no, .no, .no, .no, .no, .no, .no, .no, .no, .no, .no, .no, .no, .no, .no, .no, .no, .no, .no, .no, .no, .no, .no, .no, .no, .no, .no, .no, .no, .no, .no, .no, .no, .no, .no, .no, .no, .no, .no, .no, .no, .no, .no, .no, .no, .no, .no, .no, .no] H (F8_K4 T hs) = s8_J1 T hs a0 n0 c0 a6 n6 c6 a7 n7 c7 x8 H := by kernel_rfl
theorem g8_J1_ok {T : Nat → Option AFn} {hs : Heap → Heap → Bool} {a0 : Option Addr} {n0 : Nat} {c0 : Nat} {a6 : Option Addr} {n6 : Nat} {c6 : Nat} {a7 : Option Addr} {n7 : Nat} {c7 : Nat} {x8 : Int} {H : Heap} {r : Value × Heap} (h : s8_J1 T hs a0 n0 c0 a6 n6 c6 a7 n7 c7 x8 H = some r) : g8_J1 T hs a0 n0 c0 a6 n6 c6 a7 n7 c7 x8 H = some r := join_intro ((g8_J1_step T hs a0 n0 c0 a6 n6 c6 a7 n7 c7 x8 H).trans h)
theorem g8_J1_ret {T : Nat → Option AFn} {hs : Heap → Heap → Bool} {a0 : Option Addr} {n0 : Nat} {c0 : Nat} {a6 : Option Addr} {n6 : Nat} {c6 : Nat} {a7 : Option Addr} {n7 : Nat} {c7 : Nat} {x8 : Int} {H : Heap} {Q : Value → Heap → Prop} (h : Ret (s8_J1 T hs a0 n0 c0 a6 n6 c6 a7 n7 c7 x8 H) Q) : Ret (g8_J1 T hs a0 n0 c0 a6 n6 c6 a7 n7 c7 x8 H) Q := h.via fun _ q => g8_J1_ok q
noncomputable def s8_L2 (T : Nat → Option AFn) (hs : Heap → Heap → Bool) (a0 : Option Addr) (n0 : Nat) (c0 : Nat) (a6 : Option Addr) (n6 : Nat) (c6 : Nat) (a7 : Option Addr) (n7 : Nat) (c7 : Nat) (x8 : Int) (x9 : Bool) (H : Heap) : Option (Value × Heap) :=
  cond (decide ((((n7 : Nat) : Int) : Int) > 0))
  (cond x9
  ((ixA H 1 (.slice a7 n7 c7) (IntKind.wrap .i64 (((n7 : Nat) : Int) - 1))).bind fun q78 =>
  (rdHp H q78.1 q78.2.1 q78.2.2 1 1).bind fun w79 =>
  ifCons w79 fun v79 l79 => ifNil l79 <|
  ifInt .i64 v79 fun x79 =>
  (ixA H 1 (.slice a7 n7 c7) (IntKind.wrap .i64 (((n7 : Nat) : Int) - 1))).bind fun q81 =>
  (wrHp H q81.1 q81.2.1 q81.2.2 1 [(.int .i64 (IntKind.wrap .i64 (x79 - 1)))]).bind fun H_1 =>
  (ixA H_1 1 (.slice a7 n7 c7) (IntKind.wrap .i64 (((n7 : Nat) : Int) - 1))).bind fun q84 =>
  (rdHp H_1 q84.1 q84.2.1 q84.2.2 1 1).bind fun w85 =>
  ifCons w85 fun v85 l85 => ifNil l85 <|
  ifInt .i64 v85 fun x85 =>
  cond (decide ((x85 : Int) > 0))
  (let H_2 := H_1 ++ [.cells 5 1 [(.int .u8 44), (.int .u8 32)] 0 0 0 false]
  (apA H_2 5 1 1 (.slice a6 n6 c6) (.slice (some ⟨H_1.length, 0, some 0⟩) 2 2)).bind fun p89 =>
  ifSl p89.1 fun a89 n89 c89 =>
  g8_J3 T hs a0 n0 c0 a89 n89 c89 a7 n7 c7 x8 (IntKind.wrap .i64 (((n7 : Nat) : Int) - 1)) p89.2)
  (g8_J3 T hs a0 n0 c0 a6 n6 c6 a7 n7 c7 x8 (IntKind.wrap .i64 (((n7 : Nat) : Int) - 1)) H_1))
  (g8_J3 T hs a0 n0 c0 a6 n6 c6 a7 n7 c7 x8 (IntKind.wrap .i64 (((n7 : Nat) : Int) - 1)) H))
  (g8_J4 T hs a0 n0 c0 a6 n6 c6 a7 n7 c7 x8 H)
theorem g8_L2_step (T : Nat → Option AFn) (hs : Heap → Heap → Bool) (a0 : Option Addr) (n0 : Nat) (c0 : Nat) (a6 : Option Addr) (n6 : Nat) (c6 : Nat) (a7 : Option Addr) (n7 : Nat) (c7 : Nat) (x8 : Int) (x9 : Bool) (H : Heap) : loopB T hs Y8 [0, 6, 7, 8, 9] F8_C1 [(.v (.slice a0 n0 c0)), .no, .no, .no, .no, .no, (.v (.slice a6 n6 c6)), (.v (.slice a7 n7 c7)), (.v (.int .i64 x8)), (.v (.bool x9)), .no, .no, .no, .no, .no, .no, .no, .no, .no, .no, .no, .no, .no, .no, .no, .no, .no, .no, .no, .no, .no, .no, .no, .no, .no, .no, .no, .no, .no, .no, .no, .no, .no, .no, .no, .no, .no, .no, .no, .no, .no, .no, .no, .no, .no, .no, .no, .no, .no, .no, .no, .no, .no, .no, .no, .no, .no, .no, .no, .no, .no, .no, .no, .no, .no, .no, .no, .no, .no, .no, .no, .no, .no, .no, .no, .no, .no, .no, .no, .no, .no, .no, .no, .no, .no, .no, .no, .no, .no, .no, .no, .no, .no, .no, .no, .no] H (F8_K5 T hs) = s8_L2 T hs a0 n0 c0 a6 n6 c6 a7 n7 c7 x8 x9 H := by kernel_rfl
theorem g8_L2_ok {T : Nat → Option AFn} {hs : Heap → Heap → Bool} {a0 : Option Addr} {n0 : Nat} {c0 : Nat} {a6 : Option Addr} {n6 : Nat} {c6 : Nat} {a7 : Option Addr} {n7 : Nat} {c7 : Nat} {x8 : Int} {x9 : Bool} {H : Heap} {r : Value × Heap} (h : s8_L2 T hs a0 n0 c0 a6 n6 c6 a7 n7 c7 x8 x9 H = some r) : g8_L2 T hs a0 n0 c0 a6 n6 c6 a7 n7 c7 x8 x9 H = some r := loopB_ok ((g8_L2_step T hs a0 n0 c0 a6 n6 c6 a7 n7 c7 x8 x9 H).trans h)
theorem g8_L2_ret {T : Nat → Option AFn} {hs : Heap → Heap → Bool} {a0 : Option Addr} {n0 : Nat} {c0 : Nat} {a6 : Option Addr} {n6 : Nat} {c6 : Nat} {a7 : Option Addr} {n7 : Nat} {c7 : Nat} {x8 : Int} {x9 : Bool} {H : Heap} {Q : Value → Heap → Prop} (h : Ret (s8_L2 T hs a0 n0 c0 a6 n6 c6 a7 n7 c7 x8 x9 H) Q) : Ret (g8_L2 T hs a0 n0 c0 a6 n6 c6 a7 n7 c7 x8 x9 H) Q := h.via fun _ q => g8_L2_ok q
noncomputable def s8_J3 (T : Nat → Option AFn) (hs : Heap → Heap → Bool) (a0 : Option Addr) (n0 : Nat) (c0 : Nat) (a6 : Option Addr) (n6 : Nat) (c6 : Nat) (a7 : Option Addr) (n7 : Nat) (c7 : Nat) (x8 : Int) (x10 : Int) (H : Heap) : Option (Value × Heap) :=
  (ixA H 1 (.slice a7 n7 c7) x10).bind fun q92 =>
  (rdHp H q92.1 q92.2.1 q92.2.2 1 1).bind fun w93 =>
  ifCons w93 fun v93 l93 => ifNil l93 <|
  ifInt .i64 v93 fun x93 =>
  cond (decide ((x93 : Int) > 0))
  (g8_J4 T hs a0 n0 c0 a6 n6 c6 a7 n7 c7 x8 H)
  (let H_1 := H ++ [.cells 5 1 [(.int .u8 93)] 0 0 0 false]
  (apA H_1 5 1 1 (.slice a6 n6 c6) (.slice (some ⟨H.length, 0, some 0⟩) 1 1)).bind fun p97 =>
  ifSl p97.1 fun a97 n97 c97 =>
  (slA p97.2 1 (.slice a7 n7 c7) none (some x10)).bind fun s100 =>
  ifSl s100 fun a100 n100 c100 =>
  g8_L2 T hs a0 n0 c0 a97 n97 c97 a100 n100 c100 x8 true p97.2)
theorem g8_J3_step (T : Nat → Option AFn) (hs : Heap → Heap → Bool) (a0 : Option Addr) (n0 : Nat) (c0 : Nat) (a6 : Option Addr) (n6 : Nat) (c6 : Nat) (a7 : Option Addr) (n7 : Nat) (c7 : Nat) (x8 : Int) (x10 : Int) (H : Heap) : runK T hs Y8 F8_C0 [(.v (.slice a0 n0 c0)), .no, .no, .no, .no, .no, (.v (.slice a6 n6 c6)), (.v (.slice a7 n7 c7)), (.v (.int .i64 x8)), .no, (.v (.int .i64 x10)), .no, .no, .no, .no, .no, .no, .no, .no, .no, .no, .no, .no, .no, .no, .no, .no, .no, .no, .no, .no, .no, .no, .no, .no, .no, .no, .no, .no, .no, .no, .no, .no, .no, .no, .no, .no, .no, .no, .no, .no, .no, .no, .no, .no, .no, .no, .no, .no, .no, .no, .no, .no, .no, .no, .no, .no, .no, .no, .no, .no, .no, .no, .no, .no, .no, .no, .no, .no, .no, .no, .no, .no, .no, .no, .no, .no, .no, .no, .no, .no, .no, .no, .no, .no, .no, .no, .no, .no, .no, .no, .no, .no, .no, .no, .no] H (F8_K7 T hs) = s8_J3 T hs a0 n0 c0 a6 n6 c6 a7 n7 c7 x8 x10 H := by kernel_rfl
theorem g8_J3_ok {T : Nat → Option AFn} {hs : Heap → Heap → Bool} {a0 : Option Addr} {n0 : Nat} {c0 : Nat} {a6 : Option Addr} {n6 : Nat} {c6 : Nat} {a7 : Option Addr} {n7 : Nat} {c7 : Nat} {x8 : Int} {x10 : Int} {H : Heap} {r : Value × Heap} (h : s8_J3 T hs a0 n0 c0 a6 n6 c6 a7 n7 c7 x8 x10 H = some r) : g8_J3 T hs a0 n0 c0 a6 n6 c6 a7 n7 c7 x8 x10 H = some r := join_intro ((g8_J3_step T hs a0 n0 c0 a6 n6 c6 a7 n7 c7 x8 x10 H).trans h)
theorem g8_J3_ret {T : Nat → Option AFn} {hs : Heap → Heap → Bool} {a0 : Option Addr} {n0 : Nat} {c0 : Nat} {a6 : Option Addr} {n6 : Nat} {c6 : Nat} {a7 : Option Addr} {n7 : Nat} {c7 : Nat} {x8 : Int} {x10 : Int} {H : Heap} {Q : Value → Heap → Prop} (h : Ret (s8_J3 T hs a0 n0 c0 a6 n6 c6 a7 n7 c7 x8 x10 H) Q) : Ret (g8_J3 T hs a0 n0 c0 a6 n6 c6 a7 n7 c7 x8 x10 H) Q := h.via fun _ q => g8_J3_ok q
noncomputable def s8_J4 (T : Nat → Option AFn) (hs : Heap → Heap → Bool) (a0 : Option Addr) (n0 : Nat) (c0 : Nat) (a6 : Option Addr) (n6 : Nat) (c6 : Nat) (a7 : Option Addr) (n7 : Nat) (c7 : Nat) (x8 : Int) (H : Heap) : Option (Value × Heap) :=
  g8_L0 T hs a0 n0 c0 a6 n6 c6 a7 n7 c7 (IntKind.wrap .i64 (x8 + 1)) H
theorem g8_J4_step (T : Nat → Option AFn) (hs : Heap → Heap → Bool) (a0 : Option Addr) (n0 : Nat) (c0 : Nat) (a6 : Option Addr) (n6 : Nat) (c6 : Nat) (a7 : Option Addr) (n7 : Nat) (c7 : Nat) (x8 : Int) (H : Heap) : runK T hs Y8 F8_C3 [(.v (.slice a0 n0 c0)), .no, .no, .no, .no, .no, (.v (.slice a6 n6 c6)), (.v (.slice a7 n7 c7)), (.v (.int .i64 x8)), .no, .no, .no, .no, .no, .no, .no, .no, .no, .no, .no, .no, .no, .no, .no, .no, .no, .no, .no, .no, .no, .no, .no, .no, .no, .no, .no, .no, .no, .no, .no, .no, .no, .no, .no, .no, .no, .no, .no, .no, .no, .no, .no, .no, .no, .no, .no, .no, .no, .no, .no, .no, .no, .no, .no, .no, .no, .no, .no, .no, .no, .no, .no, .no, .no, .no, .no, .no, .no, .no, .no, .no, .no, .no, .no, .no, .no, .no, .no, .no, .no, .no, .no, .no, .no, .no, .no, .no, .no, .no, .no, .no, .no, .no, .no, .no, .no] H (F8_K2 T hs) = s8_J4 T hs a0 n0 c0 a6 n6 c6 a7 n7 c7 x8 H := by kernel_rfl
theorem g8_J4_ok {T : Nat → Option AFn} {hs : Heap → Heap → Bool} {a0 : Option Addr} {n0 : Nat} {c0 : Nat} {a6 : Option Addr} {n6 : Nat} {c6 : Nat} {a7 : Option Addr} {n7 : Nat} {c7 : Nat} {x8 : Int} {H : Heap} {r : Value × Heap} (h : s8_J4 T hs a0 n0 c0 a6 n6 c6 a7 n7 c7 x8 H = some r) : g8_J4 T hs a0 n0 c0 a6 n6 c6 a7 n7 c7 x8 H = some r := join_intro ((g8_J4_step T hs a0 n0 c0 a6 n6 c6 a7 n7 c7 x8 H).trans h)
theorem g8_J4_ret {T : Nat → Option AFn} {hs : Heap → Heap → Bool} {a0 : Option Addr} {n0 : Nat} {c0 : Nat} {a6 : Option Addr} {n6 : Nat} {c6 : Nat} {a7 : Option Addr} {n7 : Nat} {c7 : Nat} {x8 : Int} {H : Heap} {Q : Value → Heap → Prop} (h : Ret (s8_J4 T hs a0 n0 c0 a6 n6 c6 a7 n7 c7 x8 H) Q) : Ret (g8_J4 T hs a0 n0 c0 a6 n6 c6 a7 n7 c7 x8 H) Q := h.via fun _ q => g8_J4_ok q
noncomputable def s8 (T : Nat → Option AFn) (hs : Heap → Heap → Bool) (a0 : Option Addr) (n0 : Nat) (c0 : Nat) (H : Heap) : Option (Value × Heap) :=
  (CT T hs 6 [(.slice a0 n0 c0)] H).bind fun p13 =>
  ifTup p13.1 fun l13 =>
  ifCons l13 fun v13 l13_1 =>
  ifAgg v13 fun l13_2 =>
  ifCons l13_2 fun v13_1 l13_3 =>
  ifInt .i64 v13_1 fun x13 =>
  ifCons l13_3 fun v13_2 l13_4 =>
  ifInt .i64 v13_2 fun x13_1 =>
  ifNil l13_4 <|
  ifCons l13_1 fun v13_3 l13_5 =>
  ifInt .i64 v13_3 fun x13_2 =>
  ifNil l13_5 <|
  cond ((x13_2 : Int) != 0)
  (some (.tuple #[(.string (⟨#[]⟩ : ByteArray)), (.int .i64 x13_2)], p13.2))
  (g8_L0 T hs a0 n0 c0 none 0 0 none 0 0 0 p13.2)
theorem s8_run (T : Nat → Option AFn) (hs : Heap → Heap → Bool) (a0 : Option Addr) (n0 : Nat) (c0 : Nat) (H : Heap) : runFK T hs Y8 F8 [(.slice a0 n0 c0)] H = s8 T hs a0 n0 c0 H := by kernel_rfl
theorem g8_ok {T : Nat → Option AFn} {hs : Heap → Heap → Bool} (hT : T 8 = some (.code F8)) {a0 : Option Addr} {n0 : Nat} {c0 : Nat} {H : Heap} {r : Value × Heap} (h : s8 T hs a0 n0 c0 H = some r) : CT T hs 8 [(.slice a0 n0 c0)] H = some r := runFK_ok hT ((s8_run T hs a0 n0 c0 H).trans h)
theorem chk8 : chkFunc Tryd.prog 8 F8 = true := by kernel_rfl
/- dowel/dowelbook.KeptItems -/
def F9_C0 : ACode :=
  .ret
def F9_C1 : ACode :=
  .seq (.reg [⟨(some 4), .mov (.c (.bool false)), none, false, none, 0⟩])
  (.seq (.reg [⟨(some 6), .mov (.t 0), none, false, none, 0⟩,
    ⟨(some 7), .mov (.t 1), none, false, none, 0⟩,
    ⟨(some 8), .len false (.t 7), none, false, none, 0⟩,
    ⟨(some 9), .bin .add (.t 8) (.c (.int .i64 2)), none, false, none, 0⟩,
    ⟨(some 10), .slSl 3 (.t 6) none (some (.t 9)), none, false, none, 0⟩,
    ⟨(some 5), .mov (.t 10), none, false, none, 0⟩])
  (.seqj [4] (.regD [⟨(some 11), .mov (.t 0), none, false, none, 0⟩,
    ⟨(some 12), .mov (.t 1), none, false, none, 0⟩,
    ⟨(some 13), .call 25 [.t 11, .t 12], none, false, none, 0⟩,
    ⟨(some 14), .mov (.t 13), none, false, none, 0⟩,
    ⟨(some 15), .mov (.t 5), (some (14, true)), false, none, 0⟩,
    ⟨(some 16), .mov (.t 1), (some (14, true)), false, none, 0⟩,
    ⟨(some 17), .len false (.t 16), (some (14, true)), false, none, 0⟩,
    ⟨(some 18), .indexA 3 (.t 15) (.t 17), (some (14, true)), false, none, 0⟩,
    ⟨(some 19), .load true 3 (.t 18), (some (14, true)), false, none, 0⟩,
    ⟨(some 20), .call 10 [.c (.int .i64 77)], (some (14, true)), false, none, 0⟩,
    ⟨(some 21), .eqS false 3 [(0, .int .i64), (1, .str), (2, .int .i64)] (.t 19) (.t 20), (some (14, true)), false, none, 0⟩,
    ⟨(some 22), .pick (.t 14) (.t 21) (.c (.bool false)), none, false, none, 0⟩,
    ⟨(some 23), .mov (.t 22), none, false, none, 0⟩,
    ⟨(some 24), .mov (.t 5), (some (23, true)), false, none, 0⟩,
    ⟨(some 25), .mov (.t 1), (some (23, true)), false, none, 0⟩,
    ⟨(some 26), .len false (.t 25), (some (23, true)), false, none, 0⟩,
    ⟨(some 27), .bin .add (.t 26) (.c (.int .i64 1)), (some (23, true)), false, none, 0⟩,
    ⟨(some 28), .indexA 3 (.t 24) (.t 27), (some (23, true)), false, none, 0⟩,
    ⟨(some 29), .load true 3 (.t 28), (some (23, true)), false, none, 0⟩,
    ⟨(some 30), .call 11 [.c (.int .i64 77)], (some (23, true)), false, none, 0⟩,
    ⟨(some 31), .eqS false 3 [(0, .int .i64), (1, .str), (2, .int .i64)] (.t 29) (.t 30), (some (23, true)), false, none, 0⟩,
    ⟨(some 32), .pick (.t 23) (.t 31) (.c (.bool false)), none, false, none, 0⟩,
    ⟨(some 4), .mov (.t 32), none, false, none, 0⟩])
  F9_C0))
def F9 : AFunc := ⟨2, 33, [.tmp 4], F9_C1⟩
def Y9 : List VT := [.v (.one .sl), .v (.one .sl), .v (.one .any), .v (.one .any), .v (.one .bool), .v (.one .sl), .v (.one .sl), .v (.one .sl), .v (.one (.int .i64)), .v (.one (.int .i64)), .v (.one .sl), .v (.one .sl), .v (.one .sl), .v (.one .bool), .v (.one .bool), .v (.one .sl), .v (.one .sl), .v (.one (.int .i64)), .v (.one .any), .v (.agg [.int .i64, .str, .int .i64]), .v (.agg [.int .i64, .str, .int .i64]), .v (.one .bool), .v (.one .bool), .v (.one .bool), .v (.one .sl), .v (.one .sl), .v (.one (.int .i64)), .v (.one (.int .i64)), .v (.one .any), .v (.agg [.int .i64, .str, .int .i64]), .v (.agg [.int .i64, .str, .int .i64]), .v (.one .bool), .v (.one .bool)]
noncomputable def g9_J0 (T : Nat → Option AFn) (hs : Heap → Heap → Bool) (x4 : Bool) (H : Heap) : Option (Value × Heap) := joinK T hs F9_C0 [.no, .no, .no, .no, (.v (.bool x4)), .no, .no, .no, .no, .no, .no, .no, .no, .no, .no, .no, .no, .no, .no, .no, .no, .no, .no, .no, .no, .no, .no, .no, .no, .no, .no, .no, .no] H (kontF F9)
noncomputable def s9_J0 (T : Nat → Option AFn) (hs : Heap → Heap → Bool) (x4 : Bool) (H : Heap) : Option (Value × Heap) :=
  some ((.bool x4), H)
theorem g9_J0_step (T : Nat → Option AFn) (hs : Heap → Heap → Bool) (x4 : Bool) (H : Heap) : runK T hs Y9 F9_C0 [.no, .no, .no, .no, (.v (.bool x4)), .no, .no, .no, .no, .no, .no, .no, .no, .no, .no, .no, .no, .no, .no, .no, .no, .no, .no, .no, .no, .no, .no, .no, .no, .no, .no, .no, .no] H (kontF F9) = s9_J0 T hs x4 H := by kernel_rfl
theorem g9_J0_ok {T : Nat → Option AFn} {hs : Heap → Heap → Bool} {x4 : Bool} {H : Heap} {r : Value × Heap} (h : s9_J0 T hs x4 H = some r) : g9_J0 T hs x4 H = some r := join_intro ((g9_J0_step T hs x4 H).trans h)
theorem g9_J0_ret {T : Nat → Option AFn} {hs : Heap → Heap → Bool} {x4 : Bool} {H : Heap} {Q : Value → Heap → Prop} (h : Ret (s9_J0 T hs x4 H) Q) : Ret (g9_J0 T hs x4 H) Q := h.via fun _ q => g9_J0_ok q
noncomputable def s9 (T : Nat → Option AFn) (hs : Heap → Heap → Bool) (a0 : Option Addr) (n0 : Nat) (c0 : Nat) (a1 : Option Addr) (n1 : Nat) (c1 : Nat) (H : Heap) : Option (Value × Heap) :=
  (slA H 3 (.slice a0 n0 c0) none (some (IntKind.wrap .i64 (((n1 : Nat) : Int) + 2)))).bind fun s10 =>
  ifSl s10 fun a10 n10 c10 =>
  (CT T hs 25 [(.slice a0 n0 c0), (.slice a1 n1 c1)] H).bind fun p13 =>
  cond (hs H p13.2)
  (ifBool p13.1 fun x13 =>
  cond x13
  ((ixA p13.2 3 (.slice a10 n10 c10) ((n1 : Nat) : Int)).bind fun q18 =>
  (rdHp p13.2 q18.1 q18.2.1 q18.2.2 3 3).bind fun w19 =>
  ifCons w19 fun v19 l19 =>
  ifInt .i64 v19 fun x19 =>
  ifCons l19 fun v19_1 l19_1 =>
  ifStr v19_1 fun x19_1 =>
  ifCons l19_1 fun v19_2 l19_2 =>
  ifInt .i64 v19_2 fun x19_2 =>
  ifNil l19_2 <|
  (CT T hs 10 [(.int .i64 77)] p13.2).bind fun p20 =>
  cond (hs p13.2 p20.2)
  (ifAgg p20.1 fun l20 =>
  ifCons l20 fun v20 l20_1 =>
  ifInt .i64 v20 fun x20 =>
  ifCons l20_1 fun v20_1 l20_2 =>
  ifStr v20_1 fun x20_1 =>
  ifCons l20_2 fun v20_2 l20_3 =>
  ifInt .i64 v20_2 fun x20_2 =>
  ifNil l20_3 <|
  cond (((x19 : Int) == x20) && ((x19_1.toList == x20_1.toList) && (((x19_2 : Int) == x20_2) && true)))
  ((ixA p20.2 3 (.slice a10 n10 c10) (IntKind.wrap .i64 (((n1 : Nat) : Int) + 1))).bind fun q28 =>
  (rdHp p20.2 q28.1 q28.2.1 q28.2.2 3 3).bind fun w29 =>
  ifCons w29 fun v29 l29 =>
  ifInt .i64 v29 fun x29 =>
  ifCons l29 fun v29_1 l29_1 =>
  ifStr v29_1 fun x29_1 =>
  ifCons l29_1 fun v29_2 l29_2 =>
  ifInt .i64 v29_2 fun x29_2 =>
  ifNil l29_2 <|
  (CT T hs 11 [(.int .i64 77)] p20.2).bind fun p30 =>
  cond (hs p20.2 p30.2)
  (ifAgg p30.1 fun l30 =>
  ifCons l30 fun v30 l30_1 =>
  ifInt .i64 v30 fun x30 =>
  ifCons l30_1 fun v30_1 l30_2 =>
  ifStr v30_1 fun x30_1 =>
  ifCons l30_2 fun v30_2 l30_3 =>
  ifInt .i64 v30_2 fun x30_2 =>
  ifNil l30_3 <|
  g9_J0 T hs (((x29 : Int) == x30) && ((x29_1.toList == x30_1.toList) && (((x29_2 : Int) == x30_2) && true))) p30.2)
  none)
  (g9_J0 T hs false p20.2))
  none)
  (g9_J0 T hs false p13.2))
  none
theorem s9_run (T : Nat → Option AFn) (hs : Heap → Heap → Bool) (a0 : Option Addr) (n0 : Nat) (c0 : Nat) (a1 : Option Addr) (n1 : Nat) (c1 : Nat) (H : Heap) : runFK T hs Y9 F9 [(.slice a0 n0 c0), (.slice a1 n1 c1)] H = s9 T hs a0 n0 c0 a1 n1 c1 H := by kernel_rfl
theorem g9_ok {T : Nat → Option AFn} {hs : Heap → Heap → Bool} (hT : T 9 = some (.code F9)) {a0 : Option Addr} {n0 : Nat} {c0 : Nat} {a1 : Option Addr} {n1 : Nat} {c1 : Nat} {H : Heap} {r : Value × Heap} (h : s9 T hs a0 n0 c0 a1 n1 c1 H = some r) : CT T hs 9 [(.slice a0 n0 c0), (.slice a1 n1 c1)] H = some r := runFK_ok hT ((s9_run T hs a0 n0 c0 a1 n1 c1 H).trans h)
theorem chk9 : chkFunc Tryd.prog 9 F9 = true := by kernel_rfl
/- dowel/dowelbook.itemsMark -/
def F10_C0 : ACode :=
  .seq (.reg [⟨(some 2), .allocL [.int .i64 0, .string ⟨#[]⟩, .int .i64 0], none, false, none, 0⟩])
  (.seq (.reg [⟨(some 3), .mov (.t 0), none, false, none, 0⟩,
    ⟨(some 4), .bin .sub (.c (.int .i64 (-1))) (.t 3), none, false, none, 0⟩,
    ⟨(some 5), .build [.int .i64 0, .string ⟨#[]⟩, .int .i64 0] [(2, 1, .t 4)], none, false, none, 0⟩,
    ⟨none, .store 3 (.t 2) (.t 5), none, false, none, 0⟩])
  (.ret))
def F10 : AFunc := ⟨1, 6, [.cell 2 true 3], F10_C0⟩
def Y10 : List VT := [.v (.one (.int .i64)), .v (.one .any), .v (.one .any), .v (.one (.int .i64)), .v (.one (.int .i64)), .v (.agg [.int .i64, .str, .int .i64])]
noncomputable def s10 (T : Nat → Option AFn) (hs : Heap → Heap → Bool) (x0 : Int) (H : Heap) : Option (Value × Heap) :=
  some ((.agg #[(.int .i64 0), (.string (⟨#[]⟩ : ByteArray)), (.int .i64 (IntKind.wrap .i64 ((-1) - x0)))]), H)
theorem s10_run (T : Nat → Option AFn) (hs : Heap → Heap → Bool) (x0 : Int) (H : Heap) : runFK T hs Y10 F10 [(.int .i64 x0)] H = s10 T hs x0 H := by kernel_rfl
theorem g10_ok {T : Nat → Option AFn} {hs : Heap → Heap → Bool} (hT : T 10 = some (.code F10)) {x0 : Int} {H : Heap} {r : Value × Heap} (h : s10 T hs x0 H = some r) : CT T hs 10 [(.int .i64 x0)] H = some r := runFK_ok hT ((s10_run T hs x0 H).trans h)
theorem chk10 : chkFunc Tryd.prog 10 F10 = true := by kernel_rfl
/- dowel/dowelbook.itemsMore -/
def F11_C0 : ACode :=
  .seq (.reg [⟨(some 2), .allocL [.int .i64 0, .string ⟨#[]⟩, .int .i64 0], none, false, none, 0⟩])
  (.seq (.reg [⟨(some 3), .mov (.t 0), none, false, none, 0⟩,
    ⟨(some 4), .bin .sub (.c (.int .i64 (-100000))) (.t 3), none, false, none, 0⟩,
    ⟨(some 5), .build [.int .i64 0, .string ⟨#[]⟩, .int .i64 0] [(2, 1, .t 4)], none, false, none, 0⟩,
    ⟨none, .store 3 (.t 2) (.t 5), none, false, none, 0⟩])
  (.ret))
def F11 : AFunc := ⟨1, 6, [.cell 2 true 3], F11_C0⟩
def Y11 : List VT := [.v (.one (.int .i64)), .v (.one .any), .v (.one .any), .v (.one (.int .i64)), .v (.one (.int .i64)), .v (.agg [.int .i64, .str, .int .i64])]
noncomputable def s11 (T : Nat → Option AFn) (hs : Heap → Heap → Bool) (x0 : Int) (H : Heap) : Option (Value × Heap) :=
  some ((.agg #[(.int .i64 0), (.string (⟨#[]⟩ : ByteArray)), (.int .i64 (IntKind.wrap .i64 ((-100000) - x0)))]), H)
theorem s11_run (T : Nat → Option AFn) (hs : Heap → Heap → Bool) (x0 : Int) (H : Heap) : runFK T hs Y11 F11 [(.int .i64 x0)] H = s11 T hs x0 H := by kernel_rfl
theorem g11_ok {T : Nat → Option AFn} {hs : Heap → Heap → Bool} (hT : T 11 = some (.code F11)) {x0 : Int} {H : Heap} {r : Value × Heap} (h : s11 T hs x0 H = some r) : CT T hs 11 [(.int .i64 x0)] H = some r := runFK_ok hT ((s11_run T hs x0 H).trans h)
theorem chk11 : chkFunc Tryd.prog 11 F11 = true := by kernel_rfl
/- dowel/worth.bare -/
def F12_C0 : ACode :=
  .ret
def F12_C1 : ACode :=
  .seqj [2, 3] (.regD [⟨(some 28), .fieldA 0 (.t 1), none, false, none, 0⟩,
    ⟨(some 29), .load false 1 (.t 28), none, false, (some 1), 0⟩,
    ⟨(some 30), .build [.int .i64 0, .int .i64 0] [(0, 1, .t 29)], none, false, none, 0⟩,
    ⟨(some 31), .mov (.t 4), none, false, none, 0⟩,
    ⟨(some 32), .mov (.t 31), none, false, none, 0⟩,
    ⟨(some 33), .fieldA 2 (.t 1), (some (32, true)), false, none, 0⟩,
    ⟨(some 34), .load false 1 (.t 33), (some (32, true)), false, (some 1), 0⟩,
    ⟨(some 35), .bin .eql (.t 34) (.c (.int .i64 0)), (some (32, true)), false, none, 0⟩,
    ⟨(some 36), .pick (.t 32) (.t 35) (.c (.bool false)), none, false, none, 0⟩,
    ⟨none, .store 2 (.t 2) (.t 30), none, false, (some 2), 0⟩,
    ⟨(some 3), .mov (.t 36), none, false, none, 0⟩])
  F12_C0
def F12_C2 : ACode :=
  .seq (.reg [⟨(some 1), .boxL 3 (.t 0), none, false, none, 0⟩,
    ⟨(some 2), .allocL [.int .i64 0, .int .i64 0], none, false, none, 0⟩,
    ⟨(some 3), .mov (.c (.bool false)), none, false, none, 0⟩])
  (.seq (.reg [⟨(some 4), .mov (.c (.bool false)), none, false, none, 0⟩])
  (.seqj [1, 2, 4] (.seq (.reg [⟨(some 5), .fieldA 0 (.t 1), none, false, none, 0⟩,
    ⟨(some 6), .load false 1 (.t 5), none, false, none, 0⟩])
  (.block 0 (.seq (.reg [⟨(some 8), .bin .eql (.t 6) (.c (.int .i64 1)), none, false, none, 0⟩,
    ⟨(some 7), .mov (.t 8), none, false, none, 0⟩])
  (.cond (.t 7)
  (.reg [⟨(some 9), .fieldA 1 (.t 1), none, false, none, 0⟩,
    ⟨(some 10), .load false 1 (.t 9), none, false, none, 0⟩,
    ⟨(some 11), .call 26 [.t 10], none, false, none, 0⟩,
    ⟨(some 4), .mov (.t 11), none, false, none, 0⟩])
  (.seq (.reg [⟨(some 13), .bin .eql (.t 6) (.c (.int .i64 2)), none, false, none, 0⟩,
    ⟨(some 12), .mov (.t 13), none, false, none, 0⟩])
  (.cond (.t 12)
  (.reg [⟨(some 14), .fieldA 1 (.t 1), none, false, none, 0⟩,
    ⟨(some 15), .load false 1 (.t 14), none, false, none, 0⟩,
    ⟨(some 16), .len true (.t 15), none, false, none, 0⟩,
    ⟨(some 17), .bin .leq (.t 16) (.c (.int .i64 65536)), none, false, none, 0⟩,
    ⟨(some 4), .mov (.t 17), none, false, none, 0⟩])
  (.seq (.reg [⟨(some 19), .bin .eql (.t 6) (.c (.int .i64 3)), none, false, none, 0⟩,
    ⟨(some 18), .mov (.t 19), none, false, none, 0⟩])
  (.cond (.t 18)
  (.reg [⟨(some 20), .fieldA 1 (.t 1), none, false, none, 0⟩,
    ⟨(some 21), .load false 1 (.t 20), none, false, none, 0⟩,
    ⟨(some 22), .bin .eql (.t 21) (.c (.string ⟨#[116, 114, 117, 101]⟩)), none, false, none, 0⟩,
    ⟨(some 23), .mov (.t 22), none, false, none, 0⟩,
    ⟨(some 24), .fieldA 1 (.t 1), (some (23, false)), false, none, 0⟩,
    ⟨(some 25), .load false 1 (.t 24), (some (23, false)), false, none, 0⟩,
    ⟨(some 26), .bin .eql (.t 25) (.c (.string ⟨#[102, 97, 108, 115, 101]⟩)), (some (23, false)), false, none, 0⟩,
    ⟨(some 27), .pick (.t 23) (.c (.bool true)) (.t 26), none, false, none, 0⟩,
    ⟨(some 4), .mov (.t 27), none, false, none, 0⟩])
  (.skip)))))))))
  F12_C1))
def F12 : AFunc := ⟨1, 37, [.cell 2 true 2, .tmp 3], F12_C2⟩
def Y12 : List VT := [.v (.agg [.int .i64, .str, .int .i64]), .v (.one .any), .v (.one .any), .v (.one .bool), .v (.one .bool), .v (.one .any), .v (.one (.int .i64)), .v (.one .bool), .v (.one .bool), .v (.one .any), .v (.one .str), .v (.one .bool), .v (.one .bool), .v (.one .bool), .v (.one .any), .v (.one .str), .v (.one (.int .i64)), .v (.one .bool), .v (.one .bool), .v (.one .bool), .v (.one .any), .v (.one .str), .v (.one .bool), .v (.one .bool), .v (.one .any), .v (.one .str), .v (.one .bool), .v (.one .bool), .v (.one .any), .v (.one (.int .i64)), .v (.agg [.int .i64, .int .i64]), .v (.one .bool), .v (.one .bool), .v (.one .any), .v (.one (.int .i64)), .v (.one .bool), .v (.one .bool)]
noncomputable def g12_J1 (T : Nat → Option AFn) (hs : Heap → Heap → Bool) (x2 : Int) (x2_1 : Int) (x3 : Bool) (H : Heap) : Option (Value × Heap) := joinK T hs F12_C0 [.no, .no, (.loc [(.int .i64 x2), (.int .i64 x2_1)]), (.v (.bool x3)), .no, .no, .no, .no, .no, .no, .no, .no, .no, .no, .no, .no, .no, .no, .no, .no, .no, .no, .no, .no, .no, .no, .no, .no, .no, .no, .no, .no, .no, .no, .no, .no, .no] H (kontF F12)
noncomputable def g12_J0 (T : Nat → Option AFn) (hs : Heap → Heap → Bool) (x1 : Int) (x1_1 : ByteArray) (x1_2 : Int) (x2 : Int) (x2_4 : Int) (x4 : Bool) (H : Heap) : Option (Value × Heap) := joinK T hs F12_C1 [.no, (.loc [(.int .i64 x1), (.string x1_1), (.int .i64 x1_2)]), (.loc [(.int .i64 x2), (.int .i64 x2_4)]), .no, (.v (.bool x4)), .no, .no, .no, .no, .no, .no, .no, .no, .no, .no, .no, .no, .no, .no, .no, .no, .no, .no, .no, .no, .no, .no, .no, .no, .no, .no, .no, .no, .no, .no, .no, .no] H (kontF F12)
noncomputable def s12_J0 (T : Nat → Option AFn) (hs : Heap → Heap → Bool) (x1 : Int) (x1_1 : ByteArray) (x1_2 : Int) (x2 : Int) (x2_4 : Int) (x4 : Bool) (H : Heap) : Option (Value × Heap) :=
  cond x4
  (g12_J1 T hs x1 0 ((x1_2 : Int) == 0) H)
  (g12_J1 T hs x1 0 false H)
theorem g12_J0_step (T : Nat → Option AFn) (hs : Heap → Heap → Bool) (x1 : Int) (x1_1 : ByteArray) (x1_2 : Int) (x2 : Int) (x2_4 : Int) (x4 : Bool) (H : Heap) : runK T hs Y12 F12_C1 [.no, (.loc [(.int .i64 x1), (.string x1_1), (.int .i64 x1_2)]), (.loc [(.int .i64 x2), (.int .i64 x2_4)]), .no, (.v (.bool x4)), .no, .no, .no, .no, .no, .no, .no, .no, .no, .no, .no, .no, .no, .no, .no, .no, .no, .no, .no, .no, .no, .no, .no, .no, .no, .no, .no, .no, .no, .no, .no, .no] H (kontF F12) = s12_J0 T hs x1 x1_1 x1_2 x2 x2_4 x4 H := by kernel_rfl
theorem g12_J0_ok {T : Nat → Option AFn} {hs : Heap → Heap → Bool} {x1 : Int} {x1_1 : ByteArray} {x1_2 : Int} {x2 : Int} {x2_4 : Int} {x4 : Bool} {H : Heap} {r : Value × Heap} (h : s12_J0 T hs x1 x1_1 x1_2 x2 x2_4 x4 H = some r) : g12_J0 T hs x1 x1_1 x1_2 x2 x2_4 x4 H = some r := join_intro ((g12_J0_step T hs x1 x1_1 x1_2 x2 x2_4 x4 H).trans h)
theorem g12_J0_ret {T : Nat → Option AFn} {hs : Heap → Heap → Bool} {x1 : Int} {x1_1 : ByteArray} {x1_2 : Int} {x2 : Int} {x2_4 : Int} {x4 : Bool} {H : Heap} {Q : Value → Heap → Prop} (h : Ret (s12_J0 T hs x1 x1_1 x1_2 x2 x2_4 x4 H) Q) : Ret (g12_J0 T hs x1 x1_1 x1_2 x2 x2_4 x4 H) Q := h.via fun _ q => g12_J0_ok q
noncomputable def s12_J1 (T : Nat → Option AFn) (hs : Heap → Heap → Bool) (x2 : Int) (x2_1 : Int) (x3 : Bool) (H : Heap) : Option (Value × Heap) :=
  some (.tuple #[(.agg #[(.int .i64 x2), (.int .i64 x2_1)]), (.bool x3)], H)
theorem g12_J1_step (T : Nat → Option AFn) (hs : Heap → Heap → Bool) (x2 : Int) (x2_1 : Int) (x3 : Bool) (H : Heap) : runK T hs Y12 F12_C0 [.no, .no, (.loc [(.int .i64 x2), (.int .i64 x2_1)]), (.v (.bool x3)), .no, .no, .no, .no, .no, .no, .no, .no, .no, .no, .no, .no, .no, .no, .no, .no, .no, .no, .no, .no, .no, .no, .no, .no, .no, .no, .no, .no, .no, .no, .no, .no, .no] H (kontF F12) = s12_J1 T hs x2 x2_1 x3 H := by kernel_rfl
theorem g12_J1_ok {T : Nat → Option AFn} {hs : Heap → Heap → Bool} {x2 : Int} {x2_1 : Int} {x3 : Bool} {H : Heap} {r : Value × Heap} (h : s12_J1 T hs x2 x2_1 x3 H = some r) : g12_J1 T hs x2 x2_1 x3 H = some r := join_intro ((g12_J1_step T hs x2 x2_1 x3 H).trans h)
theorem g12_J1_ret {T : Nat → Option AFn} {hs : Heap → Heap → Bool} {x2 : Int} {x2_1 : Int} {x3 : Bool} {H : Heap} {Q : Value → Heap → Prop} (h : Ret (s12_J1 T hs x2 x2_1 x3 H) Q) : Ret (g12_J1 T hs x2 x2_1 x3 H) Q := h.via fun _ q => g12_J1_ok q
noncomputable def s12 (T : Nat → Option AFn) (hs : Heap → Heap → Bool) (x0_0 : Int) (x0_1 : ByteArray) (x0_2 : Int) (H : Heap) : Option (Value × Heap) :=
  cond ((x0_0 : Int) == 1)
  ((CT T hs 26 [(.string x0_1)] H).bind fun p11 =>
  ifBool p11.1 fun x11 =>
  g12_J0 T hs x0_0 x0_1 x0_2 0 0 x11 p11.2)
  (cond ((x0_0 : Int) == 2)
  (g12_J0 T hs x0_0 x0_1 x0_2 0 0 (decide (((x0_1.size : Int) : Int) ≤ 65536)) H)
  (cond ((x0_0 : Int) == 3)
  (cond ((x0_1.toList == (⟨#[116, 114, 117, 101]⟩ : ByteArray).toList))
  (g12_J0 T hs x0_0 x0_1 x0_2 0 0 true H)
  (g12_J0 T hs x0_0 x0_1 x0_2 0 0 ((x0_1.toList == (⟨#[102, 97, 108, 115, 101]⟩ : ByteArray).toList)) H))
  (g12_J0 T hs x0_0 x0_1 x0_2 0 0 false H)))
theorem s12_run (T : Nat → Option AFn) (hs : Heap → Heap → Bool) (x0_0 : Int) (x0_1 : ByteArray) (x0_2 : Int) (H : Heap) : runFK T hs Y12 F12 [(.agg #[(.int .i64 x0_0), (.string x0_1), (.int .i64 x0_2)])] H = s12 T hs x0_0 x0_1 x0_2 H := by kernel_rfl
theorem g12_ok {T : Nat → Option AFn} {hs : Heap → Heap → Bool} (hT : T 12 = some (.code F12)) {x0_0 : Int} {x0_1 : ByteArray} {x0_2 : Int} {H : Heap} {r : Value × Heap} (h : s12 T hs x0_0 x0_1 x0_2 H = some r) : CT T hs 12 [(.agg #[(.int .i64 x0_0), (.string x0_1), (.int .i64 x0_2)])] H = some r := runFK_ok hT ((s12_run T hs x0_0 x0_1 x0_2 H).trans h)
theorem chk12 : chkFunc Tryd.prog 12 F12 = true := by kernel_rfl
/- dowel/worth.both -/
def F13_C0 : ACode :=
  .cond (.t 6)
  (.seq (.reg [⟨(some 15), .fieldA 1 (.t 2), none, false, none, 0⟩,
    ⟨(some 16), .load false 1 (.t 15), none, false, none, 0⟩,
    ⟨(some 17), .fieldA 1 (.t 3), none, false, none, 0⟩,
    ⟨(some 18), .load false 1 (.t 17), none, false, none, 0⟩,
    ⟨(some 19), .mx (.t 16) (.t 18), none, false, none, 0⟩,
    ⟨(some 20), .build [.int .i64 0, .int .i64 0] [(1, 1, .t 19)], none, false, none, 0⟩,
    ⟨none, .store 2 (.t 4) (.t 20), none, false, none, 0⟩,
    ⟨(some 5), .mov (.c (.bool true)), none, false, none, 0⟩])
  (.ret))
  (.seq (.reg [⟨(some 22), .fieldA 0 (.t 2), none, false, none, 0⟩,
    ⟨(some 23), .load false 1 (.t 22), none, false, none, 0⟩,
    ⟨(some 24), .bin .eql (.t 23) (.c (.int .i64 0)), none, false, none, 0⟩,
    ⟨(some 21), .mov (.t 24), none, false, none, 0⟩])
  (.cond (.t 21)
  (.seq (.regD [⟨(some 25), .load true 2 (.t 3), none, false, (some 3), 0⟩,
    ⟨(some 26), .fieldA 1 (.t 2), none, false, none, 0⟩,
    ⟨(some 27), .load false 1 (.t 26), none, false, (some 2), 0⟩,
    ⟨(some 28), .fieldA 1 (.t 3), none, false, none, 0⟩,
    ⟨(some 29), .load false 1 (.t 28), none, false, (some 3), 0⟩,
    ⟨(some 30), .bin .leq (.t 27) (.t 29), none, false, none, 0⟩,
    ⟨none, .store 2 (.t 4) (.t 25), none, false, (some 4), 0⟩,
    ⟨(some 5), .mov (.t 30), none, false, none, 0⟩])
  (.ret))
  (.seq (.reg [⟨(some 32), .fieldA 0 (.t 3), none, false, none, 0⟩,
    ⟨(some 33), .load false 1 (.t 32), none, false, none, 0⟩,
    ⟨(some 34), .bin .eql (.t 33) (.c (.int .i64 0)), none, false, none, 0⟩,
    ⟨(some 31), .mov (.t 34), none, false, none, 0⟩])
  (.cond (.t 31)
  (.seq (.regD [⟨(some 35), .load true 2 (.t 2), none, false, (some 2), 0⟩,
    ⟨(some 36), .fieldA 1 (.t 3), none, false, none, 0⟩,
    ⟨(some 37), .load false 1 (.t 36), none, false, (some 3), 0⟩,
    ⟨(some 38), .fieldA 1 (.t 2), none, false, none, 0⟩,
    ⟨(some 39), .load false 1 (.t 38), none, false, (some 2), 0⟩,
    ⟨(some 40), .bin .leq (.t 37) (.t 39), none, false, none, 0⟩,
    ⟨none, .store 2 (.t 4) (.t 35), none, false, (some 4), 0⟩,
    ⟨(some 5), .mov (.t 40), none, false, none, 0⟩])
  (.ret))
  (.skip)))))
def F13_C1 : ACode :=
  .seq (.reg [⟨(some 2), .boxL 2 (.t 0), none, false, none, 0⟩,
    ⟨(some 3), .boxL 2 (.t 1), none, false, none, 0⟩,
    ⟨(some 4), .allocL [.int .i64 0, .int .i64 0], none, false, none, 0⟩,
    ⟨(some 5), .mov (.c (.bool false)), none, false, none, 0⟩])
  (.seq (.block 0 (.seqj [2, 3, 4, 6] (.reg [⟨(some 7), .fieldA 0 (.t 2), none, false, none, 0⟩,
    ⟨(some 8), .load false 1 (.t 7), none, false, none, 0⟩,
    ⟨(some 9), .bin .eql (.t 8) (.c (.int .i64 0)), none, false, none, 0⟩,
    ⟨(some 10), .mov (.t 9), none, false, none, 0⟩,
    ⟨(some 11), .fieldA 0 (.t 3), (some (10, true)), false, none, 0⟩,
    ⟨(some 12), .load false 1 (.t 11), (some (10, true)), false, none, 0⟩,
    ⟨(some 13), .bin .eql (.t 12) (.c (.int .i64 0)), (some (10, true)), false, none, 0⟩,
    ⟨(some 14), .pick (.t 10) (.t 13) (.c (.bool false)), none, false, none, 0⟩,
    ⟨(some 6), .mov (.t 14), none, false, none, 0⟩])
  F13_C0))
  (.seq (.regD [⟨(some 41), .load true 2 (.t 2), none, false, (some 2), 0⟩,
    ⟨(some 42), .load true 2 (.t 2), none, false, (some 2), 0⟩,
    ⟨(some 43), .load true 2 (.t 3), none, false, (some 3), 0⟩,
    ⟨(some 44), .eqS false 2 [(0, .int .i64), (1, .int .i64)] (.t 42) (.t 43), none, false, none, 0⟩,
    ⟨none, .store 2 (.t 4) (.t 41), none, false, (some 4), 0⟩,
    ⟨(some 5), .mov (.t 44), none, false, none, 0⟩])
  (.ret)))
def F13_C2 : ACode :=
  .seq (.regD [⟨(some 41), .load true 2 (.t 2), none, false, (some 2), 0⟩,
    ⟨(some 42), .load true 2 (.t 2), none, false, (some 2), 0⟩,
    ⟨(some 43), .load true 2 (.t 3), none, false, (some 3), 0⟩,
    ⟨(some 44), .eqS false 2 [(0, .int .i64), (1, .int .i64)] (.t 42) (.t 43), none, false, none, 0⟩,
    ⟨none, .store 2 (.t 4) (.t 41), none, false, (some 4), 0⟩,
    ⟨(some 5), .mov (.t 44), none, false, none, 0⟩])
  (.ret)
def F13 : AFunc := ⟨2, 45, [.cell 4 true 2, .tmp 5], F13_C1⟩
def Y13 : List VT := [.v (.agg [.int .i64, .int .i64]), .v (.agg [.int .i64, .int .i64]), .v (.one .any), .v (.one .any), .v (.one .any), .v (.one .bool), .v (.one .bool), .v (.one .any), .v (.one (.int .i64)), .v (.one .bool), .v (.one .bool), .v (.one .any), .v (.one (.int .i64)), .v (.one .bool), .v (.one .bool), .v (.one .any), .v (.one (.int .i64)), .v (.one .any), .v (.one (.int .i64)), .v (.one (.int .i64)), .v (.agg [.int .i64, .int .i64]), .v (.one .bool), .v (.one .any), .v (.one (.int .i64)), .v (.one .bool), .v (.agg [.int .i64, .int .i64]), .v (.one .any), .v (.one (.int .i64)), .v (.one .any), .v (.one (.int .i64)), .v (.one .bool), .v (.one .bool), .v (.one .any), .v (.one (.int .i64)), .v (.one .bool), .v (.agg [.int .i64, .int .i64]), .v (.one .any), .v (.one (.int .i64)), .v (.one .any), .v (.one (.int .i64)), .v (.one .bool), .v (.agg [.int .i64, .int .i64]), .v (.agg [.int .i64, .int .i64]), .v (.agg [.int .i64, .int .i64]), .v (.one .bool)]
noncomputable def F13_K0 (T : Nat → Option AFn) (hs : Heap → Heap → Bool) : Kont (Value × Heap) := { (kontF F13) with nrm := fun fr H => runK T hs Y13 F13_C2 fr H (kontF F13) }
noncomputable def F13_K1 (T : Nat → Option AFn) (hs : Heap → Heap → Bool) : Kont (Value × Heap) := { (F13_K0 T hs) with ex := fun i fr H => if i = 0 then (F13_K0 T hs).nrm fr H else (F13_K0 T hs).ex i fr H }
noncomputable def g13_J0 (T : Nat → Option AFn) (hs : Heap → Heap → Bool) (x2 : Int) (x2_1 : Int) (x3 : Int) (x3_3 : Int) (x4 : Int) (x4_5 : Int) (x6 : Bool) (H : Heap) : Option (Value × Heap) := joinK T hs F13_C0 [.no, .no, (.loc [(.int .i64 x2), (.int .i64 x2_1)]), (.loc [(.int .i64 x3), (.int .i64 x3_3)]), (.loc [(.int .i64 x4), (.int .i64 x4_5)]), .no, (.v (.bool x6)), .no, .no, .no, .no, .no, .no, .no, .no, .no, .no, .no, .no, .no, .no, .no, .no, .no, .no, .no, .no, .no, .no, .no, .no, .no, .no, .no, .no, .no, .no, .no, .no, .no, .no, .no, .no, .no, .no] H (F13_K1 T hs)
noncomputable def s13_J0 (T : Nat → Option AFn) (hs : Heap → Heap → Bool) (x2 : Int) (x2_1 : Int) (x3 : Int) (x3_3 : Int) (x4 : Int) (x4_5 : Int) (x6 : Bool) (H : Heap) : Option (Value × Heap) :=
  cond x6
  (some (.tuple #[(.agg #[(.int .i64 0), (.int .i64 (if (x3_3 : Int) > x2_1 then x3_3 else x2_1))]), (.bool true)], H))
  (cond ((x2 : Int) == 0)
  (some (.tuple #[(.agg #[(.int .i64 x3), (.int .i64 x3_3)]), (.bool (decide ((x2_1 : Int) ≤ x3_3)))], H))
  (cond ((x3 : Int) == 0)
  (some (.tuple #[(.agg #[(.int .i64 x2), (.int .i64 x2_1)]), (.bool (decide ((x3_3 : Int) ≤ x2_1)))], H))
  (some (.tuple #[(.agg #[(.int .i64 x2), (.int .i64 x2_1)]), (.bool (((x2 : Int) == x3) && (((x2_1 : Int) == x3_3) && true)))], H))))
theorem g13_J0_step (T : Nat → Option AFn) (hs : Heap → Heap → Bool) (x2 : Int) (x2_1 : Int) (x3 : Int) (x3_3 : Int) (x4 : Int) (x4_5 : Int) (x6 : Bool) (H : Heap) : runK T hs Y13 F13_C0 [.no, .no, (.loc [(.int .i64 x2), (.int .i64 x2_1)]), (.loc [(.int .i64 x3), (.int .i64 x3_3)]), (.loc [(.int .i64 x4), (.int .i64 x4_5)]), .no, (.v (.bool x6)), .no, .no, .no, .no, .no, .no, .no, .no, .no, .no, .no, .no, .no, .no, .no, .no, .no, .no, .no, .no, .no, .no, .no, .no, .no, .no, .no, .no, .no, .no, .no, .no, .no, .no, .no, .no, .no, .no] H (F13_K1 T hs) = s13_J0 T hs x2 x2_1 x3 x3_3 x4 x4_5 x6 H := by kernel_rfl
theorem g13_J0_ok {T : Nat → Option AFn} {hs : Heap → Heap → Bool} {x2 : Int} {x2_1 : Int} {x3 : Int} {x3_3 : Int} {x4 : Int} {x4_5 : Int} {x6 : Bool} {H : Heap} {r : Value × Heap} (h : s13_J0 T hs x2 x2_1 x3 x3_3 x4 x4_5 x6 H = some r) : g13_J0 T hs x2 x2_1 x3 x3_3 x4 x4_5 x6 H = some r := join_intro ((g13_J0_step T hs x2 x2_1 x3 x3_3 x4 x4_5 x6 H).trans h)
theorem g13_J0_ret {T : Nat → Option AFn} {hs : Heap → Heap → Bool} {x2 : Int} {x2_1 : Int} {x3 : Int} {x3_3 : Int} {x4 : Int} {x4_5 : Int} {x6 : Bool} {H : Heap} {Q : Value → Heap → Prop} (h : Ret (s13_J0 T hs x2 x2_1 x3 x3_3 x4 x4_5 x6 H) Q) : Ret (g13_J0 T hs x2 x2_1 x3 x3_3 x4 x4_5 x6 H) Q := h.via fun _ q => g13_J0_ok q
noncomputable def s13 (T : Nat → Option AFn) (hs : Heap → Heap → Bool) (x0_0 : Int) (x0_1 : Int) (x1_0 : Int) (x1_1 : Int) (H : Heap) : Option (Value × Heap) :=
  cond ((x0_0 : Int) == 0)
  (g13_J0 T hs x0_0 x0_1 x1_0 x1_1 0 0 ((x1_0 : Int) == 0) H)
  (g13_J0 T hs x0_0 x0_1 x1_0 x1_1 0 0 false H)
theorem s13_run (T : Nat → Option AFn) (hs : Heap → Heap → Bool) (x0_0 : Int) (x0_1 : Int) (x1_0 : Int) (x1_1 : Int) (H : Heap) : runFK T hs Y13 F13 [(.agg #[(.int .i64 x0_0), (.int .i64 x0_1)]), (.agg #[(.int .i64 x1_0), (.int .i64 x1_1)])] H = s13 T hs x0_0 x0_1 x1_0 x1_1 H := by kernel_rfl
theorem g13_ok {T : Nat → Option AFn} {hs : Heap → Heap → Bool} (hT : T 13 = some (.code F13)) {x0_0 : Int} {x0_1 : Int} {x1_0 : Int} {x1_1 : Int} {H : Heap} {r : Value × Heap} (h : s13 T hs x0_0 x0_1 x1_0 x1_1 H = some r) : CT T hs 13 [(.agg #[(.int .i64 x0_0), (.int .i64 x0_1)]), (.agg #[(.int .i64 x1_0), (.int .i64 x1_1)])] H = some r := runFK_ok hT ((s13_run T hs x0_0 x0_1 x1_0 x1_1 H).trans h)
theorem chk13 : chkFunc Tryd.prog 13 F13 = true := by kernel_rfl
/- dowel/dowelref26.item -/
def F14_C0 : ACode :=
  .ret
def F14_C1 : ACode :=
  .seq (.reg [⟨(some 1), .boxL 3 (.t 0), none, false, none, 0⟩,
    ⟨(some 2), .mov (.c (.bool false)), none, false, none, 0⟩])
  (.seq (.seq (.reg [⟨(some 3), .fieldA 0 (.t 1), none, false, none, 0⟩,
    ⟨(some 4), .load false 1 (.t 3), none, false, none, 0⟩])
  (.block 0 (.seq (.reg [⟨(some 6), .bin .eql (.t 4) (.c (.int .i64 0)), none, false, none, 0⟩,
    ⟨(some 5), .mov (.t 6), none, false, none, 0⟩])
  (.cond (.t 5)
  (.seqj [2] (.reg [⟨(some 7), .fieldA 1 (.t 1), none, false, none, 0⟩,
    ⟨(some 8), .load false 1 (.t 7), none, false, none, 0⟩,
    ⟨(some 9), .bin .eql (.t 8) (.c (.string ⟨#[]⟩)), none, false, none, 0⟩,
    ⟨(some 10), .mov (.t 9), none, false, none, 0⟩,
    ⟨(some 11), .fieldA 2 (.t 1), (some (10, true)), false, none, 0⟩,
    ⟨(some 12), .load false 1 (.t 11), (some (10, true)), false, none, 0⟩,
    ⟨(some 13), .bin .geq (.t 12) (.c (.int .i64 0)), (some (10, true)), false, none, 0⟩,
    ⟨(some 14), .pick (.t 10) (.t 13) (.c (.bool false)), none, false, none, 0⟩,
    ⟨(some 2), .mov (.t 14), none, false, none, 0⟩])
  F14_C0)
  (.seq (.reg [⟨(some 16), .bin .eql (.t 4) (.c (.int .i64 1)), none, false, none, 0⟩,
    ⟨(some 15), .mov (.t 16), none, false, none, 0⟩])
  (.cond (.t 15)
  (.seqj [2] (.reg [⟨(some 17), .fieldA 2 (.t 1), none, false, none, 0⟩,
    ⟨(some 18), .load false 1 (.t 17), none, false, none, 0⟩,
    ⟨(some 19), .bin .eql (.t 18) (.c (.int .i64 0)), none, false, none, 0⟩,
    ⟨(some 20), .mov (.t 19), none, false, none, 0⟩,
    ⟨(some 21), .fieldA 1 (.t 1), (some (20, true)), false, none, 0⟩,
    ⟨(some 22), .load false 1 (.t 21), (some (20, true)), false, none, 0⟩,
    ⟨(some 23), .call 27 [.t 22], (some (20, true)), false, none, 0⟩,
    ⟨(some 24), .pick (.t 20) (.t 23) (.c (.bool false)), none, false, none, 0⟩,
    ⟨(some 2), .mov (.t 24), none, false, none, 0⟩])
  F14_C0)
  (.seq (.reg [⟨(some 26), .bin .eql (.t 4) (.c (.int .i64 2)), none, false, none, 0⟩,
    ⟨(some 25), .mov (.t 26), none, false, none, 0⟩])
  (.cond (.t 25)
  (.seqj [2] (.reg [⟨(some 27), .fieldA 2 (.t 1), none, false, none, 0⟩,
    ⟨(some 28), .load false 1 (.t 27), none, false, none, 0⟩,
    ⟨(some 29), .bin .eql (.t 28) (.c (.int .i64 0)), none, false, none, 0⟩,
    ⟨(some 30), .mov (.t 29), none, false, none, 0⟩,
    ⟨(some 31), .fieldA 1 (.t 1), (some (30, true)), false, none, 0⟩,
    ⟨(some 32), .load false 1 (.t 31), (some (30, true)), false, none, 0⟩,
    ⟨(some 33), .len true (.t 32), (some (30, true)), false, none, 0⟩,
    ⟨(some 34), .bin .leq (.t 33) (.c (.int .i64 65536)), (some (30, true)), false, none, 0⟩,
    ⟨(some 35), .pick (.t 30) (.t 34) (.c (.bool false)), none, false, none, 0⟩,
    ⟨(some 2), .mov (.t 35), none, false, none, 0⟩])
  F14_C0)
  (.seq (.reg [⟨(some 37), .bin .eql (.t 4) (.c (.int .i64 3)), none, false, none, 0⟩,
    ⟨(some 36), .mov (.t 37), none, false, none, 0⟩])
  (.cond (.t 36)
  (.seqj [2] (.reg [⟨(some 38), .fieldA 2 (.t 1), none, false, none, 0⟩,
    ⟨(some 39), .load false 1 (.t 38), none, false, none, 0⟩,
    ⟨(some 40), .bin .eql (.t 39) (.c (.int .i64 0)), none, false, none, 0⟩,
    ⟨(some 41), .mov (.t 40), none, false, none, 0⟩,
    ⟨(some 42), .fieldA 1 (.t 1), (some (41, true)), false, none, 0⟩,
    ⟨(some 43), .load false 1 (.t 42), (some (41, true)), false, none, 0⟩,
    ⟨(some 44), .bin .eql (.t 43) (.c (.string ⟨#[116, 114, 117, 101]⟩)), (some (41, true)), false, none, 0⟩,
    ⟨(some 45), .mov (.t 44), (some (41, true)), false, none, 0⟩,
    ⟨(some 46), .fieldA 1 (.t 1), (some (45, false)), false, none, 0⟩,
    ⟨(some 47), .load false 1 (.t 46), (some (45, false)), false, none, 0⟩,
    ⟨(some 48), .bin .eql (.t 47) (.c (.string ⟨#[102, 97, 108, 115, 101]⟩)), (some (45, false)), false, none, 0⟩,
    ⟨(some 49), .pick (.t 45) (.c (.bool true)) (.t 48), (some (41, true)), false, none, 0⟩,
    ⟨(some 50), .pick (.t 41) (.t 49) (.c (.bool false)), none, false, none, 0⟩,
    ⟨(some 2), .mov (.t 50), none, false, none, 0⟩])
  F14_C0)
  (.skip)))))))))))
  (.seq (.reg [⟨(some 2), .mov (.c (.bool false)), none, false, none, 0⟩])
  (.ret)))
def F14_C2 : ACode :=
  .seq (.reg [⟨(some 2), .mov (.c (.bool false)), none, false, none, 0⟩])
  (.ret)
def F14 : AFunc := ⟨1, 51, [.tmp 2], F14_C1⟩
def Y14 : List VT := [.v (.agg [.int .i64, .str, .int .i64]), .v (.one .any), .v (.one .bool), .v (.one .any), .v (.one (.int .i64)), .v (.one .bool), .v (.one .bool), .v (.one .any), .v (.one .str), .v (.one .bool), .v (.one .bool), .v (.one .any), .v (.one (.int .i64)), .v (.one .bool), .v (.one .bool), .v (.one .bool), .v (.one .bool), .v (.one .any), .v (.one (.int .i64)), .v (.one .bool), .v (.one .bool), .v (.one .any), .v (.one .str), .v (.one .bool), .v (.one .bool), .v (.one .bool), .v (.one .bool), .v (.one .any), .v (.one (.int .i64)), .v (.one .bool), .v (.one .bool), .v (.one .any), .v (.one .str), .v (.one (.int .i64)), .v (.one .bool), .v (.one .bool), .v (.one .bool), .v (.one .bool), .v (.one .any), .v (.one (.int .i64)), .v (.one .bool), .v (.one .bool), .v (.one .any), .v (.one .str), .v (.one .bool), .v (.one .bool), .v (.one .any), .v (.one .str), .v (.one .bool), .v (.one .bool), .v (.one .bool)]
noncomputable def F14_K0 (T : Nat → Option AFn) (hs : Heap → Heap → Bool) : Kont (Value × Heap) := { (kontF F14) with nrm := fun fr H => runK T hs Y14 F14_C2 fr H (kontF F14) }
noncomputable def F14_K1 (T : Nat → Option AFn) (hs : Heap → Heap → Bool) : Kont (Value × Heap) := { (F14_K0 T hs) with ex := fun i fr H => if i = 0 then (F14_K0 T hs).nrm fr H else (F14_K0 T hs).ex i fr H }
noncomputable def g14_J0 (T : Nat → Option AFn) (hs : Heap → Heap → Bool) (x2 : Bool) (H : Heap) : Option (Value × Heap) := joinK T hs F14_C0 [.no, .no, (.v (.bool x2)), .no, .no, .no, .no, .no, .no, .no, .no, .no, .no, .no, .no, .no, .no, .no, .no, .no, .no, .no, .no, .no, .no, .no, .no, .no, .no, .no, .no, .no, .no, .no, .no, .no, .no, .no, .no, .no, .no, .no, .no, .no, .no, .no, .no, .no, .no, .no, .no] H (F14_K1 T hs)
noncomputable def g14_J1 (T : Nat → Option AFn) (hs : Heap → Heap → Bool) (x2 : Bool) (H : Heap) : Option (Value × Heap) := joinK T hs F14_C0 [.no, .no, (.v (.bool x2)), .no, .no, .no, .no, .no, .no, .no, .no, .no, .no, .no, .no, .no, .no, .no, .no, .no, .no, .no, .no, .no, .no, .no, .no, .no, .no, .no, .no, .no, .no, .no, .no, .no, .no, .no, .no, .no, .no, .no, .no, .no, .no, .no, .no, .no, .no, .no, .no] H (F14_K1 T hs)
noncomputable def g14_J2 (T : Nat → Option AFn) (hs : Heap → Heap → Bool) (x2 : Bool) (H : Heap) : Option (Value × Heap) := joinK T hs F14_C0 [.no, .no, (.v (.bool x2)), .no, .no, .no, .no, .no, .no, .no, .no, .no, .no, .no, .no, .no, .no, .no, .no, .no, .no, .no, .no, .no, .no, .no, .no, .no, .no, .no, .no, .no, .no, .no, .no, .no, .no, .no, .no, .no, .no, .no, .no, .no, .no, .no, .no, .no, .no, .no, .no] H (F14_K1 T hs)
noncomputable def g14_J3 (T : Nat → Option AFn) (hs : Heap → Heap → Bool) (x2 : Bool) (H : Heap) : Option (Value × Heap) := joinK T hs F14_C0 [.no, .no, (.v (.bool x2)), .no, .no, .no, .no, .no, .no, .no, .no, .no, .no, .no, .no, .no, .no, .no, .no, .no, .no, .no, .no, .no, .no, .no, .no, .no, .no, .no, .no, .no, .no, .no, .no, .no, .no, .no, .no, .no, .no, .no, .no, .no, .no, .no, .no, .no, .no, .no, .no] H (F14_K1 T hs)
noncomputable def s14_J0 (T : Nat → Option AFn) (hs : Heap → Heap → Bool) (x2 : Bool) (H : Heap) : Option (Value × Heap) :=
  some ((.bool x2), H)
theorem g14_J0_step (T : Nat → Option AFn) (hs : Heap → Heap → Bool) (x2 : Bool) (H : Heap) : runK T hs Y14 F14_C0 [.no, .no, (.v (.bool x2)), .no, .no, .no, .no, .no, .no, .no, .no, .no, .no, .no, .no, .no, .no, .no, .no, .no, .no, .no, .no, .no, .no, .no, .no, .no, .no, .no, .no, .no, .no, .no, .no, .no, .no, .no, .no, .no, .no, .no, .no, .no, .no, .no, .no, .no, .no, .no, .no] H (F14_K1 T hs) = s14_J0 T hs x2 H := by kernel_rfl
theorem g14_J0_ok {T : Nat → Option AFn} {hs : Heap → Heap → Bool} {x2 : Bool} {H : Heap} {r : Value × Heap} (h : s14_J0 T hs x2 H = some r) : g14_J0 T hs x2 H = some r := join_intro ((g14_J0_step T hs x2 H).trans h)
theorem g14_J0_ret {T : Nat → Option AFn} {hs : Heap → Heap → Bool} {x2 : Bool} {H : Heap} {Q : Value → Heap → Prop} (h : Ret (s14_J0 T hs x2 H) Q) : Ret (g14_J0 T hs x2 H) Q := h.via fun _ q => g14_J0_ok q
noncomputable def s14_J1 (T : Nat → Option AFn) (hs : Heap → Heap → Bool) (x2 : Bool) (H : Heap) : Option (Value × Heap) :=
  some ((.bool x2), H)
theorem g14_J1_step (T : Nat → Option AFn) (hs : Heap → Heap → Bool) (x2 : Bool) (H : Heap) : runK T hs Y14 F14_C0 [.no, .no, (.v (.bool x2)), .no, .no, .no, .no, .no, .no, .no, .no, .no, .no, .no, .no, .no, .no, .no, .no, .no, .no, .no, .no, .no, .no, .no, .no, .no, .no, .no, .no, .no, .no, .no, .no, .no, .no, .no, .no, .no, .no, .no, .no, .no, .no, .no, .no, .no, .no, .no, .no] H (F14_K1 T hs) = s14_J1 T hs x2 H := by kernel_rfl
theorem g14_J1_ok {T : Nat → Option AFn} {hs : Heap → Heap → Bool} {x2 : Bool} {H : Heap} {r : Value × Heap} (h : s14_J1 T hs x2 H = some r) : g14_J1 T hs x2 H = some r := join_intro ((g14_J1_step T hs x2 H).trans h)
theorem g14_J1_ret {T : Nat → Option AFn} {hs : Heap → Heap → Bool} {x2 : Bool} {H : Heap} {Q : Value → Heap → Prop} (h : Ret (s14_J1 T hs x2 H) Q) : Ret (g14_J1 T hs x2 H) Q := h.via fun _ q => g14_J1_ok q
noncomputable def s14_J2 (T : Nat → Option AFn) (hs : Heap → Heap → Bool) (x2 : Bool) (H : Heap) : Option (Value × Heap) :=
  some ((.bool x2), H)
theorem g14_J2_step (T : Nat → Option AFn) (hs : Heap → Heap → Bool) (x2 : Bool) (H : Heap) : runK T hs Y14 F14_C0 [.no, .no, (.v (.bool x2)), .no, .no, .no, .no, .no, .no, .no, .no, .no, .no, .no, .no, .no, .no, .no, .no, .no, .no, .no, .no, .no, .no, .no, .no, .no, .no, .no, .no, .no, .no, .no, .no, .no, .no, .no, .no, .no, .no, .no, .no, .no, .no, .no, .no, .no, .no, .no, .no] H (F14_K1 T hs) = s14_J2 T hs x2 H := by kernel_rfl
theorem g14_J2_ok {T : Nat → Option AFn} {hs : Heap → Heap → Bool} {x2 : Bool} {H : Heap} {r : Value × Heap} (h : s14_J2 T hs x2 H = some r) : g14_J2 T hs x2 H = some r := join_intro ((g14_J2_step T hs x2 H).trans h)
theorem g14_J2_ret {T : Nat → Option AFn} {hs : Heap → Heap → Bool} {x2 : Bool} {H : Heap} {Q : Value → Heap → Prop} (h : Ret (s14_J2 T hs x2 H) Q) : Ret (g14_J2 T hs x2 H) Q := h.via fun _ q => g14_J2_ok q
noncomputable def s14_J3 (T : Nat → Option AFn) (hs : Heap → Heap → Bool) (x2 : Bool) (H : Heap) : Option (Value × Heap) :=
  some ((.bool x2), H)
theorem g14_J3_step (T : Nat → Option AFn) (hs : Heap → Heap → Bool) (x2 : Bool) (H : Heap) : runK T hs Y14 F14_C0 [.no, .no, (.v (.bool x2)), .no, .no, .no, .no, .no, .no, .no, .no, .no, .no, .no, .no, .no, .no, .no, .no, .no, .no, .no, .no, .no, .no, .no, .no, .no, .no, .no, .no, .no, .no, .no, .no, .no, .no, .no, .no, .no, .no, .no, .no, .no, .no, .no, .no, .no, .no, .no, .no] H (F14_K1 T hs) = s14_J3 T hs x2 H := by kernel_rfl
theorem g14_J3_ok {T : Nat → Option AFn} {hs : Heap → Heap → Bool} {x2 : Bool} {H : Heap} {r : Value × Heap} (h : s14_J3 T hs x2 H = some r) : g14_J3 T hs x2 H = some r := join_intro ((g14_J3_step T hs x2 H).trans h)
theorem g14_J3_ret {T : Nat → Option AFn} {hs : Heap → Heap → Bool} {x2 : Bool} {H : Heap} {Q : Value → Heap → Prop} (h : Ret (s14_J3 T hs x2 H) Q) : Ret (g14_J3 T hs x2 H) Q := h.via fun _ q => g14_J3_ok q
noncomputable def s14 (T : Nat → Option AFn) (hs : Heap → Heap → Bool) (x0_0 : Int) (x0_1 : ByteArray) (x0_2 : Int) (H : Heap) : Option (Value × Heap) :=
  cond ((x0_0 : Int) == 0)
  (cond ((x0_1.toList == (⟨#[]⟩ : ByteArray).toList))
  (g14_J0 T hs (decide ((x0_2 : Int) ≥ 0)) H)
  (g14_J0 T hs false H))
  (cond ((x0_0 : Int) == 1)
  (cond ((x0_2 : Int) == 0)
  ((CT T hs 27 [(.string x0_1)] H).bind fun p23 =>
  ifBool p23.1 fun x23 =>
  g14_J1 T hs x23 p23.2)
  (g14_J1 T hs false H))
  (cond ((x0_0 : Int) == 2)
  (cond ((x0_2 : Int) == 0)
  (g14_J2 T hs (decide (((x0_1.size : Int) : Int) ≤ 65536)) H)
  (g14_J2 T hs false H))
  (cond ((x0_0 : Int) == 3)
  (cond ((x0_2 : Int) == 0)
  (cond ((x0_1.toList == (⟨#[116, 114, 117, 101]⟩ : ByteArray).toList))
  (g14_J3 T hs true H)
  (g14_J3 T hs ((x0_1.toList == (⟨#[102, 97, 108, 115, 101]⟩ : ByteArray).toList)) H))
  (g14_J3 T hs false H))
  (some ((.bool false), H)))))
theorem s14_run (T : Nat → Option AFn) (hs : Heap → Heap → Bool) (x0_0 : Int) (x0_1 : ByteArray) (x0_2 : Int) (H : Heap) : runFK T hs Y14 F14 [(.agg #[(.int .i64 x0_0), (.string x0_1), (.int .i64 x0_2)])] H = s14 T hs x0_0 x0_1 x0_2 H := by kernel_rfl
theorem g14_ok {T : Nat → Option AFn} {hs : Heap → Heap → Bool} (hT : T 14 = some (.code F14)) {x0_0 : Int} {x0_1 : ByteArray} {x0_2 : Int} {H : Heap} {r : Value × Heap} (h : s14 T hs x0_0 x0_1 x0_2 H = some r) : CT T hs 14 [(.agg #[(.int .i64 x0_0), (.string x0_1), (.int .i64 x0_2)])] H = some r := runFK_ok hT ((s14_run T hs x0_0 x0_1 x0_2 H).trans h)
theorem chk14 : chkFunc Tryd.prog 14 F14 = true := by kernel_rfl
/- dowel/dowelref26.behind -/
def F15_C0 : ACode :=
  .cond (.t 13)
  (.skip)
  (.exit 0)
def F15_C1 : ACode :=
  .cond (.t 29)
  (.seq (.reg [⟨(some 4), .mov (.c (.int .i64 0)), none, false, none, 0⟩])
  (.ret))
  (.skip)
def F15_C2 : ACode :=
  .seq (.seqj [0, 1, 5, 13] (.reg [⟨(some 6), .mov (.t 1), none, false, none, 0⟩,
    ⟨(some 7), .mov (.t 0), none, false, none, 0⟩,
    ⟨(some 8), .len false (.t 7), none, false, none, 0⟩,
    ⟨(some 9), .bin .lss (.t 6) (.t 8), none, false, none, 0⟩,
    ⟨(some 10), .mov (.t 9), none, false, none, 0⟩,
    ⟨(some 11), .mov (.t 5), (some (10, true)), false, none, 0⟩,
    ⟨(some 12), .bin .gtr (.t 11) (.c (.int .i64 0)), (some (10, true)), false, none, 0⟩,
    ⟨(some 13), .pick (.t 10) (.t 12) (.c (.bool false)), none, false, none, 0⟩])
  F15_C0)
  (.block 1 (.seq (.seqj [0, 1, 5, 29] (.reg [⟨(some 14), .mov (.t 0), none, false, none, 0⟩,
    ⟨(some 15), .mov (.t 1), none, false, none, 0⟩,
    ⟨(some 16), .indexA 3 (.t 14) (.t 15), none, false, none, 0⟩,
    ⟨(some 17), .fieldA 2 (.t 16), none, false, none, 0⟩,
    ⟨(some 18), .load false 1 (.t 17), none, false, none, 0⟩,
    ⟨(some 19), .bin .lss (.t 18) (.c (.int .i64 0)), none, false, none, 0⟩,
    ⟨(some 20), .mov (.t 19), none, false, none, 0⟩,
    ⟨(some 21), .mov (.t 0), (some (20, false)), false, none, 0⟩,
    ⟨(some 22), .mov (.t 1), (some (20, false)), false, none, 0⟩,
    ⟨(some 23), .indexA 3 (.t 21) (.t 22), (some (20, false)), false, none, 0⟩,
    ⟨(some 24), .fieldA 2 (.t 23), (some (20, false)), false, none, 0⟩,
    ⟨(some 25), .load false 1 (.t 24), (some (20, false)), false, none, 0⟩,
    ⟨(some 26), .mov (.t 0), (some (20, false)), false, none, 0⟩,
    ⟨(some 27), .len false (.t 26), (some (20, false)), false, none, 0⟩,
    ⟨(some 28), .bin .gtr (.t 25) (.t 27), (some (20, false)), false, none, 0⟩,
    ⟨(some 29), .pick (.t 20) (.c (.bool true)) (.t 28), none, false, none, 0⟩])
  F15_C1)
  (.seq (.reg [⟨(some 30), .mov (.t 5), none, false, none, 0⟩,
    ⟨(some 31), .mov (.t 0), none, false, none, 0⟩,
    ⟨(some 32), .mov (.t 1), none, false, none, 0⟩,
    ⟨(some 33), .indexA 3 (.t 31) (.t 32), none, false, none, 0⟩,
    ⟨(some 34), .fieldA 2 (.t 33), none, false, none, 0⟩,
    ⟨(some 35), .load false 1 (.t 34), none, false, none, 0⟩,
    ⟨(some 36), .bin .sub (.t 35) (.c (.int .i64 1)), none, false, none, 0⟩,
    ⟨(some 37), .bin .add (.t 30) (.t 36), none, false, none, 0⟩,
    ⟨(some 5), .mov (.t 37), none, false, none, 0⟩])
  (.reg [⟨(some 38), .mov (.t 1), none, false, none, 0⟩,
    ⟨(some 39), .bin .add (.t 38) (.c (.int .i64 1)), none, false, none, 0⟩,
    ⟨(some 1), .mov (.t 39), none, false, none, 0⟩]))))
def F15_C3 : ACode :=
  .seq (.reg [⟨(some 4), .mov (.c (.int .i64 0)), none, false, none, 0⟩])
  (.seq (.reg [⟨(some 5), .mov (.c (.int .i64 1)), none, false, none, 0⟩])
  (.seq (.block 0 (.loop [0, 1, 5] F15_C2))
  (.seq (.seq (.reg [⟨(some 40), .mov (.t 5), none, false, none, 0⟩,
    ⟨(some 41), .bin .gtr (.t 40) (.c (.int .i64 0)), none, false, none, 0⟩])
  (.cond (.t 41)
  (.seq (.reg [⟨(some 4), .mov (.c (.int .i64 0)), none, false, none, 0⟩])
  (.ret))
  (.skip)))
  (.seq (.reg [⟨(some 42), .mov (.t 1), none, false, none, 0⟩,
    ⟨(some 4), .mov (.t 42), none, false, none, 0⟩])
  (.ret)))))
def F15_C4 : ACode :=
  .seq (.seq (.reg [⟨(some 40), .mov (.t 5), none, false, none, 0⟩,
    ⟨(some 41), .bin .gtr (.t 40) (.c (.int .i64 0)), none, false, none, 0⟩])
  (.cond (.t 41)
  (.seq (.reg [⟨(some 4), .mov (.c (.int .i64 0)), none, false, none, 0⟩])
  (.ret))
  (.skip)))
  (.seq (.reg [⟨(some 42), .mov (.t 1), none, false, none, 0⟩,
    ⟨(some 4), .mov (.t 42), none, false, none, 0⟩])
  (.ret))
def F15_C5 : ACode :=
  .seq (.reg [⟨(some 30), .mov (.t 5), none, false, none, 0⟩,
    ⟨(some 31), .mov (.t 0), none, false, none, 0⟩,
    ⟨(some 32), .mov (.t 1), none, false, none, 0⟩,
    ⟨(some 33), .indexA 3 (.t 31) (.t 32), none, false, none, 0⟩,
    ⟨(some 34), .fieldA 2 (.t 33), none, false, none, 0⟩,
    ⟨(some 35), .load false 1 (.t 34), none, false, none, 0⟩,
    ⟨(some 36), .bin .sub (.t 35) (.c (.int .i64 1)), none, false, none, 0⟩,
    ⟨(some 37), .bin .add (.t 30) (.t 36), none, false, none, 0⟩,
    ⟨(some 5), .mov (.t 37), none, false, none, 0⟩])
  (.reg [⟨(some 38), .mov (.t 1), none, false, none, 0⟩,
    ⟨(some 39), .bin .add (.t 38) (.c (.int .i64 1)), none, false, none, 0⟩,
    ⟨(some 1), .mov (.t 39), none, false, none, 0⟩])
def F15_C6 : ACode :=
  .block 1 (.seq (.seqj [0, 1, 5, 29] (.reg [⟨(some 14), .mov (.t 0), none, false, none, 0⟩,
    ⟨(some 15), .mov (.t 1), none, false, none, 0⟩,
    ⟨(some 16), .indexA 3 (.t 14) (.t 15), none, false, none, 0⟩,
    ⟨(some 17), .fieldA 2 (.t 16), none, false, none, 0⟩,
    ⟨(some 18), .load false 1 (.t 17), none, false, none, 0⟩,
    ⟨(some 19), .bin .lss (.t 18) (.c (.int .i64 0)), none, false, none, 0⟩,
    ⟨(some 20), .mov (.t 19), none, false, none, 0⟩,
    ⟨(some 21), .mov (.t 0), (some (20, false)), false, none, 0⟩,
    ⟨(some 22), .mov (.t 1), (some (20, false)), false, none, 0⟩,
    ⟨(some 23), .indexA 3 (.t 21) (.t 22), (some (20, false)), false, none, 0⟩,
    ⟨(some 24), .fieldA 2 (.t 23), (some (20, false)), false, none, 0⟩,
    ⟨(some 25), .load false 1 (.t 24), (some (20, false)), false, none, 0⟩,
    ⟨(some 26), .mov (.t 0), (some (20, false)), false, none, 0⟩,
    ⟨(some 27), .len false (.t 26), (some (20, false)), false, none, 0⟩,
    ⟨(some 28), .bin .gtr (.t 25) (.t 27), (some (20, false)), false, none, 0⟩,
    ⟨(some 29), .pick (.t 20) (.c (.bool true)) (.t 28), none, false, none, 0⟩])
  F15_C1)
  (.seq (.reg [⟨(some 30), .mov (.t 5), none, false, none, 0⟩,
    ⟨(some 31), .mov (.t 0), none, false, none, 0⟩,
    ⟨(some 32), .mov (.t 1), none, false, none, 0⟩,
    ⟨(some 33), .indexA 3 (.t 31) (.t 32), none, false, none, 0⟩,
    ⟨(some 34), .fieldA 2 (.t 33), none, false, none, 0⟩,
    ⟨(some 35), .load false 1 (.t 34), none, false, none, 0⟩,
    ⟨(some 36), .bin .sub (.t 35) (.c (.int .i64 1)), none, false, none, 0⟩,
    ⟨(some 37), .bin .add (.t 30) (.t 36), none, false, none, 0⟩,
    ⟨(some 5), .mov (.t 37), none, false, none, 0⟩])
  (.reg [⟨(some 38), .mov (.t 1), none, false, none, 0⟩,
    ⟨(some 39), .bin .add (.t 38) (.c (.int .i64 1)), none, false, none, 0⟩,
    ⟨(some 1), .mov (.t 39), none, false, none, 0⟩])))
def F15 : AFunc := ⟨2, 43, [.tmp 4], F15_C3⟩
def Y15 : List VT := [.v (.one .sl), .v (.one (.int .i64)), .v (.one .any), .v (.one .any), .v (.one (.int .i64)), .v (.one (.int .i64)), .v (.one (.int .i64)), .v (.one .sl), .v (.one (.int .i64)), .v (.one .bool), .v (.one .bool), .v (.one (.int .i64)), .v (.one .bool), .v (.one .bool), .v (.one .sl), .v (.one (.int .i64)), .v (.one .any), .v (.one .any), .v (.one (.int .i64)), .v (.one .bool), .v (.one .bool), .v (.one .sl), .v (.one (.int .i64)), .v (.one .any), .v (.one .any), .v (.one (.int .i64)), .v (.one .sl), .v (.one (.int .i64)), .v (.one .bool), .v (.one .bool), .v (.one (.int .i64)), .v (.one .sl), .v (.one (.int .i64)), .v (.one .any), .v (.one .any), .v (.one (.int .i64)), .v (.one (.int .i64)), .v (.one (.int .i64)), .v (.one (.int .i64)), .v (.one (.int .i64)), .v (.one (.int .i64)), .v (.one .bool), .v (.one (.int .i64))]
noncomputable def F15_K0 (T : Nat → Option AFn) (hs : Heap → Heap → Bool) : Kont (Value × Heap) := { (kontF F15) with nrm := fun fr H => runK T hs Y15 F15_C4 fr H (kontF F15) }
noncomputable def F15_K1 (T : Nat → Option AFn) (hs : Heap → Heap → Bool) : Kont (Value × Heap) := { (F15_K0 T hs) with ex := fun i fr H => if i = 0 then (F15_K0 T hs).nrm fr H else (F15_K0 T hs).ex i fr H }
noncomputable def F15_K2 (T : Nat → Option AFn) (hs : Heap → Heap → Bool) : Kont (Value × Heap) := { (F15_K1 T hs) with nrm := fun fr H => fF (forget [0, 1, 5] fr) fun fr => loopK T hs [0, 1, 5] F15_C2 fr H (F15_K1 T hs) }
noncomputable def F15_K3 (T : Nat → Option AFn) (hs : Heap → Heap → Bool) : Kont (Value × Heap) := { (F15_K2 T hs) with ex := fun i fr H => if i = 1 then (F15_K2 T hs).nrm fr H else (F15_K2 T hs).ex i fr H }
noncomputable def F15_K4 (T : Nat → Option AFn) (hs : Heap → Heap → Bool) : Kont (Value × Heap) := { (F15_K3 T hs) with nrm := fun fr H => runK T hs Y15 F15_C5 fr H (F15_K3 T hs) }
noncomputable def F15_K5 (T : Nat → Option AFn) (hs : Heap → Heap → Bool) : Kont (Value × Heap) := { (F15_K2 T hs) with nrm := fun fr H => runK T hs Y15 F15_C6 fr H (F15_K2 T hs) }
noncomputable def g15_J2 (T : Nat → Option AFn) (hs : Heap → Heap → Bool) (a0 : Option Addr) (n0 : Nat) (c0 : Nat) (x1 : Int) (x5 : Int) (x29 : Bool) (H : Heap) : Option (Value × Heap) := joinK T hs F15_C1 [(.v (.slice a0 n0 c0)), (.v (.int .i64 x1)), .no, .no, .no, (.v (.int .i64 x5)), .no, .no, .no, .no, .no, .no, .no, .no, .no, .no, .no, .no, .no, .no, .no, .no, .no, .no, .no, .no, .no, .no, .no, (.v (.bool x29)), .no, .no, .no, .no, .no, .no, .no, .no, .no, .no, .no, .no, .no] H (F15_K4 T hs)
noncomputable def g15_J1 (T : Nat → Option AFn) (hs : Heap → Heap → Bool) (a0 : Option Addr) (n0 : Nat) (c0 : Nat) (x1 : Int) (x5 : Int) (x13 : Bool) (H : Heap) : Option (Value × Heap) := joinK T hs F15_C0 [(.v (.slice a0 n0 c0)), (.v (.int .i64 x1)), .no, .no, .no, (.v (.int .i64 x5)), .no, .no, .no, .no, .no, .no, .no, (.v (.bool x13)), .no, .no, .no, .no, .no, .no, .no, .no, .no, .no, .no, .no, .no, .no, .no, .no, .no, .no, .no, .no, .no, .no, .no, .no, .no, .no, .no, .no, .no] H (F15_K5 T hs)
noncomputable def g15_L0 (T : Nat → Option AFn) (hs : Heap → Heap → Bool) (a0 : Option Addr) (n0 : Nat) (c0 : Nat) (x1 : Int) (x5 : Int) (H : Heap) : Option (Value × Heap) := loopK T hs [0, 1, 5] F15_C2 [(.v (.slice a0 n0 c0)), (.v (.int .i64 x1)), .no, .no, .no, (.v (.int .i64 x5)), .no, .no, .no, .no, .no, .no, .no, .no, .no, .no, .no, .no, .no, .no, .no, .no, .no, .no, .no, .no, .no, .no, .no, .no, .no, .no, .no, .no, .no, .no, .no, .no, .no, .no, .no, .no, .no] H (F15_K1 T hs)
noncomputable def s15_L0 (T : Nat → Option AFn) (hs : Heap → Heap → Bool) (a0 : Option Addr) (n0 : Nat) (c0 : Nat) (x1 : Int) (x5 : Int) (H : Heap) : Option (Value × Heap) :=
  cond (decide ((x1 : Int) < ((n0 : Nat) : Int)))
  (g15_J1 T hs a0 n0 c0 x1 x5 (decide ((x5 : Int) > 0)) H)
  (g15_J1 T hs a0 n0 c0 x1 x5 false H)
theorem g15_L0_step (T : Nat → Option AFn) (hs : Heap → Heap → Bool) (a0 : Option Addr) (n0 : Nat) (c0 : Nat) (x1 : Int) (x5 : Int) (H : Heap) : loopB T hs Y15 [0, 1, 5] F15_C2 [(.v (.slice a0 n0 c0)), (.v (.int .i64 x1)), .no, .no, .no, (.v (.int .i64 x5)), .no, .no, .no, .no, .no, .no, .no, .no, .no, .no, .no, .no, .no, .no, .no, .no, .no, .no, .no, .no, .no, .no, .no, .no, .no, .no, .no, .no, .no, .no, .no, .no, .no, .no, .no, .no, .no] H (F15_K1 T hs) = s15_L0 T hs a0 n0 c0 x1 x5 H := by kernel_rfl
theorem g15_L0_ok {T : Nat → Option AFn} {hs : Heap → Heap → Bool} {a0 : Option Addr} {n0 : Nat} {c0 : Nat} {x1 : Int} {x5 : Int} {H : Heap} {r : Value × Heap} (h : s15_L0 T hs a0 n0 c0 x1 x5 H = some r) : g15_L0 T hs a0 n0 c0 x1 x5 H = some r := loopB_ok ((g15_L0_step T hs a0 n0 c0 x1 x5 H).trans h)
theorem g15_L0_ret {T : Nat → Option AFn} {hs : Heap → Heap → Bool} {a0 : Option Addr} {n0 : Nat} {c0 : Nat} {x1 : Int} {x5 : Int} {H : Heap} {Q : Value → Heap → Prop} (h : Ret (s15_L0 T hs a0 n0 c0 x1 x5 H) Q) : Ret (g15_L0 T hs a0 n0 c0 x1 x5 H) Q := h.via fun _ q => g15_L0_ok q
noncomputable def s15_J1 (T : Nat → Option AFn) (hs : Heap → Heap → Bool) (a0 : Option Addr) (n0 : Nat) (c0 : Nat) (x1 : Int) (x5 : Int) (x13 : Bool) (H : Heap) : Option (Value × Heap) :=
  cond x13
  ((ixA H 3 (.slice a0 n0 c0) x1).bind fun q16 =>
  (rdHp H q16.1 (q16.2.1 + 2) q16.2.2 1 1).bind fun w18 =>
  ifCons w18 fun v18 l18 => ifNil l18 <|
  ifInt .i64 v18 fun x18 =>
  cond (decide ((x18 : Int) < 0))
  (g15_J2 T hs a0 n0 c0 x1 x5 true H)
  ((ixA H 3 (.slice a0 n0 c0) x1).bind fun q23 =>
  (rdHp H q23.1 (q23.2.1 + 2) q23.2.2 1 1).bind fun w25 =>
  ifCons w25 fun v25 l25 => ifNil l25 <|
  ifInt .i64 v25 fun x25 =>
  g15_J2 T hs a0 n0 c0 x1 x5 (decide ((x25 : Int) > ((n0 : Nat) : Int))) H))
  (cond (decide ((x5 : Int) > 0))
  (some ((.int .i64 0), H))
  (some ((.int .i64 x1), H)))
theorem g15_J1_step (T : Nat → Option AFn) (hs : Heap → Heap → Bool) (a0 : Option Addr) (n0 : Nat) (c0 : Nat) (x1 : Int) (x5 : Int) (x13 : Bool) (H : Heap) : runK T hs Y15 F15_C0 [(.v (.slice a0 n0 c0)), (.v (.int .i64 x1)), .no, .no, .no, (.v (.int .i64 x5)), .no, .no, .no, .no, .no, .no, .no, (.v (.bool x13)), .no, .no, .no, .no, .no, .no, .no, .no, .no, .no, .no, .no, .no, .no, .no, .no, .no, .no, .no, .no, .no, .no, .no, .no, .no, .no, .no, .no, .no] H (F15_K5 T hs) = s15_J1 T hs a0 n0 c0 x1 x5 x13 H := by kernel_rfl
theorem g15_J1_ok {T : Nat → Option AFn} {hs : Heap → Heap → Bool} {a0 : Option Addr} {n0 : Nat} {c0 : Nat} {x1 : Int} {x5 : Int} {x13 : Bool} {H : Heap} {r : Value × Heap} (h : s15_J1 T hs a0 n0 c0 x1 x5 x13 H = some r) : g15_J1 T hs a0 n0 c0 x1 x5 x13 H = some r := join_intro ((g15_J1_step T hs a0 n0 c0 x1 x5 x13 H).trans h)
theorem g15_J1_ret {T : Nat → Option AFn} {hs : Heap → Heap → Bool} {a0 : Option Addr} {n0 : Nat} {c0 : Nat} {x1 : Int} {x5 : Int} {x13 : Bool} {H : Heap} {Q : Value → Heap → Prop} (h : Ret (s15_J1 T hs a0 n0 c0 x1 x5 x13 H) Q) : Ret (g15_J1 T hs a0 n0 c0 x1 x5 x13 H) Q := h.via fun _ q => g15_J1_ok q
noncomputable def s15_J2 (T : Nat → Option AFn) (hs : Heap → Heap → Bool) (a0 : Option Addr) (n0 : Nat) (c0 : Nat) (x1 : Int) (x5 : Int) (x29 : Bool) (H : Heap) : Option (Value × Heap) :=
  cond x29
  (some ((.int .i64 0), H))
  ((ixA H 3 (.slice a0 n0 c0) x1).bind fun q33 =>
  (rdHp H q33.1 (q33.2.1 + 2) q33.2.2 1 1).bind fun w35 =>
  ifCons w35 fun v35 l35 => ifNil l35 <|
  ifInt .i64 v35 fun x35 =>
  g15_L0 T hs a0 n0 c0 (IntKind.wrap .i64 (x1 + 1)) (IntKind.wrap .i64 (x5 + (IntKind.wrap .i64 (x35 - 1)))) H)
theorem g15_J2_step (T : Nat → Option AFn) (hs : Heap → Heap → Bool) (a0 : Option Addr) (n0 : Nat) (c0 : Nat) (x1 : Int) (x5 : Int) (x29 : Bool) (H : Heap) : runK T hs Y15 F15_C1 [(.v (.slice a0 n0 c0)), (.v (.int .i64 x1)), .no, .no, .no, (.v (.int .i64 x5)), .no, .no, .no, .no, .no, .no, .no, .no, .no, .no, .no, .no, .no, .no, .no, .no, .no, .no, .no, .no, .no, .no, .no, (.v (.bool x29)), .no, .no, .no, .no, .no, .no, .no, .no, .no, .no, .no, .no, .no] H (F15_K4 T hs) = s15_J2 T hs a0 n0 c0 x1 x5 x29 H := by kernel_rfl
theorem g15_J2_ok {T : Nat → Option AFn} {hs : Heap → Heap → Bool} {a0 : Option Addr} {n0 : Nat} {c0 : Nat} {x1 : Int} {x5 : Int} {x29 : Bool} {H : Heap} {r : Value × Heap} (h : s15_J2 T hs a0 n0 c0 x1 x5 x29 H = some r) : g15_J2 T hs a0 n0 c0 x1 x5 x29 H = some r := join_intro ((g15_J2_step T hs a0 n0 c0 x1 x5 x29 H).trans h)
theorem g15_J2_ret {T : Nat → Option AFn} {hs : Heap → Heap → Bool} {a0 : Option Addr} {n0 : Nat} {c0 : Nat} {x1 : Int} {x5 : Int} {x29 : Bool} {H : Heap} {Q : Value → Heap → Prop} (h : Ret (s15_J2 T hs a0 n0 c0 x1 x5 x29 H) Q) : Ret (g15_J2 T hs a0 n0 c0 x1 x5 x29 H) Q := h.via fun _ q => g15_J2_ok q
noncomputable def s15 (T : Nat → Option AFn) (hs : Heap → Heap → Bool) (a0 : Option Addr) (n0 : Nat) (c0 : Nat) (x1 : Int) (H : Heap) : Option (Value × Heap) :=
  g15_L0 T hs a0 n0 c0 x1 1 H
theorem s15_run (T : Nat → Option AFn) (hs : Heap → Heap → Bool) (a0 : Option Addr) (n0 : Nat) (c0 : Nat) (x1 : Int) (H : Heap) : runFK T hs Y15 F15 [(.slice a0 n0 c0), (.int .i64 x1)] H = s15 T hs a0 n0 c0 x1 H := by kernel_rfl
theorem g15_ok {T : Nat → Option AFn} {hs : Heap → Heap → Bool} (hT : T 15 = some (.code F15)) {a0 : Option Addr} {n0 : Nat} {c0 : Nat} {x1 : Int} {H : Heap} {r : Value × Heap} (h : s15 T hs a0 n0 c0 x1 H = some r) : CT T hs 15 [(.slice a0 n0 c0), (.int .i64 x1)] H = some r := runFK_ok hT ((s15_run T hs a0 n0 c0 x1 H).trans h)
theorem chk15 : chkFunc Tryd.prog 15 F15 = true := by kernel_rfl
/- dowel/dowelref26.Type -/
def F16_C0 : ACode :=
  .seq (.seq (.reg [⟨(some 71), .mov (.t 8), none, false, none, 0⟩,
    ⟨(some 72), .un .not (.t 71), none, false, none, 0⟩])
  (.cond (.t 72)
  (.seq (.reg [⟨(some 73), .build [.int .i64 0, .int .i64 0] [], none, false, none, 0⟩,
    ⟨none, .store 2 (.t 2) (.t 73), none, false, none, 0⟩,
    ⟨(some 3), .mov (.c (.bool false)), none, false, none, 0⟩])
  (.ret))
  (.skip)))
  (.reg [⟨(some 74), .mov (.t 5), none, false, none, 0⟩,
    ⟨(some 75), .mov (.t 9), none, false, none, 0⟩,
    ⟨(some 76), .indexA 1 (.t 74) (.t 75), none, false, none, 0⟩,
    ⟨(some 77), .load false 1 (.t 76), none, false, none, 0⟩,
    ⟨(some 9), .mov (.t 77), none, false, none, 0⟩])
def F16_C1 : ACode :=
  .seq (.seq (.reg [⟨(some 47), .mov (.t 10), none, false, none, 0⟩,
    ⟨(some 48), .mov (.t 0), none, false, none, 0⟩,
    ⟨(some 49), .mov (.t 6), none, false, none, 0⟩,
    ⟨(some 50), .indexA 3 (.t 48) (.t 49), none, false, none, 0⟩,
    ⟨(some 51), .fieldA 2 (.t 50), none, false, none, 0⟩,
    ⟨(some 52), .load false 1 (.t 51), none, false, none, 0⟩,
    ⟨(some 53), .bin .lss (.t 47) (.t 52), none, false, none, 0⟩])
  (.cond (.t 53)
  (.skip)
  (.exit 2)))
  (.seq (.block 3 (.seqj [0, 2, 4, 5, 6, 7, 8, 9, 10] (.seq (.reg [⟨(some 56), .mov (.t 10), none, false, none, 0⟩,
    ⟨(some 57), .bin .eql (.t 56) (.c (.int .i64 0)), none, false, none, 0⟩])
  (.cond (.t 57)
  (.reg [⟨(some 58), .mov (.t 4), none, false, none, 0⟩,
    ⟨(some 59), .mov (.t 9), none, false, none, 0⟩,
    ⟨(some 60), .indexA 2 (.t 58) (.t 59), none, false, none, 0⟩,
    ⟨(some 61), .load true 2 (.t 60), none, false, none, 0⟩,
    ⟨none, .store 2 (.t 7) (.t 61), none, false, none, 0⟩])
  (.regD [⟨(some 63), .load true 2 (.t 7), none, false, (some 7), 0⟩,
    ⟨(some 64), .mov (.t 4), none, false, none, 0⟩,
    ⟨(some 65), .mov (.t 9), none, false, none, 0⟩,
    ⟨(some 66), .indexA 2 (.t 64) (.t 65), none, false, none, 0⟩,
    ⟨(some 67), .load true 2 (.t 66), none, false, none, 0⟩,
    ⟨(some 68), .call 28 [.t 63, .t 67], none, false, none, 0⟩,
    ⟨(some 62), .mov (.t 68), none, false, none, 0⟩,
    ⟨(some 69), .extract (.t 62) 0, none, false, none, 0⟩,
    ⟨(some 70), .extract (.t 62) 1, none, false, none, 0⟩,
    ⟨none, .store 2 (.t 7) (.t 69), none, false, (some 7), 0⟩,
    ⟨(some 8), .mov (.t 70), none, false, none, 0⟩])))
  F16_C0))
  (.reg [⟨(some 54), .mov (.t 10), none, false, none, 0⟩,
    ⟨(some 55), .bin .add (.t 54) (.c (.int .i64 1)), none, false, none, 0⟩,
    ⟨(some 10), .mov (.t 55), none, false, none, 0⟩]))
def F16_C2 : ACode :=
  .reg [⟨(some 22), .mov (.t 6), none, false, none, 0⟩,
    ⟨(some 23), .bin .sub (.t 22) (.c (.int .i64 1)), none, false, none, 0⟩,
    ⟨(some 6), .mov (.t 23), none, false, none, 0⟩]
def F16_C3 : ACode :=
  .seq (.seq (.reg [⟨(some 20), .mov (.t 6), none, false, none, 0⟩,
    ⟨(some 21), .bin .geq (.t 20) (.c (.int .i64 0)), none, false, none, 0⟩])
  (.cond (.t 21)
  (.skip)
  (.exit 0)))
  (.seqj [0, 2, 4, 5, 6] (.block 1 (.seq (.seq (.reg [⟨(some 24), .mov (.t 0), none, false, none, 0⟩,
    ⟨(some 25), .mov (.t 6), none, false, none, 0⟩,
    ⟨(some 26), .indexA 3 (.t 24) (.t 25), none, false, none, 0⟩,
    ⟨(some 27), .fieldA 0 (.t 26), none, false, none, 0⟩,
    ⟨(some 28), .load false 1 (.t 27), none, false, none, 0⟩,
    ⟨(some 29), .bin .neq (.t 28) (.c (.int .i64 0)), none, false, none, 0⟩])
  (.cond (.t 29)
  (.seq (.reg [⟨(some 30), .mov (.t 4), none, false, none, 0⟩,
    ⟨(some 31), .mov (.t 6), none, false, none, 0⟩,
    ⟨(some 32), .mov (.t 0), none, false, none, 0⟩,
    ⟨(some 33), .mov (.t 6), none, false, none, 0⟩,
    ⟨(some 34), .indexA 3 (.t 32) (.t 33), none, false, none, 0⟩,
    ⟨(some 35), .fieldA 0 (.t 34), none, false, none, 0⟩,
    ⟨(some 36), .load false 1 (.t 35), none, false, none, 0⟩,
    ⟨(some 37), .build [.int .i64 0, .int .i64 0] [(0, 1, .t 36)], none, false, none, 0⟩,
    ⟨(some 38), .indexA 2 (.t 30) (.t 31), none, false, none, 0⟩,
    ⟨none, .store 2 (.t 38) (.t 37), none, false, none, 0⟩])
  (.seq (.reg [⟨(some 39), .mov (.t 5), none, false, none, 0⟩,
    ⟨(some 40), .mov (.t 6), none, false, none, 0⟩,
    ⟨(some 41), .mov (.t 6), none, false, none, 0⟩,
    ⟨(some 42), .bin .add (.t 41) (.c (.int .i64 1)), none, false, none, 0⟩,
    ⟨(some 43), .indexA 1 (.t 39) (.t 40), none, false, none, 0⟩,
    ⟨none, .store 1 (.t 43) (.t 42), none, false, none, 0⟩])
  (.exit 1)))
  (.skip)))
  (.seq (.reg [⟨(some 44), .build [.int .i64 0, .int .i64 0] [], none, false, none, 0⟩,
    ⟨(some 7), .allocL [.int .i64 0, .int .i64 0], none, false, none, 0⟩,
    ⟨none, .store 2 (.t 7) (.t 44), none, false, none, 0⟩])
  (.seq (.reg [⟨(some 8), .mov (.c (.bool true)), none, false, none, 0⟩])
  (.seq (.reg [⟨(some 45), .mov (.t 6), none, false, none, 0⟩,
    ⟨(some 46), .bin .add (.t 45) (.c (.int .i64 1)), none, false, none, 0⟩,
    ⟨(some 9), .mov (.t 46), none, false, none, 0⟩])
  (.seq (.seq (.reg [⟨(some 10), .mov (.c (.int .i64 0)), none, false, none, 0⟩])
  (.block 2 (.loop [0, 2, 4, 5, 6, 7, 8, 9, 10] F16_C1)))
  (.seq (.reg [⟨(some 78), .fieldA 1 (.t 7), none, false, none, 0⟩,
    ⟨(some 79), .load false 1 (.t 78), none, false, none, 0⟩,
    ⟨(some 80), .bin .add (.t 79) (.c (.int .i64 1)), none, false, none, 0⟩,
    ⟨(some 81), .fieldA 1 (.t 7), none, false, none, 0⟩,
    ⟨none, .store 1 (.t 81) (.t 80), none, false, none, 0⟩])
  (.seq (.reg [⟨(some 82), .mov (.t 4), none, false, none, 0⟩,
    ⟨(some 83), .mov (.t 6), none, false, none, 0⟩,
    ⟨(some 84), .load true 2 (.t 7), none, false, none, 0⟩,
    ⟨(some 85), .indexA 2 (.t 82) (.t 83), none, false, none, 0⟩,
    ⟨none, .store 2 (.t 85) (.t 84), none, false, none, 0⟩])
  (.reg [⟨(some 86), .mov (.t 5), none, false, none, 0⟩,
    ⟨(some 87), .mov (.t 6), none, false, none, 0⟩,
    ⟨(some 88), .mov (.t 9), none, false, none, 0⟩,
    ⟨(some 89), .indexA 1 (.t 86) (.t 87), none, false, none, 0⟩,
    ⟨none, .store 1 (.t 89) (.t 88), none, false, none, 0⟩])))))))))
  F16_C2)
def F16_C4 : ACode :=
  .seq (.reg [⟨(some 2), .allocL [.int .i64 0, .int .i64 0], none, false, none, 0⟩,
    ⟨(some 3), .mov (.c (.bool false)), none, false, none, 0⟩])
  (.seq (.reg [⟨(some 11), .mov (.t 0), none, false, none, 0⟩,
    ⟨(some 12), .len false (.t 11), none, false, none, 0⟩,
    ⟨(some 13), .makeSl 26 2 16 [.int .i64 0, .int .i64 0] (.t 12) (.t 12), none, false, none, 0⟩,
    ⟨(some 4), .mov (.t 13), none, false, none, 0⟩])
  (.seq (.reg [⟨(some 14), .mov (.t 0), none, false, none, 0⟩,
    ⟨(some 15), .len false (.t 14), none, false, none, 0⟩,
    ⟨(some 16), .makeSl 3 1 8 [.int .i64 0] (.t 15) (.t 15), none, false, none, 0⟩,
    ⟨(some 5), .mov (.t 16), none, false, none, 0⟩])
  (.seq (.seq (.reg [⟨(some 17), .mov (.t 0), none, false, none, 0⟩,
    ⟨(some 18), .len false (.t 17), none, false, none, 0⟩,
    ⟨(some 19), .bin .sub (.t 18) (.c (.int .i64 1)), none, false, none, 0⟩,
    ⟨(some 6), .mov (.t 19), none, false, none, 0⟩])
  (.block 0 (.loop [0, 2, 4, 5, 6] F16_C3)))
  (.seq (.regD [⟨(some 90), .mov (.t 4), none, false, none, 0⟩,
    ⟨(some 91), .indexA 2 (.t 90) (.c (.int .i64 0)), none, false, none, 0⟩,
    ⟨(some 92), .load true 2 (.t 91), none, false, none, 0⟩,
    ⟨(some 93), .mov (.t 4), none, false, none, 0⟩,
    ⟨(some 94), .indexA 2 (.t 93) (.c (.int .i64 0)), none, false, none, 0⟩,
    ⟨(some 95), .fieldA 1 (.t 94), none, false, none, 0⟩,
    ⟨(some 96), .load false 1 (.t 95), none, false, none, 0⟩,
    ⟨(some 97), .bin .leq (.t 96) (.c (.int .i64 8)), none, false, none, 0⟩,
    ⟨none, .store 2 (.t 2) (.t 92), none, false, (some 2), 0⟩,
    ⟨(some 3), .mov (.t 97), none, false, none, 0⟩])
  (.ret)))))
def F16_C5 : ACode :=
  .seq (.regD [⟨(some 90), .mov (.t 4), none, false, none, 0⟩,
    ⟨(some 91), .indexA 2 (.t 90) (.c (.int .i64 0)), none, false, none, 0⟩,
    ⟨(some 92), .load true 2 (.t 91), none, false, none, 0⟩,
    ⟨(some 93), .mov (.t 4), none, false, none, 0⟩,
    ⟨(some 94), .indexA 2 (.t 93) (.c (.int .i64 0)), none, false, none, 0⟩,
    ⟨(some 95), .fieldA 1 (.t 94), none, false, none, 0⟩,
    ⟨(some 96), .load false 1 (.t 95), none, false, none, 0⟩,
    ⟨(some 97), .bin .leq (.t 96) (.c (.int .i64 8)), none, false, none, 0⟩,
    ⟨none, .store 2 (.t 2) (.t 92), none, false, (some 2), 0⟩,
    ⟨(some 3), .mov (.t 97), none, false, none, 0⟩])
  (.ret)
def F16_C6 : ACode :=
  .seq (.reg [⟨(some 78), .fieldA 1 (.t 7), none, false, none, 0⟩,
    ⟨(some 79), .load false 1 (.t 78), none, false, none, 0⟩,
    ⟨(some 80), .bin .add (.t 79) (.c (.int .i64 1)), none, false, none, 0⟩,
    ⟨(some 81), .fieldA 1 (.t 7), none, false, none, 0⟩,
    ⟨none, .store 1 (.t 81) (.t 80), none, false, none, 0⟩])
  (.seq (.reg [⟨(some 82), .mov (.t 4), none, false, none, 0⟩,
    ⟨(some 83), .mov (.t 6), none, false, none, 0⟩,
    ⟨(some 84), .load true 2 (.t 7), none, false, none, 0⟩,
    ⟨(some 85), .indexA 2 (.t 82) (.t 83), none, false, none, 0⟩,
    ⟨none, .store 2 (.t 85) (.t 84), none, false, none, 0⟩])
  (.reg [⟨(some 86), .mov (.t 5), none, false, none, 0⟩,
    ⟨(some 87), .mov (.t 6), none, false, none, 0⟩,
    ⟨(some 88), .mov (.t 9), none, false, none, 0⟩,
    ⟨(some 89), .indexA 1 (.t 86) (.t 87), none, false, none, 0⟩,
    ⟨none, .store 1 (.t 89) (.t 88), none, false, none, 0⟩]))
def F16_C7 : ACode :=
  .reg [⟨(some 54), .mov (.t 10), none, false, none, 0⟩,
    ⟨(some 55), .bin .add (.t 54) (.c (.int .i64 1)), none, false, none, 0⟩,
    ⟨(some 10), .mov (.t 55), none, false, none, 0⟩]
def F16 : AFunc := ⟨1, 98, [.cell 2 true 2, .tmp 3], F16_C4⟩
def Y16 : List VT := [.v (.one .sl), .v (.one .any), .v (.one .any), .v (.one .bool), .v (.one .sl), .v (.one .sl), .v (.one (.int .i64)), .v (.one .any), .v (.one .bool), .v (.one (.int .i64)), .v (.one (.int .i64)), .v (.one .sl), .v (.one (.int .i64)), .v (.one .sl), .v (.one .sl), .v (.one (.int .i64)), .v (.one .sl), .v (.one .sl), .v (.one (.int .i64)), .v (.one (.int .i64)), .v (.one (.int .i64)), .v (.one .bool), .v (.one (.int .i64)), .v (.one (.int .i64)), .v (.one .sl), .v (.one (.int .i64)), .v (.one .any), .v (.one .any), .v (.one (.int .i64)), .v (.one .bool), .v (.one .sl), .v (.one (.int .i64)), .v (.one .sl), .v (.one (.int .i64)), .v (.one .any), .v (.one .any), .v (.one (.int .i64)), .v (.agg [.int .i64, .int .i64]), .v (.one .any), .v (.one .sl), .v (.one (.int .i64)), .v (.one (.int .i64)), .v (.one (.int .i64)), .v (.one .any), .v (.agg [.int .i64, .int .i64]), .v (.one (.int .i64)), .v (.one (.int .i64)), .v (.one (.int .i64)), .v (.one .sl), .v (.one (.int .i64)), .v (.one .any), .v (.one .any), .v (.one (.int .i64)), .v (.one .bool), .v (.one (.int .i64)), .v (.one (.int .i64)), .v (.one (.int .i64)), .v (.one .bool), .v (.one .sl), .v (.one (.int .i64)), .v (.one .any), .v (.agg [.int .i64, .int .i64]), .tup [.agg [.int .i64, .int .i64], .one .bool], .v (.agg [.int .i64, .int .i64]), .v (.one .sl), .v (.one (.int .i64)), .v (.one .any), .v (.agg [.int .i64, .int .i64]), .tup [.agg [.int .i64, .int .i64], .one .bool], .v (.agg [.int .i64, .int .i64]), .v (.one .bool), .v (.one .bool), .v (.one .bool), .v (.agg [.int .i64, .int .i64]), .v (.one .sl), .v (.one (.int .i64)), .v (.one .any), .v (.one (.int .i64)), .v (.one .any), .v (.one (.int .i64)), .v (.one (.int .i64)), .v (.one .any), .v (.one .sl), .v (.one (.int .i64)), .v (.agg [.int .i64, .int .i64]), .v (.one .any), .v (.one .sl), .v (.one (.int .i64)), .v (.one (.int .i64)), .v (.one .any), .v (.one .sl), .v (.one .any), .v (.agg [.int .i64, .int .i64]), .v (.one .sl), .v (.one .any), .v (.one .any), .v (.one (.int .i64)), .v (.one .bool)]
noncomputable def F16_K0 (T : Nat → Option AFn) (hs : Heap → Heap → Bool) : Kont (Value × Heap) := { (kontF F16) with nrm := fun fr H => runK T hs Y16 F16_C5 fr H (kontF F16) }
noncomputable def F16_K1 (T : Nat → Option AFn) (hs : Heap → Heap → Bool) : Kont (Value × Heap) := { (F16_K0 T hs) with ex := fun i fr H => if i = 0 then (F16_K0 T hs).nrm fr H else (F16_K0 T hs).ex i fr H }
noncomputable def F16_K2 (T : Nat → Option AFn) (hs : Heap → Heap → Bool) : Kont (Value × Heap) := { (F16_K1 T hs) with nrm := fun fr H => fF (forget [0, 2, 4, 5, 6] fr) fun fr => loopK T hs [0, 2, 4, 5, 6] F16_C3 fr H (F16_K1 T hs) }
noncomputable def F16_K3 (T : Nat → Option AFn) (hs : Heap → Heap → Bool) : Kont (Value × Heap) := { (F16_K2 T hs) with nrm := fun fr H => fF (forget [0, 2, 4, 5, 6] fr) fun fr => joinK T hs F16_C2 fr H (F16_K2 T hs) }
noncomputable def F16_K4 (T : Nat → Option AFn) (hs : Heap → Heap → Bool) : Kont (Value × Heap) := { (F16_K3 T hs) with ex := fun i fr H => if i = 1 then (F16_K3 T hs).nrm fr H else (F16_K3 T hs).ex i fr H }
noncomputable def F16_K5 (T : Nat → Option AFn) (hs : Heap → Heap → Bool) : Kont (Value × Heap) := { (F16_K4 T hs) with nrm := fun fr H => runK T hs Y16 F16_C6 fr H (F16_K4 T hs) }
noncomputable def F16_K6 (T : Nat → Option AFn) (hs : Heap → Heap → Bool) : Kont (Value × Heap) := { (F16_K5 T hs) with ex := fun i fr H => if i = 2 then (F16_K5 T hs).nrm fr H else (F16_K5 T hs).ex i fr H }
noncomputable def F16_K7 (T : Nat → Option AFn) (hs : Heap → Heap → Bool) : Kont (Value × Heap) := { (F16_K6 T hs) with nrm := fun fr H => fF (forget [0, 2, 4, 5, 6, 7, 8, 9, 10] fr) fun fr => loopK T hs [0, 2, 4, 5, 6, 7, 8, 9, 10] F16_C1 fr H (F16_K6 T hs) }
noncomputable def F16_K8 (T : Nat → Option AFn) (hs : Heap → Heap → Bool) : Kont (Value × Heap) := { (F16_K7 T hs) with nrm := fun fr H => runK T hs Y16 F16_C7 fr H (F16_K7 T hs) }
noncomputable def F16_K9 (T : Nat → Option AFn) (hs : Heap → Heap → Bool) : Kont (Value × Heap) := { (F16_K8 T hs) with ex := fun i fr H => if i = 3 then (F16_K8 T hs).nrm fr H else (F16_K8 T hs).ex i fr H }
noncomputable def g16_J1 (T : Nat → Option AFn) (hs : Heap → Heap → Bool) (a0 : Option Addr) (n0 : Nat) (c0 : Nat) (x2 : Int) (x2_4 : Int) (a4 : Option Addr) (n4 : Nat) (c4 : Nat) (a5 : Option Addr) (n5 : Nat) (c5 : Nat) (x6 : Int) (H : Heap) : Option (Value × Heap) := joinK T hs F16_C2 [(.v (.slice a0 n0 c0)), .no, (.loc [(.int .i64 x2), (.int .i64 x2_4)]), .no, (.v (.slice a4 n4 c4)), (.v (.slice a5 n5 c5)), (.v (.int .i64 x6)), .no, .no, .no, .no, .no, .no, .no, .no, .no, .no, .no, .no, .no, .no, .no, .no, .no, .no, .no, .no, .no, .no, .no, .no, .no, .no, .no, .no, .no, .no, .no, .no, .no, .no, .no, .no, .no, .no, .no, .no, .no, .no, .no, .no, .no, .no, .no, .no, .no, .no, .no, .no, .no, .no, .no, .no, .no, .no, .no, .no, .no, .no, .no, .no, .no, .no, .no, .no, .no, .no, .no, .no, .no, .no, .no, .no, .no, .no, .no, .no, .no, .no, .no, .no, .no, .no, .no, .no, .no, .no, .no] H (F16_K2 T hs)
noncomputable def g16_J3 (T : Nat → Option AFn) (hs : Heap → Heap → Bool) (a0 : Option Addr) (n0 : Nat) (c0 : Nat) (x2 : Int) (x2_4 : Int) (a4 : Option Addr) (n4 : Nat) (c4 : Nat) (a5 : Option Addr) (n5 : Nat) (c5 : Nat) (x6 : Int) (x7 : Int) (x7_13 : Int) (x8 : Bool) (x9 : Int) (x10 : Int) (H : Heap) : Option (Value × Heap) := joinK T hs F16_C0 [(.v (.slice a0 n0 c0)), .no, (.loc [(.int .i64 x2), (.int .i64 x2_4)]), .no, (.v (.slice a4 n4 c4)), (.v (.slice a5 n5 c5)), (.v (.int .i64 x6)), (.loc [(.int .i64 x7), (.int .i64 x7_13)]), (.v (.bool x8)), (.v (.int .i64 x9)), (.v (.int .i64 x10)), .no, .no, .no, .no, .no, .no, .no, .no, .no, .no, .no, .no, .no, .no, .no, .no, .no, .no, .no, .no, .no, .no, .no, .no, .no, .no, .no, .no, .no, .no, .no, .no, .no, .no, .no, .no, .no, .no, .no, .no, .no, .no, .no, .no, .no, .no, .no, .no, .no, .no, .no, .no, .no, .no, .no, .no, .no, .no, .no, .no, .no, .no, .no, .no, .no, .no, .no, .no, .no, .no, .no, .no, .no, .no, .no, .no, .no, .no, .no, .no, .no, .no, .no, .no, .no, .no, .no] H (F16_K9 T hs)
noncomputable def g16_L2 (T : Nat → Option AFn) (hs : Heap → Heap → Bool) (a0 : Option Addr) (n0 : Nat) (c0 : Nat) (x2 : Int) (x2_4 : Int) (a4 : Option Addr) (n4 : Nat) (c4 : Nat) (a5 : Option Addr) (n5 : Nat) (c5 : Nat) (x6 : Int) (x7 : Int) (x7_13 : Int) (x8 : Bool) (x9 : Int) (x10 : Int) (H : Heap) : Option (Value × Heap) := loopK T hs [0, 2, 4, 5, 6, 7, 8, 9, 10] F16_C1 [(.v (.slice a0 n0 c0)), .no, (.loc [(.int .i64 x2), (.int .i64 x2_4)]), .no, (.v (.slice a4 n4 c4)), (.v (.slice a5 n5 c5)), (.v (.int .i64 x6)), (.loc [(.int .i64 x7), (.int .i64 x7_13)]), (.v (.bool x8)), (.v (.int .i64 x9)), (.v (.int .i64 x10)), .no, .no, .no, .no, .no, .no, .no, .no, .no, .no, .no, .no, .no, .no, .no, .no, .no, .no, .no, .no, .no, .no, .no, .no, .no, .no, .no, .no, .no, .no, .no, .no, .no, .no, .no, .no, .no, .no, .no, .no, .no, .no, .no, .no, .no, .no, .no, .no, .no, .no, .no, .no, .no, .no, .no, .no, .no, .no, .no, .no, .no, .no, .no, .no, .no, .no, .no, .no, .no, .no, .no, .no, .no, .no, .no, .no, .no, .no, .no, .no, .no, .no, .no, .no, .no, .no, .no] H (F16_K6 T hs)
noncomputable def g16_L0 (T : Nat → Option AFn) (hs : Heap → Heap → Bool) (a0 : Option Addr) (n0 : Nat) (c0 : Nat) (x2 : Int) (x2_4 : Int) (a4 : Option Addr) (n4 : Nat) (c4 : Nat) (a5 : Option Addr) (n5 : Nat) (c5 : Nat) (x6 : Int) (H : Heap) : Option (Value × Heap) := loopK T hs [0, 2, 4, 5, 6] F16_C3 [(.v (.slice a0 n0 c0)), .no, (.loc [(.int .i64 x2), (.int .i64 x2_4)]), .no, (.v (.slice a4 n4 c4)), (.v (.slice a5 n5 c5)), (.v (.int .i64 x6)), .no, .no, .no, .no, .no, .no, .no, .no, .no, .no, .no, .no, .no, .no, .no, .no, .no, .no, .no, .no, .no, .no, .no, .no, .no, .no, .no, .no, .no, .no, .no, .no, .no, .no, .no, .no, .no, .no, .no, .no, .no, .no, .no, .no, .no, .no, .no, .no, .no, .no, .no, .no, .no, .no, .no, .no, .no, .no, .no, .no, .no, .no, .no, .no, .no, .no, .no, .no, .no, .no, .no, .no, .no, .no, .no, .no, .no, .no, .no, .no, .no, .no, .no, .no, .no, .no, .no, .no, .no, .no, .no] H (F16_K1 T hs)
noncomputable def s16_L0 (T : Nat → Option AFn) (hs : Heap → Heap → Bool) (a0 : Option Addr) (n0 : Nat) (c0 : Nat) (x2 : Int) (x2_4 : Int) (a4 : Option Addr) (n4 : Nat) (c4 : Nat) (a5 : Option Addr) (n5 : Nat) (c5 : Nat) (x6 : Int) (H : Heap) : Option (Value × Heap) :=
  cond (decide ((x6 : Int) ≥ 0))
  ((ixA H 3 (.slice a0 n0 c0) x6).bind fun q26 =>
  (rdHp H q26.1 (q26.2.1 + 0) q26.2.2 3 1).bind fun w28 =>
  ifCons w28 fun v28 l28 => ifNil l28 <|
  ifInt .i64 v28 fun x28 =>
  cond ((x28 : Int) != 0)
  ((ixA H 3 (.slice a0 n0 c0) x6).bind fun q34 =>
  (rdHp H q34.1 (q34.2.1 + 0) q34.2.2 3 1).bind fun w36 =>
  ifCons w36 fun v36 l36 => ifNil l36 <|
  ifInt .i64 v36 fun x36 =>
  (ixA H 2 (.slice a4 n4 c4) x6).bind fun q38 =>
  (wrHp H q38.1 q38.2.1 q38.2.2 2 [(.int .i64 x36), (.int .i64 0)]).bind fun H_1 =>
  (ixA H_1 1 (.slice a5 n5 c5) x6).bind fun q43 =>
  (wrHp H_1 q43.1 q43.2.1 q43.2.2 1 [(.int .i64 (IntKind.wrap .i64 (x6 + 1)))]).bind fun H_2 =>
  g16_J1 T hs a0 n0 c0 x2 x2_4 a4 n4 c4 a5 n5 c5 x6 H_2)
  (g16_L2 T hs a0 n0 c0 x2 x2_4 a4 n4 c4 a5 n5 c5 x6 0 0 true (IntKind.wrap .i64 (x6 + 1)) 0 H))
  ((ixA H 2 (.slice a4 n4 c4) 0).bind fun q91 =>
  (rdHp H q91.1 q91.2.1 q91.2.2 2 2).bind fun w92 =>
  ifCons w92 fun v92 l92 =>
  ifInt .i64 v92 fun x92 =>
  ifCons l92 fun v92_1 l92_1 =>
  ifInt .i64 v92_1 fun x92_1 =>
  ifNil l92_1 <|
  (ixA H 2 (.slice a4 n4 c4) 0).bind fun q94 =>
  (rdHp H q94.1 (q94.2.1 + 1) q94.2.2 1 1).bind fun w96 =>
  ifCons w96 fun v96 l96 => ifNil l96 <|
  ifInt .i64 v96 fun x96 =>
  some (.tuple #[(.agg #[(.int .i64 x92), (.int .i64 x92_1)]), (.bool (decide ((x96 : Int) ≤ 8)))], H))
theorem g16_L0_step (T : Nat → Option AFn) (hs : Heap → Heap → Bool) (a0 : Option Addr) (n0 : Nat) (c0 : Nat) (x2 : Int) (x2_4 : Int) (a4 : Option Addr) (n4 : Nat) (c4 : Nat) (a5 : Option Addr) (n5 : Nat) (c5 : Nat) (x6 : Int) (H : Heap) : loopB T hs Y16 [0, 2, 4, 5, 6] F16_C3 [(.v (.slice a0 n0 c0)), .no, (.loc [(.int .i64 x2), (.int .i64 x2_4)]), .no, (.v (.slice a4 n4 c4)), (.v (.slice a5 n5 c5)), (.v (.int .i64 x6)), .no, .no, .no, .no, .no, .no, .no, .no, .no, .no, .no, .no, .no, .no, .no, .no, .no, .no, .no, .no, .no, .no, .no, .no, .no, .no, .no, .no, .no, .no, .no, .no, .no, .no, .no, .no, .no, .no, .no, .no, .no, .no, .no, .no, .no, .no, .no, .no, .no, .no, .no, .no, .no, .no, .no, .no, .no, .no, .no, .no, .no, .no, .no, .no, .no, .no, .no, .no, .no, .no, .no, .no, .no, .no, .no, .no, .no, .no, .no, .no, .no, .no, .no, .no, .no, .no, .no, .no, .no, .no, .no] H (F16_K1 T hs) = s16_L0 T hs a0 n0 c0 x2 x2_4 a4 n4 c4 a5 n5 c5 x6 H := by kernel_rfl
theorem g16_L0_ok {T : Nat → Option AFn} {hs : Heap → Heap → Bool} {a0 : Option Addr} {n0 : Nat} {c0 : Nat} {x2 : Int} {x2_4 : Int} {a4 : Option Addr} {n4 : Nat} {c4 : Nat} {a5 : Option Addr} {n5 : Nat} {c5 : Nat} {x6 : Int} {H : Heap} {r : Value × Heap} (h : s16_L0 T hs a0 n0 c0 x2 x2_4 a4 n4 c4 a5 n5 c5 x6 H = some r) : g16_L0 T hs a0 n0 c0 x2 x2_4 a4 n4 c4 a5 n5 c5 x6 H = some r := loopB_ok ((g16_L0_step T hs a0 n0 c0 x2 x2_4 a4 n4 c4 a5 n5 c5 x6 H).trans h)
theorem g16_L0_ret {T : Nat → Option AFn} {hs : Heap → Heap → Bool} {a0 : Option Addr} {n0 : Nat} {c0 : Nat} {x2 : Int} {x2_4 : Int} {a4 : Option Addr} {n4 : Nat} {c4 : Nat} {a5 : Option Addr} {n5 : Nat} {c5 : Nat} {x6 : Int} {H : Heap} {Q : Value → Heap → Prop} (h : Ret (s16_L0 T hs a0 n0 c0 x2 x2_4 a4 n4 c4 a5 n5 c5 x6 H) Q) : Ret (g16_L0 T hs a0 n0 c0 x2 x2_4 a4 n4 c4 a5 n5 c5 x6 H) Q := h.via fun _ q => g16_L0_ok q
noncomputable def s16_J1 (T : Nat → Option AFn) (hs : Heap → Heap → Bool) (a0 : Option Addr) (n0 : Nat) (c0 : Nat) (x2 : Int) (x2_4 : Int) (a4 : Option Addr) (n4 : Nat) (c4 : Nat) (a5 : Option Addr) (n5 : Nat) (c5 : Nat) (x6 : Int) (H : Heap) : Option (Value × Heap) :=
  g16_L0 T hs a0 n0 c0 x2 x2_4 a4 n4 c4 a5 n5 c5 (IntKind.wrap .i64 (x6 - 1)) H
theorem g16_J1_step (T : Nat → Option AFn) (hs : Heap → Heap → Bool) (a0 : Option Addr) (n0 : Nat) (c0 : Nat) (x2 : Int) (x2_4 : Int) (a4 : Option Addr) (n4 : Nat) (c4 : Nat) (a5 : Option Addr) (n5 : Nat) (c5 : Nat) (x6 : Int) (H : Heap) : runK T hs Y16 F16_C2 [(.v (.slice a0 n0 c0)), .no, (.loc [(.int .i64 x2), (.int .i64 x2_4)]), .no, (.v (.slice a4 n4 c4)), (.v (.slice a5 n5 c5)), (.v (.int .i64 x6)), .no, .no, .no, .no, .no, .no, .no, .no, .no, .no, .no, .no, .no, .no, .no, .no, .no, .no, .no, .no, .no, .no, .no, .no, .no, .no, .no, .no, .no, .no, .no, .no, .no, .no, .no, .no, .no, .no, .no, .no, .no, .no, .no, .no, .no, .no, .no, .no, .no, .no, .no, .no, .no, .no, .no, .no, .no, .no, .no, .no, .no, .no, .no, .no, .no, .no, .no, .no, .no, .no, .no, .no, .no, .no, .no, .no, .no, .no, .no, .no, .no, .no, .no, .no, .no, .no, .no, .no, .no, .no, .no] H (F16_K2 T hs) = s16_J1 T hs a0 n0 c0 x2 x2_4 a4 n4 c4 a5 n5 c5 x6 H := by kernel_rfl
theorem g16_J1_ok {T : Nat → Option AFn} {hs : Heap → Heap → Bool} {a0 : Option Addr} {n0 : Nat} {c0 : Nat} {x2 : Int} {x2_4 : Int} {a4 : Option Addr} {n4 : Nat} {c4 : Nat} {a5 : Option Addr} {n5 : Nat} {c5 : Nat} {x6 : Int} {H : Heap} {r : Value × Heap} (h : s16_J1 T hs a0 n0 c0 x2 x2_4 a4 n4 c4 a5 n5 c5 x6 H = some r) : g16_J1 T hs a0 n0 c0 x2 x2_4 a4 n4 c4 a5 n5 c5 x6 H = some r := join_intro ((g16_J1_step T hs a0 n0 c0 x2 x2_4 a4 n4 c4 a5 n5 c5 x6 H).trans h)
theorem g16_J1_ret {T : Nat → Option AFn} {hs : Heap → Heap → Bool} {a0 : Option Addr} {n0 : Nat} {c0 : Nat} {x2 : Int} {x2_4 : Int} {a4 : Option Addr} {n4 : Nat} {c4 : Nat} {a5 : Option Addr} {n5 : Nat} {c5 : Nat} {x6 : Int} {H : Heap} {Q : Value → Heap → Prop} (h : Ret (s16_J1 T hs a0 n0 c0 x2 x2_4 a4 n4 c4 a5 n5 c5 x6 H) Q) : Ret (g16_J1 T hs a0 n0 c0 x2 x2_4 a4 n4 c4 a5 n5 c5 x6 H) Q := h.via fun _ q => g16_J1_ok q
noncomputable def s16_L2 (T : Nat → Option AFn) (hs : Heap → Heap → Bool) (a0 : Option Addr) (n0 : Nat) (c0 : Nat) (x2 : Int) (x2_4 : Int) (a4 : Option Addr) (n4 : Nat) (c4 : Nat) (a5 : Option Addr) (n5 : Nat) (c5 : Nat) (x6 : Int) (x7 : Int) (x7_13 : Int) (x8 : Bool) (x9 : Int) (x10 : Int) (H : Heap) : Option (Value × Heap) :=
  (ixA H 3 (.slice a0 n0 c0) x6).bind fun q50 =>
  (rdHp H q50.1 (q50.2.1 + 2) q50.2.2 1 1).bind fun w52 =>
  ifCons w52 fun v52 l52 => ifNil l52 <|
  ifInt .i64 v52 fun x52 =>
  cond (decide ((x10 : Int) < x52))
  (cond ((x10 : Int) == 0)
  ((ixA H 2 (.slice a4 n4 c4) x9).bind fun q60 =>
  (rdHp H q60.1 q60.2.1 q60.2.2 2 2).bind fun w61 =>
  ifCons w61 fun v61 l61 =>
  ifInt .i64 v61 fun x61 =>
  ifCons l61 fun v61_1 l61_1 =>
  ifInt .i64 v61_1 fun x61_1 =>
  ifNil l61_1 <|
  g16_J3 T hs a0 n0 c0 x2 x2_4 a4 n4 c4 a5 n5 c5 x6 x61 x61_1 x8 x9 x10 H)
  ((ixA H 2 (.slice a4 n4 c4) x9).bind fun q66 =>
  (rdHp H q66.1 q66.2.1 q66.2.2 2 2).bind fun w67 =>
  ifCons w67 fun v67 l67 =>
  ifInt .i64 v67 fun x67 =>
  ifCons l67 fun v67_1 l67_1 =>
  ifInt .i64 v67_1 fun x67_1 =>
  ifNil l67_1 <|
  (CT T hs 28 [(.agg #[(.int .i64 x7), (.int .i64 x7_13)]), (.agg #[(.int .i64 x67), (.int .i64 x67_1)])] H).bind fun p68 =>
  cond (hs H p68.2)
  (ifTup p68.1 fun l68 =>
  ifCons l68 fun v68 l68_1 =>
  ifAgg v68 fun l68_2 =>
  ifCons l68_2 fun v68_1 l68_3 =>
  ifInt .i64 v68_1 fun x68 =>
  ifCons l68_3 fun v68_2 l68_4 =>
  ifInt .i64 v68_2 fun x68_1 =>
  ifNil l68_4 <|
  ifCons l68_1 fun v68_3 l68_5 =>
  ifBool v68_3 fun x68_2 =>
  ifNil l68_5 <|
  g16_J3 T hs a0 n0 c0 x2 x2_4 a4 n4 c4 a5 n5 c5 x6 x68 x68_1 x68_2 x9 x10 p68.2)
  none))
  ((ixA H 2 (.slice a4 n4 c4) x6).bind fun q85 =>
  (wrHp H q85.1 q85.2.1 q85.2.2 2 [(.int .i64 x7), (.int .i64 (IntKind.wrap .i64 (x7_13 + 1)))]).bind fun H_1 =>
  (ixA H_1 1 (.slice a5 n5 c5) x6).bind fun q89 =>
  (wrHp H_1 q89.1 q89.2.1 q89.2.2 1 [(.int .i64 x9)]).bind fun H_2 =>
  g16_J1 T hs a0 n0 c0 x2 x2_4 a4 n4 c4 a5 n5 c5 x6 H_2)
theorem g16_L2_step (T : Nat → Option AFn) (hs : Heap → Heap → Bool) (a0 : Option Addr) (n0 : Nat) (c0 : Nat) (x2 : Int) (x2_4 : Int) (a4 : Option Addr) (n4 : Nat) (c4 : Nat) (a5 : Option Addr) (n5 : Nat) (c5 : Nat) (x6 : Int) (x7 : Int) (x7_13 : Int) (x8 : Bool) (x9 : Int) (x10 : Int) (H : Heap) : loopB T hs Y16 [0, 2, 4, 5, 6, 7, 8, 9, 10] F16_C1 [(.v (.slice a0 n0 c0)), .no, (.loc [(.int .i64 x2), (.int .i64 x2_4)]), .no, (.v (.slice a4 n4 c4)), (.v (.slice a5 n5 c5)), (.v (.int .i64 x6)), (.loc [(.int .i64 x7), (.int .i64 x7_13)]), (.v (.bool x8)), (.v (.int .i64 x9)), (.v (.int .i64 x10)), .no, .no, .no, .no, .no, .no, .no, .no, .no, .no, .no, .no, .no, .no, .no, .no, .no, .no, .no, .no, .no, .no, .no, .no, .no, .no, .no, .no, .no, .no, .no, .no, .no, .no, .no, .no, .no, .no, .no, .no, .no, .no, .no, .no, .no, .no, .no, .no, .no, .no, .no, .no, .no, .no, .no, .no, .no, .no, .no, .no, .no, .no, .no, .no, .no, .no, .no, .no, .no, .no, .no, .no, .no, .no, .no, .no, .no, .no, .no, .no, .no, .no, .no, .no, .no, .no, .no] H (F16_K6 T hs) = s16_L2 T hs a0 n0 c0 x2 x2_4 a4 n4 c4 a5 n5 c5 x6 x7 x7_13 x8 x9 x10 H := by kernel_rfl
theorem g16_L2_ok {T : Nat → Option AFn} {hs : Heap → Heap → Bool} {a0 : Option Addr} {n0 : Nat} {c0 : Nat} {x2 : Int} {x2_4 : Int} {a4 : Option Addr} {n4 : Nat} {c4 : Nat} {a5 : Option Addr} {n5 : Nat} {c5 : Nat} {x6 : Int} {x7 : Int} {x7_13 : Int} {x8 : Bool} {x9 : Int} {x10 : Int} {H : Heap} {r : Value × Heap} (h : s16_L2 T hs a0 n0 c0 x2 x2_4 a4 n4 c4 a5 n5 c5 x6 x7 x7_13 x8 x9 x10 H = some r) : g16_L2 T hs a0 n0 c0 x2 x2_4 a4 n4 c4 a5 n5 c5 x6 x7 x7_13 x8 x9 x10 H = some r := loopB_ok ((g16_L2_step T hs a0 n0 c0 x2 x2_4 a4 n4 c4 a5 n5 c5 x6 x7 x7_13 x8 x9 x10 H).trans h)
theorem g16_L2_ret {T : Nat → Option AFn} {hs : Heap → Heap → Bool} {a0 : Option Addr} {n0 : Nat} {c0 : Nat} {x2 : Int} {x2_4 : Int} {a4 : Option Addr} {n4 : Nat} {c4 : Nat} {a5 : Option Addr} {n5 : Nat} {c5 : Nat} {x6 : Int} {x7 : Int} {x7_13 : Int} {x8 : Bool} {x9 : Int} {x10 : Int} {H : Heap} {Q : Value → Heap → Prop} (h : Ret (s16_L2 T hs a0 n0 c0 x2 x2_4 a4 n4 c4 a5 n5 c5 x6 x7 x7_13 x8 x9 x10 H) Q) : Ret (g16_L2 T hs a0 n0 c0 x2 x2_4 a4 n4 c4 a5 n5 c5 x6 x7 x7_13 x8 x9 x10 H) Q := h.via fun _ q => g16_L2_ok q
noncomputable def s16_J3 (T : Nat → Option AFn) (hs : Heap → Heap → Bool) (a0 : Option Addr) (n0 : Nat) (c0 : Nat) (x2 : Int) (x2_4 : Int) (a4 : Option Addr) (n4 : Nat) (c4 : Nat) (a5 : Option Addr) (n5 : Nat) (c5 : Nat) (x6 : Int) (x7 : Int) (x7_13 : Int) (x8 : Bool) (x9 : Int) (x10 : Int) (H : Heap) : Option (Value × Heap) :=
  cond (!x8)
  (some (.tuple #[(.agg #[(.int .i64 0), (.int .i64 0)]), (.bool false)], H))
  ((ixA H 1 (.slice a5 n5 c5) x9).bind fun q76 =>
  (rdHp H q76.1 q76.2.1 q76.2.2 1 1).bind fun w77 =>
  ifCons w77 fun v77 l77 => ifNil l77 <|
  ifInt .i64 v77 fun x77 =>
  g16_L2 T hs a0 n0 c0 x2 x2_4 a4 n4 c4 a5 n5 c5 x6 x7 x7_13 x8 x77 (IntKind.wrap .i64 (x10 + 1)) H)
theorem g16_J3_step (T : Nat → Option AFn) (hs : Heap → Heap → Bool) (a0 : Option Addr) (n0 : Nat) (c0 : Nat) (x2 : Int) (x2_4 : Int) (a4 : Option Addr) (n4 : Nat) (c4 : Nat) (a5 : Option Addr) (n5 : Nat) (c5 : Nat) (x6 : Int) (x7 : Int) (x7_13 : Int) (x8 : Bool) (x9 : Int) (x10 : Int) (H : Heap) : runK T hs Y16 F16_C0 [(.v (.slice a0 n0 c0)), .no, (.loc [(.int .i64 x2), (.int .i64 x2_4)]), .no, (.v (.slice a4 n4 c4)), (.v (.slice a5 n5 c5)), (.v (.int .i64 x6)), (.loc [(.int .i64 x7), (.int .i64 x7_13)]), (.v (.bool x8)), (.v (.int .i64 x9)), (.v (.int .i64 x10)), .no, .no, .no, .no, .no, .no, .no, .no, .no, .no, .no, .no, .no, .no, .no, .no, .no, .no, .no, .no, .no, .no, .no, .no, .no, .no, .no, .no, .no, .no, .no, .no, .no, .no, .no, .no, .no, .no, .no, .no, .no, .no, .no, .no, .no, .no, .no, .no, .no, .no, .no, .no, .no, .no, .no, .no, .no, .no, .no, .no, .no, .no, .no, .no, .no, .no, .no, .no, .no, .no, .no, .no, .no, .no, .no, .no, .no, .no, .no, .no, .no, .no, .no, .no, .no, .no, .no] H (F16_K9 T hs) = s16_J3 T hs a0 n0 c0 x2 x2_4 a4 n4 c4 a5 n5 c5 x6 x7 x7_13 x8 x9 x10 H := by kernel_rfl
theorem g16_J3_ok {T : Nat → Option AFn} {hs : Heap → Heap → Bool} {a0 : Option Addr} {n0 : Nat} {c0 : Nat} {x2 : Int} {x2_4 : Int} {a4 : Option Addr} {n4 : Nat} {c4 : Nat} {a5 : Option Addr} {n5 : Nat} {c5 : Nat} {x6 : Int} {x7 : Int} {x7_13 : Int} {x8 : Bool} {x9 : Int} {x10 : Int} {H : Heap} {r : Value × Heap} (h : s16_J3 T hs a0 n0 c0 x2 x2_4 a4 n4 c4 a5 n5 c5 x6 x7 x7_13 x8 x9 x10 H = some r) : g16_J3 T hs a0 n0 c0 x2 x2_4 a4 n4 c4 a5 n5 c5 x6 x7 x7_13 x8 x9 x10 H = some r := join_intro ((g16_J3_step T hs a0 n0 c0 x2 x2_4 a4 n4 c4 a5 n5 c5 x6 x7 x7_13 x8 x9 x10 H).trans h)
theorem g16_J3_ret {T : Nat → Option AFn} {hs : Heap → Heap → Bool} {a0 : Option Addr} {n0 : Nat} {c0 : Nat} {x2 : Int} {x2_4 : Int} {a4 : Option Addr} {n4 : Nat} {c4 : Nat} {a5 : Option Addr} {n5 : Nat} {c5 : Nat} {x6 : Int} {x7 : Int} {x7_13 : Int} {x8 : Bool} {x9 : Int} {x10 : Int} {H : Heap} {Q : Value → Heap → Prop} (h : Ret (s16_J3 T hs a0 n0 c0 x2 x2_4 a4 n4 c4 a5 n5 c5 x6 x7 x7_13 x8 x9 x10 H) Q) : Ret (g16_J3 T hs a0 n0 c0 x2 x2_4 a4 n4 c4 a5 n5 c5 x6 x7 x7_13 x8 x9 x10 H) Q := h.via fun _ q => g16_J3_ok q
noncomputable def s16 (T : Nat → Option AFn) (hs : Heap → Heap → Bool) (a0 : Option Addr) (n0 : Nat) (c0 : Nat) (H : Heap) : Option (Value × Heap) :=
  (mkA H 26 2 16 [.int .i64 0, .int .i64 0] ((n0 : Nat) : Int) ((n0 : Nat) : Int)).bind fun p13 =>
  ifSl p13.1 fun a13 n13 c13 =>
  (mkA p13.2 3 1 8 [.int .i64 0] ((n0 : Nat) : Int) ((n0 : Nat) : Int)).bind fun p16 =>
  ifSl p16.1 fun a16 n16 c16 =>
  g16_L0 T hs a0 n0 c0 0 0 a13 n13 c13 a16 n16 c16 (IntKind.wrap .i64 (((n0 : Nat) : Int) - 1)) p16.2
theorem s16_run (T : Nat → Option AFn) (hs : Heap → Heap → Bool) (a0 : Option Addr) (n0 : Nat) (c0 : Nat) (H : Heap) : runFK T hs Y16 F16 [(.slice a0 n0 c0)] H = s16 T hs a0 n0 c0 H := by kernel_rfl
theorem g16_ok {T : Nat → Option AFn} {hs : Heap → Heap → Bool} (hT : T 16 = some (.code F16)) {a0 : Option Addr} {n0 : Nat} {c0 : Nat} {H : Heap} {r : Value × Heap} (h : s16 T hs a0 n0 c0 H = some r) : CT T hs 16 [(.slice a0 n0 c0)] H = some r := runFK_ok hT ((s16_run T hs a0 n0 c0 H).trans h)
theorem chk16 : chkFunc Tryd.prog 16 F16 = true := by kernel_rfl
/- (*strings.Builder).WriteByte -/
def F17_C0 : ACode :=
  .seq (.reg [⟨(some 4), .mov (.c (.nilIface)), none, false, none, 0⟩])
  (.seq (.reg [⟨(some 5), .mov (.t 0), none, false, none, 0⟩,
    ⟨(some 6), .call 29 [.t 5], none, false, none, 0⟩])
  (.seq (.reg [⟨(some 7), .mov (.t 0), none, false, none, 0⟩,
    ⟨(some 8), .mov (.t 0), none, false, none, 0⟩,
    ⟨(some 9), .nilChk (.t 8), none, false, none, 0⟩,
    ⟨(some 10), .fieldA 1 (.t 9), none, false, none, 0⟩,
    ⟨(some 11), .load false 1 (.t 10), none, false, none, 0⟩,
    ⟨(some 12), .mov (.t 1), none, false, none, 0⟩,
    ⟨(some 13), .buildSl 5 1 1 [.int .u8 0] [(0, 1, .t 12)], none, false, none, 0⟩,
    ⟨(some 14), .append 5 1 1 (.t 11) (.t 13), none, false, none, 0⟩,
    ⟨(some 15), .nilChk (.t 7), none, false, none, 0⟩,
    ⟨(some 16), .fieldA 1 (.t 15), none, false, none, 0⟩,
    ⟨none, .store 1 (.t 16) (.t 14), none, false, none, 0⟩])
  (.seq (.reg [⟨(some 4), .mov (.c (.nilIface)), none, false, none, 0⟩])
  (.ret))))
def F17 : AFunc := ⟨2, 17, [.tmp 4], F17_C0⟩
def Y17 : List VT := [.v (.one .ptr), .v (.one (.int .u8)), .v (.one .any), .v (.one .any), .v (.one .any), .v (.one .ptr), .v (.one .any), .v (.one .ptr), .v (.one .ptr), .v (.one .any), .v (.one .any), .v (.one .sl), .v (.one (.int .u8)), .v (.one .sl), .v (.one .sl), .v (.one .any), .v (.one .any)]
noncomputable def s17 (T : Nat → Option AFn) (hs : Heap → Heap → Bool) (x0 : Option Addr) (x1 : Int) (H : Heap) : Option (Value × Heap) :=
  (CT T hs 29 [(.pointer x0)] H).bind fun p6 =>
  (nilA x0).bind fun q9 =>
  (rdV p6.2 (.pointer (some ⟨q9.1, (q9.2 + 1), some 0⟩)) 1).bind fun w11 =>
  ifCons w11 fun v11 l11 => ifNil l11 <|
  ifSl v11 fun a11 n11 c11 =>
  let H_1 := p6.2 ++ [.cells 5 1 [(.int .u8 x1)] 0 0 0 false]
  (apA H_1 5 1 1 (.slice a11 n11 c11) (.slice (some ⟨p6.2.length, 0, some 0⟩) 1 1)).bind fun p14 =>
  ifSl p14.1 fun a14 n14 c14 =>
  (nilA x0).bind fun q15 =>
  (wrV p14.2 (.pointer (some ⟨q15.1, (q15.2 + 1), some 0⟩)) [(.slice a14 n14 c14)]).bind fun H_2 =>
  some (.nilIface, H_2)
theorem s17_run (T : Nat → Option AFn) (hs : Heap → Heap → Bool) (x0 : Option Addr) (x1 : Int) (H : Heap) : runFK T hs Y17 F17 [(.pointer x0), (.int .u8 x1)] H = s17 T hs x0 x1 H := by kernel_rfl
theorem g17_ok {T : Nat → Option AFn} {hs : Heap → Heap → Bool} (hT : T 17 = some (.code F17)) {x0 : Option Addr} {x1 : Int} {H : Heap} {r : Value × Heap} (h : s17 T hs x0 x1 H = some r) : CT T hs 17 [(.pointer x0), (.int .u8 x1)] H = some r := runFK_ok hT ((s17_run T hs x0 x1 H).trans h)
theorem chk17 : chkFunc Tryd.prog 17 F17 = true := by kernel_rfl
end Go.Proofs.YtknogapmjleliaaDoor
