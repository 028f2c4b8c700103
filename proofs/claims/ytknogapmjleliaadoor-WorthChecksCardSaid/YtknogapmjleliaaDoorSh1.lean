/- Copies of the loaded functions for the abstract machine, their checks, their shallow forms. No condition. -/
import Derived.Test.YtknogapmjleliaaDoorProg
import Derived.Test.YtknogapmjleliaaDoorAmSb
import Derived.KernelRfl
namespace Go.Proofs.YtknogapmjleliaaDoor
open Go Go.AM
set_option linter.unusedVariables false
set_option maxRecDepth 100000

/- dowel/lexis.Spell -/
def F18_C0 : ACode :=
  .seq (.reg [⟨(some 1), .boxL 11 (.t 0), none, false, none, 0⟩,
    ⟨(some 2), .mov (.c (.string ⟨#[]⟩)), none, false, none, 0⟩,
    ⟨(some 3), .mov (.c (.int .i64 0)), none, false, none, 0⟩])
  (.seq (.seq (.reg [⟨(some 5), .load true 11 (.t 1), none, false, none, 0⟩,
    ⟨(some 6), .call 30 [.t 5], none, false, none, 0⟩,
    ⟨(some 7), .un .not (.t 6), none, false, none, 0⟩])
  (.cond (.t 7)
  (.seq (.reg [⟨(some 2), .mov (.c (.string ⟨#[]⟩)), none, false, none, 0⟩,
    ⟨(some 3), .mov (.c (.int .i64 6)), none, false, none, 0⟩])
  (.ret))
  (.skip)))
  (.seq (.seq (.reg [⟨(some 8), .fieldA 3 (.t 1), none, false, none, 0⟩,
    ⟨(some 9), .load false 1 (.t 8), none, false, none, 0⟩,
    ⟨(some 10), .len true (.t 9), none, false, none, 0⟩,
    ⟨(some 11), .bin .gtr (.t 10) (.c (.int .i64 65536)), none, false, none, 0⟩])
  (.cond (.t 11)
  (.seq (.reg [⟨(some 2), .mov (.c (.string ⟨#[]⟩)), none, false, none, 0⟩,
    ⟨(some 3), .mov (.c (.int .i64 2)), none, false, none, 0⟩])
  (.ret))
  (.skip)))
  (.seq (.reg [⟨(some 12), .load true 11 (.t 1), none, false, none, 0⟩,
    ⟨(some 13), .call 31 [.t 12], none, false, none, 0⟩,
    ⟨(some 4), .mov (.t 13), none, false, none, 0⟩])
  (.seq (.seq (.reg [⟨(some 14), .mov (.t 4), none, false, none, 0⟩,
    ⟨(some 15), .len true (.t 14), none, false, none, 0⟩,
    ⟨(some 16), .bin .gtr (.t 15) (.c (.int .i64 65536)), none, false, none, 0⟩])
  (.cond (.t 16)
  (.seq (.reg [⟨(some 2), .mov (.c (.string ⟨#[]⟩)), none, false, none, 0⟩,
    ⟨(some 3), .mov (.c (.int .i64 2)), none, false, none, 0⟩])
  (.ret))
  (.skip)))
  (.seq (.reg [⟨(some 17), .mov (.t 4), none, false, none, 0⟩,
    ⟨(some 2), .mov (.t 17), none, false, none, 0⟩,
    ⟨(some 3), .mov (.c (.int .i64 0)), none, false, none, 0⟩])
  (.ret))))))
def F18 : AFunc := ⟨1, 18, [.tmp 2, .tmp 3], F18_C0⟩
def Y18 : List VT := [.v (.agg [.int .i64, .int .i64, .int .i64, .str, .bool, .int .u64, .int .u64, .int .u64, .int .u64, .int .i64, .int .i64]), .v (.one .any), .v (.one .str), .v (.one (.int .i64)), .v (.one .str), .v (.agg [.int .i64, .int .i64, .int .i64, .str, .bool, .int .u64, .int .u64, .int .u64, .int .u64, .int .i64, .int .i64]), .v (.one .bool), .v (.one .bool), .v (.one .any), .v (.one .str), .v (.one (.int .i64)), .v (.one .bool), .v (.agg [.int .i64, .int .i64, .int .i64, .str, .bool, .int .u64, .int .u64, .int .u64, .int .u64, .int .i64, .int .i64]), .v (.one .str), .v (.one .str), .v (.one (.int .i64)), .v (.one .bool), .v (.one .str)]
noncomputable def s18 (T : Nat → Option AFn) (hs : Heap → Heap → Bool) (x0_0 : Int) (x0_1 : Int) (x0_2 : Int) (x0_3 : ByteArray) (x0_4 : Bool) (x0_5 : Int) (x0_6 : Int) (x0_7 : Int) (x0_8 : Int) (x0_9 : Int) (x0_10 : Int) (H : Heap) : Option (Value × Heap) :=
  (CT T hs 30 [(.agg #[(.int .i64 x0_0), (.int .i64 x0_1), (.int .i64 x0_2), (.string x0_3), (.bool x0_4), (.int .u64 x0_5), (.int .u64 x0_6), (.int .u64 x0_7), (.int .u64 x0_8), (.int .i64 x0_9), (.int .i64 x0_10)])] H).bind fun p6 =>
  ifBool p6.1 fun x6 =>
  cond (!x6)
  (some (.tuple #[(.string (⟨#[]⟩ : ByteArray)), (.int .i64 6)], p6.2))
  (cond (decide (((x0_3.size : Int) : Int) > 65536))
  (some (.tuple #[(.string (⟨#[]⟩ : ByteArray)), (.int .i64 2)], p6.2))
  ((CT T hs 31 [(.agg #[(.int .i64 x0_0), (.int .i64 x0_1), (.int .i64 x0_2), (.string x0_3), (.bool x0_4), (.int .u64 x0_5), (.int .u64 x0_6), (.int .u64 x0_7), (.int .u64 x0_8), (.int .i64 x0_9), (.int .i64 x0_10)])] p6.2).bind fun p13 =>
  ifStr p13.1 fun x13 =>
  cond (decide (((x13.size : Int) : Int) > 65536))
  (some (.tuple #[(.string (⟨#[]⟩ : ByteArray)), (.int .i64 2)], p13.2))
  (some (.tuple #[(.string x13), (.int .i64 0)], p13.2))))
theorem s18_run (T : Nat → Option AFn) (hs : Heap → Heap → Bool) (x0_0 : Int) (x0_1 : Int) (x0_2 : Int) (x0_3 : ByteArray) (x0_4 : Bool) (x0_5 : Int) (x0_6 : Int) (x0_7 : Int) (x0_8 : Int) (x0_9 : Int) (x0_10 : Int) (H : Heap) : runFK T hs Y18 F18 [(.agg #[(.int .i64 x0_0), (.int .i64 x0_1), (.int .i64 x0_2), (.string x0_3), (.bool x0_4), (.int .u64 x0_5), (.int .u64 x0_6), (.int .u64 x0_7), (.int .u64 x0_8), (.int .i64 x0_9), (.int .i64 x0_10)])] H = s18 T hs x0_0 x0_1 x0_2 x0_3 x0_4 x0_5 x0_6 x0_7 x0_8 x0_9 x0_10 H := by kernel_rfl
theorem g18_ok {T : Nat → Option AFn} {hs : Heap → Heap → Bool} (hT : T 18 = some (.code F18)) {x0_0 : Int} {x0_1 : Int} {x0_2 : Int} {x0_3 : ByteArray} {x0_4 : Bool} {x0_5 : Int} {x0_6 : Int} {x0_7 : Int} {x0_8 : Int} {x0_9 : Int} {x0_10 : Int} {H : Heap} {r : Value × Heap} (h : s18 T hs x0_0 x0_1 x0_2 x0_3 x0_4 x0_5 x0_6 x0_7 x0_8 x0_9 x0_10 H = some r) : CT T hs 18 [(.agg #[(.int .i64 x0_0), (.int .i64 x0_1), (.int .i64 x0_2), (.string x0_3), (.bool x0_4), (.int .u64 x0_5), (.int .u64 x0_6), (.int .u64 x0_7), (.int .u64 x0_8), (.int .i64 x0_9), (.int .i64 x0_10)])] H = some r := runFK_ok hT ((s18_run T hs x0_0 x0_1 x0_2 x0_3 x0_4 x0_5 x0_6 x0_7 x0_8 x0_9 x0_10 H).trans h)
theorem chk18 : chkFunc Tryd.prog 18 F18 = true := by kernel_rfl
/- dowel/worth.long -/
def F19_C0 : ACode :=
  .seq (.seq (.reg [⟨(some 8), .mov (.t 0), none, false, none, 0⟩,
    ⟨(some 9), .len true (.t 8), none, false, none, 0⟩,
    ⟨(some 10), .bin .gtr (.t 9) (.c (.int .i64 0)), none, false, none, 0⟩])
  (.cond (.t 10)
  (.skip)
  (.exit 0)))
  (.block 1 (.seq (.reg [⟨(some 11), .mov (.t 0), none, false, none, 0⟩,
    ⟨(some 12), .len true (.t 11), none, false, none, 0⟩,
    ⟨(some 13), .mn (.t 12) (.c (.int .i64 1000)), none, false, none, 0⟩,
    ⟨(some 4), .mov (.t 13), none, false, none, 0⟩])
  (.seq (.reg [⟨(some 15), .mov (.t 0), none, false, none, 0⟩,
    ⟨(some 16), .mov (.t 4), none, false, none, 0⟩,
    ⟨(some 17), .slStr (.t 15) none (some (.t 16)), none, false, none, 0⟩,
    ⟨(some 18), .build [.int .i64 0, .int .i64 0, .int .i64 0, .string ⟨#[]⟩, .bool false, .int .u64 0, .int .u64 0, .int .u64 0, .int .u64 0, .int .i64 0, .int .i64 0] [(0, 1, .c (.int .i64 14)), (3, 1, .t 17)], none, false, none, 0⟩,
    ⟨(some 19), .call 18 [.t 18], none, false, none, 0⟩,
    ⟨(some 14), .mov (.t 19), none, false, none, 0⟩,
    ⟨(some 20), .extract (.t 14) 0, none, false, none, 0⟩,
    ⟨(some 21), .extract (.t 14) 1, none, false, none, 0⟩,
    ⟨(some 5), .mov (.t 20), none, false, none, 0⟩,
    ⟨(some 6), .mov (.t 21), none, false, none, 0⟩])
  (.seq (.reg [⟨(some 22), .mov (.t 5), none, false, none, 0⟩,
    ⟨(some 23), .mov (.t 5), none, false, none, 0⟩,
    ⟨(some 24), .len true (.t 23), none, false, none, 0⟩,
    ⟨(some 25), .bin .sub (.t 24) (.c (.int .i64 1)), none, false, none, 0⟩,
    ⟨(some 26), .slStr (.t 22) (some (.c (.int .i64 1))) (some (.t 25)), none, false, none, 0⟩,
    ⟨(some 27), .call 20 [.t 3, .t 26], none, false, none, 0⟩])
  (.reg [⟨(some 28), .mov (.t 0), none, false, none, 0⟩,
    ⟨(some 29), .mov (.t 4), none, false, none, 0⟩,
    ⟨(some 30), .slStr (.t 28) (some (.t 29)) none, none, false, none, 0⟩,
    ⟨(some 0), .mov (.t 30), none, false, none, 0⟩])))))
def F19_C1 : ACode :=
  .seq (.reg [⟨(some 2), .mov (.c (.string ⟨#[]⟩)), none, false, none, 0⟩])
  (.seq (.reg [⟨(some 3), .allocH 51 [.pointer none, .slice none 0 0], none, false, none, 0⟩])
  (.seq (.reg [⟨(some 7), .call 17 [.t 3, .c (.int .u8 39)], none, false, none, 0⟩])
  (.seq (.block 0 (.loop [0, 3] F19_C0))
  (.seq (.reg [⟨(some 31), .call 17 [.t 3, .c (.int .u8 39)], none, false, none, 0⟩])
  (.seq (.reg [⟨(some 32), .call 23 [.t 3], none, false, none, 0⟩,
    ⟨(some 2), .mov (.t 32), none, false, none, 0⟩])
  (.ret))))))
def F19_C2 : ACode :=
  .seq (.reg [⟨(some 31), .call 17 [.t 3, .c (.int .u8 39)], none, false, none, 0⟩])
  (.seq (.reg [⟨(some 32), .call 23 [.t 3], none, false, none, 0⟩,
    ⟨(some 2), .mov (.t 32), none, false, none, 0⟩])
  (.ret))
def F19 : AFunc := ⟨1, 33, [.tmp 2], F19_C1⟩
def Y19 : List VT := [.v (.one .str), .v (.one .any), .v (.one .str), .v (.one .any), .v (.one (.int .i64)), .v (.one .str), .v (.one (.int .i64)), .v (.one .any), .v (.one .str), .v (.one (.int .i64)), .v (.one .bool), .v (.one .str), .v (.one (.int .i64)), .v (.one (.int .i64)), .tup [.one .str, .one (.int .i64)], .v (.one .str), .v (.one (.int .i64)), .v (.one .str), .v (.agg [.int .i64, .int .i64, .int .i64, .str, .bool, .int .u64, .int .u64, .int .u64, .int .u64, .int .i64, .int .i64]), .tup [.one .str, .one (.int .i64)], .v (.one .str), .v (.one (.int .i64)), .v (.one .str), .v (.one .str), .v (.one (.int .i64)), .v (.one (.int .i64)), .v (.one .str), .tup [.one (.int .i64), .one .any], .v (.one .str), .v (.one (.int .i64)), .v (.one .str), .v (.one .any), .v (.one .str)]
noncomputable def F19_K0 (T : Nat → Option AFn) (hs : Heap → Heap → Bool) : Kont (Value × Heap) := { (kontF F19) with nrm := fun fr H => runK T hs Y19 F19_C2 fr H (kontF F19) }
noncomputable def F19_K1 (T : Nat → Option AFn) (hs : Heap → Heap → Bool) : Kont (Value × Heap) := { (F19_K0 T hs) with ex := fun i fr H => if i = 0 then (F19_K0 T hs).nrm fr H else (F19_K0 T hs).ex i fr H }
noncomputable def g19_L0 (T : Nat → Option AFn) (hs : Heap → Heap → Bool) (x0 : ByteArray) (f3 : Nat) (o3 : Nat) (H : Heap) : Option (Value × Heap) := loopK T hs [0, 3] F19_C0 [(.v (.string x0)), .no, .no, (.v (.pointer (some ⟨f3, o3, some 0⟩))), .no, .no, .no, .no, .no, .no, .no, .no, .no, .no, .no, .no, .no, .no, .no, .no, .no, .no, .no, .no, .no, .no, .no, .no, .no, .no, .no, .no, .no] H (F19_K1 T hs)
noncomputable def s19_L0 (T : Nat → Option AFn) (hs : Heap → Heap → Bool) (x0 : ByteArray) (f3 : Nat) (o3 : Nat) (H : Heap) : Option (Value × Heap) :=
  cond (decide (((x0.size : Int) : Int) > 0))
  ((ssA x0 none (some (if (1000 : Int) < (x0.size : Int) then 1000 else (x0.size : Int)))).bind fun s17 =>
  (CT T hs 18 [(.agg #[(.int .i64 14), (.int .i64 0), (.int .i64 0), (.string s17), (.bool false), (.int .u64 0), (.int .u64 0), (.int .u64 0), (.int .u64 0), (.int .i64 0), (.int .i64 0)])] H).bind fun p19 =>
  ifTup p19.1 fun l19 =>
  ifCons l19 fun v19 l19_1 =>
  ifStr v19 fun x19 =>
  ifCons l19_1 fun v19_1 l19_2 =>
  ifInt .i64 v19_1 fun x19_1 =>
  ifNil l19_2 <|
  (ssA x19 (some 1) (some (IntKind.wrap .i64 ((x19.size : Int) - 1)))).bind fun s26 =>
  (CT T hs 20 [(.pointer (some ⟨f3, o3, some 0⟩)), (.string s26)] p19.2).bind fun p27 =>
  ifTup p27.1 fun l27 =>
  ifCons l27 fun v27 l27_1 =>
  ifInt .i64 v27 fun x27 =>
  ifCons l27_1 fun v27_1 l27_2 =>
  ifNil l27_2 <|
  (ssA x0 (some (if (1000 : Int) < (x0.size : Int) then 1000 else (x0.size : Int))) none).bind fun s30 =>
  g19_L0 T hs s30 f3 o3 p27.2)
  ((CT T hs 17 [(.pointer (some ⟨f3, o3, some 0⟩)), (.int .u8 39)] H).bind fun p31 =>
  (CT T hs 23 [(.pointer (some ⟨f3, o3, some 0⟩))] p31.2).bind fun p32 =>
  ifStr p32.1 fun x32 =>
  some ((.string x32), p32.2))
theorem g19_L0_step (T : Nat → Option AFn) (hs : Heap → Heap → Bool) (x0 : ByteArray) (f3 : Nat) (o3 : Nat) (H : Heap) : loopB T hs Y19 [0, 3] F19_C0 [(.v (.string x0)), .no, .no, (.v (.pointer (some ⟨f3, o3, some 0⟩))), .no, .no, .no, .no, .no, .no, .no, .no, .no, .no, .no, .no, .no, .no, .no, .no, .no, .no, .no, .no, .no, .no, .no, .no, .no, .no, .no, .no, .no] H (F19_K1 T hs) = s19_L0 T hs x0 f3 o3 H := by kernel_rfl
theorem g19_L0_ok {T : Nat → Option AFn} {hs : Heap → Heap → Bool} {x0 : ByteArray} {f3 : Nat} {o3 : Nat} {H : Heap} {r : Value × Heap} (h : s19_L0 T hs x0 f3 o3 H = some r) : g19_L0 T hs x0 f3 o3 H = some r := loopB_ok ((g19_L0_step T hs x0 f3 o3 H).trans h)
theorem g19_L0_ret {T : Nat → Option AFn} {hs : Heap → Heap → Bool} {x0 : ByteArray} {f3 : Nat} {o3 : Nat} {H : Heap} {Q : Value → Heap → Prop} (h : Ret (s19_L0 T hs x0 f3 o3 H) Q) : Ret (g19_L0 T hs x0 f3 o3 H) Q := h.via fun _ q => g19_L0_ok q
noncomputable def s19 (T : Nat → Option AFn) (hs : Heap → Heap → Bool) (x0 : ByteArray) (H : Heap) : Option (Value × Heap) :=
  let H_1 := H ++ [.cells 51 1 [(.pointer none), (.slice none 0 0)] 0 0 0 false]
  (CT T hs 17 [(.pointer (some ⟨H.length, 0, some 0⟩)), (.int .u8 39)] H_1).bind fun p7 =>
  g19_L0 T hs x0 H.length 0 p7.2
theorem s19_run (T : Nat → Option AFn) (hs : Heap → Heap → Bool) (x0 : ByteArray) (H : Heap) : runFK T hs Y19 F19 [(.string x0)] H = s19 T hs x0 H := by kernel_rfl
theorem g19_ok {T : Nat → Option AFn} {hs : Heap → Heap → Bool} (hT : T 19 = some (.code F19)) {x0 : ByteArray} {H : Heap} {r : Value × Heap} (h : s19 T hs x0 H = some r) : CT T hs 19 [(.string x0)] H = some r := runFK_ok hT ((s19_run T hs x0 H).trans h)
theorem chk19 : chkFunc Tryd.prog 19 F19 = true := by kernel_rfl
/- (*strings.Builder).WriteString -/
def F20_C0 : ACode :=
  .seq (.reg [⟨(some 4), .mov (.c (.int .i64 0)), none, false, none, 0⟩,
    ⟨(some 5), .mov (.c (.nilIface)), none, false, none, 0⟩])
  (.seq (.reg [⟨(some 6), .mov (.t 0), none, false, none, 0⟩,
    ⟨(some 7), .call 29 [.t 6], none, false, none, 0⟩])
  (.seq (.reg [⟨(some 8), .mov (.t 0), none, false, none, 0⟩,
    ⟨(some 9), .mov (.t 0), none, false, none, 0⟩,
    ⟨(some 10), .nilChk (.t 9), none, false, none, 0⟩,
    ⟨(some 11), .fieldA 1 (.t 10), none, false, none, 0⟩,
    ⟨(some 12), .load false 1 (.t 11), none, false, none, 0⟩,
    ⟨(some 13), .mov (.t 1), none, false, none, 0⟩,
    ⟨(some 14), .append 5 1 1 (.t 12) (.t 13), none, false, none, 0⟩,
    ⟨(some 15), .nilChk (.t 8), none, false, none, 0⟩,
    ⟨(some 16), .fieldA 1 (.t 15), none, false, none, 0⟩,
    ⟨none, .store 1 (.t 16) (.t 14), none, false, none, 0⟩])
  (.seq (.reg [⟨(some 17), .mov (.t 1), none, false, none, 0⟩,
    ⟨(some 18), .len true (.t 17), none, false, none, 0⟩,
    ⟨(some 4), .mov (.t 18), none, false, none, 0⟩,
    ⟨(some 5), .mov (.c (.nilIface)), none, false, none, 0⟩])
  (.ret))))
def F20 : AFunc := ⟨2, 19, [.tmp 4, .tmp 5], F20_C0⟩
def Y20 : List VT := [.v (.one .ptr), .v (.one .str), .v (.one .any), .v (.one .any), .v (.one (.int .i64)), .v (.one .any), .v (.one .ptr), .v (.one .any), .v (.one .ptr), .v (.one .ptr), .v (.one .any), .v (.one .any), .v (.one .sl), .v (.one .str), .v (.one .sl), .v (.one .any), .v (.one .any), .v (.one .str), .v (.one (.int .i64))]
noncomputable def s20 (T : Nat → Option AFn) (hs : Heap → Heap → Bool) (x0 : Option Addr) (x1 : ByteArray) (H : Heap) : Option (Value × Heap) :=
  (CT T hs 29 [(.pointer x0)] H).bind fun p7 =>
  (nilA x0).bind fun q10 =>
  (rdV p7.2 (.pointer (some ⟨q10.1, (q10.2 + 1), some 0⟩)) 1).bind fun w12 =>
  ifCons w12 fun v12 l12 => ifNil l12 <|
  ifSl v12 fun a12 n12 c12 =>
  (apA p7.2 5 1 1 (.slice a12 n12 c12) (.string x1)).bind fun p14 =>
  ifSl p14.1 fun a14 n14 c14 =>
  (nilA x0).bind fun q15 =>
  (wrV p14.2 (.pointer (some ⟨q15.1, (q15.2 + 1), some 0⟩)) [(.slice a14 n14 c14)]).bind fun H_1 =>
  some (.tuple #[(.int .i64 (x1.size : Int)), .nilIface], H_1)
theorem s20_run (T : Nat → Option AFn) (hs : Heap → Heap → Bool) (x0 : Option Addr) (x1 : ByteArray) (H : Heap) : runFK T hs Y20 F20 [(.pointer x0), (.string x1)] H = s20 T hs x0 x1 H := by kernel_rfl
theorem g20_ok {T : Nat → Option AFn} {hs : Heap → Heap → Bool} (hT : T 20 = some (.code F20)) {x0 : Option Addr} {x1 : ByteArray} {H : Heap} {r : Value × Heap} (h : s20 T hs x0 x1 H = some r) : CT T hs 20 [(.pointer x0), (.string x1)] H = some r := runFK_ok hT ((s20_run T hs x0 x1 H).trans h)
theorem chk20 : chkFunc Tryd.prog 20 F20 = true := by kernel_rfl
/- (*strings.Builder).Len -/
def F21_C0 : ACode :=
  .seq (.reg [⟨(some 2), .mov (.c (.int .i64 0)), none, false, none, 0⟩])
  (.seq (.reg [⟨(some 3), .mov (.t 0), none, false, none, 0⟩,
    ⟨(some 4), .nilChk (.t 3), none, false, none, 0⟩,
    ⟨(some 5), .fieldA 1 (.t 4), none, false, none, 0⟩,
    ⟨(some 6), .load false 1 (.t 5), none, false, none, 0⟩,
    ⟨(some 7), .len false (.t 6), none, false, none, 0⟩,
    ⟨(some 2), .mov (.t 7), none, false, none, 0⟩])
  (.ret))
def F21 : AFunc := ⟨1, 8, [.tmp 2], F21_C0⟩
def Y21 : List VT := [.v (.one .ptr), .v (.one .any), .v (.one (.int .i64)), .v (.one .ptr), .v (.one .any), .v (.one .any), .v (.one .sl), .v (.one (.int .i64))]
noncomputable def s21 (T : Nat → Option AFn) (hs : Heap → Heap → Bool) (x0 : Option Addr) (H : Heap) : Option (Value × Heap) :=
  (nilA x0).bind fun q4 =>
  (rdV H (.pointer (some ⟨q4.1, (q4.2 + 1), some 0⟩)) 1).bind fun w6 =>
  ifCons w6 fun v6 l6 => ifNil l6 <|
  ifSl v6 fun a6 n6 c6 =>
  some ((.int .i64 ((n6 : Nat) : Int)), H)
theorem s21_run (T : Nat → Option AFn) (hs : Heap → Heap → Bool) (x0 : Option Addr) (H : Heap) : runFK T hs Y21 F21 [(.pointer x0)] H = s21 T hs x0 H := by kernel_rfl
theorem g21_ok {T : Nat → Option AFn} {hs : Heap → Heap → Bool} (hT : T 21 = some (.code F21)) {x0 : Option Addr} {H : Heap} {r : Value × Heap} (h : s21 T hs x0 H = some r) : CT T hs 21 [(.pointer x0)] H = some r := runFK_ok hT ((s21_run T hs x0 H).trans h)
theorem chk21 : chkFunc Tryd.prog 21 F21 = true := by kernel_rfl
/- dowel/worth.closed -/
def F22_C0 : ACode :=
  .cond (.t 16)
  (.seq (.reg [⟨(some 17), .mov (.t 1), none, false, none, 0⟩,
    ⟨(some 6), .mov (.t 17), none, false, none, 0⟩])
  (.ret))
  (.skip)
def F22_C1 : ACode :=
  .seq (.seq (.reg [⟨(some 26), .mov (.t 1), none, false, none, 0⟩,
    ⟨(some 27), .len false (.t 26), none, false, none, 0⟩,
    ⟨(some 28), .bin .gtr (.t 27) (.c (.int .i64 0)), none, false, none, 0⟩])
  (.cond (.t 28)
  (.skip)
  (.exit 0)))
  (.block 1 (.seq (.reg [⟨(some 29), .mov (.t 1), none, false, none, 0⟩,
    ⟨(some 30), .mov (.t 1), none, false, none, 0⟩,
    ⟨(some 31), .len false (.t 30), none, false, none, 0⟩,
    ⟨(some 32), .bin .sub (.t 31) (.c (.int .i64 1)), none, false, none, 0⟩,
    ⟨(some 33), .indexA 1 (.t 29) (.t 32), none, false, none, 0⟩,
    ⟨(some 34), .load false 1 (.t 33), none, false, none, 0⟩,
    ⟨(some 35), .bin .sub (.t 34) (.c (.int .i64 1)), none, false, none, 0⟩,
    ⟨(some 36), .indexA 1 (.t 29) (.t 32), none, false, none, 0⟩,
    ⟨none, .store 1 (.t 36) (.t 35), none, false, none, 0⟩])
  (.seq (.seq (.reg [⟨(some 37), .mov (.t 1), none, false, none, 0⟩,
    ⟨(some 38), .mov (.t 1), none, false, none, 0⟩,
    ⟨(some 39), .len false (.t 38), none, false, none, 0⟩,
    ⟨(some 40), .bin .sub (.t 39) (.c (.int .i64 1)), none, false, none, 0⟩,
    ⟨(some 41), .indexA 1 (.t 37) (.t 40), none, false, none, 0⟩,
    ⟨(some 42), .load false 1 (.t 41), none, false, none, 0⟩,
    ⟨(some 43), .bin .gtr (.t 42) (.c (.int .i64 0)), none, false, none, 0⟩])
  (.cond (.t 43)
  (.seq (.reg [⟨(some 44), .mov (.t 0), none, false, none, 0⟩,
    ⟨(some 45), .call 20 [.t 44, .c (.string ⟨#[44, 32]⟩)], none, false, none, 0⟩])
  (.seq (.reg [⟨(some 46), .mov (.t 1), none, false, none, 0⟩,
    ⟨(some 6), .mov (.t 46), none, false, none, 0⟩])
  (.ret)))
  (.skip)))
  (.seq (.reg [⟨(some 47), .mov (.t 0), none, false, none, 0⟩,
    ⟨(some 48), .call 17 [.t 47, .c (.int .u8 93)], none, false, none, 0⟩])
  (.reg [⟨(some 49), .mov (.t 1), none, false, none, 0⟩,
    ⟨(some 50), .mov (.t 1), none, false, none, 0⟩,
    ⟨(some 51), .len false (.t 50), none, false, none, 0⟩,
    ⟨(some 52), .bin .sub (.t 51) (.c (.int .i64 1)), none, false, none, 0⟩,
    ⟨(some 53), .slSl 1 (.t 49) none (some (.t 52)), none, false, none, 0⟩,
    ⟨(some 1), .mov (.t 53), none, false, none, 0⟩])))))
def F22_C2 : ACode :=
  .seq (.block 0 (.loop [0, 1] F22_C1))
  (.seq (.reg [⟨(some 54), .mov (.t 1), none, false, none, 0⟩,
    ⟨(some 6), .mov (.t 54), none, false, none, 0⟩])
  (.ret))
def F22_C3 : ACode :=
  .seq (.reg [⟨(some 6), .mov (.c (.slice none 0 0)), none, false, none, 0⟩])
  (.seq (.seqj [0, 1, 2, 16] (.reg [⟨(some 7), .mov (.t 2), none, false, none, 0⟩,
    ⟨(some 8), .mov (.t 7), none, false, none, 0⟩,
    ⟨(some 9), .mov (.t 1), (some (8, true)), false, none, 0⟩,
    ⟨(some 10), .mov (.t 1), (some (8, true)), false, none, 0⟩,
    ⟨(some 11), .len false (.t 10), (some (8, true)), false, none, 0⟩,
    ⟨(some 12), .bin .sub (.t 11) (.c (.int .i64 1)), (some (8, true)), false, none, 0⟩,
    ⟨(some 13), .indexA 1 (.t 9) (.t 12), (some (8, true)), false, none, 0⟩,
    ⟨(some 14), .load false 1 (.t 13), (some (8, true)), false, none, 0⟩,
    ⟨(some 15), .bin .gtr (.t 14) (.c (.int .i64 0)), (some (8, true)), false, none, 0⟩,
    ⟨(some 16), .pick (.t 8) (.t 15) (.c (.bool false)), none, false, none, 0⟩])
  F22_C0)
  (.seqj [0, 1] (.seq (.reg [⟨(some 18), .mov (.t 2), none, false, none, 0⟩])
  (.cond (.t 18)
  (.seq (.reg [⟨(some 19), .mov (.t 0), none, false, none, 0⟩,
    ⟨(some 20), .call 17 [.t 19, .c (.int .u8 93)], none, false, none, 0⟩])
  (.reg [⟨(some 21), .mov (.t 1), none, false, none, 0⟩,
    ⟨(some 22), .mov (.t 1), none, false, none, 0⟩,
    ⟨(some 23), .len false (.t 22), none, false, none, 0⟩,
    ⟨(some 24), .bin .sub (.t 23) (.c (.int .i64 1)), none, false, none, 0⟩,
    ⟨(some 25), .slSl 1 (.t 21) none (some (.t 24)), none, false, none, 0⟩,
    ⟨(some 1), .mov (.t 25), none, false, none, 0⟩]))
  (.skip)))
  F22_C2))
def F22_C4 : ACode :=
  .seq (.reg [⟨(some 54), .mov (.t 1), none, false, none, 0⟩,
    ⟨(some 6), .mov (.t 54), none, false, none, 0⟩])
  (.ret)
def F22_C5 : ACode :=
  .seqj [0, 1] (.seq (.reg [⟨(some 18), .mov (.t 2), none, false, none, 0⟩])
  (.cond (.t 18)
  (.seq (.reg [⟨(some 19), .mov (.t 0), none, false, none, 0⟩,
    ⟨(some 20), .call 17 [.t 19, .c (.int .u8 93)], none, false, none, 0⟩])
  (.reg [⟨(some 21), .mov (.t 1), none, false, none, 0⟩,
    ⟨(some 22), .mov (.t 1), none, false, none, 0⟩,
    ⟨(some 23), .len false (.t 22), none, false, none, 0⟩,
    ⟨(some 24), .bin .sub (.t 23) (.c (.int .i64 1)), none, false, none, 0⟩,
    ⟨(some 25), .slSl 1 (.t 21) none (some (.t 24)), none, false, none, 0⟩,
    ⟨(some 1), .mov (.t 25), none, false, none, 0⟩]))
  (.skip)))
  F22_C2
def F22 : AFunc := ⟨3, 55, [.tmp 6], F22_C3⟩
def Y22 : List VT := [.v (.one .ptr), .v (.one .sl), .v (.one .bool), .v (.one .any), .v (.one .any), .v (.one .any), .v (.one .sl), .v (.one .bool), .v (.one .bool), .v (.one .sl), .v (.one .sl), .v (.one (.int .i64)), .v (.one (.int .i64)), .v (.one .any), .v (.one (.int .i64)), .v (.one .bool), .v (.one .bool), .v (.one .sl), .v (.one .bool), .v (.one .ptr), .v (.one .any), .v (.one .sl), .v (.one .sl), .v (.one (.int .i64)), .v (.one (.int .i64)), .v (.one .sl), .v (.one .sl), .v (.one (.int .i64)), .v (.one .bool), .v (.one .sl), .v (.one .sl), .v (.one (.int .i64)), .v (.one (.int .i64)), .v (.one .any), .v (.one (.int .i64)), .v (.one (.int .i64)), .v (.one .any), .v (.one .sl), .v (.one .sl), .v (.one (.int .i64)), .v (.one (.int .i64)), .v (.one .any), .v (.one (.int .i64)), .v (.one .bool), .v (.one .ptr), .tup [.one (.int .i64), .one .any], .v (.one .sl), .v (.one .ptr), .v (.one .any), .v (.one .sl), .v (.one .sl), .v (.one (.int .i64)), .v (.one (.int .i64)), .v (.one .sl), .v (.one .sl)]
noncomputable def F22_K0 (T : Nat → Option AFn) (hs : Heap → Heap → Bool) : Kont (Value × Heap) := { (kontF F22) with nrm := fun fr H => runK T hs Y22 F22_C4 fr H (kontF F22) }
noncomputable def F22_K1 (T : Nat → Option AFn) (hs : Heap → Heap → Bool) : Kont (Value × Heap) := { (F22_K0 T hs) with ex := fun i fr H => if i = 0 then (F22_K0 T hs).nrm fr H else (F22_K0 T hs).ex i fr H }
noncomputable def F22_K2 (T : Nat → Option AFn) (hs : Heap → Heap → Bool) : Kont (Value × Heap) := { (kontF F22) with nrm := fun fr H => runK T hs Y22 F22_C5 fr H (kontF F22) }
noncomputable def g22_L2 (T : Nat → Option AFn) (hs : Heap → Heap → Bool) (x0 : Option Addr) (a1 : Option Addr) (n1 : Nat) (c1 : Nat) (H : Heap) : Option (Value × Heap) := loopK T hs [0, 1] F22_C1 [(.v (.pointer x0)), (.v (.slice a1 n1 c1)), .no, .no, .no, .no, .no, .no, .no, .no, .no, .no, .no, .no, .no, .no, .no, .no, .no, .no, .no, .no, .no, .no, .no, .no, .no, .no, .no, .no, .no, .no, .no, .no, .no, .no, .no, .no, .no, .no, .no, .no, .no, .no, .no, .no, .no, .no, .no, .no, .no, .no, .no, .no, .no] H (F22_K1 T hs)
noncomputable def g22_J1 (T : Nat → Option AFn) (hs : Heap → Heap → Bool) (x0 : Option Addr) (a1 : Option Addr) (n1 : Nat) (c1 : Nat) (H : Heap) : Option (Value × Heap) := joinK T hs F22_C2 [(.v (.pointer x0)), (.v (.slice a1 n1 c1)), .no, .no, .no, .no, .no, .no, .no, .no, .no, .no, .no, .no, .no, .no, .no, .no, .no, .no, .no, .no, .no, .no, .no, .no, .no, .no, .no, .no, .no, .no, .no, .no, .no, .no, .no, .no, .no, .no, .no, .no, .no, .no, .no, .no, .no, .no, .no, .no, .no, .no, .no, .no, .no] H (kontF F22)
noncomputable def g22_J0 (T : Nat → Option AFn) (hs : Heap → Heap → Bool) (x0 : Option Addr) (a1 : Option Addr) (n1 : Nat) (c1 : Nat) (x2 : Bool) (x16 : Bool) (H : Heap) : Option (Value × Heap) := joinK T hs F22_C0 [(.v (.pointer x0)), (.v (.slice a1 n1 c1)), (.v (.bool x2)), .no, .no, .no, .no, .no, .no, .no, .no, .no, .no, .no, .no, .no, (.v (.bool x16)), .no, .no, .no, .no, .no, .no, .no, .no, .no, .no, .no, .no, .no, .no, .no, .no, .no, .no, .no, .no, .no, .no, .no, .no, .no, .no, .no, .no, .no, .no, .no, .no, .no, .no, .no, .no, .no, .no] H (F22_K2 T hs)
noncomputable def s22_J0 (T : Nat → Option AFn) (hs : Heap → Heap → Bool) (x0 : Option Addr) (a1 : Option Addr) (n1 : Nat) (c1 : Nat) (x2 : Bool) (x16 : Bool) (H : Heap) : Option (Value × Heap) :=
  cond x16
  (some ((.slice a1 n1 c1), H))
  (cond x2
  ((CT T hs 17 [(.pointer x0), (.int .u8 93)] H).bind fun p20 =>
  (slA p20.2 1 (.slice a1 n1 c1) none (some (IntKind.wrap .i64 (((n1 : Nat) : Int) - 1)))).bind fun s25 =>
  ifSl s25 fun a25 n25 c25 =>
  g22_J1 T hs x0 a25 n25 c25 p20.2)
  (g22_J1 T hs x0 a1 n1 c1 H))
theorem g22_J0_step (T : Nat → Option AFn) (hs : Heap → Heap → Bool) (x0 : Option Addr) (a1 : Option Addr) (n1 : Nat) (c1 : Nat) (x2 : Bool) (x16 : Bool) (H : Heap) : runK T hs Y22 F22_C0 [(.v (.pointer x0)), (.v (.slice a1 n1 c1)), (.v (.bool x2)), .no, .no, .no, .no, .no, .no, .no, .no, .no, .no, .no, .no, .no, (.v (.bool x16)), .no, .no, .no, .no, .no, .no, .no, .no, .no, .no, .no, .no, .no, .no, .no, .no, .no, .no, .no, .no, .no, .no, .no, .no, .no, .no, .no, .no, .no, .no, .no, .no, .no, .no, .no, .no, .no, .no] H (F22_K2 T hs) = s22_J0 T hs x0 a1 n1 c1 x2 x16 H := by kernel_rfl
theorem g22_J0_ok {T : Nat → Option AFn} {hs : Heap → Heap → Bool} {x0 : Option Addr} {a1 : Option Addr} {n1 : Nat} {c1 : Nat} {x2 : Bool} {x16 : Bool} {H : Heap} {r : Value × Heap} (h : s22_J0 T hs x0 a1 n1 c1 x2 x16 H = some r) : g22_J0 T hs x0 a1 n1 c1 x2 x16 H = some r := join_intro ((g22_J0_step T hs x0 a1 n1 c1 x2 x16 H).trans h)
theorem g22_J0_ret {T : Nat → Option AFn} {hs : Heap → Heap → Bool} {x0 : Option Addr} {a1 : Option Addr} {n1 : Nat} {c1 : Nat} {x2 : Bool} {x16 : Bool} {H : Heap} {Q : Value → Heap → Prop} (h : Ret (s22_J0 T hs x0 a1 n1 c1 x2 x16 H) Q) : Ret (g22_J0 T hs x0 a1 n1 c1 x2 x16 H) Q := h.via fun _ q => g22_J0_ok q
noncomputable def s22_J1 (T : Nat → Option AFn) (hs : Heap → Heap → Bool) (x0 : Option Addr) (a1 : Option Addr) (n1 : Nat) (c1 : Nat) (H : Heap) : Option (Value × Heap) :=
  g22_L2 T hs x0 a1 n1 c1 H
theorem g22_J1_step (T : Nat → Option AFn) (hs : Heap → Heap → Bool) (x0 : Option Addr) (a1 : Option Addr) (n1 : Nat) (c1 : Nat) (H : Heap) : runK T hs Y22 F22_C2 [(.v (.pointer x0)), (.v (.slice a1 n1 c1)), .no, .no, .no, .no, .no, .no, .no, .no, .no, .no, .no, .no, .no, .no, .no, .no, .no, .no, .no, .no, .no, .no, .no, .no, .no, .no, .no, .no, .no, .no, .no, .no, .no, .no, .no, .no, .no, .no, .no, .no, .no, .no, .no, .no, .no, .no, .no, .no, .no, .no, .no, .no, .no] H (kontF F22) = s22_J1 T hs x0 a1 n1 c1 H := by kernel_rfl
theorem g22_J1_ok {T : Nat → Option AFn} {hs : Heap → Heap → Bool} {x0 : Option Addr} {a1 : Option Addr} {n1 : Nat} {c1 : Nat} {H : Heap} {r : Value × Heap} (h : s22_J1 T hs x0 a1 n1 c1 H = some r) : g22_J1 T hs x0 a1 n1 c1 H = some r := join_intro ((g22_J1_step T hs x0 a1 n1 c1 H).trans h)
theorem g22_J1_ret {T : Nat → Option AFn} {hs : Heap → Heap → Bool} {x0 : Option Addr} {a1 : Option Addr} {n1 : Nat} {c1 : Nat} {H : Heap} {Q : Value → Heap → Prop} (h : Ret (s22_J1 T hs x0 a1 n1 c1 H) Q) : Ret (g22_J1 T hs x0 a1 n1 c1 H) Q := h.via fun _ q => g22_J1_ok q
noncomputable def s22_L2 (T : Nat → Option AFn) (hs : Heap → Heap → Bool) (x0 : Option Addr) (a1 : Option Addr) (n1 : Nat) (c1 : Nat) (H : Heap) : Option (Value × Heap) :=
  cond (decide ((((n1 : Nat) : Int) : Int) > 0))
  ((ixA H 1 (.slice a1 n1 c1) (IntKind.wrap .i64 (((n1 : Nat) : Int) - 1))).bind fun q33 =>
  (rdHp H q33.1 q33.2.1 q33.2.2 1 1).bind fun w34 =>
  ifCons w34 fun v34 l34 => ifNil l34 <|
  ifInt .i64 v34 fun x34 =>
  (ixA H 1 (.slice a1 n1 c1) (IntKind.wrap .i64 (((n1 : Nat) : Int) - 1))).bind fun q36 =>
  (wrHp H q36.1 q36.2.1 q36.2.2 1 [(.int .i64 (IntKind.wrap .i64 (x34 - 1)))]).bind fun H_1 =>
  (ixA H_1 1 (.slice a1 n1 c1) (IntKind.wrap .i64 (((n1 : Nat) : Int) - 1))).bind fun q41 =>
  (rdHp H_1 q41.1 q41.2.1 q41.2.2 1 1).bind fun w42 =>
  ifCons w42 fun v42 l42 => ifNil l42 <|
  ifInt .i64 v42 fun x42 =>
  cond (decide ((x42 : Int) > 0))
  ((CT T hs 20 [(.pointer x0), (.string (⟨#[44, 32]⟩ : ByteArray))] H_1).bind fun p45 =>
  ifTup p45.1 fun l45 =>
  ifCons l45 fun v45 l45_1 =>
  ifInt .i64 v45 fun x45 =>
  ifCons l45_1 fun v45_1 l45_2 =>
  ifNil l45_2 <|
  some ((.slice a1 n1 c1), p45.2))
  ((CT T hs 17 [(.pointer x0), (.int .u8 93)] H_1).bind fun p48 =>
  (slA p48.2 1 (.slice a1 n1 c1) none (some (IntKind.wrap .i64 (((n1 : Nat) : Int) - 1)))).bind fun s53 =>
  ifSl s53 fun a53 n53 c53 =>
  g22_L2 T hs x0 a53 n53 c53 p48.2))
  (some ((.slice a1 n1 c1), H))
theorem g22_L2_step (T : Nat → Option AFn) (hs : Heap → Heap → Bool) (x0 : Option Addr) (a1 : Option Addr) (n1 : Nat) (c1 : Nat) (H : Heap) : loopB T hs Y22 [0, 1] F22_C1 [(.v (.pointer x0)), (.v (.slice a1 n1 c1)), .no, .no, .no, .no, .no, .no, .no, .no, .no, .no, .no, .no, .no, .no, .no, .no, .no, .no, .no, .no, .no, .no, .no, .no, .no, .no, .no, .no, .no, .no, .no, .no, .no, .no, .no, .no, .no, .no, .no, .no, .no, .no, .no, .no, .no, .no, .no, .no, .no, .no, .no, .no, .no] H (F22_K1 T hs) = s22_L2 T hs x0 a1 n1 c1 H := by kernel_rfl
theorem g22_L2_ok {T : Nat → Option AFn} {hs : Heap → Heap → Bool} {x0 : Option Addr} {a1 : Option Addr} {n1 : Nat} {c1 : Nat} {H : Heap} {r : Value × Heap} (h : s22_L2 T hs x0 a1 n1 c1 H = some r) : g22_L2 T hs x0 a1 n1 c1 H = some r := loopB_ok ((g22_L2_step T hs x0 a1 n1 c1 H).trans h)
theorem g22_L2_ret {T : Nat → Option AFn} {hs : Heap → Heap → Bool} {x0 : Option Addr} {a1 : Option Addr} {n1 : Nat} {c1 : Nat} {H : Heap} {Q : Value → Heap → Prop} (h : Ret (s22_L2 T hs x0 a1 n1 c1 H) Q) : Ret (g22_L2 T hs x0 a1 n1 c1 H) Q := h.via fun _ q => g22_L2_ok q
noncomputable def s22 (T : Nat → Option AFn) (hs : Heap → Heap → Bool) (x0 : Option Addr) (a1 : Option Addr) (n1 : Nat) (c1 : Nat) (x2 : Bool) (H : Heap) : Option (Value × Heap) :=
  cond x2
  ((ixA H 1 (.slice a1 n1 c1) (IntKind.wrap .i64 (((n1 : Nat) : Int) - 1))).bind fun q13 =>
  (rdHp H q13.1 q13.2.1 q13.2.2 1 1).bind fun w14 =>
  ifCons w14 fun v14 l14 => ifNil l14 <|
  ifInt .i64 v14 fun x14 =>
  g22_J0 T hs x0 a1 n1 c1 x2 (decide ((x14 : Int) > 0)) H)
  (g22_J0 T hs x0 a1 n1 c1 x2 false H)
theorem s22_run (T : Nat → Option AFn) (hs : Heap → Heap → Bool) (x0 : Option Addr) (a1 : Option Addr) (n1 : Nat) (c1 : Nat) (x2 : Bool) (H : Heap) : runFK T hs Y22 F22 [(.pointer x0), (.slice a1 n1 c1), (.bool x2)] H = s22 T hs x0 a1 n1 c1 x2 H := by kernel_rfl
theorem g22_ok {T : Nat → Option AFn} {hs : Heap → Heap → Bool} (hT : T 22 = some (.code F22)) {x0 : Option Addr} {a1 : Option Addr} {n1 : Nat} {c1 : Nat} {x2 : Bool} {H : Heap} {r : Value × Heap} (h : s22 T hs x0 a1 n1 c1 x2 H = some r) : CT T hs 22 [(.pointer x0), (.slice a1 n1 c1), (.bool x2)] H = some r := runFK_ok hT ((s22_run T hs x0 a1 n1 c1 x2 H).trans h)
theorem chk22 : chkFunc Tryd.prog 22 F22 = true := by kernel_rfl
/- dowel/dowelref04.Quoted -/
def F24_C0 : ACode :=
  .cond (.t 51)
  (.reg [⟨(some 58), .mov (.t 3), none, false, none, 0⟩,
    ⟨(some 59), .mov (.t 5), none, false, none, 0⟩,
    ⟨(some 60), .buildSl 5 1 1 [.int .u8 0] [(0, 1, .t 59)], none, false, none, 0⟩,
    ⟨(some 61), .append 5 1 1 (.t 58) (.t 60), none, false, none, 0⟩,
    ⟨(some 3), .mov (.t 61), none, false, none, 0⟩])
  (.reg [⟨(some 16), .mov (.t 3), none, false, none, 0⟩,
    ⟨(some 17), .buildSl 5 1 2 [.int .u8 0, .int .u8 0] [(0, 1, .c (.int .u8 92)), (1, 1, .c (.int .u8 120))], none, false, none, 0⟩,
    ⟨(some 18), .append 5 1 1 (.t 16) (.t 17), none, false, none, 0⟩,
    ⟨(some 19), .mov (.t 5), none, false, none, 0⟩,
    ⟨(some 20), .call 32 [.t 19], none, false, none, 0⟩,
    ⟨(some 21), .append 5 1 1 (.t 18) (.t 20), none, false, none, 0⟩,
    ⟨(some 3), .mov (.t 21), none, false, none, 0⟩])
def F24_C1 : ACode :=
  .cond (.t 40)
  (.reg [⟨(some 47), .mov (.t 3), none, false, none, 0⟩,
    ⟨(some 48), .mov (.t 5), none, false, none, 0⟩,
    ⟨(some 49), .buildSl 5 1 2 [.int .u8 0, .int .u8 0] [(0, 1, .c (.int .u8 92)), (1, 1, .t 48)], none, false, none, 0⟩,
    ⟨(some 50), .append 5 1 1 (.t 47) (.t 49), none, false, none, 0⟩,
    ⟨(some 3), .mov (.t 50), none, false, none, 0⟩])
  (.seqj [0, 3, 4, 5, 51] (.reg [⟨(some 52), .mov (.t 5), none, false, none, 0⟩,
    ⟨(some 53), .bin .geq (.t 52) (.c (.int .u8 32)), none, false, none, 0⟩,
    ⟨(some 54), .mov (.t 53), none, false, none, 0⟩,
    ⟨(some 55), .mov (.t 5), (some (54, true)), false, none, 0⟩,
    ⟨(some 56), .bin .leq (.t 55) (.c (.int .u8 126)), (some (54, true)), false, none, 0⟩,
    ⟨(some 57), .pick (.t 54) (.t 56) (.c (.bool false)), none, false, none, 0⟩,
    ⟨(some 51), .mov (.t 57), none, false, none, 0⟩])
  F24_C0)
def F24_C2 : ACode :=
  .reg [⟨(some 11), .mov (.t 4), none, false, none, 0⟩,
    ⟨(some 12), .bin .add (.t 11) (.c (.int .i64 1)), none, false, none, 0⟩,
    ⟨(some 4), .mov (.t 12), none, false, none, 0⟩]
def F24_C3 : ACode :=
  .seq (.seq (.reg [⟨(some 7), .mov (.t 4), none, false, none, 0⟩,
    ⟨(some 8), .mov (.t 0), none, false, none, 0⟩,
    ⟨(some 9), .len true (.t 8), none, false, none, 0⟩,
    ⟨(some 10), .bin .lss (.t 7) (.t 9), none, false, none, 0⟩])
  (.cond (.t 10)
  (.skip)
  (.exit 0)))
  (.seqj [0, 3, 4] (.block 1 (.seq (.reg [⟨(some 13), .mov (.t 0), none, false, none, 0⟩,
    ⟨(some 14), .mov (.t 4), none, false, none, 0⟩,
    ⟨(some 15), .indexStr (.t 13) (.t 14), none, false, none, 0⟩,
    ⟨(some 5), .mov (.t 15), none, false, none, 0⟩])
  (.block 2 (.seq (.reg [⟨(some 23), .mov (.t 5), none, false, none, 0⟩,
    ⟨(some 24), .bin .eql (.t 23) (.c (.int .u8 10)), none, false, none, 0⟩,
    ⟨(some 22), .mov (.t 24), none, false, none, 0⟩])
  (.cond (.t 22)
  (.reg [⟨(some 25), .mov (.t 3), none, false, none, 0⟩,
    ⟨(some 26), .buildSl 5 1 2 [.int .u8 0, .int .u8 0] [(0, 1, .c (.int .u8 92)), (1, 1, .c (.int .u8 110))], none, false, none, 0⟩,
    ⟨(some 27), .append 5 1 1 (.t 25) (.t 26), none, false, none, 0⟩,
    ⟨(some 3), .mov (.t 27), none, false, none, 0⟩])
  (.seq (.reg [⟨(some 29), .mov (.t 5), none, false, none, 0⟩,
    ⟨(some 30), .bin .eql (.t 29) (.c (.int .u8 13)), none, false, none, 0⟩,
    ⟨(some 28), .mov (.t 30), none, false, none, 0⟩])
  (.cond (.t 28)
  (.reg [⟨(some 31), .mov (.t 3), none, false, none, 0⟩,
    ⟨(some 32), .buildSl 5 1 2 [.int .u8 0, .int .u8 0] [(0, 1, .c (.int .u8 92)), (1, 1, .c (.int .u8 114))], none, false, none, 0⟩,
    ⟨(some 33), .append 5 1 1 (.t 31) (.t 32), none, false, none, 0⟩,
    ⟨(some 3), .mov (.t 33), none, false, none, 0⟩])
  (.seq (.reg [⟨(some 35), .mov (.t 5), none, false, none, 0⟩,
    ⟨(some 36), .bin .eql (.t 35) (.c (.int .u8 9)), none, false, none, 0⟩,
    ⟨(some 34), .mov (.t 36), none, false, none, 0⟩])
  (.cond (.t 34)
  (.reg [⟨(some 37), .mov (.t 3), none, false, none, 0⟩,
    ⟨(some 38), .buildSl 5 1 2 [.int .u8 0, .int .u8 0] [(0, 1, .c (.int .u8 92)), (1, 1, .c (.int .u8 116))], none, false, none, 0⟩,
    ⟨(some 39), .append 5 1 1 (.t 37) (.t 38), none, false, none, 0⟩,
    ⟨(some 3), .mov (.t 39), none, false, none, 0⟩])
  (.seqj [0, 3, 4, 5, 40] (.reg [⟨(some 41), .mov (.t 5), none, false, none, 0⟩,
    ⟨(some 42), .bin .eql (.t 41) (.c (.int .u8 39)), none, false, none, 0⟩,
    ⟨(some 43), .mov (.t 42), none, false, none, 0⟩,
    ⟨(some 44), .mov (.t 5), (some (43, false)), false, none, 0⟩,
    ⟨(some 45), .bin .eql (.t 44) (.c (.int .u8 92)), (some (43, false)), false, none, 0⟩,
    ⟨(some 46), .pick (.t 43) (.c (.bool true)) (.t 45), none, false, none, 0⟩,
    ⟨(some 40), .mov (.t 46), none, false, none, 0⟩])
  F24_C1))))))))))
  F24_C2)
def F24_C4 : ACode :=
  .seq (.reg [⟨(some 2), .mov (.c (.string ⟨#[]⟩)), none, false, none, 0⟩])
  (.seq (.reg [⟨(some 6), .buildSl 5 1 1 [.int .u8 0] [(0, 1, .c (.int .u8 39))], none, false, none, 0⟩,
    ⟨(some 3), .mov (.t 6), none, false, none, 0⟩])
  (.seq (.seq (.reg [⟨(some 4), .mov (.c (.int .i64 0)), none, false, none, 0⟩])
  (.block 0 (.loop [0, 3, 4] F24_C3)))
  (.seq (.reg [⟨(some 62), .mov (.t 3), none, false, none, 0⟩,
    ⟨(some 63), .buildSl 5 1 1 [.int .u8 0] [(0, 1, .c (.int .u8 39))], none, false, none, 0⟩,
    ⟨(some 64), .append 5 1 1 (.t 62) (.t 63), none, false, none, 0⟩,
    ⟨(some 65), .convBS (.t 64), none, false, none, 0⟩,
    ⟨(some 2), .mov (.t 65), none, false, none, 0⟩])
  (.ret))))
def F24_C5 : ACode :=
  .seq (.reg [⟨(some 62), .mov (.t 3), none, false, none, 0⟩,
    ⟨(some 63), .buildSl 5 1 1 [.int .u8 0] [(0, 1, .c (.int .u8 39))], none, false, none, 0⟩,
    ⟨(some 64), .append 5 1 1 (.t 62) (.t 63), none, false, none, 0⟩,
    ⟨(some 65), .convBS (.t 64), none, false, none, 0⟩,
    ⟨(some 2), .mov (.t 65), none, false, none, 0⟩])
  (.ret)
def F24 : AFunc := ⟨1, 66, [.tmp 2], F24_C4⟩
def Y24 : List VT := [.v (.one .str), .v (.one .any), .v (.one .str), .v (.one .sl), .v (.one (.int .i64)), .v (.one (.int .u8)), .v (.one .sl), .v (.one (.int .i64)), .v (.one .str), .v (.one (.int .i64)), .v (.one .bool), .v (.one (.int .i64)), .v (.one (.int .i64)), .v (.one .str), .v (.one (.int .i64)), .v (.one (.int .u8)), .v (.one .sl), .v (.one .sl), .v (.one .sl), .v (.one (.int .u8)), .v (.one .str), .v (.one .sl), .v (.one .bool), .v (.one (.int .u8)), .v (.one .bool), .v (.one .sl), .v (.one .sl), .v (.one .sl), .v (.one .bool), .v (.one (.int .u8)), .v (.one .bool), .v (.one .sl), .v (.one .sl), .v (.one .sl), .v (.one .bool), .v (.one (.int .u8)), .v (.one .bool), .v (.one .sl), .v (.one .sl), .v (.one .sl), .v (.one .bool), .v (.one (.int .u8)), .v (.one .bool), .v (.one .bool), .v (.one (.int .u8)), .v (.one .bool), .v (.one .bool), .v (.one .sl), .v (.one (.int .u8)), .v (.one .sl), .v (.one .sl), .v (.one .bool), .v (.one (.int .u8)), .v (.one .bool), .v (.one .bool), .v (.one (.int .u8)), .v (.one .bool), .v (.one .bool), .v (.one .sl), .v (.one (.int .u8)), .v (.one .sl), .v (.one .sl), .v (.one .sl), .v (.one .sl), .v (.one .sl), .v (.one .str)]
noncomputable def F24_K0 (T : Nat → Option AFn) (hs : Heap → Heap → Bool) : Kont (Value × Heap) := { (kontF F24) with nrm := fun fr H => runK T hs Y24 F24_C5 fr H (kontF F24) }
noncomputable def F24_K1 (T : Nat → Option AFn) (hs : Heap → Heap → Bool) : Kont (Value × Heap) := { (F24_K0 T hs) with ex := fun i fr H => if i = 0 then (F24_K0 T hs).nrm fr H else (F24_K0 T hs).ex i fr H }
noncomputable def F24_K2 (T : Nat → Option AFn) (hs : Heap → Heap → Bool) : Kont (Value × Heap) := { (F24_K1 T hs) with nrm := fun fr H => fF (forget [0, 3, 4] fr) fun fr => loopK T hs [0, 3, 4] F24_C3 fr H (F24_K1 T hs) }
noncomputable def F24_K3 (T : Nat → Option AFn) (hs : Heap → Heap → Bool) : Kont (Value × Heap) := { (F24_K2 T hs) with nrm := fun fr H => fF (forget [0, 3, 4] fr) fun fr => joinK T hs F24_C2 fr H (F24_K2 T hs) }
noncomputable def F24_K4 (T : Nat → Option AFn) (hs : Heap → Heap → Bool) : Kont (Value × Heap) := { (F24_K3 T hs) with ex := fun i fr H => if i = 1 then (F24_K3 T hs).nrm fr H else (F24_K3 T hs).ex i fr H }
noncomputable def F24_K5 (T : Nat → Option AFn) (hs : Heap → Heap → Bool) : Kont (Value × Heap) := { (F24_K4 T hs) with ex := fun i fr H => if i = 2 then (F24_K4 T hs).nrm fr H else (F24_K4 T hs).ex i fr H }
noncomputable def g24_J1 (T : Nat → Option AFn) (hs : Heap → Heap → Bool) (x0 : ByteArray) (a3 : Option Addr) (n3 : Nat) (c3 : Nat) (x4 : Int) (H : Heap) : Option (Value × Heap) := joinK T hs F24_C2 [(.v (.string x0)), .no, .no, (.v (.slice a3 n3 c3)), (.v (.int .i64 x4)), .no, .no, .no, .no, .no, .no, .no, .no, .no, .no, .no, .no, .no, .no, .no, .no, .no, .no, .no, .no, .no, .no, .no, .no, .no, .no, .no, .no, .no, .no, .no, .no, .no, .no, .no, .no, .no, .no, .no, .no, .no, .no, .no, .no, .no, .no, .no, .no, .no, .no, .no, .no, .no, .no, .no, .no, .no, .no, .no, .no, .no] H (F24_K2 T hs)
noncomputable def g24_J3 (T : Nat → Option AFn) (hs : Heap → Heap → Bool) (x0 : ByteArray) (a3 : Option Addr) (n3 : Nat) (c3 : Nat) (x4 : Int) (x5 : Int) (x51 : Bool) (H : Heap) : Option (Value × Heap) := joinK T hs F24_C0 [(.v (.string x0)), .no, .no, (.v (.slice a3 n3 c3)), (.v (.int .i64 x4)), (.v (.int .u8 x5)), .no, .no, .no, .no, .no, .no, .no, .no, .no, .no, .no, .no, .no, .no, .no, .no, .no, .no, .no, .no, .no, .no, .no, .no, .no, .no, .no, .no, .no, .no, .no, .no, .no, .no, .no, .no, .no, .no, .no, .no, .no, .no, .no, .no, .no, (.v (.bool x51)), .no, .no, .no, .no, .no, .no, .no, .no, .no, .no, .no, .no, .no, .no] H (F24_K5 T hs)
noncomputable def g24_J2 (T : Nat → Option AFn) (hs : Heap → Heap → Bool) (x0 : ByteArray) (a3 : Option Addr) (n3 : Nat) (c3 : Nat) (x4 : Int) (x5 : Int) (x40 : Bool) (H : Heap) : Option (Value × Heap) := joinK T hs F24_C1 [(.v (.string x0)), .no, .no, (.v (.slice a3 n3 c3)), (.v (.int .i64 x4)), (.v (.int .u8 x5)), .no, .no, .no, .no, .no, .no, .no, .no, .no, .no, .no, .no, .no, .no, .no, .no, .no, .no, .no, .no, .no, .no, .no, .no, .no, .no, .no, .no, .no, .no, .no, .no, .no, .no, (.v (.bool x40)), .no, .no, .no, .no, .no, .no, .no, .no, .no, .no, .no, .no, .no, .no, .no, .no, .no, .no, .no, .no, .no, .no, .no, .no, .no] H (F24_K5 T hs)
noncomputable def g24_L0 (T : Nat → Option AFn) (hs : Heap → Heap → Bool) (x0 : ByteArray) (a3 : Option Addr) (n3 : Nat) (c3 : Nat) (x4 : Int) (H : Heap) : Option (Value × Heap) := loopK T hs [0, 3, 4] F24_C3 [(.v (.string x0)), .no, .no, (.v (.slice a3 n3 c3)), (.v (.int .i64 x4)), .no, .no, .no, .no, .no, .no, .no, .no, .no, .no, .no, .no, .no, .no, .no, .no, .no, .no, .no, .no, .no, .no, .no, .no, .no, .no, .no, .no, .no, .no, .no, .no, .no, .no, .no, .no, .no, .no, .no, .no, .no, .no, .no, .no, .no, .no, .no, .no, .no, .no, .no, .no, .no, .no, .no, .no, .no, .no, .no, .no, .no] H (F24_K1 T hs)
noncomputable def s24_L0 (T : Nat → Option AFn) (hs : Heap → Heap → Bool) (x0 : ByteArray) (a3 : Option Addr) (n3 : Nat) (c3 : Nat) (x4 : Int) (H : Heap) : Option (Value × Heap) :=
  cond (decide ((x4 : Int) < (x0.size : Int)))
  ((atS x0 x4).bind fun b15 =>
  cond (((b15.toNat : Int) : Int) == 10)
  (let H_1 := H ++ [.cells 5 1 [(.int .u8 92), (.int .u8 110)] 0 0 0 false]
  (apA H_1 5 1 1 (.slice a3 n3 c3) (.slice (some ⟨H.length, 0, some 0⟩) 2 2)).bind fun p27 =>
  ifSl p27.1 fun a27 n27 c27 =>
  g24_J1 T hs x0 a27 n27 c27 x4 p27.2)
  (cond (((b15.toNat : Int) : Int) == 13)
  (let H_2 := H ++ [.cells 5 1 [(.int .u8 92), (.int .u8 114)] 0 0 0 false]
  (apA H_2 5 1 1 (.slice a3 n3 c3) (.slice (some ⟨H.length, 0, some 0⟩) 2 2)).bind fun p33 =>
  ifSl p33.1 fun a33 n33 c33 =>
  g24_J1 T hs x0 a33 n33 c33 x4 p33.2)
  (cond (((b15.toNat : Int) : Int) == 9)
  (let H_3 := H ++ [.cells 5 1 [(.int .u8 92), (.int .u8 116)] 0 0 0 false]
  (apA H_3 5 1 1 (.slice a3 n3 c3) (.slice (some ⟨H.length, 0, some 0⟩) 2 2)).bind fun p39 =>
  ifSl p39.1 fun a39 n39 c39 =>
  g24_J1 T hs x0 a39 n39 c39 x4 p39.2)
  (cond (((b15.toNat : Int) : Int) == 39)
  (g24_J2 T hs x0 a3 n3 c3 x4 (b15.toNat : Int) true H)
  (g24_J2 T hs x0 a3 n3 c3 x4 (b15.toNat : Int) (((b15.toNat : Int) : Int) == 92) H)))))
  (let H_4 := H ++ [.cells 5 1 [(.int .u8 39)] 0 0 0 false]
  (apA H_4 5 1 1 (.slice a3 n3 c3) (.slice (some ⟨H.length, 0, some 0⟩) 1 1)).bind fun p64 =>
  ifSl p64.1 fun a64 n64 c64 =>
  (rdSl p64.2 1 (.slice a64 n64 c64)).bind fun w65 => (bytesOf w65).bind fun y65 =>
  some ((.string (⟨y65.toArray⟩ : ByteArray)), p64.2))
theorem g24_L0_step (T : Nat → Option AFn) (hs : Heap → Heap → Bool) (x0 : ByteArray) (a3 : Option Addr) (n3 : Nat) (c3 : Nat) (x4 : Int) (H : Heap) : loopB T hs Y24 [0, 3, 4] F24_C3 [(.v (.string x0)), .no, .no, (.v (.slice a3 n3 c3)), (.v (.int .i64 x4)), .no, .no, .no, .no, .no, .no, .no, .no, .no, .no, .no, .no, .no, .no, .no, .no, .no, .no, .no, .no, .no, .no, .no, .no, .no, .no, .no, .no, .no, .no, .no, .no, .no, .no, .no, .no, .no, .no, .no, .no, .no, .no, .no, .no, .no, .no, .no, .no, .no, .no, .no, .no, .no, .no, .no, .no, .no, .no, .no, .no, .no] H (F24_K1 T hs) = s24_L0 T hs x0 a3 n3 c3 x4 H := by kernel_rfl
theorem g24_L0_ok {T : Nat → Option AFn} {hs : Heap → Heap → Bool} {x0 : ByteArray} {a3 : Option Addr} {n3 : Nat} {c3 : Nat} {x4 : Int} {H : Heap} {r : Value × Heap} (h : s24_L0 T hs x0 a3 n3 c3 x4 H = some r) : g24_L0 T hs x0 a3 n3 c3 x4 H = some r := loopB_ok ((g24_L0_step T hs x0 a3 n3 c3 x4 H).trans h)
theorem g24_L0_ret {T : Nat → Option AFn} {hs : Heap → Heap → Bool} {x0 : ByteArray} {a3 : Option Addr} {n3 : Nat} {c3 : Nat} {x4 : Int} {H : Heap} {Q : Value → Heap → Prop} (h : Ret (s24_L0 T hs x0 a3 n3 c3 x4 H) Q) : Ret (g24_L0 T hs x0 a3 n3 c3 x4 H) Q := h.via fun _ q => g24_L0_ok q
noncomputable def s24_J1 (T : Nat → Option AFn) (hs : Heap → Heap → Bool) (x0 : ByteArray) (a3 : Option Addr) (n3 : Nat) (c3 : Nat) (x4 : Int) (H : Heap) : Option (Value × Heap) :=
  g24_L0 T hs x0 a3 n3 c3 (IntKind.wrap .i64 (x4 + 1)) H
theorem g24_J1_step (T : Nat → Option AFn) (hs : Heap → Heap → Bool) (x0 : ByteArray) (a3 : Option Addr) (n3 : Nat) (c3 : Nat) (x4 : Int) (H : Heap) : runK T hs Y24 F24_C2 [(.v (.string x0)), .no, .no, (.v (.slice a3 n3 c3)), (.v (.int .i64 x4)), .no, .no, .no, .no, .no, .no, .no, .no, .no, .no, .no, .no, .no, .no, .no, .no, .no, .no, .no, .no, .no, .no, .no, .no, .no, .no, .no, .no, .no, .no, .no, .no, .no, .no, .no, .no, .no, .no, .no, .no, .no, .no, .no, .no, .no, .no, .no, .no, .no, .no, .no, .no, .no, .no, .no, .no, .no, .no, .no, .no, .no] H (F24_K2 T hs) = s24_J1 T hs x0 a3 n3 c3 x4 H := by kernel_rfl
theorem g24_J1_ok {T : Nat → Option AFn} {hs : Heap → Heap → Bool} {x0 : ByteArray} {a3 : Option Addr} {n3 : Nat} {c3 : Nat} {x4 : Int} {H : Heap} {r : Value × Heap} (h : s24_J1 T hs x0 a3 n3 c3 x4 H = some r) : g24_J1 T hs x0 a3 n3 c3 x4 H = some r := join_intro ((g24_J1_step T hs x0 a3 n3 c3 x4 H).trans h)
theorem g24_J1_ret {T : Nat → Option AFn} {hs : Heap → Heap → Bool} {x0 : ByteArray} {a3 : Option Addr} {n3 : Nat} {c3 : Nat} {x4 : Int} {H : Heap} {Q : Value → Heap → Prop} (h : Ret (s24_J1 T hs x0 a3 n3 c3 x4 H) Q) : Ret (g24_J1 T hs x0 a3 n3 c3 x4 H) Q := h.via fun _ q => g24_J1_ok q
noncomputable def s24_J2 (T : Nat → Option AFn) (hs : Heap → Heap → Bool) (x0 : ByteArray) (a3 : Option Addr) (n3 : Nat) (c3 : Nat) (x4 : Int) (x5 : Int) (x40 : Bool) (H : Heap) : Option (Value × Heap) :=
  cond x40
  (let H_1 := H ++ [.cells 5 1 [(.int .u8 92), (.int .u8 x5)] 0 0 0 false]
  (apA H_1 5 1 1 (.slice a3 n3 c3) (.slice (some ⟨H.length, 0, some 0⟩) 2 2)).bind fun p50 =>
  ifSl p50.1 fun a50 n50 c50 =>
  g24_J1 T hs x0 a50 n50 c50 x4 p50.2)
  (cond (decide ((x5 : Int) ≥ 32))
  (g24_J3 T hs x0 a3 n3 c3 x4 x5 (decide ((x5 : Int) ≤ 126)) H)
  (g24_J3 T hs x0 a3 n3 c3 x4 x5 false H))
theorem g24_J2_step (T : Nat → Option AFn) (hs : Heap → Heap → Bool) (x0 : ByteArray) (a3 : Option Addr) (n3 : Nat) (c3 : Nat) (x4 : Int) (x5 : Int) (x40 : Bool) (H : Heap) : runK T hs Y24 F24_C1 [(.v (.string x0)), .no, .no, (.v (.slice a3 n3 c3)), (.v (.int .i64 x4)), (.v (.int .u8 x5)), .no, .no, .no, .no, .no, .no, .no, .no, .no, .no, .no, .no, .no, .no, .no, .no, .no, .no, .no, .no, .no, .no, .no, .no, .no, .no, .no, .no, .no, .no, .no, .no, .no, .no, (.v (.bool x40)), .no, .no, .no, .no, .no, .no, .no, .no, .no, .no, .no, .no, .no, .no, .no, .no, .no, .no, .no, .no, .no, .no, .no, .no, .no] H (F24_K5 T hs) = s24_J2 T hs x0 a3 n3 c3 x4 x5 x40 H := by kernel_rfl
theorem g24_J2_ok {T : Nat → Option AFn} {hs : Heap → Heap → Bool} {x0 : ByteArray} {a3 : Option Addr} {n3 : Nat} {c3 : Nat} {x4 : Int} {x5 : Int} {x40 : Bool} {H : Heap} {r : Value × Heap} (h : s24_J2 T hs x0 a3 n3 c3 x4 x5 x40 H = some r) : g24_J2 T hs x0 a3 n3 c3 x4 x5 x40 H = some r := join_intro ((g24_J2_step T hs x0 a3 n3 c3 x4 x5 x40 H).trans h)
theorem g24_J2_ret {T : Nat → Option AFn} {hs : Heap → Heap → Bool} {x0 : ByteArray} {a3 : Option Addr} {n3 : Nat} {c3 : Nat} {x4 : Int} {x5 : Int} {x40 : Bool} {H : Heap} {Q : Value → Heap → Prop} (h : Ret (s24_J2 T hs x0 a3 n3 c3 x4 x5 x40 H) Q) : Ret (g24_J2 T hs x0 a3 n3 c3 x4 x5 x40 H) Q := h.via fun _ q => g24_J2_ok q
noncomputable def s24_J3 (T : Nat → Option AFn) (hs : Heap → Heap → Bool) (x0 : ByteArray) (a3 : Option Addr) (n3 : Nat) (c3 : Nat) (x4 : Int) (x5 : Int) (x51 : Bool) (H : Heap) : Option (Value × Heap) :=
  cond x51
  (let H_1 := H ++ [.cells 5 1 [(.int .u8 x5)] 0 0 0 false]
  (apA H_1 5 1 1 (.slice a3 n3 c3) (.slice (some ⟨H.length, 0, some 0⟩) 1 1)).bind fun p61 =>
  ifSl p61.1 fun a61 n61 c61 =>
  g24_J1 T hs x0 a61 n61 c61 x4 p61.2)
  (let H_2 := H ++ [.cells 5 1 [(.int .u8 92), (.int .u8 120)] 0 0 0 false]
  (apA H_2 5 1 1 (.slice a3 n3 c3) (.slice (some ⟨H.length, 0, some 0⟩) 2 2)).bind fun p18 =>
  ifSl p18.1 fun a18 n18 c18 =>
  (CT T hs 32 [(.int .u8 x5)] p18.2).bind fun p20 =>
  ifStr p20.1 fun x20 =>
  (apA p20.2 5 1 1 (.slice a18 n18 c18) (.string x20)).bind fun p21 =>
  ifSl p21.1 fun a21 n21 c21 =>
  g24_J1 T hs x0 a21 n21 c21 x4 p21.2)
theorem g24_J3_step (T : Nat → Option AFn) (hs : Heap → Heap → Bool) (x0 : ByteArray) (a3 : Option Addr) (n3 : Nat) (c3 : Nat) (x4 : Int) (x5 : Int) (x51 : Bool) (H : Heap) : runK T hs Y24 F24_C0 [(.v (.string x0)), .no, .no, (.v (.slice a3 n3 c3)), (.v (.int .i64 x4)), (.v (.int .u8 x5)), .no, .no, .no, .no, .no, .no, .no, .no, .no, .no, .no, .no, .no, .no, .no, .no, .no, .no, .no, .no, .no, .no, .no, .no, .no, .no, .no, .no, .no, .no, .no, .no, .no, .no, .no, .no, .no, .no, .no, .no, .no, .no, .no, .no, .no, (.v (.bool x51)), .no, .no, .no, .no, .no, .no, .no, .no, .no, .no, .no, .no, .no, .no] H (F24_K5 T hs) = s24_J3 T hs x0 a3 n3 c3 x4 x5 x51 H := by kernel_rfl
theorem g24_J3_ok {T : Nat → Option AFn} {hs : Heap → Heap → Bool} {x0 : ByteArray} {a3 : Option Addr} {n3 : Nat} {c3 : Nat} {x4 : Int} {x5 : Int} {x51 : Bool} {H : Heap} {r : Value × Heap} (h : s24_J3 T hs x0 a3 n3 c3 x4 x5 x51 H = some r) : g24_J3 T hs x0 a3 n3 c3 x4 x5 x51 H = some r := join_intro ((g24_J3_step T hs x0 a3 n3 c3 x4 x5 x51 H).trans h)
theorem g24_J3_ret {T : Nat → Option AFn} {hs : Heap → Heap → Bool} {x0 : ByteArray} {a3 : Option Addr} {n3 : Nat} {c3 : Nat} {x4 : Int} {x5 : Int} {x51 : Bool} {H : Heap} {Q : Value → Heap → Prop} (h : Ret (s24_J3 T hs x0 a3 n3 c3 x4 x5 x51 H) Q) : Ret (g24_J3 T hs x0 a3 n3 c3 x4 x5 x51 H) Q := h.via fun _ q => g24_J3_ok q
noncomputable def s24 (T : Nat → Option AFn) (hs : Heap → Heap → Bool) (x0 : ByteArray) (H : Heap) : Option (Value × Heap) :=
  let H_1 := H ++ [.cells 5 1 [(.int .u8 39)] 0 0 0 false]
  g24_L0 T hs x0 (some ⟨H.length, 0, some 0⟩) 1 1 0 H_1
theorem s24_run (T : Nat → Option AFn) (hs : Heap → Heap → Bool) (x0 : ByteArray) (H : Heap) : runFK T hs Y24 F24 [(.string x0)] H = s24 T hs x0 H := by kernel_rfl
theorem g24_ok {T : Nat → Option AFn} {hs : Heap → Heap → Bool} (hT : T 24 = some (.code F24)) {x0 : ByteArray} {H : Heap} {r : Value × Heap} (h : s24 T hs x0 H = some r) : CT T hs 24 [(.string x0)] H = some r := runFK_ok hT ((s24_run T hs x0 H).trans h)
theorem chk24 : chkFunc Tryd.prog 24 F24 = true := by kernel_rfl
/- dowel/dowelbook.Items -/
def F25_C0 : ACode :=
  .seq (.seq (.reg [⟨(some 11), .mov (.t 5), none, false, none, 0⟩,
    ⟨(some 12), .mov (.t 0), none, false, none, 0⟩,
    ⟨(some 13), .len false (.t 12), none, false, none, 0⟩,
    ⟨(some 14), .bin .lss (.t 11) (.t 13), none, false, none, 0⟩])
  (.cond (.t 14)
  (.skip)
  (.exit 0)))
  (.seq (.block 1 (.seq (.regD [⟨(some 17), .mov (.t 0), none, false, none, 0⟩,
    ⟨(some 18), .mov (.t 5), none, false, none, 0⟩,
    ⟨(some 19), .indexA 3 (.t 17) (.t 18), none, false, none, 0⟩,
    ⟨(some 20), .load true 3 (.t 19), none, false, none, 0⟩,
    ⟨(some 21), .mov (.t 1), none, false, none, 0⟩,
    ⟨(some 22), .mov (.t 5), none, false, none, 0⟩,
    ⟨(some 23), .indexA 3 (.t 21) (.t 22), none, false, none, 0⟩,
    ⟨(some 24), .load true 3 (.t 23), none, false, none, 0⟩,
    ⟨(some 25), .eqS true 3 [(0, .int .i64), (1, .str), (2, .int .i64)] (.t 20) (.t 24), none, false, none, 0⟩])
  (.cond (.t 25)
  (.seq (.reg [⟨(some 4), .mov (.c (.bool false)), none, false, none, 0⟩])
  (.ret))
  (.skip))))
  (.reg [⟨(some 15), .mov (.t 5), none, false, none, 0⟩,
    ⟨(some 16), .bin .add (.t 15) (.c (.int .i64 1)), none, false, none, 0⟩,
    ⟨(some 5), .mov (.t 16), none, false, none, 0⟩]))
def F25_C1 : ACode :=
  .seq (.reg [⟨(some 4), .mov (.c (.bool false)), none, false, none, 0⟩])
  (.seq (.seq (.reg [⟨(some 6), .mov (.t 0), none, false, none, 0⟩,
    ⟨(some 7), .len false (.t 6), none, false, none, 0⟩,
    ⟨(some 8), .mov (.t 1), none, false, none, 0⟩,
    ⟨(some 9), .len false (.t 8), none, false, none, 0⟩,
    ⟨(some 10), .bin .neq (.t 7) (.t 9), none, false, none, 0⟩])
  (.cond (.t 10)
  (.seq (.reg [⟨(some 4), .mov (.c (.bool false)), none, false, none, 0⟩])
  (.ret))
  (.skip)))
  (.seq (.seq (.reg [⟨(some 5), .mov (.c (.int .i64 0)), none, false, none, 0⟩])
  (.block 0 (.loop [0, 1, 5] F25_C0)))
  (.seq (.reg [⟨(some 4), .mov (.c (.bool true)), none, false, none, 0⟩])
  (.ret))))
def F25_C2 : ACode :=
  .seq (.reg [⟨(some 4), .mov (.c (.bool true)), none, false, none, 0⟩])
  (.ret)
def F25 : AFunc := ⟨2, 26, [.tmp 4], F25_C1⟩
def Y25 : List VT := [.v (.one .sl), .v (.one .sl), .v (.one .any), .v (.one .any), .v (.one .bool), .v (.one (.int .i64)), .v (.one .sl), .v (.one (.int .i64)), .v (.one .sl), .v (.one (.int .i64)), .v (.one .bool), .v (.one (.int .i64)), .v (.one .sl), .v (.one (.int .i64)), .v (.one .bool), .v (.one (.int .i64)), .v (.one (.int .i64)), .v (.one .sl), .v (.one (.int .i64)), .v (.one .any), .v (.agg [.int .i64, .str, .int .i64]), .v (.one .sl), .v (.one (.int .i64)), .v (.one .any), .v (.agg [.int .i64, .str, .int .i64]), .v (.one .bool)]
noncomputable def F25_K0 (T : Nat → Option AFn) (hs : Heap → Heap → Bool) : Kont (Value × Heap) := { (kontF F25) with nrm := fun fr H => runK T hs Y25 F25_C2 fr H (kontF F25) }
noncomputable def F25_K1 (T : Nat → Option AFn) (hs : Heap → Heap → Bool) : Kont (Value × Heap) := { (F25_K0 T hs) with ex := fun i fr H => if i = 0 then (F25_K0 T hs).nrm fr H else (F25_K0 T hs).ex i fr H }
noncomputable def g25_L0 (T : Nat → Option AFn) (hs : Heap → Heap → Bool) (a0 : Option Addr) (n0 : Nat) (c0 : Nat) (a1 : Option Addr) (n1 : Nat) (c1 : Nat) (x5 : Int) (H : Heap) : Option (Value × Heap) := loopK T hs [0, 1, 5] F25_C0 [(.v (.slice a0 n0 c0)), (.v (.slice a1 n1 c1)), .no, .no, .no, (.v (.int .i64 x5)), .no, .no, .no, .no, .no, .no, .no, .no, .no, .no, .no, .no, .no, .no, .no, .no, .no, .no, .no, .no] H (F25_K1 T hs)
noncomputable def s25_L0 (T : Nat → Option AFn) (hs : Heap → Heap → Bool) (a0 : Option Addr) (n0 : Nat) (c0 : Nat) (a1 : Option Addr) (n1 : Nat) (c1 : Nat) (x5 : Int) (H : Heap) : Option (Value × Heap) :=
  cond (decide ((x5 : Int) < ((n0 : Nat) : Int)))
  ((ixA H 3 (.slice a0 n0 c0) x5).bind fun q19 =>
  (rdHp H q19.1 q19.2.1 q19.2.2 3 3).bind fun w20 =>
  ifCons w20 fun v20 l20 =>
  ifInt .i64 v20 fun x20 =>
  ifCons l20 fun v20_1 l20_1 =>
  ifStr v20_1 fun x20_1 =>
  ifCons l20_1 fun v20_2 l20_2 =>
  ifInt .i64 v20_2 fun x20_2 =>
  ifNil l20_2 <|
  (ixA H 3 (.slice a1 n1 c1) x5).bind fun q23 =>
  (rdHp H q23.1 q23.2.1 q23.2.2 3 3).bind fun w24 =>
  ifCons w24 fun v24 l24 =>
  ifInt .i64 v24 fun x24 =>
  ifCons l24 fun v24_1 l24_1 =>
  ifStr v24_1 fun x24_1 =>
  ifCons l24_1 fun v24_2 l24_2 =>
  ifInt .i64 v24_2 fun x24_2 =>
  ifNil l24_2 <|
  cond (!(((x20 : Int) == x24) && ((x20_1.toList == x24_1.toList) && (((x20_2 : Int) == x24_2) && true))))
  (some ((.bool false), H))
  (g25_L0 T hs a0 n0 c0 a1 n1 c1 (IntKind.wrap .i64 (x5 + 1)) H))
  (some ((.bool true), H))
theorem g25_L0_step (T : Nat → Option AFn) (hs : Heap → Heap → Bool) (a0 : Option Addr) (n0 : Nat) (c0 : Nat) (a1 : Option Addr) (n1 : Nat) (c1 : Nat) (x5 : Int) (H : Heap) : loopB T hs Y25 [0, 1, 5] F25_C0 [(.v (.slice a0 n0 c0)), (.v (.slice a1 n1 c1)), .no, .no, .no, (.v (.int .i64 x5)), .no, .no, .no, .no, .no, .no, .no, .no, .no, .no, .no, .no, .no, .no, .no, .no, .no, .no, .no, .no] H (F25_K1 T hs) = s25_L0 T hs a0 n0 c0 a1 n1 c1 x5 H := by kernel_rfl
theorem g25_L0_ok {T : Nat → Option AFn} {hs : Heap → Heap → Bool} {a0 : Option Addr} {n0 : Nat} {c0 : Nat} {a1 : Option Addr} {n1 : Nat} {c1 : Nat} {x5 : Int} {H : Heap} {r : Value × Heap} (h : s25_L0 T hs a0 n0 c0 a1 n1 c1 x5 H = some r) : g25_L0 T hs a0 n0 c0 a1 n1 c1 x5 H = some r := loopB_ok ((g25_L0_step T hs a0 n0 c0 a1 n1 c1 x5 H).trans h)
theorem g25_L0_ret {T : Nat → Option AFn} {hs : Heap → Heap → Bool} {a0 : Option Addr} {n0 : Nat} {c0 : Nat} {a1 : Option Addr} {n1 : Nat} {c1 : Nat} {x5 : Int} {H : Heap} {Q : Value → Heap → Prop} (h : Ret (s25_L0 T hs a0 n0 c0 a1 n1 c1 x5 H) Q) : Ret (g25_L0 T hs a0 n0 c0 a1 n1 c1 x5 H) Q := h.via fun _ q => g25_L0_ok q
noncomputable def s25 (T : Nat → Option AFn) (hs : Heap → Heap → Bool) (a0 : Option Addr) (n0 : Nat) (c0 : Nat) (a1 : Option Addr) (n1 : Nat) (c1 : Nat) (H : Heap) : Option (Value × Heap) :=
  cond ((((n0 : Nat) : Int) : Int) != ((n1 : Nat) : Int))
  (some ((.bool false), H))
  (g25_L0 T hs a0 n0 c0 a1 n1 c1 0 H)
theorem s25_run (T : Nat → Option AFn) (hs : Heap → Heap → Bool) (a0 : Option Addr) (n0 : Nat) (c0 : Nat) (a1 : Option Addr) (n1 : Nat) (c1 : Nat) (H : Heap) : runFK T hs Y25 F25 [(.slice a0 n0 c0), (.slice a1 n1 c1)] H = s25 T hs a0 n0 c0 a1 n1 c1 H := by kernel_rfl
theorem g25_ok {T : Nat → Option AFn} {hs : Heap → Heap → Bool} (hT : T 25 = some (.code F25)) {a0 : Option Addr} {n0 : Nat} {c0 : Nat} {a1 : Option Addr} {n1 : Nat} {c1 : Nat} {H : Heap} {r : Value × Heap} (h : s25 T hs a0 n0 c0 a1 n1 c1 H = some r) : CT T hs 25 [(.slice a0 n0 c0), (.slice a1 n1 c1)] H = some r := runFK_ok hT ((s25_run T hs a0 n0 c0 a1 n1 c1 H).trans h)
theorem chk25 : chkFunc Tryd.prog 25 F25 = true := by kernel_rfl
/- dowel/worth.numeral -/
def F26_C0 : ACode :=
  .cond (.t 22)
  (.seq (.reg [⟨(some 2), .mov (.c (.bool false)), none, false, none, 0⟩])
  (.ret))
  (.skip)
def F26_C1 : ACode :=
  .cond (.t 38)
  (.seq (.reg [⟨(some 2), .mov (.c (.bool false)), none, false, none, 0⟩])
  (.ret))
  (.skip)
def F26_C2 : ACode :=
  .seq (.seq (.reg [⟨(some 23), .mov (.t 4), none, false, none, 0⟩,
    ⟨(some 24), .mov (.t 3), none, false, none, 0⟩,
    ⟨(some 25), .len true (.t 24), none, false, none, 0⟩,
    ⟨(some 26), .bin .lss (.t 23) (.t 25), none, false, none, 0⟩])
  (.cond (.t 26)
  (.skip)
  (.exit 0)))
  (.seq (.block 1 (.seqj [3, 4, 38] (.reg [⟨(some 29), .mov (.t 3), none, false, none, 0⟩,
    ⟨(some 30), .mov (.t 4), none, false, none, 0⟩,
    ⟨(some 31), .indexStr (.t 29) (.t 30), none, false, none, 0⟩,
    ⟨(some 32), .bin .lss (.t 31) (.c (.int .u8 48)), none, false, none, 0⟩,
    ⟨(some 33), .mov (.t 32), none, false, none, 0⟩,
    ⟨(some 34), .mov (.t 3), (some (33, false)), false, none, 0⟩,
    ⟨(some 35), .mov (.t 4), (some (33, false)), false, none, 0⟩,
    ⟨(some 36), .indexStr (.t 34) (.t 35), (some (33, false)), false, none, 0⟩,
    ⟨(some 37), .bin .gtr (.t 36) (.c (.int .u8 57)), (some (33, false)), false, none, 0⟩,
    ⟨(some 38), .pick (.t 33) (.c (.bool true)) (.t 37), none, false, none, 0⟩])
  F26_C1))
  (.reg [⟨(some 27), .mov (.t 4), none, false, none, 0⟩,
    ⟨(some 28), .bin .add (.t 27) (.c (.int .i64 1)), none, false, none, 0⟩,
    ⟨(some 4), .mov (.t 28), none, false, none, 0⟩]))
def F26_C3 : ACode :=
  .seq (.reg [⟨(some 2), .mov (.c (.bool false)), none, false, none, 0⟩])
  (.seq (.reg [⟨(some 5), .mov (.t 0), none, false, none, 0⟩,
    ⟨(some 6), .call 33 [.t 5, .c (.string ⟨#[45]⟩)], none, false, none, 0⟩,
    ⟨(some 3), .mov (.t 6), none, false, none, 0⟩])
  (.seq (.seqj [3, 22] (.reg [⟨(some 7), .mov (.t 3), none, false, none, 0⟩,
    ⟨(some 8), .bin .eql (.t 7) (.c (.string ⟨#[]⟩)), none, false, none, 0⟩,
    ⟨(some 9), .mov (.t 8), none, false, none, 0⟩,
    ⟨(some 10), .mov (.t 3), (some (9, false)), false, none, 0⟩,
    ⟨(some 11), .len true (.t 10), (some (9, false)), false, none, 0⟩,
    ⟨(some 12), .bin .gtr (.t 11) (.c (.int .i64 10000)), (some (9, false)), false, none, 0⟩,
    ⟨(some 13), .pick (.t 9) (.c (.bool true)) (.t 12), none, false, none, 0⟩,
    ⟨(some 14), .mov (.t 13), none, false, none, 0⟩,
    ⟨(some 15), .mov (.t 3), (some (14, false)), false, none, 0⟩,
    ⟨(some 16), .indexStr (.t 15) (.c (.int .i64 0)), (some (14, false)), false, none, 0⟩,
    ⟨(some 17), .bin .eql (.t 16) (.c (.int .u8 48)), (some (14, false)), false, none, 0⟩,
    ⟨(some 18), .mov (.t 17), (some (14, false)), false, none, 0⟩,
    ⟨(some 19), .mov (.t 0), (some (18, true)), false, none, 0⟩,
    ⟨(some 20), .bin .neq (.t 19) (.c (.string ⟨#[48]⟩)), (some (18, true)), false, none, 0⟩,
    ⟨(some 21), .pick (.t 18) (.t 20) (.c (.bool false)), (some (14, false)), false, none, 0⟩,
    ⟨(some 22), .pick (.t 14) (.c (.bool true)) (.t 21), none, false, none, 0⟩])
  F26_C0)
  (.seq (.seq (.reg [⟨(some 4), .mov (.c (.int .i64 0)), none, false, none, 0⟩])
  (.block 0 (.loop [3, 4] F26_C2)))
  (.seq (.reg [⟨(some 2), .mov (.c (.bool true)), none, false, none, 0⟩])
  (.ret)))))
def F26_C4 : ACode :=
  .seq (.reg [⟨(some 2), .mov (.c (.bool true)), none, false, none, 0⟩])
  (.ret)
def F26_C5 : ACode :=
  .reg [⟨(some 27), .mov (.t 4), none, false, none, 0⟩,
    ⟨(some 28), .bin .add (.t 27) (.c (.int .i64 1)), none, false, none, 0⟩,
    ⟨(some 4), .mov (.t 28), none, false, none, 0⟩]
def F26_C6 : ACode :=
  .seq (.seq (.reg [⟨(some 4), .mov (.c (.int .i64 0)), none, false, none, 0⟩])
  (.block 0 (.loop [3, 4] F26_C2)))
  (.seq (.reg [⟨(some 2), .mov (.c (.bool true)), none, false, none, 0⟩])
  (.ret))
def F26 : AFunc := ⟨1, 39, [.tmp 2], F26_C3⟩
def Y26 : List VT := [.v (.one .str), .v (.one .any), .v (.one .bool), .v (.one .str), .v (.one (.int .i64)), .v (.one .str), .v (.one .str), .v (.one .str), .v (.one .bool), .v (.one .bool), .v (.one .str), .v (.one (.int .i64)), .v (.one .bool), .v (.one .bool), .v (.one .bool), .v (.one .str), .v (.one (.int .u8)), .v (.one .bool), .v (.one .bool), .v (.one .str), .v (.one .bool), .v (.one .bool), .v (.one .bool), .v (.one (.int .i64)), .v (.one .str), .v (.one (.int .i64)), .v (.one .bool), .v (.one (.int .i64)), .v (.one (.int .i64)), .v (.one .str), .v (.one (.int .i64)), .v (.one (.int .u8)), .v (.one .bool), .v (.one .bool), .v (.one .str), .v (.one (.int .i64)), .v (.one (.int .u8)), .v (.one .bool), .v (.one .bool)]
noncomputable def F26_K0 (T : Nat → Option AFn) (hs : Heap → Heap → Bool) : Kont (Value × Heap) := { (kontF F26) with nrm := fun fr H => runK T hs Y26 F26_C4 fr H (kontF F26) }
noncomputable def F26_K1 (T : Nat → Option AFn) (hs : Heap → Heap → Bool) : Kont (Value × Heap) := { (F26_K0 T hs) with ex := fun i fr H => if i = 0 then (F26_K0 T hs).nrm fr H else (F26_K0 T hs).ex i fr H }
noncomputable def F26_K2 (T : Nat → Option AFn) (hs : Heap → Heap → Bool) : Kont (Value × Heap) := { (F26_K1 T hs) with nrm := fun fr H => fF (forget [3, 4] fr) fun fr => loopK T hs [3, 4] F26_C2 fr H (F26_K1 T hs) }
noncomputable def F26_K3 (T : Nat → Option AFn) (hs : Heap → Heap → Bool) : Kont (Value × Heap) := { (F26_K2 T hs) with nrm := fun fr H => runK T hs Y26 F26_C5 fr H (F26_K2 T hs) }
noncomputable def F26_K4 (T : Nat → Option AFn) (hs : Heap → Heap → Bool) : Kont (Value × Heap) := { (F26_K3 T hs) with ex := fun i fr H => if i = 1 then (F26_K3 T hs).nrm fr H else (F26_K3 T hs).ex i fr H }
noncomputable def F26_K5 (T : Nat → Option AFn) (hs : Heap → Heap → Bool) : Kont (Value × Heap) := { (kontF F26) with nrm := fun fr H => runK T hs Y26 F26_C6 fr H (kontF F26) }
noncomputable def g26_J2 (T : Nat → Option AFn) (hs : Heap → Heap → Bool) (x3 : ByteArray) (x4 : Int) (x38 : Bool) (H : Heap) : Option (Value × Heap) := joinK T hs F26_C1 [.no, .no, .no, (.v (.string x3)), (.v (.int .i64 x4)), .no, .no, .no, .no, .no, .no, .no, .no, .no, .no, .no, .no, .no, .no, .no, .no, .no, .no, .no, .no, .no, .no, .no, .no, .no, .no, .no, .no, .no, .no, .no, .no, .no, (.v (.bool x38))] H (F26_K4 T hs)
noncomputable def g26_L1 (T : Nat → Option AFn) (hs : Heap → Heap → Bool) (x3 : ByteArray) (x4 : Int) (H : Heap) : Option (Value × Heap) := loopK T hs [3, 4] F26_C2 [.no, .no, .no, (.v (.string x3)), (.v (.int .i64 x4)), .no, .no, .no, .no, .no, .no, .no, .no, .no, .no, .no, .no, .no, .no, .no, .no, .no, .no, .no, .no, .no, .no, .no, .no, .no, .no, .no, .no, .no, .no, .no, .no, .no, .no] H (F26_K1 T hs)
noncomputable def g26_J0 (T : Nat → Option AFn) (hs : Heap → Heap → Bool) (x3 : ByteArray) (x22 : Bool) (H : Heap) : Option (Value × Heap) := joinK T hs F26_C0 [.no, .no, .no, (.v (.string x3)), .no, .no, .no, .no, .no, .no, .no, .no, .no, .no, .no, .no, .no, .no, .no, .no, .no, .no, (.v (.bool x22)), .no, .no, .no, .no, .no, .no, .no, .no, .no, .no, .no, .no, .no, .no, .no, .no] H (F26_K5 T hs)
noncomputable def s26_J0 (T : Nat → Option AFn) (hs : Heap → Heap → Bool) (x3 : ByteArray) (x22 : Bool) (H : Heap) : Option (Value × Heap) :=
  cond x22
  (some ((.bool false), H))
  (g26_L1 T hs x3 0 H)
theorem g26_J0_step (T : Nat → Option AFn) (hs : Heap → Heap → Bool) (x3 : ByteArray) (x22 : Bool) (H : Heap) : runK T hs Y26 F26_C0 [.no, .no, .no, (.v (.string x3)), .no, .no, .no, .no, .no, .no, .no, .no, .no, .no, .no, .no, .no, .no, .no, .no, .no, .no, (.v (.bool x22)), .no, .no, .no, .no, .no, .no, .no, .no, .no, .no, .no, .no, .no, .no, .no, .no] H (F26_K5 T hs) = s26_J0 T hs x3 x22 H := by kernel_rfl
theorem g26_J0_ok {T : Nat → Option AFn} {hs : Heap → Heap → Bool} {x3 : ByteArray} {x22 : Bool} {H : Heap} {r : Value × Heap} (h : s26_J0 T hs x3 x22 H = some r) : g26_J0 T hs x3 x22 H = some r := join_intro ((g26_J0_step T hs x3 x22 H).trans h)
theorem g26_J0_ret {T : Nat → Option AFn} {hs : Heap → Heap → Bool} {x3 : ByteArray} {x22 : Bool} {H : Heap} {Q : Value → Heap → Prop} (h : Ret (s26_J0 T hs x3 x22 H) Q) : Ret (g26_J0 T hs x3 x22 H) Q := h.via fun _ q => g26_J0_ok q
noncomputable def s26_L1 (T : Nat → Option AFn) (hs : Heap → Heap → Bool) (x3 : ByteArray) (x4 : Int) (H : Heap) : Option (Value × Heap) :=
  cond (decide ((x4 : Int) < (x3.size : Int)))
  ((atS x3 x4).bind fun b31 =>
  cond (decide (((b31.toNat : Int) : Int) < 48))
  (g26_J2 T hs x3 x4 true H)
  ((atS x3 x4).bind fun b36 =>
  g26_J2 T hs x3 x4 (decide (((b36.toNat : Int) : Int) > 57)) H))
  (some ((.bool true), H))
theorem g26_L1_step (T : Nat → Option AFn) (hs : Heap → Heap → Bool) (x3 : ByteArray) (x4 : Int) (H : Heap) : loopB T hs Y26 [3, 4] F26_C2 [.no, .no, .no, (.v (.string x3)), (.v (.int .i64 x4)), .no, .no, .no, .no, .no, .no, .no, .no, .no, .no, .no, .no, .no, .no, .no, .no, .no, .no, .no, .no, .no, .no, .no, .no, .no, .no, .no, .no, .no, .no, .no, .no, .no, .no] H (F26_K1 T hs) = s26_L1 T hs x3 x4 H := by kernel_rfl
theorem g26_L1_ok {T : Nat → Option AFn} {hs : Heap → Heap → Bool} {x3 : ByteArray} {x4 : Int} {H : Heap} {r : Value × Heap} (h : s26_L1 T hs x3 x4 H = some r) : g26_L1 T hs x3 x4 H = some r := loopB_ok ((g26_L1_step T hs x3 x4 H).trans h)
theorem g26_L1_ret {T : Nat → Option AFn} {hs : Heap → Heap → Bool} {x3 : ByteArray} {x4 : Int} {H : Heap} {Q : Value → Heap → Prop} (h : Ret (s26_L1 T hs x3 x4 H) Q) : Ret (g26_L1 T hs x3 x4 H) Q := h.via fun _ q => g26_L1_ok q
noncomputable def s26_J2 (T : Nat → Option AFn) (hs : Heap → Heap → Bool) (x3 : ByteArray) (x4 : Int) (x38 : Bool) (H : Heap) : Option (Value × Heap) :=
  cond x38
  (some ((.bool false), H))
  (g26_L1 T hs x3 (IntKind.wrap .i64 (x4 + 1)) H)
theorem g26_J2_step (T : Nat → Option AFn) (hs : Heap → Heap → Bool) (x3 : ByteArray) (x4 : Int) (x38 : Bool) (H : Heap) : runK T hs Y26 F26_C1 [.no, .no, .no, (.v (.string x3)), (.v (.int .i64 x4)), .no, .no, .no, .no, .no, .no, .no, .no, .no, .no, .no, .no, .no, .no, .no, .no, .no, .no, .no, .no, .no, .no, .no, .no, .no, .no, .no, .no, .no, .no, .no, .no, .no, (.v (.bool x38))] H (F26_K4 T hs) = s26_J2 T hs x3 x4 x38 H := by kernel_rfl
theorem g26_J2_ok {T : Nat → Option AFn} {hs : Heap → Heap → Bool} {x3 : ByteArray} {x4 : Int} {x38 : Bool} {H : Heap} {r : Value × Heap} (h : s26_J2 T hs x3 x4 x38 H = some r) : g26_J2 T hs x3 x4 x38 H = some r := join_intro ((g26_J2_step T hs x3 x4 x38 H).trans h)
theorem g26_J2_ret {T : Nat → Option AFn} {hs : Heap → Heap → Bool} {x3 : ByteArray} {x4 : Int} {x38 : Bool} {H : Heap} {Q : Value → Heap → Prop} (h : Ret (s26_J2 T hs x3 x4 x38 H) Q) : Ret (g26_J2 T hs x3 x4 x38 H) Q := h.via fun _ q => g26_J2_ok q
noncomputable def s26 (T : Nat → Option AFn) (hs : Heap → Heap → Bool) (x0 : ByteArray) (H : Heap) : Option (Value × Heap) :=
  (CT T hs 33 [(.string x0), (.string (⟨#[45]⟩ : ByteArray))] H).bind fun p6 =>
  ifStr p6.1 fun x6 =>
  cond ((x6.toList == (⟨#[]⟩ : ByteArray).toList))
  (g26_J0 T hs x6 true p6.2)
  (cond (decide (((x6.size : Int) : Int) > 10000))
  (g26_J0 T hs x6 true p6.2)
  ((atS x6 0).bind fun b16 =>
  cond (((b16.toNat : Int) : Int) == 48)
  (g26_J0 T hs x6 (!(x0.toList == (⟨#[48]⟩ : ByteArray).toList)) p6.2)
  (g26_J0 T hs x6 false p6.2)))
theorem s26_run (T : Nat → Option AFn) (hs : Heap → Heap → Bool) (x0 : ByteArray) (H : Heap) : runFK T hs Y26 F26 [(.string x0)] H = s26 T hs x0 H := by kernel_rfl
theorem g26_ok {T : Nat → Option AFn} {hs : Heap → Heap → Bool} (hT : T 26 = some (.code F26)) {x0 : ByteArray} {H : Heap} {r : Value × Heap} (h : s26 T hs x0 H = some r) : CT T hs 26 [(.string x0)] H = some r := runFK_ok hT ((s26_run T hs x0 H).trans h)
theorem chk26 : chkFunc Tryd.prog 26 F26 = true := by kernel_rfl
/- dowel/dowelref26.digits -/
def F27_C0 : ACode :=
  .cond (.t 10)
  (.seq (.reg [⟨(some 11), .mov (.t 0), none, false, none, 0⟩,
    ⟨(some 12), .slStr (.t 11) (some (.c (.int .i64 1))) none, none, false, none, 0⟩,
    ⟨(some 0), .mov (.t 12), none, false, none, 0⟩])
  (.seq (.reg [⟨(some 13), .mov (.t 0), none, false, none, 0⟩,
    ⟨(some 14), .bin .eql (.t 13) (.c (.string ⟨#[48]⟩)), none, false, none, 0⟩])
  (.cond (.t 14)
  (.seq (.reg [⟨(some 2), .mov (.c (.bool false)), none, false, none, 0⟩])
  (.ret))
  (.skip))))
  (.skip)
def F27_C1 : ACode :=
  .cond (.t 31)
  (.seq (.reg [⟨(some 2), .mov (.c (.bool false)), none, false, none, 0⟩])
  (.ret))
  (.skip)
def F27_C2 : ACode :=
  .cond (.t 47)
  (.seq (.reg [⟨(some 2), .mov (.c (.bool false)), none, false, none, 0⟩])
  (.ret))
  (.skip)
def F27_C3 : ACode :=
  .seq (.seq (.reg [⟨(some 32), .mov (.t 3), none, false, none, 0⟩,
    ⟨(some 33), .mov (.t 0), none, false, none, 0⟩,
    ⟨(some 34), .len true (.t 33), none, false, none, 0⟩,
    ⟨(some 35), .bin .lss (.t 32) (.t 34), none, false, none, 0⟩])
  (.cond (.t 35)
  (.skip)
  (.exit 0)))
  (.seq (.block 1 (.seqj [0, 3, 47] (.reg [⟨(some 38), .mov (.t 0), none, false, none, 0⟩,
    ⟨(some 39), .mov (.t 3), none, false, none, 0⟩,
    ⟨(some 40), .indexStr (.t 38) (.t 39), none, false, none, 0⟩,
    ⟨(some 41), .bin .lss (.t 40) (.c (.int .u8 48)), none, false, none, 0⟩,
    ⟨(some 42), .mov (.t 41), none, false, none, 0⟩,
    ⟨(some 43), .mov (.t 0), (some (42, false)), false, none, 0⟩,
    ⟨(some 44), .mov (.t 3), (some (42, false)), false, none, 0⟩,
    ⟨(some 45), .indexStr (.t 43) (.t 44), (some (42, false)), false, none, 0⟩,
    ⟨(some 46), .bin .gtr (.t 45) (.c (.int .u8 57)), (some (42, false)), false, none, 0⟩,
    ⟨(some 47), .pick (.t 42) (.c (.bool true)) (.t 46), none, false, none, 0⟩])
  F27_C2))
  (.reg [⟨(some 36), .mov (.t 3), none, false, none, 0⟩,
    ⟨(some 37), .bin .add (.t 36) (.c (.int .i64 1)), none, false, none, 0⟩,
    ⟨(some 3), .mov (.t 37), none, false, none, 0⟩]))
def F27_C4 : ACode :=
  .seq (.seqj [0, 31] (.reg [⟨(some 15), .mov (.t 0), none, false, none, 0⟩,
    ⟨(some 16), .bin .eql (.t 15) (.c (.string ⟨#[]⟩)), none, false, none, 0⟩,
    ⟨(some 17), .mov (.t 16), none, false, none, 0⟩,
    ⟨(some 18), .mov (.t 0), (some (17, false)), false, none, 0⟩,
    ⟨(some 19), .len true (.t 18), (some (17, false)), false, none, 0⟩,
    ⟨(some 20), .bin .gtr (.t 19) (.c (.int .i64 10000)), (some (17, false)), false, none, 0⟩,
    ⟨(some 21), .pick (.t 17) (.c (.bool true)) (.t 20), none, false, none, 0⟩,
    ⟨(some 22), .mov (.t 21), none, false, none, 0⟩,
    ⟨(some 23), .mov (.t 0), (some (22, false)), false, none, 0⟩,
    ⟨(some 24), .indexStr (.t 23) (.c (.int .i64 0)), (some (22, false)), false, none, 0⟩,
    ⟨(some 25), .bin .eql (.t 24) (.c (.int .u8 48)), (some (22, false)), false, none, 0⟩,
    ⟨(some 26), .mov (.t 25), (some (22, false)), false, none, 0⟩,
    ⟨(some 27), .mov (.t 0), (some (26, true)), false, none, 0⟩,
    ⟨(some 28), .len true (.t 27), (some (26, true)), false, none, 0⟩,
    ⟨(some 29), .bin .gtr (.t 28) (.c (.int .i64 1)), (some (26, true)), false, none, 0⟩,
    ⟨(some 30), .pick (.t 26) (.t 29) (.c (.bool false)), (some (22, false)), false, none, 0⟩,
    ⟨(some 31), .pick (.t 22) (.c (.bool true)) (.t 30), none, false, none, 0⟩])
  F27_C1)
  (.seq (.seq (.reg [⟨(some 3), .mov (.c (.int .i64 0)), none, false, none, 0⟩])
  (.block 0 (.loop [0, 3] F27_C3)))
  (.seq (.reg [⟨(some 2), .mov (.c (.bool true)), none, false, none, 0⟩])
  (.ret)))
def F27_C5 : ACode :=
  .seq (.reg [⟨(some 2), .mov (.c (.bool false)), none, false, none, 0⟩])
  (.seqj [0] (.seqj [0, 10] (.reg [⟨(some 4), .mov (.t 0), none, false, none, 0⟩,
    ⟨(some 5), .bin .neq (.t 4) (.c (.string ⟨#[]⟩)), none, false, none, 0⟩,
    ⟨(some 6), .mov (.t 5), none, false, none, 0⟩,
    ⟨(some 7), .mov (.t 0), (some (6, true)), false, none, 0⟩,
    ⟨(some 8), .indexStr (.t 7) (.c (.int .i64 0)), (some (6, true)), false, none, 0⟩,
    ⟨(some 9), .bin .eql (.t 8) (.c (.int .u8 45)), (some (6, true)), false, none, 0⟩,
    ⟨(some 10), .pick (.t 6) (.t 9) (.c (.bool false)), none, false, none, 0⟩])
  F27_C0)
  F27_C4)
def F27_C6 : ACode :=
  .seq (.reg [⟨(some 2), .mov (.c (.bool true)), none, false, none, 0⟩])
  (.ret)
def F27_C7 : ACode :=
  .reg [⟨(some 36), .mov (.t 3), none, false, none, 0⟩,
    ⟨(some 37), .bin .add (.t 36) (.c (.int .i64 1)), none, false, none, 0⟩,
    ⟨(some 3), .mov (.t 37), none, false, none, 0⟩]
def F27_C8 : ACode :=
  .seq (.seq (.reg [⟨(some 3), .mov (.c (.int .i64 0)), none, false, none, 0⟩])
  (.block 0 (.loop [0, 3] F27_C3)))
  (.seq (.reg [⟨(some 2), .mov (.c (.bool true)), none, false, none, 0⟩])
  (.ret))
def F27 : AFunc := ⟨1, 48, [.tmp 2], F27_C5⟩
def Y27 : List VT := [.v (.one .str), .v (.one .any), .v (.one .bool), .v (.one (.int .i64)), .v (.one .str), .v (.one .bool), .v (.one .bool), .v (.one .str), .v (.one (.int .u8)), .v (.one .bool), .v (.one .bool), .v (.one .str), .v (.one .str), .v (.one .str), .v (.one .bool), .v (.one .str), .v (.one .bool), .v (.one .bool), .v (.one .str), .v (.one (.int .i64)), .v (.one .bool), .v (.one .bool), .v (.one .bool), .v (.one .str), .v (.one (.int .u8)), .v (.one .bool), .v (.one .bool), .v (.one .str), .v (.one (.int .i64)), .v (.one .bool), .v (.one .bool), .v (.one .bool), .v (.one (.int .i64)), .v (.one .str), .v (.one (.int .i64)), .v (.one .bool), .v (.one (.int .i64)), .v (.one (.int .i64)), .v (.one .str), .v (.one (.int .i64)), .v (.one (.int .u8)), .v (.one .bool), .v (.one .bool), .v (.one .str), .v (.one (.int .i64)), .v (.one (.int .u8)), .v (.one .bool), .v (.one .bool)]
noncomputable def F27_K0 (T : Nat → Option AFn) (hs : Heap → Heap → Bool) : Kont (Value × Heap) := { (kontF F27) with nrm := fun fr H => runK T hs Y27 F27_C6 fr H (kontF F27) }
noncomputable def F27_K1 (T : Nat → Option AFn) (hs : Heap → Heap → Bool) : Kont (Value × Heap) := { (F27_K0 T hs) with ex := fun i fr H => if i = 0 then (F27_K0 T hs).nrm fr H else (F27_K0 T hs).ex i fr H }
noncomputable def F27_K2 (T : Nat → Option AFn) (hs : Heap → Heap → Bool) : Kont (Value × Heap) := { (F27_K1 T hs) with nrm := fun fr H => fF (forget [0, 3] fr) fun fr => loopK T hs [0, 3] F27_C3 fr H (F27_K1 T hs) }
noncomputable def F27_K3 (T : Nat → Option AFn) (hs : Heap → Heap → Bool) : Kont (Value × Heap) := { (F27_K2 T hs) with nrm := fun fr H => runK T hs Y27 F27_C7 fr H (F27_K2 T hs) }
noncomputable def F27_K4 (T : Nat → Option AFn) (hs : Heap → Heap → Bool) : Kont (Value × Heap) := { (F27_K3 T hs) with ex := fun i fr H => if i = 1 then (F27_K3 T hs).nrm fr H else (F27_K3 T hs).ex i fr H }
noncomputable def F27_K5 (T : Nat → Option AFn) (hs : Heap → Heap → Bool) : Kont (Value × Heap) := { (kontF F27) with nrm := fun fr H => runK T hs Y27 F27_C8 fr H (kontF F27) }
noncomputable def F27_K6 (T : Nat → Option AFn) (hs : Heap → Heap → Bool) : Kont (Value × Heap) := { (kontF F27) with nrm := fun fr H => fF (forget [0] fr) fun fr => joinK T hs F27_C4 fr H (kontF F27) }
noncomputable def g27_J4 (T : Nat → Option AFn) (hs : Heap → Heap → Bool) (x0 : ByteArray) (x3 : Int) (x47 : Bool) (H : Heap) : Option (Value × Heap) := joinK T hs F27_C2 [(.v (.string x0)), .no, .no, (.v (.int .i64 x3)), .no, .no, .no, .no, .no, .no, .no, .no, .no, .no, .no, .no, .no, .no, .no, .no, .no, .no, .no, .no, .no, .no, .no, .no, .no, .no, .no, .no, .no, .no, .no, .no, .no, .no, .no, .no, .no, .no, .no, .no, .no, .no, .no, (.v (.bool x47))] H (F27_K4 T hs)
noncomputable def g27_L3 (T : Nat → Option AFn) (hs : Heap → Heap → Bool) (x0 : ByteArray) (x3 : Int) (H : Heap) : Option (Value × Heap) := loopK T hs [0, 3] F27_C3 [(.v (.string x0)), .no, .no, (.v (.int .i64 x3)), .no, .no, .no, .no, .no, .no, .no, .no, .no, .no, .no, .no, .no, .no, .no, .no, .no, .no, .no, .no, .no, .no, .no, .no, .no, .no, .no, .no, .no, .no, .no, .no, .no, .no, .no, .no, .no, .no, .no, .no, .no, .no, .no, .no] H (F27_K1 T hs)
noncomputable def g27_J2 (T : Nat → Option AFn) (hs : Heap → Heap → Bool) (x0 : ByteArray) (x31 : Bool) (H : Heap) : Option (Value × Heap) := joinK T hs F27_C1 [(.v (.string x0)), .no, .no, .no, .no, .no, .no, .no, .no, .no, .no, .no, .no, .no, .no, .no, .no, .no, .no, .no, .no, .no, .no, .no, .no, .no, .no, .no, .no, .no, .no, (.v (.bool x31)), .no, .no, .no, .no, .no, .no, .no, .no, .no, .no, .no, .no, .no, .no, .no, .no] H (F27_K5 T hs)
noncomputable def g27_J1 (T : Nat → Option AFn) (hs : Heap → Heap → Bool) (x0 : ByteArray) (H : Heap) : Option (Value × Heap) := joinK T hs F27_C4 [(.v (.string x0)), .no, .no, .no, .no, .no, .no, .no, .no, .no, .no, .no, .no, .no, .no, .no, .no, .no, .no, .no, .no, .no, .no, .no, .no, .no, .no, .no, .no, .no, .no, .no, .no, .no, .no, .no, .no, .no, .no, .no, .no, .no, .no, .no, .no, .no, .no, .no] H (kontF F27)
noncomputable def g27_J0 (T : Nat → Option AFn) (hs : Heap → Heap → Bool) (x0 : ByteArray) (x10 : Bool) (H : Heap) : Option (Value × Heap) := joinK T hs F27_C0 [(.v (.string x0)), .no, .no, .no, .no, .no, .no, .no, .no, .no, (.v (.bool x10)), .no, .no, .no, .no, .no, .no, .no, .no, .no, .no, .no, .no, .no, .no, .no, .no, .no, .no, .no, .no, .no, .no, .no, .no, .no, .no, .no, .no, .no, .no, .no, .no, .no, .no, .no, .no, .no] H (F27_K6 T hs)
noncomputable def s27_J0 (T : Nat → Option AFn) (hs : Heap → Heap → Bool) (x0 : ByteArray) (x10 : Bool) (H : Heap) : Option (Value × Heap) :=
  cond x10
  ((ssA x0 (some 1) none).bind fun s12 =>
  cond ((s12.toList == (⟨#[48]⟩ : ByteArray).toList))
  (some ((.bool false), H))
  (g27_J1 T hs s12 H))
  (g27_J1 T hs x0 H)
theorem g27_J0_step (T : Nat → Option AFn) (hs : Heap → Heap → Bool) (x0 : ByteArray) (x10 : Bool) (H : Heap) : runK T hs Y27 F27_C0 [(.v (.string x0)), .no, .no, .no, .no, .no, .no, .no, .no, .no, (.v (.bool x10)), .no, .no, .no, .no, .no, .no, .no, .no, .no, .no, .no, .no, .no, .no, .no, .no, .no, .no, .no, .no, .no, .no, .no, .no, .no, .no, .no, .no, .no, .no, .no, .no, .no, .no, .no, .no, .no] H (F27_K6 T hs) = s27_J0 T hs x0 x10 H := by kernel_rfl
theorem g27_J0_ok {T : Nat → Option AFn} {hs : Heap → Heap → Bool} {x0 : ByteArray} {x10 : Bool} {H : Heap} {r : Value × Heap} (h : s27_J0 T hs x0 x10 H = some r) : g27_J0 T hs x0 x10 H = some r := join_intro ((g27_J0_step T hs x0 x10 H).trans h)
theorem g27_J0_ret {T : Nat → Option AFn} {hs : Heap → Heap → Bool} {x0 : ByteArray} {x10 : Bool} {H : Heap} {Q : Value → Heap → Prop} (h : Ret (s27_J0 T hs x0 x10 H) Q) : Ret (g27_J0 T hs x0 x10 H) Q := h.via fun _ q => g27_J0_ok q
noncomputable def s27_J1 (T : Nat → Option AFn) (hs : Heap → Heap → Bool) (x0 : ByteArray) (H : Heap) : Option (Value × Heap) :=
  cond ((x0.toList == (⟨#[]⟩ : ByteArray).toList))
  (g27_J2 T hs x0 true H)
  (cond (decide (((x0.size : Int) : Int) > 10000))
  (g27_J2 T hs x0 true H)
  ((atS x0 0).bind fun b24 =>
  cond (((b24.toNat : Int) : Int) == 48)
  (g27_J2 T hs x0 (decide (((x0.size : Int) : Int) > 1)) H)
  (g27_J2 T hs x0 false H)))
theorem g27_J1_step (T : Nat → Option AFn) (hs : Heap → Heap → Bool) (x0 : ByteArray) (H : Heap) : runK T hs Y27 F27_C4 [(.v (.string x0)), .no, .no, .no, .no, .no, .no, .no, .no, .no, .no, .no, .no, .no, .no, .no, .no, .no, .no, .no, .no, .no, .no, .no, .no, .no, .no, .no, .no, .no, .no, .no, .no, .no, .no, .no, .no, .no, .no, .no, .no, .no, .no, .no, .no, .no, .no, .no] H (kontF F27) = s27_J1 T hs x0 H := by kernel_rfl
theorem g27_J1_ok {T : Nat → Option AFn} {hs : Heap → Heap → Bool} {x0 : ByteArray} {H : Heap} {r : Value × Heap} (h : s27_J1 T hs x0 H = some r) : g27_J1 T hs x0 H = some r := join_intro ((g27_J1_step T hs x0 H).trans h)
theorem g27_J1_ret {T : Nat → Option AFn} {hs : Heap → Heap → Bool} {x0 : ByteArray} {H : Heap} {Q : Value → Heap → Prop} (h : Ret (s27_J1 T hs x0 H) Q) : Ret (g27_J1 T hs x0 H) Q := h.via fun _ q => g27_J1_ok q
noncomputable def s27_J2 (T : Nat → Option AFn) (hs : Heap → Heap → Bool) (x0 : ByteArray) (x31 : Bool) (H : Heap) : Option (Value × Heap) :=
  cond x31
  (some ((.bool false), H))
  (g27_L3 T hs x0 0 H)
theorem g27_J2_step (T : Nat → Option AFn) (hs : Heap → Heap → Bool) (x0 : ByteArray) (x31 : Bool) (H : Heap) : runK T hs Y27 F27_C1 [(.v (.string x0)), .no, .no, .no, .no, .no, .no, .no, .no, .no, .no, .no, .no, .no, .no, .no, .no, .no, .no, .no, .no, .no, .no, .no, .no, .no, .no, .no, .no, .no, .no, (.v (.bool x31)), .no, .no, .no, .no, .no, .no, .no, .no, .no, .no, .no, .no, .no, .no, .no, .no] H (F27_K5 T hs) = s27_J2 T hs x0 x31 H := by kernel_rfl
theorem g27_J2_ok {T : Nat → Option AFn} {hs : Heap → Heap → Bool} {x0 : ByteArray} {x31 : Bool} {H : Heap} {r : Value × Heap} (h : s27_J2 T hs x0 x31 H = some r) : g27_J2 T hs x0 x31 H = some r := join_intro ((g27_J2_step T hs x0 x31 H).trans h)
theorem g27_J2_ret {T : Nat → Option AFn} {hs : Heap → Heap → Bool} {x0 : ByteArray} {x31 : Bool} {H : Heap} {Q : Value → Heap → Prop} (h : Ret (s27_J2 T hs x0 x31 H) Q) : Ret (g27_J2 T hs x0 x31 H) Q := h.via fun _ q => g27_J2_ok q
noncomputable def s27_L3 (T : Nat → Option AFn) (hs : Heap → Heap → Bool) (x0 : ByteArray) (x3 : Int) (H : Heap) : Option (Value × Heap) :=
  cond (decide ((x3 : Int) < (x0.size : Int)))
  ((atS x0 x3).bind fun b40 =>
  cond (decide (((b40.toNat : Int) : Int) < 48))
  (g27_J4 T hs x0 x3 true H)
  ((atS x0 x3).bind fun b45 =>
  g27_J4 T hs x0 x3 (decide (((b45.toNat : Int) : Int) > 57)) H))
  (some ((.bool true), H))
theorem g27_L3_step (T : Nat → Option AFn) (hs : Heap → Heap → Bool) (x0 : ByteArray) (x3 : Int) (H : Heap) : loopB T hs Y27 [0, 3] F27_C3 [(.v (.string x0)), .no, .no, (.v (.int .i64 x3)), .no, .no, .no, .no, .no, .no, .no, .no, .no, .no, .no, .no, .no, .no, .no, .no, .no, .no, .no, .no, .no, .no, .no, .no, .no, .no, .no, .no, .no, .no, .no, .no, .no, .no, .no, .no, .no, .no, .no, .no, .no, .no, .no, .no] H (F27_K1 T hs) = s27_L3 T hs x0 x3 H := by kernel_rfl
theorem g27_L3_ok {T : Nat → Option AFn} {hs : Heap → Heap → Bool} {x0 : ByteArray} {x3 : Int} {H : Heap} {r : Value × Heap} (h : s27_L3 T hs x0 x3 H = some r) : g27_L3 T hs x0 x3 H = some r := loopB_ok ((g27_L3_step T hs x0 x3 H).trans h)
theorem g27_L3_ret {T : Nat → Option AFn} {hs : Heap → Heap → Bool} {x0 : ByteArray} {x3 : Int} {H : Heap} {Q : Value → Heap → Prop} (h : Ret (s27_L3 T hs x0 x3 H) Q) : Ret (g27_L3 T hs x0 x3 H) Q := h.via fun _ q => g27_L3_ok q
noncomputable def s27_J4 (T : Nat → Option AFn) (hs : Heap → Heap → Bool) (x0 : ByteArray) (x3 : Int) (x47 : Bool) (H : Heap) : Option (Value × Heap) :=
  cond x47
  (some ((.bool false), H))
  (g27_L3 T hs x0 (IntKind.wrap .i64 (x3 + 1)) H)
theorem g27_J4_step (T : Nat → Option AFn) (hs : Heap → Heap → Bool) (x0 : ByteArray) (x3 : Int) (x47 : Bool) (H : Heap) : runK T hs Y27 F27_C2 [(.v (.string x0)), .no, .no, (.v (.int .i64 x3)), .no, .no, .no, .no, .no, .no, .no, .no, .no, .no, .no, .no, .no, .no, .no, .no, .no, .no, .no, .no, .no, .no, .no, .no, .no, .no, .no, .no, .no, .no, .no, .no, .no, .no, .no, .no, .no, .no, .no, .no, .no, .no, .no, (.v (.bool x47))] H (F27_K4 T hs) = s27_J4 T hs x0 x3 x47 H := by kernel_rfl
theorem g27_J4_ok {T : Nat → Option AFn} {hs : Heap → Heap → Bool} {x0 : ByteArray} {x3 : Int} {x47 : Bool} {H : Heap} {r : Value × Heap} (h : s27_J4 T hs x0 x3 x47 H = some r) : g27_J4 T hs x0 x3 x47 H = some r := join_intro ((g27_J4_step T hs x0 x3 x47 H).trans h)
theorem g27_J4_ret {T : Nat → Option AFn} {hs : Heap → Heap → Bool} {x0 : ByteArray} {x3 : Int} {x47 : Bool} {H : Heap} {Q : Value → Heap → Prop} (h : Ret (s27_J4 T hs x0 x3 x47 H) Q) : Ret (g27_J4 T hs x0 x3 x47 H) Q := h.via fun _ q => g27_J4_ok q
noncomputable def s27 (T : Nat → Option AFn) (hs : Heap → Heap → Bool) (x0 : ByteArray) (H : Heap) : Option (Value × Heap) :=
  cond (!(x0.toList == (⟨#[]⟩ : ByteArray).toList))
  ((atS x0 0).bind fun b8 =>
  g27_J0 T hs x0 (((b8.toNat : Int) : Int) == 45) H)
  (g27_J0 T hs x0 false H)
theorem s27_run (T : Nat → Option AFn) (hs : Heap → Heap → Bool) (x0 : ByteArray) (H : Heap) : runFK T hs Y27 F27 [(.string x0)] H = s27 T hs x0 H := by kernel_rfl
theorem g27_ok {T : Nat → Option AFn} {hs : Heap → Heap → Bool} (hT : T 27 = some (.code F27)) {x0 : ByteArray} {H : Heap} {r : Value × Heap} (h : s27 T hs x0 H = some r) : CT T hs 27 [(.string x0)] H = some r := runFK_ok hT ((s27_run T hs x0 H).trans h)
theorem chk27 : chkFunc Tryd.prog 27 F27 = true := by kernel_rfl
/- dowel/dowelref26.joined -/
def F28_C0 : ACode :=
  .cond (.t 6)
  (.seq (.reg [⟨(some 15), .fieldA 1 (.t 2), none, false, none, 0⟩,
    ⟨(some 16), .load false 1 (.t 15), none, false, none, 0⟩,
    ⟨(some 17), .fieldA 1 (.t 3), none, false, none, 0⟩,
    ⟨(some 18), .load false 1 (.t 17), none, false, none, 0⟩,
    ⟨(some 19), .mx (.t 16) (.t 18), none, false, none, 0⟩,
    ⟨(some 20), .build [.int .i64 0, .int .i64 0] [(1, 1, .t 19)], none, false, none, 0⟩,
    ⟨none, .store 2 (.t 4) (.t 20), none, false, none, 0⟩,
    ⟨(some 5), .mov (.c (.bool true)), none, false, none, 0⟩])
  (.ret))
  (.seq (.reg [⟨(some 22), .fieldA 0 (.t 2), none, false, none, 0⟩,
    ⟨(some 23), .load false 1 (.t 22), none, false, none, 0⟩,
    ⟨(some 24), .bin .eql (.t 23) (.c (.int .i64 0)), none, false, none, 0⟩,
    ⟨(some 21), .mov (.t 24), none, false, none, 0⟩])
  (.cond (.t 21)
  (.seq (.regD [⟨(some 25), .load true 2 (.t 3), none, false, (some 3), 0⟩,
    ⟨(some 26), .fieldA 1 (.t 3), none, false, none, 0⟩,
    ⟨(some 27), .load false 1 (.t 26), none, false, (some 3), 0⟩,
    ⟨(some 28), .fieldA 1 (.t 2), none, false, none, 0⟩,
    ⟨(some 29), .load false 1 (.t 28), none, false, (some 2), 0⟩,
    ⟨(some 30), .bin .geq (.t 27) (.t 29), none, false, none, 0⟩,
    ⟨none, .store 2 (.t 4) (.t 25), none, false, (some 4), 0⟩,
    ⟨(some 5), .mov (.t 30), none, false, none, 0⟩])
  (.ret))
  (.seq (.reg [⟨(some 32), .fieldA 0 (.t 3), none, false, none, 0⟩,
    ⟨(some 33), .load false 1 (.t 32), none, false, none, 0⟩,
    ⟨(some 34), .bin .eql (.t 33) (.c (.int .i64 0)), none, false, none, 0⟩,
    ⟨(some 31), .mov (.t 34), none, false, none, 0⟩])
  (.cond (.t 31)
  (.seq (.regD [⟨(some 35), .load true 2 (.t 2), none, false, (some 2), 0⟩,
    ⟨(some 36), .fieldA 1 (.t 2), none, false, none, 0⟩,
    ⟨(some 37), .load false 1 (.t 36), none, false, (some 2), 0⟩,
    ⟨(some 38), .fieldA 1 (.t 3), none, false, none, 0⟩,
    ⟨(some 39), .load false 1 (.t 38), none, false, (some 3), 0⟩,
    ⟨(some 40), .bin .geq (.t 37) (.t 39), none, false, none, 0⟩,
    ⟨none, .store 2 (.t 4) (.t 35), none, false, (some 4), 0⟩,
    ⟨(some 5), .mov (.t 40), none, false, none, 0⟩])
  (.ret))
  (.skip)))))
def F28_C1 : ACode :=
  .seq (.reg [⟨(some 2), .boxL 2 (.t 0), none, false, none, 0⟩,
    ⟨(some 3), .boxL 2 (.t 1), none, false, none, 0⟩,
    ⟨(some 4), .allocL [.int .i64 0, .int .i64 0], none, false, none, 0⟩,
    ⟨(some 5), .mov (.c (.bool false)), none, false, none, 0⟩])
  (.seq (.block 0 (.seqj [2, 3, 4, 6] (.reg [⟨(some 7), .fieldA 0 (.t 2), none, false, none, 0⟩,
    ⟨(some 8), .load false 1 (.t 7), none, false, none, 0⟩,
    ⟨(some 9), .bin .eql (.t 8) (.c (.int .i64 0)), none, false, none, 0⟩,
    ⟨(some 10), .mov (.t 9), none, false, none, 0⟩,
    ⟨(some 11), .fieldA 0 (.t 3), (some (10, true)), false, none, 0⟩,
    ⟨(some 12), .load false 1 (.t 11), (some (10, true)), false, none, 0⟩,
    ⟨(some 13), .bin .eql (.t 12) (.c (.int .i64 0)), (some (10, true)), false, none, 0⟩,
    ⟨(some 14), .pick (.t 10) (.t 13) (.c (.bool false)), none, false, none, 0⟩,
    ⟨(some 6), .mov (.t 14), none, false, none, 0⟩])
  F28_C0))
  (.seq (.regD [⟨(some 41), .load true 2 (.t 2), none, false, (some 2), 0⟩,
    ⟨(some 42), .load true 2 (.t 2), none, false, (some 2), 0⟩,
    ⟨(some 43), .load true 2 (.t 3), none, false, (some 3), 0⟩,
    ⟨(some 44), .eqS false 2 [(0, .int .i64), (1, .int .i64)] (.t 42) (.t 43), none, false, none, 0⟩,
    ⟨none, .store 2 (.t 4) (.t 41), none, false, (some 4), 0⟩,
    ⟨(some 5), .mov (.t 44), none, false, none, 0⟩])
  (.ret)))
def F28_C2 : ACode :=
  .seq (.regD [⟨(some 41), .load true 2 (.t 2), none, false, (some 2), 0⟩,
    ⟨(some 42), .load true 2 (.t 2), none, false, (some 2), 0⟩,
    ⟨(some 43), .load true 2 (.t 3), none, false, (some 3), 0⟩,
    ⟨(some 44), .eqS false 2 [(0, .int .i64), (1, .int .i64)] (.t 42) (.t 43), none, false, none, 0⟩,
    ⟨none, .store 2 (.t 4) (.t 41), none, false, (some 4), 0⟩,
    ⟨(some 5), .mov (.t 44), none, false, none, 0⟩])
  (.ret)
def F28 : AFunc := ⟨2, 45, [.cell 4 true 2, .tmp 5], F28_C1⟩
def Y28 : List VT := [.v (.agg [.int .i64, .int .i64]), .v (.agg [.int .i64, .int .i64]), .v (.one .any), .v (.one .any), .v (.one .any), .v (.one .bool), .v (.one .bool), .v (.one .any), .v (.one (.int .i64)), .v (.one .bool), .v (.one .bool), .v (.one .any), .v (.one (.int .i64)), .v (.one .bool), .v (.one .bool), .v (.one .any), .v (.one (.int .i64)), .v (.one .any), .v (.one (.int .i64)), .v (.one (.int .i64)), .v (.agg [.int .i64, .int .i64]), .v (.one .bool), .v (.one .any), .v (.one (.int .i64)), .v (.one .bool), .v (.agg [.int .i64, .int .i64]), .v (.one .any), .v (.one (.int .i64)), .v (.one .any), .v (.one (.int .i64)), .v (.one .bool), .v (.one .bool), .v (.one .any), .v (.one (.int .i64)), .v (.one .bool), .v (.agg [.int .i64, .int .i64]), .v (.one .any), .v (.one (.int .i64)), .v (.one .any), .v (.one (.int .i64)), .v (.one .bool), .v (.agg [.int .i64, .int .i64]), .v (.agg [.int .i64, .int .i64]), .v (.agg [.int .i64, .int .i64]), .v (.one .bool)]
noncomputable def F28_K0 (T : Nat → Option AFn) (hs : Heap → Heap → Bool) : Kont (Value × Heap) := { (kontF F28) with nrm := fun fr H => runK T hs Y28 F28_C2 fr H (kontF F28) }
noncomputable def F28_K1 (T : Nat → Option AFn) (hs : Heap → Heap → Bool) : Kont (Value × Heap) := { (F28_K0 T hs) with ex := fun i fr H => if i = 0 then (F28_K0 T hs).nrm fr H else (F28_K0 T hs).ex i fr H }
noncomputable def g28_J0 (T : Nat → Option AFn) (hs : Heap → Heap → Bool) (x2 : Int) (x2_1 : Int) (x3 : Int) (x3_3 : Int) (x4 : Int) (x4_5 : Int) (x6 : Bool) (H : Heap) : Option (Value × Heap) := joinK T hs F28_C0 [.no, .no, (.loc [(.int .i64 x2), (.int .i64 x2_1)]), (.loc [(.int .i64 x3), (.int .i64 x3_3)]), (.loc [(.int .i64 x4), (.int .i64 x4_5)]), .no, (.v (.bool x6)), .no, .no, .no, .no, .no, .no, .no, .no, .no, .no, .no, .no, .no, .no, .no, .no, .no, .no, .no, .no, .no, .no, .no, .no, .no, .no, .no, .no, .no, .no, .no, .no, .no, .no, .no, .no, .no, .no] H (F28_K1 T hs)
noncomputable def s28_J0 (T : Nat → Option AFn) (hs : Heap → Heap → Bool) (x2 : Int) (x2_1 : Int) (x3 : Int) (x3_3 : Int) (x4 : Int) (x4_5 : Int) (x6 : Bool) (H : Heap) : Option (Value × Heap) :=
  cond x6
  (some (.tuple #[(.agg #[(.int .i64 0), (.int .i64 (if (x3_3 : Int) > x2_1 then x3_3 else x2_1))]), (.bool true)], H))
  (cond ((x2 : Int) == 0)
  (some (.tuple #[(.agg #[(.int .i64 x3), (.int .i64 x3_3)]), (.bool (decide ((x3_3 : Int) ≥ x2_1)))], H))
  (cond ((x3 : Int) == 0)
  (some (.tuple #[(.agg #[(.int .i64 x2), (.int .i64 x2_1)]), (.bool (decide ((x2_1 : Int) ≥ x3_3)))], H))
  (some (.tuple #[(.agg #[(.int .i64 x2), (.int .i64 x2_1)]), (.bool (((x2 : Int) == x3) && (((x2_1 : Int) == x3_3) && true)))], H))))
theorem g28_J0_step (T : Nat → Option AFn) (hs : Heap → Heap → Bool) (x2 : Int) (x2_1 : Int) (x3 : Int) (x3_3 : Int) (x4 : Int) (x4_5 : Int) (x6 : Bool) (H : Heap) : runK T hs Y28 F28_C0 [.no, .no, (.loc [(.int .i64 x2), (.int .i64 x2_1)]), (.loc [(.int .i64 x3), (.int .i64 x3_3)]), (.loc [(.int .i64 x4), (.int .i64 x4_5)]), .no, (.v (.bool x6)), .no, .no, .no, .no, .no, .no, .no, .no, .no, .no, .no, .no, .no, .no, .no, .no, .no, .no, .no, .no, .no, .no, .no, .no, .no, .no, .no, .no, .no, .no, .no, .no, .no, .no, .no, .no, .no, .no] H (F28_K1 T hs) = s28_J0 T hs x2 x2_1 x3 x3_3 x4 x4_5 x6 H := by kernel_rfl
theorem g28_J0_ok {T : Nat → Option AFn} {hs : Heap → Heap → Bool} {x2 : Int} {x2_1 : Int} {x3 : Int} {x3_3 : Int} {x4 : Int} {x4_5 : Int} {x6 : Bool} {H : Heap} {r : Value × Heap} (h : s28_J0 T hs x2 x2_1 x3 x3_3 x4 x4_5 x6 H = some r) : g28_J0 T hs x2 x2_1 x3 x3_3 x4 x4_5 x6 H = some r := join_intro ((g28_J0_step T hs x2 x2_1 x3 x3_3 x4 x4_5 x6 H).trans h)
theorem g28_J0_ret {T : Nat → Option AFn} {hs : Heap → Heap → Bool} {x2 : Int} {x2_1 : Int} {x3 : Int} {x3_3 : Int} {x4 : Int} {x4_5 : Int} {x6 : Bool} {H : Heap} {Q : Value → Heap → Prop} (h : Ret (s28_J0 T hs x2 x2_1 x3 x3_3 x4 x4_5 x6 H) Q) : Ret (g28_J0 T hs x2 x2_1 x3 x3_3 x4 x4_5 x6 H) Q := h.via fun _ q => g28_J0_ok q
noncomputable def s28 (T : Nat → Option AFn) (hs : Heap → Heap → Bool) (x0_0 : Int) (x0_1 : Int) (x1_0 : Int) (x1_1 : Int) (H : Heap) : Option (Value × Heap) :=
  cond ((x0_0 : Int) == 0)
  (g28_J0 T hs x0_0 x0_1 x1_0 x1_1 0 0 ((x1_0 : Int) == 0) H)
  (g28_J0 T hs x0_0 x0_1 x1_0 x1_1 0 0 false H)
theorem s28_run (T : Nat → Option AFn) (hs : Heap → Heap → Bool) (x0_0 : Int) (x0_1 : Int) (x1_0 : Int) (x1_1 : Int) (H : Heap) : runFK T hs Y28 F28 [(.agg #[(.int .i64 x0_0), (.int .i64 x0_1)]), (.agg #[(.int .i64 x1_0), (.int .i64 x1_1)])] H = s28 T hs x0_0 x0_1 x1_0 x1_1 H := by kernel_rfl
theorem g28_ok {T : Nat → Option AFn} {hs : Heap → Heap → Bool} (hT : T 28 = some (.code F28)) {x0_0 : Int} {x0_1 : Int} {x1_0 : Int} {x1_1 : Int} {H : Heap} {r : Value × Heap} (h : s28 T hs x0_0 x0_1 x1_0 x1_1 H = some r) : CT T hs 28 [(.agg #[(.int .i64 x0_0), (.int .i64 x0_1)]), (.agg #[(.int .i64 x1_0), (.int .i64 x1_1)])] H = some r := runFK_ok hT ((s28_run T hs x0_0 x0_1 x1_0 x1_1 H).trans h)
theorem chk28 : chkFunc Tryd.prog 28 F28 = true := by kernel_rfl
/- dowel/lexis.right -/
def F30_C0 : ACode :=
  .ret
def F30_C1 : ACode :=
  .cond (.t 21)
  (.seq (.reg [⟨(some 24), .fieldA 3 (.t 3), none, false, none, 0⟩,
    ⟨none, .store 1 (.t 24) (.c (.string ⟨#[]⟩)), none, false, none, 0⟩])
  (.seqj [2] (.reg [⟨(some 25), .load true 11 (.t 3), none, false, none, 0⟩,
    ⟨(some 26), .build [.int .i64 0, .int .i64 0, .int .i64 0, .string ⟨#[]⟩, .bool false, .int .u64 0, .int .u64 0, .int .u64 0, .int .u64 0, .int .i64 0, .int .i64 0] [], none, false, none, 0⟩,
    ⟨(some 27), .eqS false 11 [(0, .int .i64), (1, .int .i64), (2, .int .i64), (3, .str), (4, .bool), (5, .int .u64), (6, .int .u64), (7, .int .u64), (8, .int .u64), (9, .int .i64), (10, .int .i64)] (.t 25) (.t 26), none, false, none, 0⟩,
    ⟨(some 28), .mov (.t 27), none, false, none, 0⟩,
    ⟨(some 29), .fieldA 3 (.t 1), (some (28, true)), false, none, 0⟩,
    ⟨(some 30), .load false 1 (.t 29), (some (28, true)), false, none, 0⟩,
    ⟨(some 31), .call 36 [.t 30], (some (28, true)), false, none, 0⟩,
    ⟨(some 32), .pick (.t 28) (.t 31) (.c (.bool false)), none, false, none, 0⟩,
    ⟨(some 2), .mov (.t 32), none, false, none, 0⟩])
  F30_C0))
  (.seq (.reg [⟨(some 34), .bin .eql (.t 9) (.c (.int .i64 9)), none, false, none, 0⟩,
    ⟨(some 33), .mov (.t 34), none, false, none, 0⟩])
  (.cond (.t 33)
  (.seq (.reg [⟨(some 35), .fieldA 9 (.t 3), none, false, none, 0⟩,
    ⟨none, .store 1 (.t 35) (.c (.int .i64 0)), none, false, none, 0⟩,
    ⟨(some 36), .fieldA 10 (.t 3), none, false, none, 0⟩,
    ⟨none, .store 1 (.t 36) (.c (.int .i64 0)), none, false, none, 0⟩])
  (.seqj [2] (.reg [⟨(some 37), .load true 11 (.t 3), none, false, none, 0⟩,
    ⟨(some 38), .build [.int .i64 0, .int .i64 0, .int .i64 0, .string ⟨#[]⟩, .bool false, .int .u64 0, .int .u64 0, .int .u64 0, .int .u64 0, .int .i64 0, .int .i64 0] [], none, false, none, 0⟩,
    ⟨(some 39), .eqS false 11 [(0, .int .i64), (1, .int .i64), (2, .int .i64), (3, .str), (4, .bool), (5, .int .u64), (6, .int .u64), (7, .int .u64), (8, .int .u64), (9, .int .i64), (10, .int .i64)] (.t 37) (.t 38), none, false, none, 0⟩,
    ⟨(some 40), .mov (.t 39), none, false, none, 0⟩,
    ⟨(some 41), .fieldA 9 (.t 1), (some (40, true)), false, none, 0⟩,
    ⟨(some 42), .load false 1 (.t 41), (some (40, true)), false, none, 0⟩,
    ⟨(some 43), .bin .geq (.t 42) (.c (.int .i64 0)), (some (40, true)), false, none, 0⟩,
    ⟨(some 44), .pick (.t 40) (.t 43) (.c (.bool false)), none, false, none, 0⟩,
    ⟨(some 45), .mov (.t 44), none, false, none, 0⟩,
    ⟨(some 46), .fieldA 9 (.t 1), (some (45, true)), false, none, 0⟩,
    ⟨(some 47), .load false 1 (.t 46), (some (45, true)), false, none, 0⟩,
    ⟨(some 48), .bin .leq (.t 47) (.c (.int .i64 255)), (some (45, true)), false, none, 0⟩,
    ⟨(some 49), .pick (.t 45) (.t 48) (.c (.bool false)), none, false, none, 0⟩,
    ⟨(some 50), .mov (.t 49), none, false, none, 0⟩,
    ⟨(some 51), .fieldA 10 (.t 1), (some (50, true)), false, none, 0⟩,
    ⟨(some 52), .load false 1 (.t 51), (some (50, true)), false, none, 0⟩,
    ⟨(some 53), .bin .eql (.t 52) (.c (.int .i64 (-1))), (some (50, true)), false, none, 0⟩,
    ⟨(some 54), .mov (.t 53), (some (50, true)), false, none, 0⟩,
    ⟨(some 55), .fieldA 10 (.t 1), (some (54, false)), false, none, 0⟩,
    ⟨(some 56), .load false 1 (.t 55), (some (54, false)), false, none, 0⟩,
    ⟨(some 57), .fieldA 9 (.t 1), (some (54, false)), false, none, 0⟩,
    ⟨(some 58), .load false 1 (.t 57), (some (54, false)), false, none, 0⟩,
    ⟨(some 59), .bin .geq (.t 56) (.t 58), (some (54, false)), false, none, 0⟩,
    ⟨(some 60), .mov (.t 59), (some (54, false)), false, none, 0⟩,
    ⟨(some 61), .fieldA 10 (.t 1), (some (60, true)), false, none, 0⟩,
    ⟨(some 62), .load false 1 (.t 61), (some (60, true)), false, none, 0⟩,
    ⟨(some 63), .bin .leq (.t 62) (.c (.int .i64 255)), (some (60, true)), false, none, 0⟩,
    ⟨(some 64), .pick (.t 60) (.t 63) (.c (.bool false)), (some (54, false)), false, none, 0⟩,
    ⟨(some 65), .pick (.t 54) (.c (.bool true)) (.t 64), (some (50, true)), false, none, 0⟩,
    ⟨(some 66), .pick (.t 50) (.t 65) (.c (.bool false)), none, false, none, 0⟩,
    ⟨(some 2), .mov (.t 66), none, false, none, 0⟩])
  F30_C0))
  (.seq (.reg [⟨(some 68), .bin .eql (.t 9) (.c (.int .i64 14)), none, false, none, 0⟩,
    ⟨(some 67), .mov (.t 68), none, false, none, 0⟩])
  (.cond (.t 67)
  (.seq (.reg [⟨(some 69), .fieldA 3 (.t 3), none, false, none, 0⟩,
    ⟨none, .store 1 (.t 69) (.c (.string ⟨#[]⟩)), none, false, none, 0⟩,
    ⟨(some 70), .fieldA 4 (.t 3), none, false, none, 0⟩,
    ⟨none, .store 1 (.t 70) (.c (.bool false)), none, false, none, 0⟩])
  (.seq (.reg [⟨(some 71), .load true 11 (.t 3), none, false, none, 0⟩,
    ⟨(some 72), .build [.int .i64 0, .int .i64 0, .int .i64 0, .string ⟨#[]⟩, .bool false, .int .u64 0, .int .u64 0, .int .u64 0, .int .u64 0, .int .i64 0, .int .i64 0] [], none, false, none, 0⟩,
    ⟨(some 73), .eqS false 11 [(0, .int .i64), (1, .int .i64), (2, .int .i64), (3, .str), (4, .bool), (5, .int .u64), (6, .int .u64), (7, .int .u64), (8, .int .u64), (9, .int .i64), (10, .int .i64)] (.t 71) (.t 72), none, false, none, 0⟩,
    ⟨(some 2), .mov (.t 73), none, false, none, 0⟩])
  (.ret)))
  (.seq (.reg [⟨(some 75), .bin .eql (.t 9) (.c (.int .i64 15)), none, false, none, 0⟩,
    ⟨(some 74), .mov (.t 75), none, false, none, 0⟩])
  (.cond (.t 74)
  (.seq (.reg [⟨(some 76), .build [.int .u64 0, .int .u64 0, .int .u64 0, .int .u64 0] [], none, false, none, 0⟩,
    ⟨(some 77), .fieldA 5 (.t 3), none, false, none, 0⟩,
    ⟨none, .store 4 (.t 77) (.t 76), none, false, none, 0⟩])
  (.seq (.reg [⟨(some 78), .load true 11 (.t 3), none, false, none, 0⟩,
    ⟨(some 79), .build [.int .i64 0, .int .i64 0, .int .i64 0, .string ⟨#[]⟩, .bool false, .int .u64 0, .int .u64 0, .int .u64 0, .int .u64 0, .int .i64 0, .int .i64 0] [], none, false, none, 0⟩,
    ⟨(some 80), .eqS false 11 [(0, .int .i64), (1, .int .i64), (2, .int .i64), (3, .str), (4, .bool), (5, .int .u64), (6, .int .u64), (7, .int .u64), (8, .int .u64), (9, .int .i64), (10, .int .i64)] (.t 78) (.t 79), none, false, none, 0⟩,
    ⟨(some 2), .mov (.t 80), none, false, none, 0⟩])
  (.ret)))
  (.skip)))))))
def F30_C2 : ACode :=
  .seq (.reg [⟨(some 1), .boxL 11 (.t 0), none, false, none, 0⟩,
    ⟨(some 2), .mov (.c (.bool false)), none, false, none, 0⟩])
  (.seq (.reg [⟨(some 4), .fieldA 1 (.t 1), none, false, none, 0⟩,
    ⟨none, .store 1 (.t 4) (.c (.int .i64 0)), none, false, none, 0⟩,
    ⟨(some 5), .fieldA 2 (.t 1), none, false, none, 0⟩,
    ⟨none, .store 1 (.t 5) (.c (.int .i64 0)), none, false, none, 0⟩])
  (.seq (.reg [⟨(some 6), .load true 11 (.t 1), none, false, none, 0⟩,
    ⟨(some 3), .allocL [.int .i64 0, .int .i64 0, .int .i64 0, .string ⟨#[]⟩, .bool false, .int .u64 0, .int .u64 0, .int .u64 0, .int .u64 0, .int .i64 0, .int .i64 0], none, false, none, 0⟩,
    ⟨none, .store 11 (.t 3) (.t 6), none, false, none, 0⟩])
  (.seq (.reg [⟨(some 7), .fieldA 0 (.t 3), none, false, none, 0⟩,
    ⟨none, .store 1 (.t 7) (.c (.int .i64 0)), none, false, none, 0⟩])
  (.seq (.seq (.reg [⟨(some 8), .fieldA 0 (.t 1), none, false, none, 0⟩,
    ⟨(some 9), .load false 1 (.t 8), none, false, none, 0⟩])
  (.block 0 (.seq (.reg [⟨(some 11), .bin .eql (.t 9) (.c (.int .i64 1)), none, false, none, 0⟩,
    ⟨(some 10), .mov (.t 11), none, false, none, 0⟩])
  (.cond (.t 10)
  (.seq (.reg [⟨(some 12), .fieldA 3 (.t 3), none, false, none, 0⟩,
    ⟨none, .store 1 (.t 12) (.c (.string ⟨#[]⟩)), none, false, none, 0⟩])
  (.seqj [2] (.reg [⟨(some 13), .load true 11 (.t 3), none, false, none, 0⟩,
    ⟨(some 14), .build [.int .i64 0, .int .i64 0, .int .i64 0, .string ⟨#[]⟩, .bool false, .int .u64 0, .int .u64 0, .int .u64 0, .int .u64 0, .int .i64 0, .int .i64 0] [], none, false, none, 0⟩,
    ⟨(some 15), .eqS false 11 [(0, .int .i64), (1, .int .i64), (2, .int .i64), (3, .str), (4, .bool), (5, .int .u64), (6, .int .u64), (7, .int .u64), (8, .int .u64), (9, .int .i64), (10, .int .i64)] (.t 13) (.t 14), none, false, none, 0⟩,
    ⟨(some 16), .mov (.t 15), none, false, none, 0⟩,
    ⟨(some 17), .fieldA 3 (.t 1), (some (16, true)), false, none, 0⟩,
    ⟨(some 18), .load false 1 (.t 17), (some (16, true)), false, none, 0⟩,
    ⟨(some 19), .call 35 [.t 18], (some (16, true)), false, none, 0⟩,
    ⟨(some 20), .pick (.t 16) (.t 19) (.c (.bool false)), none, false, none, 0⟩,
    ⟨(some 2), .mov (.t 20), none, false, none, 0⟩])
  F30_C0))
  (.seqj [1, 3, 9, 21] (.seq (.reg [⟨(some 22), .bin .eql (.t 9) (.c (.int .i64 16)), none, false, none, 0⟩,
    ⟨(some 21), .mov (.t 22), none, false, none, 0⟩])
  (.cond (.t 21)
  (.skip)
  (.reg [⟨(some 23), .bin .eql (.t 9) (.c (.int .i64 17)), none, false, none, 0⟩,
    ⟨(some 21), .mov (.t 23), none, false, none, 0⟩])))
  F30_C1)))))
  (.seqj [2] (.reg [⟨(some 81), .fieldA 0 (.t 1), none, false, none, 0⟩,
    ⟨(some 82), .load false 1 (.t 81), none, false, none, 0⟩,
    ⟨(some 83), .bin .geq (.t 82) (.c (.int .i64 0)), none, false, none, 0⟩,
    ⟨(some 84), .mov (.t 83), none, false, none, 0⟩,
    ⟨(some 85), .fieldA 0 (.t 1), (some (84, true)), false, none, 0⟩,
    ⟨(some 86), .load false 1 (.t 85), (some (84, true)), false, none, 0⟩,
    ⟨(some 87), .bin .leq (.t 86) (.c (.int .i64 17)), (some (84, true)), false, none, 0⟩,
    ⟨(some 88), .pick (.t 84) (.t 87) (.c (.bool false)), none, false, none, 0⟩,
    ⟨(some 89), .mov (.t 88), none, false, none, 0⟩,
    ⟨(some 90), .load true 11 (.t 3), (some (89, true)), false, none, 0⟩,
    ⟨(some 91), .build [.int .i64 0, .int .i64 0, .int .i64 0, .string ⟨#[]⟩, .bool false, .int .u64 0, .int .u64 0, .int .u64 0, .int .u64 0, .int .i64 0, .int .i64 0] [], (some (89, true)), false, none, 0⟩,
    ⟨(some 92), .eqS false 11 [(0, .int .i64), (1, .int .i64), (2, .int .i64), (3, .str), (4, .bool), (5, .int .u64), (6, .int .u64), (7, .int .u64), (8, .int .u64), (9, .int .i64), (10, .int .i64)] (.t 90) (.t 91), (some (89, true)), false, none, 0⟩,
    ⟨(some 93), .pick (.t 89) (.t 92) (.c (.bool false)), none, false, none, 0⟩,
    ⟨(some 2), .mov (.t 93), none, false, none, 0⟩])
  F30_C0)))))
def F30_C3 : ACode :=
  .seqj [2] (.reg [⟨(some 81), .fieldA 0 (.t 1), none, false, none, 0⟩,
    ⟨(some 82), .load false 1 (.t 81), none, false, none, 0⟩,
    ⟨(some 83), .bin .geq (.t 82) (.c (.int .i64 0)), none, false, none, 0⟩,
    ⟨(some 84), .mov (.t 83), none, false, none, 0⟩,
    ⟨(some 85), .fieldA 0 (.t 1), (some (84, true)), false, none, 0⟩,
    ⟨(some 86), .load false 1 (.t 85), (some (84, true)), false, none, 0⟩,
    ⟨(some 87), .bin .leq (.t 86) (.c (.int .i64 17)), (some (84, true)), false, none, 0⟩,
    ⟨(some 88), .pick (.t 84) (.t 87) (.c (.bool false)), none, false, none, 0⟩,
    ⟨(some 89), .mov (.t 88), none, false, none, 0⟩,
    ⟨(some 90), .load true 11 (.t 3), (some (89, true)), false, none, 0⟩,
    ⟨(some 91), .build [.int .i64 0, .int .i64 0, .int .i64 0, .string ⟨#[]⟩, .bool false, .int .u64 0, .int .u64 0, .int .u64 0, .int .u64 0, .int .i64 0, .int .i64 0] [], (some (89, true)), false, none, 0⟩,
    ⟨(some 92), .eqS false 11 [(0, .int .i64), (1, .int .i64), (2, .int .i64), (3, .str), (4, .bool), (5, .int .u64), (6, .int .u64), (7, .int .u64), (8, .int .u64), (9, .int .i64), (10, .int .i64)] (.t 90) (.t 91), (some (89, true)), false, none, 0⟩,
    ⟨(some 93), .pick (.t 89) (.t 92) (.c (.bool false)), none, false, none, 0⟩,
    ⟨(some 2), .mov (.t 93), none, false, none, 0⟩])
  F30_C0
def F30 : AFunc := ⟨1, 94, [.tmp 2], F30_C2⟩
def Y30 : List VT := [.v (.agg [.int .i64, .int .i64, .int .i64, .str, .bool, .int .u64, .int .u64, .int .u64, .int .u64, .int .i64, .int .i64]), .v (.one .any), .v (.one .bool), .v (.one .any), .v (.one .any), .v (.one .any), .v (.agg [.int .i64, .int .i64, .int .i64, .str, .bool, .int .u64, .int .u64, .int .u64, .int .u64, .int .i64, .int .i64]), .v (.one .any), .v (.one .any), .v (.one (.int .i64)), .v (.one .bool), .v (.one .bool), .v (.one .any), .v (.agg [.int .i64, .int .i64, .int .i64, .str, .bool, .int .u64, .int .u64, .int .u64, .int .u64, .int .i64, .int .i64]), .v (.agg [.int .i64, .int .i64, .int .i64, .str, .bool, .int .u64, .int .u64, .int .u64, .int .u64, .int .i64, .int .i64]), .v (.one .bool), .v (.one .bool), .v (.one .any), .v (.one .str), .v (.one .bool), .v (.one .bool), .v (.one .bool), .v (.one .bool), .v (.one .bool), .v (.one .any), .v (.agg [.int .i64, .int .i64, .int .i64, .str, .bool, .int .u64, .int .u64, .int .u64, .int .u64, .int .i64, .int .i64]), .v (.agg [.int .i64, .int .i64, .int .i64, .str, .bool, .int .u64, .int .u64, .int .u64, .int .u64, .int .i64, .int .i64]), .v (.one .bool), .v (.one .bool), .v (.one .any), .v (.one .str), .v (.one .bool), .v (.one .bool), .v (.one .bool), .v (.one .bool), .v (.one .any), .v (.one .any), .v (.agg [.int .i64, .int .i64, .int .i64, .str, .bool, .int .u64, .int .u64, .int .u64, .int .u64, .int .i64, .int .i64]), .v (.agg [.int .i64, .int .i64, .int .i64, .str, .bool, .int .u64, .int .u64, .int .u64, .int .u64, .int .i64, .int .i64]), .v (.one .bool), .v (.one .bool), .v (.one .any), .v (.one (.int .i64)), .v (.one .bool), .v (.one .bool), .v (.one .bool), .v (.one .any), .v (.one (.int .i64)), .v (.one .bool), .v (.one .bool), .v (.one .bool), .v (.one .any), .v (.one (.int .i64)), .v (.one .bool), .v (.one .bool), .v (.one .any), .v (.one (.int .i64)), .v (.one .any), .v (.one (.int .i64)), .v (.one .bool), .v (.one .bool), .v (.one .any), .v (.one (.int .i64)), .v (.one .bool), .v (.one .bool), .v (.one .bool), .v (.one .bool), .v (.one .bool), .v (.one .bool), .v (.one .any), .v (.one .any), .v (.agg [.int .i64, .int .i64, .int .i64, .str, .bool, .int .u64, .int .u64, .int .u64, .int .u64, .int .i64, .int .i64]), .v (.agg [.int .i64, .int .i64, .int .i64, .str, .bool, .int .u64, .int .u64, .int .u64, .int .u64, .int .i64, .int .i64]), .v (.one .bool), .v (.one .bool), .v (.one .bool), .v (.agg [.int .u64, .int .u64, .int .u64, .int .u64]), .v (.one .any), .v (.agg [.int .i64, .int .i64, .int .i64, .str, .bool, .int .u64, .int .u64, .int .u64, .int .u64, .int .i64, .int .i64]), .v (.agg [.int .i64, .int .i64, .int .i64, .str, .bool, .int .u64, .int .u64, .int .u64, .int .u64, .int .i64, .int .i64]), .v (.one .bool), .v (.one .any), .v (.one (.int .i64)), .v (.one .bool), .v (.one .bool), .v (.one .any), .v (.one (.int .i64)), .v (.one .bool), .v (.one .bool), .v (.one .bool), .v (.agg [.int .i64, .int .i64, .int .i64, .str, .bool, .int .u64, .int .u64, .int .u64, .int .u64, .int .i64, .int .i64]), .v (.agg [.int .i64, .int .i64, .int .i64, .str, .bool, .int .u64, .int .u64, .int .u64, .int .u64, .int .i64, .int .i64]), .v (.one .bool), .v (.one .bool)]
noncomputable def F30_K0 (T : Nat → Option AFn) (hs : Heap → Heap → Bool) : Kont (Value × Heap) := { (kontF F30) with nrm := fun fr H => runK T hs Y30 F30_C3 fr H (kontF F30) }
noncomputable def F30_K1 (T : Nat → Option AFn) (hs : Heap → Heap → Bool) : Kont (Value × Heap) := { (F30_K0 T hs) with ex := fun i fr H => if i = 0 then (F30_K0 T hs).nrm fr H else (F30_K0 T hs).ex i fr H }
noncomputable def g30_J0 (T : Nat → Option AFn) (hs : Heap → Heap → Bool) (x2 : Bool) (H : Heap) : Option (Value × Heap) := joinK T hs F30_C0 [.no, .no, (.v (.bool x2)), .no, .no, .no, .no, .no, .no, .no, .no, .no, .no, .no, .no, .no, .no, .no, .no, .no, .no, .no, .no, .no, .no, .no, .no, .no, .no, .no, .no, .no, .no, .no, .no, .no, .no, .no, .no, .no, .no, .no, .no, .no, .no, .no, .no, .no, .no, .no, .no, .no, .no, .no, .no, .no, .no, .no, .no, .no, .no, .no, .no, .no, .no, .no, .no, .no, .no, .no, .no, .no, .no, .no, .no, .no, .no, .no, .no, .no, .no, .no, .no, .no, .no, .no, .no, .no, .no, .no, .no, .no, .no, .no] H (F30_K1 T hs)
noncomputable def g30_J2 (T : Nat → Option AFn) (hs : Heap → Heap → Bool) (x2 : Bool) (H : Heap) : Option (Value × Heap) := joinK T hs F30_C0 [.no, .no, (.v (.bool x2)), .no, .no, .no, .no, .no, .no, .no, .no, .no, .no, .no, .no, .no, .no, .no, .no, .no, .no, .no, .no, .no, .no, .no, .no, .no, .no, .no, .no, .no, .no, .no, .no, .no, .no, .no, .no, .no, .no, .no, .no, .no, .no, .no, .no, .no, .no, .no, .no, .no, .no, .no, .no, .no, .no, .no, .no, .no, .no, .no, .no, .no, .no, .no, .no, .no, .no, .no, .no, .no, .no, .no, .no, .no, .no, .no, .no, .no, .no, .no, .no, .no, .no, .no, .no, .no, .no, .no, .no, .no, .no, .no] H (F30_K1 T hs)
noncomputable def g30_J3 (T : Nat → Option AFn) (hs : Heap → Heap → Bool) (x2 : Bool) (H : Heap) : Option (Value × Heap) := joinK T hs F30_C0 [.no, .no, (.v (.bool x2)), .no, .no, .no, .no, .no, .no, .no, .no, .no, .no, .no, .no, .no, .no, .no, .no, .no, .no, .no, .no, .no, .no, .no, .no, .no, .no, .no, .no, .no, .no, .no, .no, .no, .no, .no, .no, .no, .no, .no, .no, .no, .no, .no, .no, .no, .no, .no, .no, .no, .no, .no, .no, .no, .no, .no, .no, .no, .no, .no, .no, .no, .no, .no, .no, .no, .no, .no, .no, .no, .no, .no, .no, .no, .no, .no, .no, .no, .no, .no, .no, .no, .no, .no, .no, .no, .no, .no, .no, .no, .no, .no] H (F30_K1 T hs)
noncomputable def g30_J4 (T : Nat → Option AFn) (hs : Heap → Heap → Bool) (x2 : Bool) (H : Heap) : Option (Value × Heap) := joinK T hs F30_C0 [.no, .no, (.v (.bool x2)), .no, .no, .no, .no, .no, .no, .no, .no, .no, .no, .no, .no, .no, .no, .no, .no, .no, .no, .no, .no, .no, .no, .no, .no, .no, .no, .no, .no, .no, .no, .no, .no, .no, .no, .no, .no, .no, .no, .no, .no, .no, .no, .no, .no, .no, .no, .no, .no, .no, .no, .no, .no, .no, .no, .no, .no, .no, .no, .no, .no, .no, .no, .no, .no, .no, .no, .no, .no, .no, .no, .no, .no, .no, .no, .no, .no, .no, .no, .no, .no, .no, .no, .no, .no, .no, .no, .no, .no, .no, .no, .no] H (kontF F30)
noncomputable def g30_J1 (T : Nat → Option AFn) (hs : Heap → Heap → Bool) (x1 : Int) (x1_1 : Int) (x1_2 : Int) (x1_3 : ByteArray) (x1_4 : Bool) (x1_5 : Int) (x1_6 : Int) (x1_7 : Int) (x1_8 : Int) (x1_9 : Int) (x1_10 : Int) (x3 : Int) (x3_12 : Int) (x3_13 : Int) (x3_14 : ByteArray) (x3_15 : Bool) (x3_16 : Int) (x3_17 : Int) (x3_18 : Int) (x3_19 : Int) (x3_20 : Int) (x3_21 : Int) (x9 : Int) (x21 : Bool) (H : Heap) : Option (Value × Heap) := joinK T hs F30_C1 [.no, (.loc [(.int .i64 x1), (.int .i64 x1_1), (.int .i64 x1_2), (.string x1_3), (.bool x1_4), (.int .u64 x1_5), (.int .u64 x1_6), (.int .u64 x1_7), (.int .u64 x1_8), (.int .i64 x1_9), (.int .i64 x1_10)]), .no, (.loc [(.int .i64 x3), (.int .i64 x3_12), (.int .i64 x3_13), (.string x3_14), (.bool x3_15), (.int .u64 x3_16), (.int .u64 x3_17), (.int .u64 x3_18), (.int .u64 x3_19), (.int .i64 x3_20), (.int .i64 x3_21)]), .no, .no, .no, .no, .no, (.v (.int .i64 x9)), .no, .no, .no, .no, .no, .no, .no, .no, .no, .no, .no, (.v (.bool x21)), .no, .no, .no, .no, .no, .no, .no, .no, .no, .no, .no, .no, .no, .no, .no, .no, .no, .no, .no, .no, .no, .no, .no, .no, .no, .no, .no, .no, .no, .no, .no, .no, .no, .no, .no, .no, .no, .no, .no, .no, .no, .no, .no, .no, .no, .no, .no, .no, .no, .no, .no, .no, .no, .no, .no, .no, .no, .no, .no, .no, .no, .no, .no, .no, .no, .no, .no, .no, .no, .no, .no, .no] H (F30_K1 T hs)
noncomputable def s30_J0 (T : Nat → Option AFn) (hs : Heap → Heap → Bool) (x2 : Bool) (H : Heap) : Option (Value × Heap) :=
  some ((.bool x2), H)
theorem g30_J0_step (T : Nat → Option AFn) (hs : Heap → Heap → Bool) (x2 : Bool) (H : Heap) : runK T hs Y30 F30_C0 [.no, .no, (.v (.bool x2)), .no, .no, .no, .no, .no, .no, .no, .no, .no, .no, .no, .no, .no, .no, .no, .no, .no, .no, .no, .no, .no, .no, .no, .no, .no, .no, .no, .no, .no, .no, .no, .no, .no, .no, .no, .no, .no, .no, .no, .no, .no, .no, .no, .no, .no, .no, .no, .no, .no, .no, .no, .no, .no, .no, .no, .no, .no, .no, .no, .no, .no, .no, .no, .no, .no, .no, .no, .no, .no, .no, .no, .no, .no, .no, .no, .no, .no, .no, .no, .no, .no, .no, .no, .no, .no, .no, .no, .no, .no, .no, .no] H (F30_K1 T hs) = s30_J0 T hs x2 H := by kernel_rfl
theorem g30_J0_ok {T : Nat → Option AFn} {hs : Heap → Heap → Bool} {x2 : Bool} {H : Heap} {r : Value × Heap} (h : s30_J0 T hs x2 H = some r) : g30_J0 T hs x2 H = some r := join_intro ((g30_J0_step T hs x2 H).trans h)
theorem g30_J0_ret {T : Nat → Option AFn} {hs : Heap → Heap → Bool} {x2 : Bool} {H : Heap} {Q : Value → Heap → Prop} (h : Ret (s30_J0 T hs x2 H) Q) : Ret (g30_J0 T hs x2 H) Q := h.via fun _ q => g30_J0_ok q
noncomputable def s30_J1 (T : Nat → Option AFn) (hs : Heap → Heap → Bool) (x1 : Int) (x1_1 : Int) (x1_2 : Int) (x1_3 : ByteArray) (x1_4 : Bool) (x1_5 : Int) (x1_6 : Int) (x1_7 : Int) (x1_8 : Int) (x1_9 : Int) (x1_10 : Int) (x3 : Int) (x3_12 : Int) (x3_13 : Int) (x3_14 : ByteArray) (x3_15 : Bool) (x3_16 : Int) (x3_17 : Int) (x3_18 : Int) (x3_19 : Int) (x3_20 : Int) (x3_21 : Int) (x9 : Int) (x21 : Bool) (H : Heap) : Option (Value × Heap) :=
  cond x21
  (cond (((x3 : Int) == 0) && (((x3_12 : Int) == 0) && (((x3_13 : Int) == 0) && (((⟨#[]⟩ : ByteArray).toList == (⟨#[]⟩ : ByteArray).toList) && ((x3_15 == false) && (((x3_16 : Int) == 0) && (((x3_17 : Int) == 0) && (((x3_18 : Int) == 0) && (((x3_19 : Int) == 0) && (((x3_20 : Int) == 0) && (((x3_21 : Int) == 0) && true)))))))))))
  ((CT T hs 36 [(.string x1_3)] H).bind fun p31 =>
  ifBool p31.1 fun x31 =>
  g30_J2 T hs x31 p31.2)
  (g30_J2 T hs false H))
  (cond ((x9 : Int) == 9)
  (cond (((x3 : Int) == 0) && (((x3_12 : Int) == 0) && (((x3_13 : Int) == 0) && ((x3_14.toList == (⟨#[]⟩ : ByteArray).toList) && ((x3_15 == false) && (((x3_16 : Int) == 0) && (((x3_17 : Int) == 0) && (((x3_18 : Int) == 0) && (((x3_19 : Int) == 0) && (((0 : Int) == 0) && (((0 : Int) == 0) && true)))))))))))
  (cond (decide ((x1_9 : Int) ≥ 0))
  (cond (decide ((x1_9 : Int) ≤ 255))
  (cond ((x1_10 : Int) == (-1))
  (g30_J3 T hs true H)
  (cond (decide ((x1_10 : Int) ≥ x1_9))
  (g30_J3 T hs (decide ((x1_10 : Int) ≤ 255)) H)
  (g30_J3 T hs false H)))
  (g30_J3 T hs false H))
  (g30_J3 T hs false H))
  (g30_J3 T hs false H))
  (cond ((x9 : Int) == 14)
  (some ((.bool (((x3 : Int) == 0) && (((x3_12 : Int) == 0) && (((x3_13 : Int) == 0) && (((⟨#[]⟩ : ByteArray).toList == (⟨#[]⟩ : ByteArray).toList) && ((false == false) && (((x3_16 : Int) == 0) && (((x3_17 : Int) == 0) && (((x3_18 : Int) == 0) && (((x3_19 : Int) == 0) && (((x3_20 : Int) == 0) && (((x3_21 : Int) == 0) && true)))))))))))), H))
  (cond ((x9 : Int) == 15)
  (some ((.bool (((x3 : Int) == 0) && (((x3_12 : Int) == 0) && (((x3_13 : Int) == 0) && ((x3_14.toList == (⟨#[]⟩ : ByteArray).toList) && ((x3_15 == false) && (((0 : Int) == 0) && (((0 : Int) == 0) && (((0 : Int) == 0) && (((0 : Int) == 0) && (((x3_20 : Int) == 0) && (((x3_21 : Int) == 0) && true)))))))))))), H))
  (cond (decide ((x1 : Int) ≥ 0))
  (cond (decide ((x1 : Int) ≤ 17))
  (g30_J4 T hs (((x3 : Int) == 0) && (((x3_12 : Int) == 0) && (((x3_13 : Int) == 0) && ((x3_14.toList == (⟨#[]⟩ : ByteArray).toList) && ((x3_15 == false) && (((x3_16 : Int) == 0) && (((x3_17 : Int) == 0) && (((x3_18 : Int) == 0) && (((x3_19 : Int) == 0) && (((x3_20 : Int) == 0) && (((x3_21 : Int) == 0) && true))))))))))) H)
  (g30_J4 T hs false H))
  (g30_J4 T hs false H)))))
theorem g30_J1_step (T : Nat → Option AFn) (hs : Heap → Heap → Bool) (x1 : Int) (x1_1 : Int) (x1_2 : Int) (x1_3 : ByteArray) (x1_4 : Bool) (x1_5 : Int) (x1_6 : Int) (x1_7 : Int) (x1_8 : Int) (x1_9 : Int) (x1_10 : Int) (x3 : Int) (x3_12 : Int) (x3_13 : Int) (x3_14 : ByteArray) (x3_15 : Bool) (x3_16 : Int) (x3_17 : Int) (x3_18 : Int) (x3_19 : Int) (x3_20 : Int) (x3_21 : Int) (x9 : Int) (x21 : Bool) (H : Heap) : runK T hs Y30 F30_C1 [.no, (.loc [(.int .i64 x1), (.int .i64 x1_1), (.int .i64 x1_2), (.string x1_3), (.bool x1_4), (.int .u64 x1_5), (.int .u64 x1_6), (.int .u64 x1_7), (.int .u64 x1_8), (.int .i64 x1_9), (.int .i64 x1_10)]), .no, (.loc [(.int .i64 x3), (.int .i64 x3_12), (.int .i64 x3_13), (.string x3_14), (.bool x3_15), (.int .u64 x3_16), (.int .u64 x3_17), (.int .u64 x3_18), (.int .u64 x3_19), (.int .i64 x3_20), (.int .i64 x3_21)]), .no, .no, .no, .no, .no, (.v (.int .i64 x9)), .no, .no, .no, .no, .no, .no, .no, .no, .no, .no, .no, (.v (.bool x21)), .no, .no, .no, .no, .no, .no, .no, .no, .no, .no, .no, .no, .no, .no, .no, .no, .no, .no, .no, .no, .no, .no, .no, .no, .no, .no, .no, .no, .no, .no, .no, .no, .no, .no, .no, .no, .no, .no, .no, .no, .no, .no, .no, .no, .no, .no, .no, .no, .no, .no, .no, .no, .no, .no, .no, .no, .no, .no, .no, .no, .no, .no, .no, .no, .no, .no, .no, .no, .no, .no, .no, .no] H (F30_K1 T hs) = s30_J1 T hs x1 x1_1 x1_2 x1_3 x1_4 x1_5 x1_6 x1_7 x1_8 x1_9 x1_10 x3 x3_12 x3_13 x3_14 x3_15 x3_16 x3_17 x3_18 x3_19 x3_20 x3_21 x9 x21 H := by kernel_rfl
theorem g30_J1_ok {T : Nat → Option AFn} {hs : Heap → Heap → Bool} {x1 : Int} {x1_1 : Int} {x1_2 : Int} {x1_3 : ByteArray} {x1_4 : Bool} {x1_5 : Int} {x1_6 : Int} {x1_7 : Int} {x1_8 : Int} {x1_9 : Int} {x1_10 : Int} {x3 : Int} {x3_12 : Int} {x3_13 : Int} {x3_14 : ByteArray} {x3_15 : Bool} {x3_16 : Int} {x3_17 : Int} {x3_18 : Int} {x3_19 : Int} {x3_20 : Int} {x3_21 : Int} {x9 : Int} {x21 : Bool} {H : Heap} {r : Value × Heap} (h : s30_J1 T hs x1 x1_1 x1_2 x1_3 x1_4 x1_5 x1_6 x1_7 x1_8 x1_9 x1_10 x3 x3_12 x3_13 x3_14 x3_15 x3_16 x3_17 x3_18 x3_19 x3_20 x3_21 x9 x21 H = some r) : g30_J1 T hs x1 x1_1 x1_2 x1_3 x1_4 x1_5 x1_6 x1_7 x1_8 x1_9 x1_10 x3 x3_12 x3_13 x3_14 x3_15 x3_16 x3_17 x3_18 x3_19 x3_20 x3_21 x9 x21 H = some r := join_intro ((g30_J1_step T hs x1 x1_1 x1_2 x1_3 x1_4 x1_5 x1_6 x1_7 x1_8 x1_9 x1_10 x3 x3_12 x3_13 x3_14 x3_15 x3_16 x3_17 x3_18 x3_19 x3_20 x3_21 x9 x21 H).trans h)
theorem g30_J1_ret {T : Nat → Option AFn} {hs : Heap → Heap → Bool} {x1 : Int} {x1_1 : Int} {x1_2 : Int} {x1_3 : ByteArray} {x1_4 : Bool} {x1_5 : Int} {x1_6 : Int} {x1_7 : Int} {x1_8 : Int} {x1_9 : Int} {x1_10 : Int} {x3 : Int} {x3_12 : Int} {x3_13 : Int} {x3_14 : ByteArray} {x3_15 : Bool} {x3_16 : Int} {x3_17 : Int} {x3_18 : Int} {x3_19 : Int} {x3_20 : Int} {x3_21 : Int} {x9 : Int} {x21 : Bool} {H : Heap} {Q : Value → Heap → Prop} (h : Ret (s30_J1 T hs x1 x1_1 x1_2 x1_3 x1_4 x1_5 x1_6 x1_7 x1_8 x1_9 x1_10 x3 x3_12 x3_13 x3_14 x3_15 x3_16 x3_17 x3_18 x3_19 x3_20 x3_21 x9 x21 H) Q) : Ret (g30_J1 T hs x1 x1_1 x1_2 x1_3 x1_4 x1_5 x1_6 x1_7 x1_8 x1_9 x1_10 x3 x3_12 x3_13 x3_14 x3_15 x3_16 x3_17 x3_18 x3_19 x3_20 x3_21 x9 x21 H) Q := h.via fun _ q => g30_J1_ok q
noncomputable def s30_J2 (T : Nat → Option AFn) (hs : Heap → Heap → Bool) (x2 : Bool) (H : Heap) : Option (Value × Heap) :=
  some ((.bool x2), H)
theorem g30_J2_step (T : Nat → Option AFn) (hs : Heap → Heap → Bool) (x2 : Bool) (H : Heap) : runK T hs Y30 F30_C0 [.no, .no, (.v (.bool x2)), .no, .no, .no, .no, .no, .no, .no, .no, .no, .no, .no, .no, .no, .no, .no, .no, .no, .no, .no, .no, .no, .no, .no, .no, .no, .no, .no, .no, .no, .no, .no, .no, .no, .no, .no, .no, .no, .no, .no, .no, .no, .no, .no, .no, .no, .no, .no, .no, .no, .no, .no, .no, .no, .no, .no, .no, .no, .no, .no, .no, .no, .no, .no, .no, .no, .no, .no, .no, .no, .no, .no, .no, .no, .no, .no, .no, .no, .no, .no, .no, .no, .no, .no, .no, .no, .no, .no, .no, .no, .no, .no] H (F30_K1 T hs) = s30_J2 T hs x2 H := by kernel_rfl
theorem g30_J2_ok {T : Nat → Option AFn} {hs : Heap → Heap → Bool} {x2 : Bool} {H : Heap} {r : Value × Heap} (h : s30_J2 T hs x2 H = some r) : g30_J2 T hs x2 H = some r := join_intro ((g30_J2_step T hs x2 H).trans h)
theorem g30_J2_ret {T : Nat → Option AFn} {hs : Heap → Heap → Bool} {x2 : Bool} {H : Heap} {Q : Value → Heap → Prop} (h : Ret (s30_J2 T hs x2 H) Q) : Ret (g30_J2 T hs x2 H) Q := h.via fun _ q => g30_J2_ok q
noncomputable def s30_J3 (T : Nat → Option AFn) (hs : Heap → Heap → Bool) (x2 : Bool) (H : Heap) : Option (Value × Heap) :=
  some ((.bool x2), H)
theorem g30_J3_step (T : Nat → Option AFn) (hs : Heap → Heap → Bool) (x2 : Bool) (H : Heap) : runK T hs Y30 F30_C0 [.no, .no, (.v (.bool x2)), .no, .no, .no, .no, .no, .no, .no, .no, .no, .no, .no, .no, .no, .no, .no, .no, .no, .no, .no, .no, .no, .no, .no, .no, .no, .no, .no, .no, .no, .no, .no, .no, .no, .no, .no, .no, .no, .no, .no, .no, .no, .no, .no, .no, .no, .no, .no, .no, .no, .no, .no, .no, .no, .no, .no, .no, .no, .no, .no, .no, .no, .no, .no, .no, .no, .no, .no, .no, .no, .no, .no, .no, .no, .no, .no, .no, .no, .no, .no, .no, .no, .no, .no, .no, .no, .no, .no, .no, .no, .no, .no] H (F30_K1 T hs) = s30_J3 T hs x2 H := by kernel_rfl
theorem g30_J3_ok {T : Nat → Option AFn} {hs : Heap → Heap → Bool} {x2 : Bool} {H : Heap} {r : Value × Heap} (h : s30_J3 T hs x2 H = some r) : g30_J3 T hs x2 H = some r := join_intro ((g30_J3_step T hs x2 H).trans h)
theorem g30_J3_ret {T : Nat → Option AFn} {hs : Heap → Heap → Bool} {x2 : Bool} {H : Heap} {Q : Value → Heap → Prop} (h : Ret (s30_J3 T hs x2 H) Q) : Ret (g30_J3 T hs x2 H) Q := h.via fun _ q => g30_J3_ok q
noncomputable def s30_J4 (T : Nat → Option AFn) (hs : Heap → Heap → Bool) (x2 : Bool) (H : Heap) : Option (Value × Heap) :=
  some ((.bool x2), H)
theorem g30_J4_step (T : Nat → Option AFn) (hs : Heap → Heap → Bool) (x2 : Bool) (H : Heap) : runK T hs Y30 F30_C0 [.no, .no, (.v (.bool x2)), .no, .no, .no, .no, .no, .no, .no, .no, .no, .no, .no, .no, .no, .no, .no, .no, .no, .no, .no, .no, .no, .no, .no, .no, .no, .no, .no, .no, .no, .no, .no, .no, .no, .no, .no, .no, .no, .no, .no, .no, .no, .no, .no, .no, .no, .no, .no, .no, .no, .no, .no, .no, .no, .no, .no, .no, .no, .no, .no, .no, .no, .no, .no, .no, .no, .no, .no, .no, .no, .no, .no, .no, .no, .no, .no, .no, .no, .no, .no, .no, .no, .no, .no, .no, .no, .no, .no, .no, .no, .no, .no] H (kontF F30) = s30_J4 T hs x2 H := by kernel_rfl
theorem g30_J4_ok {T : Nat → Option AFn} {hs : Heap → Heap → Bool} {x2 : Bool} {H : Heap} {r : Value × Heap} (h : s30_J4 T hs x2 H = some r) : g30_J4 T hs x2 H = some r := join_intro ((g30_J4_step T hs x2 H).trans h)
theorem g30_J4_ret {T : Nat → Option AFn} {hs : Heap → Heap → Bool} {x2 : Bool} {H : Heap} {Q : Value → Heap → Prop} (h : Ret (s30_J4 T hs x2 H) Q) : Ret (g30_J4 T hs x2 H) Q := h.via fun _ q => g30_J4_ok q
noncomputable def s30 (T : Nat → Option AFn) (hs : Heap → Heap → Bool) (x0_0 : Int) (x0_1 : Int) (x0_2 : Int) (x0_3 : ByteArray) (x0_4 : Bool) (x0_5 : Int) (x0_6 : Int) (x0_7 : Int) (x0_8 : Int) (x0_9 : Int) (x0_10 : Int) (H : Heap) : Option (Value × Heap) :=
  cond ((x0_0 : Int) == 1)
  (cond (((0 : Int) == 0) && (((0 : Int) == 0) && (((0 : Int) == 0) && (((⟨#[]⟩ : ByteArray).toList == (⟨#[]⟩ : ByteArray).toList) && ((x0_4 == false) && (((x0_5 : Int) == 0) && (((x0_6 : Int) == 0) && (((x0_7 : Int) == 0) && (((x0_8 : Int) == 0) && (((x0_9 : Int) == 0) && (((x0_10 : Int) == 0) && true)))))))))))
  ((CT T hs 35 [(.string x0_3)] H).bind fun p19 =>
  ifBool p19.1 fun x19 =>
  g30_J0 T hs x19 p19.2)
  (g30_J0 T hs false H))
  (cond ((x0_0 : Int) == 16)
  (g30_J1 T hs x0_0 0 0 x0_3 x0_4 x0_5 x0_6 x0_7 x0_8 x0_9 x0_10 0 0 0 x0_3 x0_4 x0_5 x0_6 x0_7 x0_8 x0_9 x0_10 x0_0 true H)
  (g30_J1 T hs x0_0 0 0 x0_3 x0_4 x0_5 x0_6 x0_7 x0_8 x0_9 x0_10 0 0 0 x0_3 x0_4 x0_5 x0_6 x0_7 x0_8 x0_9 x0_10 x0_0 ((x0_0 : Int) == 17) H))
theorem s30_run (T : Nat → Option AFn) (hs : Heap → Heap → Bool) (x0_0 : Int) (x0_1 : Int) (x0_2 : Int) (x0_3 : ByteArray) (x0_4 : Bool) (x0_5 : Int) (x0_6 : Int) (x0_7 : Int) (x0_8 : Int) (x0_9 : Int) (x0_10 : Int) (H : Heap) : runFK T hs Y30 F30 [(.agg #[(.int .i64 x0_0), (.int .i64 x0_1), (.int .i64 x0_2), (.string x0_3), (.bool x0_4), (.int .u64 x0_5), (.int .u64 x0_6), (.int .u64 x0_7), (.int .u64 x0_8), (.int .i64 x0_9), (.int .i64 x0_10)])] H = s30 T hs x0_0 x0_1 x0_2 x0_3 x0_4 x0_5 x0_6 x0_7 x0_8 x0_9 x0_10 H := by kernel_rfl
theorem g30_ok {T : Nat → Option AFn} {hs : Heap → Heap → Bool} (hT : T 30 = some (.code F30)) {x0_0 : Int} {x0_1 : Int} {x0_2 : Int} {x0_3 : ByteArray} {x0_4 : Bool} {x0_5 : Int} {x0_6 : Int} {x0_7 : Int} {x0_8 : Int} {x0_9 : Int} {x0_10 : Int} {H : Heap} {r : Value × Heap} (h : s30 T hs x0_0 x0_1 x0_2 x0_3 x0_4 x0_5 x0_6 x0_7 x0_8 x0_9 x0_10 H = some r) : CT T hs 30 [(.agg #[(.int .i64 x0_0), (.int .i64 x0_1), (.int .i64 x0_2), (.string x0_3), (.bool x0_4), (.int .u64 x0_5), (.int .u64 x0_6), (.int .u64 x0_7), (.int .u64 x0_8), (.int .i64 x0_9), (.int .i64 x0_10)])] H = some r := runFK_ok hT ((s30_run T hs x0_0 x0_1 x0_2 x0_3 x0_4 x0_5 x0_6 x0_7 x0_8 x0_9 x0_10 H).trans h)
theorem chk30 : chkFunc Tryd.prog 30 F30 = true := by kernel_rfl
/- dowel/lexis.text -/
def F31_C0 : ACode :=
  .seq (.reg [⟨(some 42), .mov (.t 3), none, false, none, 0⟩,
    ⟨(some 43), .bin .add (.t 42) (.c (.string ⟨#[125]⟩)), none, false, none, 0⟩,
    ⟨(some 2), .mov (.t 43), none, false, none, 0⟩])
  (.ret)
def F31_C1 : ACode :=
  .seq (.reg [⟨(some 1), .boxL 11 (.t 0), none, false, none, 0⟩,
    ⟨(some 2), .mov (.c (.string ⟨#[]⟩)), none, false, none, 0⟩])
  (.seq (.seq (.reg [⟨(some 4), .fieldA 0 (.t 1), none, false, none, 0⟩,
    ⟨(some 5), .load false 1 (.t 4), none, false, none, 0⟩])
  (.block 0 (.seq (.reg [⟨(some 7), .bin .eql (.t 5) (.c (.int .i64 1)), none, false, none, 0⟩,
    ⟨(some 6), .mov (.t 7), none, false, none, 0⟩])
  (.cond (.t 6)
  (.seq (.reg [⟨(some 8), .fieldA 3 (.t 1), none, false, none, 0⟩,
    ⟨(some 9), .load false 1 (.t 8), none, false, none, 0⟩,
    ⟨(some 2), .mov (.t 9), none, false, none, 0⟩])
  (.ret))
  (.seq (.reg [⟨(some 11), .bin .eql (.t 5) (.c (.int .i64 16)), none, false, none, 0⟩,
    ⟨(some 10), .mov (.t 11), none, false, none, 0⟩])
  (.cond (.t 10)
  (.seq (.reg [⟨(some 12), .fieldA 3 (.t 1), none, false, none, 0⟩,
    ⟨(some 13), .load false 1 (.t 12), none, false, none, 0⟩,
    ⟨(some 14), .bin .add (.c (.string ⟨#[64]⟩)) (.t 13), none, false, none, 0⟩,
    ⟨(some 2), .mov (.t 14), none, false, none, 0⟩])
  (.ret))
  (.seq (.reg [⟨(some 16), .bin .eql (.t 5) (.c (.int .i64 17)), none, false, none, 0⟩,
    ⟨(some 15), .mov (.t 16), none, false, none, 0⟩])
  (.cond (.t 15)
  (.seq (.reg [⟨(some 17), .fieldA 3 (.t 1), none, false, none, 0⟩,
    ⟨(some 18), .load false 1 (.t 17), none, false, none, 0⟩,
    ⟨(some 19), .bin .add (.c (.string ⟨#[94]⟩)) (.t 18), none, false, none, 0⟩,
    ⟨(some 2), .mov (.t 19), none, false, none, 0⟩])
  (.ret))
  (.seq (.reg [⟨(some 21), .bin .eql (.t 5) (.c (.int .i64 9)), none, false, none, 0⟩,
    ⟨(some 20), .mov (.t 21), none, false, none, 0⟩])
  (.cond (.t 20)
  (.seq (.reg [⟨(some 22), .fieldA 9 (.t 1), none, false, none, 0⟩,
    ⟨(some 23), .load false 1 (.t 22), none, false, none, 0⟩,
    ⟨(some 24), .call 37 [.t 23], none, false, none, 0⟩,
    ⟨(some 25), .bin .add (.c (.string ⟨#[123]⟩)) (.t 24), none, false, none, 0⟩,
    ⟨(some 3), .mov (.t 25), none, false, none, 0⟩])
  (.seqj [3] (.seq (.reg [⟨(some 26), .fieldA 10 (.t 1), none, false, none, 0⟩,
    ⟨(some 27), .load false 1 (.t 26), none, false, none, 0⟩,
    ⟨(some 28), .bin .eql (.t 27) (.c (.int .i64 (-1))), none, false, none, 0⟩])
  (.cond (.t 28)
  (.reg [⟨(some 29), .mov (.t 3), none, false, none, 0⟩,
    ⟨(some 30), .bin .add (.t 29) (.c (.string ⟨#[44]⟩)), none, false, none, 0⟩,
    ⟨(some 3), .mov (.t 30), none, false, none, 0⟩])
  (.seq (.reg [⟨(some 31), .fieldA 10 (.t 1), none, false, none, 0⟩,
    ⟨(some 32), .load false 1 (.t 31), none, false, none, 0⟩,
    ⟨(some 33), .fieldA 9 (.t 1), none, false, none, 0⟩,
    ⟨(some 34), .load false 1 (.t 33), none, false, none, 0⟩,
    ⟨(some 35), .bin .gtr (.t 32) (.t 34), none, false, none, 0⟩])
  (.cond (.t 35)
  (.reg [⟨(some 36), .mov (.t 3), none, false, none, 0⟩,
    ⟨(some 37), .fieldA 10 (.t 1), none, false, none, 0⟩,
    ⟨(some 38), .load false 1 (.t 37), none, false, none, 0⟩,
    ⟨(some 39), .call 37 [.t 38], none, false, none, 0⟩,
    ⟨(some 40), .bin .add (.c (.string ⟨#[44]⟩)) (.t 39), none, false, none, 0⟩,
    ⟨(some 41), .bin .add (.t 36) (.t 40), none, false, none, 0⟩,
    ⟨(some 3), .mov (.t 41), none, false, none, 0⟩])
  (.skip)))))
  F31_C0))
  (.seq (.reg [⟨(some 45), .bin .eql (.t 5) (.c (.int .i64 15)), none, false, none, 0⟩,
    ⟨(some 44), .mov (.t 45), none, false, none, 0⟩])
  (.cond (.t 44)
  (.seq (.reg [⟨(some 46), .fieldA 5 (.t 1), none, false, none, 0⟩,
    ⟨(some 47), .load true 4 (.t 46), none, false, none, 0⟩,
    ⟨(some 48), .call 38 [.t 47], none, false, none, 0⟩,
    ⟨(some 2), .mov (.t 48), none, false, none, 0⟩])
  (.ret))
  (.seq (.reg [⟨(some 50), .bin .eql (.t 5) (.c (.int .i64 14)), none, false, none, 0⟩,
    ⟨(some 49), .mov (.t 50), none, false, none, 0⟩])
  (.cond (.t 49)
  (.seq (.seq (.reg [⟨(some 51), .fieldA 4 (.t 1), none, false, none, 0⟩,
    ⟨(some 52), .load false 1 (.t 51), none, false, none, 0⟩])
  (.cond (.t 52)
  (.seq (.reg [⟨(some 53), .fieldA 3 (.t 1), none, false, none, 0⟩,
    ⟨(some 54), .load false 1 (.t 53), none, false, none, 0⟩,
    ⟨(some 55), .call 39 [.t 54], none, false, none, 0⟩,
    ⟨(some 56), .bin .add (.t 55) (.c (.string ⟨#[105]⟩)), none, false, none, 0⟩,
    ⟨(some 2), .mov (.t 56), none, false, none, 0⟩])
  (.ret))
  (.skip)))
  (.seq (.reg [⟨(some 57), .fieldA 3 (.t 1), none, false, none, 0⟩,
    ⟨(some 58), .load false 1 (.t 57), none, false, none, 0⟩,
    ⟨(some 59), .call 39 [.t 58], none, false, none, 0⟩,
    ⟨(some 2), .mov (.t 59), none, false, none, 0⟩])
  (.ret)))
  (.skip)))))))))))))))
  (.seq (.reg [⟨(some 60), .fieldA 0 (.t 1), none, false, none, 0⟩,
    ⟨(some 61), .load false 1 (.t 60), none, false, none, 0⟩,
    ⟨(some 62), .call 40 [.t 61], none, false, none, 0⟩,
    ⟨(some 2), .mov (.t 62), none, false, none, 0⟩])
  (.ret)))
def F31_C2 : ACode :=
  .seq (.reg [⟨(some 60), .fieldA 0 (.t 1), none, false, none, 0⟩,
    ⟨(some 61), .load false 1 (.t 60), none, false, none, 0⟩,
    ⟨(some 62), .call 40 [.t 61], none, false, none, 0⟩,
    ⟨(some 2), .mov (.t 62), none, false, none, 0⟩])
  (.ret)
def F31 : AFunc := ⟨1, 63, [.tmp 2], F31_C1⟩
def Y31 : List VT := [.v (.agg [.int .i64, .int .i64, .int .i64, .str, .bool, .int .u64, .int .u64, .int .u64, .int .u64, .int .i64, .int .i64]), .v (.one .any), .v (.one .str), .v (.one .str), .v (.one .any), .v (.one (.int .i64)), .v (.one .bool), .v (.one .bool), .v (.one .any), .v (.one .str), .v (.one .bool), .v (.one .bool), .v (.one .any), .v (.one .str), .v (.one .str), .v (.one .bool), .v (.one .bool), .v (.one .any), .v (.one .str), .v (.one .str), .v (.one .bool), .v (.one .bool), .v (.one .any), .v (.one (.int .i64)), .v (.one .str), .v (.one .str), .v (.one .any), .v (.one (.int .i64)), .v (.one .bool), .v (.one .str), .v (.one .str), .v (.one .any), .v (.one (.int .i64)), .v (.one .any), .v (.one (.int .i64)), .v (.one .bool), .v (.one .str), .v (.one .any), .v (.one (.int .i64)), .v (.one .str), .v (.one .str), .v (.one .str), .v (.one .str), .v (.one .str), .v (.one .bool), .v (.one .bool), .v (.one .any), .v (.agg [.int .u64, .int .u64, .int .u64, .int .u64]), .v (.one .str), .v (.one .bool), .v (.one .bool), .v (.one .any), .v (.one .bool), .v (.one .any), .v (.one .str), .v (.one .str), .v (.one .str), .v (.one .any), .v (.one .str), .v (.one .str), .v (.one .any), .v (.one (.int .i64)), .v (.one .str)]
noncomputable def F31_K0 (T : Nat → Option AFn) (hs : Heap → Heap → Bool) : Kont (Value × Heap) := { (kontF F31) with nrm := fun fr H => runK T hs Y31 F31_C2 fr H (kontF F31) }
noncomputable def F31_K1 (T : Nat → Option AFn) (hs : Heap → Heap → Bool) : Kont (Value × Heap) := { (F31_K0 T hs) with ex := fun i fr H => if i = 0 then (F31_K0 T hs).nrm fr H else (F31_K0 T hs).ex i fr H }
noncomputable def g31_J0 (T : Nat → Option AFn) (hs : Heap → Heap → Bool) (x3 : ByteArray) (H : Heap) : Option (Value × Heap) := joinK T hs F31_C0 [.no, .no, .no, (.v (.string x3)), .no, .no, .no, .no, .no, .no, .no, .no, .no, .no, .no, .no, .no, .no, .no, .no, .no, .no, .no, .no, .no, .no, .no, .no, .no, .no, .no, .no, .no, .no, .no, .no, .no, .no, .no, .no, .no, .no, .no, .no, .no, .no, .no, .no, .no, .no, .no, .no, .no, .no, .no, .no, .no, .no, .no, .no, .no, .no, .no] H (F31_K1 T hs)
noncomputable def s31_J0 (T : Nat → Option AFn) (hs : Heap → Heap → Bool) (x3 : ByteArray) (H : Heap) : Option (Value × Heap) :=
  (binS .add x3 (⟨#[125]⟩ : ByteArray)).bind fun b43 =>
  ifStr b43 fun x43 =>
  some ((.string x43), H)
theorem g31_J0_step (T : Nat → Option AFn) (hs : Heap → Heap → Bool) (x3 : ByteArray) (H : Heap) : runK T hs Y31 F31_C0 [.no, .no, .no, (.v (.string x3)), .no, .no, .no, .no, .no, .no, .no, .no, .no, .no, .no, .no, .no, .no, .no, .no, .no, .no, .no, .no, .no, .no, .no, .no, .no, .no, .no, .no, .no, .no, .no, .no, .no, .no, .no, .no, .no, .no, .no, .no, .no, .no, .no, .no, .no, .no, .no, .no, .no, .no, .no, .no, .no, .no, .no, .no, .no, .no, .no] H (F31_K1 T hs) = s31_J0 T hs x3 H := by kernel_rfl
theorem g31_J0_ok {T : Nat → Option AFn} {hs : Heap → Heap → Bool} {x3 : ByteArray} {H : Heap} {r : Value × Heap} (h : s31_J0 T hs x3 H = some r) : g31_J0 T hs x3 H = some r := join_intro ((g31_J0_step T hs x3 H).trans h)
theorem g31_J0_ret {T : Nat → Option AFn} {hs : Heap → Heap → Bool} {x3 : ByteArray} {H : Heap} {Q : Value → Heap → Prop} (h : Ret (s31_J0 T hs x3 H) Q) : Ret (g31_J0 T hs x3 H) Q := h.via fun _ q => g31_J0_ok q
noncomputable def s31 (T : Nat → Option AFn) (hs : Heap → Heap → Bool) (x0_0 : Int) (x0_1 : Int) (x0_2 : Int) (x0_3 : ByteArray) (x0_4 : Bool) (x0_5 : Int) (x0_6 : Int) (x0_7 : Int) (x0_8 : Int) (x0_9 : Int) (x0_10 : Int) (H : Heap) : Option (Value × Heap) :=
  cond ((x0_0 : Int) == 1)
  (some ((.string x0_3), H))
  (cond ((x0_0 : Int) == 16)
  ((binS .add (⟨#[64]⟩ : ByteArray) x0_3).bind fun b14 =>
  ifStr b14 fun x14 =>
  some ((.string x14), H))
  (cond ((x0_0 : Int) == 17)
  ((binS .add (⟨#[94]⟩ : ByteArray) x0_3).bind fun b19 =>
  ifStr b19 fun x19 =>
  some ((.string x19), H))
  (cond ((x0_0 : Int) == 9)
  ((CT T hs 37 [(.int .i64 x0_9)] H).bind fun p24 =>
  ifStr p24.1 fun x24 =>
  (binS .add (⟨#[123]⟩ : ByteArray) x24).bind fun b25 =>
  ifStr b25 fun x25 =>
  cond ((x0_10 : Int) == (-1))
  ((binS .add x25 (⟨#[44]⟩ : ByteArray)).bind fun b30 =>
  ifStr b30 fun x30 =>
  g31_J0 T hs x30 p24.2)
  (cond (decide ((x0_10 : Int) > x0_9))
  ((CT T hs 37 [(.int .i64 x0_10)] p24.2).bind fun p39 =>
  ifStr p39.1 fun x39 =>
  (binS .add (⟨#[44]⟩ : ByteArray) x39).bind fun b40 =>
  ifStr b40 fun x40 =>
  (binS .add x25 x40).bind fun b41 =>
  ifStr b41 fun x41 =>
  g31_J0 T hs x41 p39.2)
  (g31_J0 T hs x25 p24.2)))
  (cond ((x0_0 : Int) == 15)
  ((CT T hs 38 [(.agg #[(.int .u64 x0_5), (.int .u64 x0_6), (.int .u64 x0_7), (.int .u64 x0_8)])] H).bind fun p48 =>
  ifStr p48.1 fun x48 =>
  some ((.string x48), p48.2))
  (cond ((x0_0 : Int) == 14)
  (cond x0_4
  ((CT T hs 39 [(.string x0_3)] H).bind fun p55 =>
  ifStr p55.1 fun x55 =>
  (binS .add x55 (⟨#[105]⟩ : ByteArray)).bind fun b56 =>
  ifStr b56 fun x56 =>
  some ((.string x56), p55.2))
  ((CT T hs 39 [(.string x0_3)] H).bind fun p59 =>
  ifStr p59.1 fun x59 =>
  some ((.string x59), p59.2)))
  ((CT T hs 40 [(.int .i64 x0_0)] H).bind fun p62 =>
  ifStr p62.1 fun x62 =>
  some ((.string x62), p62.2)))))))
theorem s31_run (T : Nat → Option AFn) (hs : Heap → Heap → Bool) (x0_0 : Int) (x0_1 : Int) (x0_2 : Int) (x0_3 : ByteArray) (x0_4 : Bool) (x0_5 : Int) (x0_6 : Int) (x0_7 : Int) (x0_8 : Int) (x0_9 : Int) (x0_10 : Int) (H : Heap) : runFK T hs Y31 F31 [(.agg #[(.int .i64 x0_0), (.int .i64 x0_1), (.int .i64 x0_2), (.string x0_3), (.bool x0_4), (.int .u64 x0_5), (.int .u64 x0_6), (.int .u64 x0_7), (.int .u64 x0_8), (.int .i64 x0_9), (.int .i64 x0_10)])] H = s31 T hs x0_0 x0_1 x0_2 x0_3 x0_4 x0_5 x0_6 x0_7 x0_8 x0_9 x0_10 H := by kernel_rfl
theorem g31_ok {T : Nat → Option AFn} {hs : Heap → Heap → Bool} (hT : T 31 = some (.code F31)) {x0_0 : Int} {x0_1 : Int} {x0_2 : Int} {x0_3 : ByteArray} {x0_4 : Bool} {x0_5 : Int} {x0_6 : Int} {x0_7 : Int} {x0_8 : Int} {x0_9 : Int} {x0_10 : Int} {H : Heap} {r : Value × Heap} (h : s31 T hs x0_0 x0_1 x0_2 x0_3 x0_4 x0_5 x0_6 x0_7 x0_8 x0_9 x0_10 H = some r) : CT T hs 31 [(.agg #[(.int .i64 x0_0), (.int .i64 x0_1), (.int .i64 x0_2), (.string x0_3), (.bool x0_4), (.int .u64 x0_5), (.int .u64 x0_6), (.int .u64 x0_7), (.int .u64 x0_8), (.int .i64 x0_9), (.int .i64 x0_10)])] H = some r := runFK_ok hT ((s31_run T hs x0_0 x0_1 x0_2 x0_3 x0_4 x0_5 x0_6 x0_7 x0_8 x0_9 x0_10 H).trans h)
theorem chk31 : chkFunc Tryd.prog 31 F31 = true := by kernel_rfl
/- dowel/dowelref03.Hex -/
def F32_C0 : ACode :=
  .seq (.reg [⟨(some 2), .mov (.c (.string ⟨#[]⟩)), none, false, none, 0⟩])
  (.seq (.regD [⟨(some 3), .mov (.t 0), none, false, none, 0⟩,
    ⟨(some 4), .bin .quo (.t 3) (.c (.int .u8 16)), none, false, none, 0⟩,
    ⟨(some 5), .mov (.t 0), none, false, none, 0⟩,
    ⟨(some 6), .bin .quo (.t 5) (.c (.int .u8 16)), none, false, none, 0⟩,
    ⟨(some 7), .bin .add (.t 6) (.c (.int .u8 1)), none, false, none, 0⟩,
    ⟨(some 8), .slStr (.c (.string ⟨#[48, 49, 50, 51, 52, 53, 54, 55, 56, 57, 97, 98, 99, 100, 101, 102]⟩)) (some (.t 4)) (some (.t 7)), none, false, none, 0⟩,
    ⟨(some 9), .mov (.t 0), none, false, none, 0⟩,
    ⟨(some 10), .bin .rem (.t 9) (.c (.int .u8 16)), none, false, none, 0⟩,
    ⟨(some 11), .mov (.t 0), none, false, none, 0⟩,
    ⟨(some 12), .bin .rem (.t 11) (.c (.int .u8 16)), none, false, none, 0⟩,
    ⟨(some 13), .bin .add (.t 12) (.c (.int .u8 1)), none, false, none, 0⟩,
    ⟨(some 14), .slStr (.c (.string ⟨#[48, 49, 50, 51, 52, 53, 54, 55, 56, 57, 97, 98, 99, 100, 101, 102]⟩)) (some (.t 10)) (some (.t 13)), none, false, none, 0⟩,
    ⟨(some 15), .bin .add (.t 8) (.t 14), none, false, none, 0⟩,
    ⟨(some 2), .mov (.t 15), none, false, none, 0⟩])
  (.ret))
def F32 : AFunc := ⟨1, 16, [.tmp 2], F32_C0⟩
def Y32 : List VT := [.v (.one (.int .u8)), .v (.one .any), .v (.one .str), .v (.one (.int .u8)), .v (.one (.int .u8)), .v (.one (.int .u8)), .v (.one (.int .u8)), .v (.one (.int .u8)), .v (.one .str), .v (.one (.int .u8)), .v (.one (.int .u8)), .v (.one (.int .u8)), .v (.one (.int .u8)), .v (.one (.int .u8)), .v (.one .str), .v (.one .str)]
noncomputable def s32 (T : Nat → Option AFn) (hs : Heap → Heap → Bool) (x0 : Int) (H : Heap) : Option (Value × Heap) :=
  (ssA (⟨#[48, 49, 50, 51, 52, 53, 54, 55, 56, 57, 97, 98, 99, 100, 101, 102]⟩ : ByteArray) (some (quoI .u8 x0 16)) (some (IntKind.wrap .u8 ((quoI .u8 x0 16) + 1)))).bind fun s8 =>
  (ssA (⟨#[48, 49, 50, 51, 52, 53, 54, 55, 56, 57, 97, 98, 99, 100, 101, 102]⟩ : ByteArray) (some (remI .u8 x0 16)) (some (IntKind.wrap .u8 ((remI .u8 x0 16) + 1)))).bind fun s14 =>
  (binS .add s8 s14).bind fun b15 =>
  ifStr b15 fun x15 =>
  some ((.string x15), H)
theorem s32_run (T : Nat → Option AFn) (hs : Heap → Heap → Bool) (x0 : Int) (H : Heap) : runFK T hs Y32 F32 [(.int .u8 x0)] H = s32 T hs x0 H := by kernel_rfl
theorem g32_ok {T : Nat → Option AFn} {hs : Heap → Heap → Bool} (hT : T 32 = some (.code F32)) {x0 : Int} {H : Heap} {r : Value × Heap} (h : s32 T hs x0 H = some r) : CT T hs 32 [(.int .u8 x0)] H = some r := runFK_ok hT ((s32_run T hs x0 H).trans h)
theorem chk32 : chkFunc Tryd.prog 32 F32 = true := by kernel_rfl
/- strings.TrimPrefix -/
def F33_C0 : ACode :=
  .seq (.reg [⟨(some 4), .mov (.c (.string ⟨#[]⟩)), none, false, none, 0⟩])
  (.seq (.reg [⟨(some 5), .mov (.t 0), none, false, none, 0⟩,
    ⟨(some 6), .mov (.t 1), none, false, none, 0⟩,
    ⟨(some 7), .call 41 [.t 5, .t 6], none, false, none, 0⟩,
    ⟨(some 4), .mov (.t 7), none, false, none, 0⟩])
  (.ret))
def F33 : AFunc := ⟨2, 8, [.tmp 4], F33_C0⟩
def Y33 : List VT := [.v (.one .str), .v (.one .str), .v (.one .any), .v (.one .any), .v (.one .str), .v (.one .str), .v (.one .str), .v (.one .str)]
noncomputable def s33 (T : Nat → Option AFn) (hs : Heap → Heap → Bool) (x0 : ByteArray) (x1 : ByteArray) (H : Heap) : Option (Value × Heap) :=
  (CT T hs 41 [(.string x0), (.string x1)] H).bind fun p7 =>
  ifStr p7.1 fun x7 =>
  some ((.string x7), p7.2)
theorem s33_run (T : Nat → Option AFn) (hs : Heap → Heap → Bool) (x0 : ByteArray) (x1 : ByteArray) (H : Heap) : runFK T hs Y33 F33 [(.string x0), (.string x1)] H = s33 T hs x0 x1 H := by kernel_rfl
theorem g33_ok {T : Nat → Option AFn} {hs : Heap → Heap → Bool} (hT : T 33 = some (.code F33)) {x0 : ByteArray} {x1 : ByteArray} {H : Heap} {r : Value × Heap} (h : s33 T hs x0 x1 H = some r) : CT T hs 33 [(.string x0), (.string x1)] H = some r := runFK_ok hT ((s33_run T hs x0 x1 H).trans h)
theorem chk33 : chkFunc Tryd.prog 33 F33 = true := by kernel_rfl
/- dowel/lexis.quoted -/
def F39_C0 : ACode :=
  .cond (.t 47)
  (.reg [⟨(some 54), .mov (.t 5), none, false, none, 0⟩,
    ⟨(some 55), .call 17 [.t 3, .t 54], none, false, none, 0⟩])
  (.seq (.reg [⟨(some 16), .call 20 [.t 3, .c (.string ⟨#[92, 120]⟩)], none, false, none, 0⟩])
  (.seq (.reg [⟨(some 17), .mov (.t 5), none, false, none, 0⟩,
    ⟨(some 18), .bin .shr (.t 17) (.c (.int .u64 4)), none, false, none, 0⟩,
    ⟨(some 19), .indexStr (.c (.string ⟨#[48, 49, 50, 51, 52, 53, 54, 55, 56, 57, 97, 98, 99, 100, 101, 102]⟩)) (.t 18), none, false, none, 0⟩,
    ⟨(some 20), .call 17 [.t 3, .t 19], none, false, none, 0⟩])
  (.reg [⟨(some 21), .mov (.t 5), none, false, none, 0⟩,
    ⟨(some 22), .bin .and (.t 21) (.c (.int .u8 15)), none, false, none, 0⟩,
    ⟨(some 23), .indexStr (.c (.string ⟨#[48, 49, 50, 51, 52, 53, 54, 55, 56, 57, 97, 98, 99, 100, 101, 102]⟩)) (.t 22), none, false, none, 0⟩,
    ⟨(some 24), .call 17 [.t 3, .t 23], none, false, none, 0⟩])))
def F39_C1 : ACode :=
  .cond (.t 37)
  (.seq (.reg [⟨(some 44), .call 17 [.t 3, .c (.int .u8 92)], none, false, none, 0⟩])
  (.reg [⟨(some 45), .mov (.t 5), none, false, none, 0⟩,
    ⟨(some 46), .call 17 [.t 3, .t 45], none, false, none, 0⟩]))
  (.seqj [0, 3, 4, 5, 47] (.reg [⟨(some 48), .mov (.t 5), none, false, none, 0⟩,
    ⟨(some 49), .bin .geq (.t 48) (.c (.int .u8 32)), none, false, none, 0⟩,
    ⟨(some 50), .mov (.t 49), none, false, none, 0⟩,
    ⟨(some 51), .mov (.t 5), (some (50, true)), false, none, 0⟩,
    ⟨(some 52), .bin .leq (.t 51) (.c (.int .u8 126)), (some (50, true)), false, none, 0⟩,
    ⟨(some 53), .pick (.t 50) (.t 52) (.c (.bool false)), none, false, none, 0⟩,
    ⟨(some 47), .mov (.t 53), none, false, none, 0⟩])
  F39_C0)
def F39_C2 : ACode :=
  .reg [⟨(some 11), .mov (.t 4), none, false, none, 0⟩,
    ⟨(some 12), .bin .add (.t 11) (.c (.int .i64 1)), none, false, none, 0⟩,
    ⟨(some 4), .mov (.t 12), none, false, none, 0⟩]
def F39_C3 : ACode :=
  .seq (.seq (.reg [⟨(some 7), .mov (.t 4), none, false, none, 0⟩,
    ⟨(some 8), .mov (.t 0), none, false, none, 0⟩,
    ⟨(some 9), .len true (.t 8), none, false, none, 0⟩,
    ⟨(some 10), .bin .lss (.t 7) (.t 9), none, false, none, 0⟩])
  (.cond (.t 10)
  (.skip)
  (.exit 0)))
  (.seqj [0, 3, 4] (.block 1 (.seq (.reg [⟨(some 13), .mov (.t 0), none, false, none, 0⟩,
    ⟨(some 14), .mov (.t 4), none, false, none, 0⟩,
    ⟨(some 15), .indexStr (.t 13) (.t 14), none, false, none, 0⟩,
    ⟨(some 5), .mov (.t 15), none, false, none, 0⟩])
  (.block 2 (.seq (.reg [⟨(some 26), .mov (.t 5), none, false, none, 0⟩,
    ⟨(some 27), .bin .eql (.t 26) (.c (.int .u8 10)), none, false, none, 0⟩,
    ⟨(some 25), .mov (.t 27), none, false, none, 0⟩])
  (.cond (.t 25)
  (.reg [⟨(some 28), .call 20 [.t 3, .c (.string ⟨#[92, 110]⟩)], none, false, none, 0⟩])
  (.seq (.reg [⟨(some 30), .mov (.t 5), none, false, none, 0⟩,
    ⟨(some 31), .bin .eql (.t 30) (.c (.int .u8 13)), none, false, none, 0⟩,
    ⟨(some 29), .mov (.t 31), none, false, none, 0⟩])
  (.cond (.t 29)
  (.reg [⟨(some 32), .call 20 [.t 3, .c (.string ⟨#[92, 114]⟩)], none, false, none, 0⟩])
  (.seq (.reg [⟨(some 34), .mov (.t 5), none, false, none, 0⟩,
    ⟨(some 35), .bin .eql (.t 34) (.c (.int .u8 9)), none, false, none, 0⟩,
    ⟨(some 33), .mov (.t 35), none, false, none, 0⟩])
  (.cond (.t 33)
  (.reg [⟨(some 36), .call 20 [.t 3, .c (.string ⟨#[92, 116]⟩)], none, false, none, 0⟩])
  (.seqj [0, 3, 4, 5, 37] (.reg [⟨(some 38), .mov (.t 5), none, false, none, 0⟩,
    ⟨(some 39), .bin .eql (.t 38) (.c (.int .u8 39)), none, false, none, 0⟩,
    ⟨(some 40), .mov (.t 39), none, false, none, 0⟩,
    ⟨(some 41), .mov (.t 5), (some (40, false)), false, none, 0⟩,
    ⟨(some 42), .bin .eql (.t 41) (.c (.int .u8 92)), (some (40, false)), false, none, 0⟩,
    ⟨(some 43), .pick (.t 40) (.c (.bool true)) (.t 42), none, false, none, 0⟩,
    ⟨(some 37), .mov (.t 43), none, false, none, 0⟩])
  F39_C1))))))))))
  F39_C2)
def F39_C4 : ACode :=
  .seq (.reg [⟨(some 2), .mov (.c (.string ⟨#[]⟩)), none, false, none, 0⟩])
  (.seq (.reg [⟨(some 3), .allocH 51 [.pointer none, .slice none 0 0], none, false, none, 0⟩])
  (.seq (.reg [⟨(some 6), .call 17 [.t 3, .c (.int .u8 39)], none, false, none, 0⟩])
  (.seq (.seq (.reg [⟨(some 4), .mov (.c (.int .i64 0)), none, false, none, 0⟩])
  (.block 0 (.loop [0, 3, 4] F39_C3)))
  (.seq (.reg [⟨(some 56), .call 17 [.t 3, .c (.int .u8 39)], none, false, none, 0⟩])
  (.seq (.reg [⟨(some 57), .call 23 [.t 3], none, false, none, 0⟩,
    ⟨(some 2), .mov (.t 57), none, false, none, 0⟩])
  (.ret))))))
def F39_C5 : ACode :=
  .seq (.reg [⟨(some 56), .call 17 [.t 3, .c (.int .u8 39)], none, false, none, 0⟩])
  (.seq (.reg [⟨(some 57), .call 23 [.t 3], none, false, none, 0⟩,
    ⟨(some 2), .mov (.t 57), none, false, none, 0⟩])
  (.ret))
def F39 : AFunc := ⟨1, 58, [.tmp 2], F39_C4⟩
def Y39 : List VT := [.v (.one .str), .v (.one .any), .v (.one .str), .v (.one .any), .v (.one (.int .i64)), .v (.one (.int .u8)), .v (.one .any), .v (.one (.int .i64)), .v (.one .str), .v (.one (.int .i64)), .v (.one .bool), .v (.one (.int .i64)), .v (.one (.int .i64)), .v (.one .str), .v (.one (.int .i64)), .v (.one (.int .u8)), .tup [.one (.int .i64), .one .any], .v (.one (.int .u8)), .v (.one (.int .u8)), .v (.one (.int .u8)), .v (.one .any), .v (.one (.int .u8)), .v (.one (.int .u8)), .v (.one (.int .u8)), .v (.one .any), .v (.one .bool), .v (.one (.int .u8)), .v (.one .bool), .tup [.one (.int .i64), .one .any], .v (.one .bool), .v (.one (.int .u8)), .v (.one .bool), .tup [.one (.int .i64), .one .any], .v (.one .bool), .v (.one (.int .u8)), .v (.one .bool), .tup [.one (.int .i64), .one .any], .v (.one .bool), .v (.one (.int .u8)), .v (.one .bool), .v (.one .bool), .v (.one (.int .u8)), .v (.one .bool), .v (.one .bool), .v (.one .any), .v (.one (.int .u8)), .v (.one .any), .v (.one .bool), .v (.one (.int .u8)), .v (.one .bool), .v (.one .bool), .v (.one (.int .u8)), .v (.one .bool), .v (.one .bool), .v (.one (.int .u8)), .v (.one .any), .v (.one .any), .v (.one .str)]
noncomputable def F39_K0 (T : Nat → Option AFn) (hs : Heap → Heap → Bool) : Kont (Value × Heap) := { (kontF F39) with nrm := fun fr H => runK T hs Y39 F39_C5 fr H (kontF F39) }
noncomputable def F39_K1 (T : Nat → Option AFn) (hs : Heap → Heap → Bool) : Kont (Value × Heap) := { (F39_K0 T hs) with ex := fun i fr H => if i = 0 then (F39_K0 T hs).nrm fr H else (F39_K0 T hs).ex i fr H }
noncomputable def F39_K2 (T : Nat → Option AFn) (hs : Heap → Heap → Bool) : Kont (Value × Heap) := { (F39_K1 T hs) with nrm := fun fr H => fF (forget [0, 3, 4] fr) fun fr => loopK T hs [0, 3, 4] F39_C3 fr H (F39_K1 T hs) }
noncomputable def F39_K3 (T : Nat → Option AFn) (hs : Heap → Heap → Bool) : Kont (Value × Heap) := { (F39_K2 T hs) with nrm := fun fr H => fF (forget [0, 3, 4] fr) fun fr => joinK T hs F39_C2 fr H (F39_K2 T hs) }
noncomputable def F39_K4 (T : Nat → Option AFn) (hs : Heap → Heap → Bool) : Kont (Value × Heap) := { (F39_K3 T hs) with ex := fun i fr H => if i = 1 then (F39_K3 T hs).nrm fr H else (F39_K3 T hs).ex i fr H }
noncomputable def F39_K5 (T : Nat → Option AFn) (hs : Heap → Heap → Bool) : Kont (Value × Heap) := { (F39_K4 T hs) with ex := fun i fr H => if i = 2 then (F39_K4 T hs).nrm fr H else (F39_K4 T hs).ex i fr H }
noncomputable def g39_J1 (T : Nat → Option AFn) (hs : Heap → Heap → Bool) (x0 : ByteArray) (f3 : Nat) (o3 : Nat) (x4 : Int) (H : Heap) : Option (Value × Heap) := joinK T hs F39_C2 [(.v (.string x0)), .no, .no, (.v (.pointer (some ⟨f3, o3, some 0⟩))), (.v (.int .i64 x4)), .no, .no, .no, .no, .no, .no, .no, .no, .no, .no, .no, .no, .no, .no, .no, .no, .no, .no, .no, .no, .no, .no, .no, .no, .no, .no, .no, .no, .no, .no, .no, .no, .no, .no, .no, .no, .no, .no, .no, .no, .no, .no, .no, .no, .no, .no, .no, .no, .no, .no, .no, .no, .no] H (F39_K2 T hs)
noncomputable def g39_J3 (T : Nat → Option AFn) (hs : Heap → Heap → Bool) (x0 : ByteArray) (f3 : Nat) (o3 : Nat) (x4 : Int) (x5 : Int) (x47 : Bool) (H : Heap) : Option (Value × Heap) := joinK T hs F39_C0 [(.v (.string x0)), .no, .no, (.v (.pointer (some ⟨f3, o3, some 0⟩))), (.v (.int .i64 x4)), (.v (.int .u8 x5)), .no, .no, .no, .no, .no, .no, .no, .no, .no, .no, .no, .no, .no, .no, .no, .no, .no, .no, .no, .no, .no, .no, .no, .no, .no, .no, .no, .no, .no, .no, .no, .no, .no, .no, .no, .no, .no, .no, .no, .no, .no, (.v (.bool x47)), .no, .no, .no, .no, .no, .no, .no, .no, .no, .no] H (F39_K5 T hs)
noncomputable def g39_J2 (T : Nat → Option AFn) (hs : Heap → Heap → Bool) (x0 : ByteArray) (f3 : Nat) (o3 : Nat) (x4 : Int) (x5 : Int) (x37 : Bool) (H : Heap) : Option (Value × Heap) := joinK T hs F39_C1 [(.v (.string x0)), .no, .no, (.v (.pointer (some ⟨f3, o3, some 0⟩))), (.v (.int .i64 x4)), (.v (.int .u8 x5)), .no, .no, .no, .no, .no, .no, .no, .no, .no, .no, .no, .no, .no, .no, .no, .no, .no, .no, .no, .no, .no, .no, .no, .no, .no, .no, .no, .no, .no, .no, .no, (.v (.bool x37)), .no, .no, .no, .no, .no, .no, .no, .no, .no, .no, .no, .no, .no, .no, .no, .no, .no, .no, .no, .no] H (F39_K5 T hs)
noncomputable def g39_L0 (T : Nat → Option AFn) (hs : Heap → Heap → Bool) (x0 : ByteArray) (f3 : Nat) (o3 : Nat) (x4 : Int) (H : Heap) : Option (Value × Heap) := loopK T hs [0, 3, 4] F39_C3 [(.v (.string x0)), .no, .no, (.v (.pointer (some ⟨f3, o3, some 0⟩))), (.v (.int .i64 x4)), .no, .no, .no, .no, .no, .no, .no, .no, .no, .no, .no, .no, .no, .no, .no, .no, .no, .no, .no, .no, .no, .no, .no, .no, .no, .no, .no, .no, .no, .no, .no, .no, .no, .no, .no, .no, .no, .no, .no, .no, .no, .no, .no, .no, .no, .no, .no, .no, .no, .no, .no, .no, .no] H (F39_K1 T hs)
noncomputable def s39_L0 (T : Nat → Option AFn) (hs : Heap → Heap → Bool) (x0 : ByteArray) (f3 : Nat) (o3 : Nat) (x4 : Int) (H : Heap) : Option (Value × Heap) :=
  cond (decide ((x4 : Int) < (x0.size : Int)))
  ((atS x0 x4).bind fun b15 =>
  cond (((b15.toNat : Int) : Int) == 10)
  ((CT T hs 20 [(.pointer (some ⟨f3, o3, some 0⟩)), (.string (⟨#[92, 110]⟩ : ByteArray))] H).bind fun p28 =>
  ifTup p28.1 fun l28 =>
  ifCons l28 fun v28 l28_1 =>
  ifInt .i64 v28 fun x28 =>
  ifCons l28_1 fun v28_1 l28_2 =>
  ifNil l28_2 <|
  g39_J1 T hs x0 f3 o3 x4 p28.2)
  (cond (((b15.toNat : Int) : Int) == 13)
  ((CT T hs 20 [(.pointer (some ⟨f3, o3, some 0⟩)), (.string (⟨#[92, 114]⟩ : ByteArray))] H).bind fun p32 =>
  ifTup p32.1 fun l32 =>
  ifCons l32 fun v32 l32_1 =>
  ifInt .i64 v32 fun x32 =>
  ifCons l32_1 fun v32_1 l32_2 =>
  ifNil l32_2 <|
  g39_J1 T hs x0 f3 o3 x4 p32.2)
  (cond (((b15.toNat : Int) : Int) == 9)
  ((CT T hs 20 [(.pointer (some ⟨f3, o3, some 0⟩)), (.string (⟨#[92, 116]⟩ : ByteArray))] H).bind fun p36 =>
  ifTup p36.1 fun l36 =>
  ifCons l36 fun v36 l36_1 =>
  ifInt .i64 v36 fun x36 =>
  ifCons l36_1 fun v36_1 l36_2 =>
  ifNil l36_2 <|
  g39_J1 T hs x0 f3 o3 x4 p36.2)
  (cond (((b15.toNat : Int) : Int) == 39)
  (g39_J2 T hs x0 f3 o3 x4 (b15.toNat : Int) true H)
  (g39_J2 T hs x0 f3 o3 x4 (b15.toNat : Int) (((b15.toNat : Int) : Int) == 92) H)))))
  ((CT T hs 17 [(.pointer (some ⟨f3, o3, some 0⟩)), (.int .u8 39)] H).bind fun p56 =>
  (CT T hs 23 [(.pointer (some ⟨f3, o3, some 0⟩))] p56.2).bind fun p57 =>
  ifStr p57.1 fun x57 =>
  some ((.string x57), p57.2))
theorem g39_L0_step (T : Nat → Option AFn) (hs : Heap → Heap → Bool) (x0 : ByteArray) (f3 : Nat) (o3 : Nat) (x4 : Int) (H : Heap) : loopB T hs Y39 [0, 3, 4] F39_C3 [(.v (.string x0)), .no, .no, (.v (.pointer (some ⟨f3, o3, some 0⟩))), (.v (.int .i64 x4)), .no, .no, .no, .no, .no, .no, .no, .no, .no, .no, .no, .no, .no, .no, .no, .no, .no, .no, .no, .no, .no, .no, .no, .no, .no, .no, .no, .no, .no, .no, .no, .no, .no, .no, .no, .no, .no, .no, .no, .no, .no, .no, .no, .no, .no, .no, .no, .no, .no, .no, .no, .no, .no] H (F39_K1 T hs) = s39_L0 T hs x0 f3 o3 x4 H := by kernel_rfl
theorem g39_L0_ok {T : Nat → Option AFn} {hs : Heap → Heap → Bool} {x0 : ByteArray} {f3 : Nat} {o3 : Nat} {x4 : Int} {H : Heap} {r : Value × Heap} (h : s39_L0 T hs x0 f3 o3 x4 H = some r) : g39_L0 T hs x0 f3 o3 x4 H = some r := loopB_ok ((g39_L0_step T hs x0 f3 o3 x4 H).trans h)
theorem g39_L0_ret {T : Nat → Option AFn} {hs : Heap → Heap → Bool} {x0 : ByteArray} {f3 : Nat} {o3 : Nat} {x4 : Int} {H : Heap} {Q : Value → Heap → Prop} (h : Ret (s39_L0 T hs x0 f3 o3 x4 H) Q) : Ret (g39_L0 T hs x0 f3 o3 x4 H) Q := h.via fun _ q => g39_L0_ok q
noncomputable def s39_J1 (T : Nat → Option AFn) (hs : Heap → Heap → Bool) (x0 : ByteArray) (f3 : Nat) (o3 : Nat) (x4 : Int) (H : Heap) : Option (Value × Heap) :=
  g39_L0 T hs x0 f3 o3 (IntKind.wrap .i64 (x4 + 1)) H
theorem g39_J1_step (T : Nat → Option AFn) (hs : Heap → Heap → Bool) (x0 : ByteArray) (f3 : Nat) (o3 : Nat) (x4 : Int) (H : Heap) : runK T hs Y39 F39_C2 [(.v (.string x0)), .no, .no, (.v (.pointer (some ⟨f3, o3, some 0⟩))), (.v (.int .i64 x4)), .no, .no, .no, .no, .no, .no, .no, .no, .no, .no, .no, .no, .no, .no, .no, .no, .no, .no, .no, .no, .no, .no, .no, .no, .no, .no, .no, .no, .no, .no, .no, .no, .no, .no, .no, .no, .no, .no, .no, .no, .no, .no, .no, .no, .no, .no, .no, .no, .no, .no, .no, .no, .no] H (F39_K2 T hs) = s39_J1 T hs x0 f3 o3 x4 H := by kernel_rfl
theorem g39_J1_ok {T : Nat → Option AFn} {hs : Heap → Heap → Bool} {x0 : ByteArray} {f3 : Nat} {o3 : Nat} {x4 : Int} {H : Heap} {r : Value × Heap} (h : s39_J1 T hs x0 f3 o3 x4 H = some r) : g39_J1 T hs x0 f3 o3 x4 H = some r := join_intro ((g39_J1_step T hs x0 f3 o3 x4 H).trans h)
theorem g39_J1_ret {T : Nat → Option AFn} {hs : Heap → Heap → Bool} {x0 : ByteArray} {f3 : Nat} {o3 : Nat} {x4 : Int} {H : Heap} {Q : Value → Heap → Prop} (h : Ret (s39_J1 T hs x0 f3 o3 x4 H) Q) : Ret (g39_J1 T hs x0 f3 o3 x4 H) Q := h.via fun _ q => g39_J1_ok q
noncomputable def s39_J2 (T : Nat → Option AFn) (hs : Heap → Heap → Bool) (x0 : ByteArray) (f3 : Nat) (o3 : Nat) (x4 : Int) (x5 : Int) (x37 : Bool) (H : Heap) : Option (Value × Heap) :=
  cond x37
  ((CT T hs 17 [(.pointer (some ⟨f3, o3, some 0⟩)), (.int .u8 92)] H).bind fun p44 =>
  (CT T hs 17 [(.pointer (some ⟨f3, o3, some 0⟩)), (.int .u8 x5)] p44.2).bind fun p46 =>
  g39_J1 T hs x0 f3 o3 x4 p46.2)
  (cond (decide ((x5 : Int) ≥ 32))
  (g39_J3 T hs x0 f3 o3 x4 x5 (decide ((x5 : Int) ≤ 126)) H)
  (g39_J3 T hs x0 f3 o3 x4 x5 false H))
theorem g39_J2_step (T : Nat → Option AFn) (hs : Heap → Heap → Bool) (x0 : ByteArray) (f3 : Nat) (o3 : Nat) (x4 : Int) (x5 : Int) (x37 : Bool) (H : Heap) : runK T hs Y39 F39_C1 [(.v (.string x0)), .no, .no, (.v (.pointer (some ⟨f3, o3, some 0⟩))), (.v (.int .i64 x4)), (.v (.int .u8 x5)), .no, .no, .no, .no, .no, .no, .no, .no, .no, .no, .no, .no, .no, .no, .no, .no, .no, .no, .no, .no, .no, .no, .no, .no, .no, .no, .no, .no, .no, .no, .no, (.v (.bool x37)), .no, .no, .no, .no, .no, .no, .no, .no, .no, .no, .no, .no, .no, .no, .no, .no, .no, .no, .no, .no] H (F39_K5 T hs) = s39_J2 T hs x0 f3 o3 x4 x5 x37 H := by kernel_rfl
theorem g39_J2_ok {T : Nat → Option AFn} {hs : Heap → Heap → Bool} {x0 : ByteArray} {f3 : Nat} {o3 : Nat} {x4 : Int} {x5 : Int} {x37 : Bool} {H : Heap} {r : Value × Heap} (h : s39_J2 T hs x0 f3 o3 x4 x5 x37 H = some r) : g39_J2 T hs x0 f3 o3 x4 x5 x37 H = some r := join_intro ((g39_J2_step T hs x0 f3 o3 x4 x5 x37 H).trans h)
theorem g39_J2_ret {T : Nat → Option AFn} {hs : Heap → Heap → Bool} {x0 : ByteArray} {f3 : Nat} {o3 : Nat} {x4 : Int} {x5 : Int} {x37 : Bool} {H : Heap} {Q : Value → Heap → Prop} (h : Ret (s39_J2 T hs x0 f3 o3 x4 x5 x37 H) Q) : Ret (g39_J2 T hs x0 f3 o3 x4 x5 x37 H) Q := h.via fun _ q => g39_J2_ok q
noncomputable def s39_J3 (T : Nat → Option AFn) (hs : Heap → Heap → Bool) (x0 : ByteArray) (f3 : Nat) (o3 : Nat) (x4 : Int) (x5 : Int) (x47 : Bool) (H : Heap) : Option (Value × Heap) :=
  cond x47
  ((CT T hs 17 [(.pointer (some ⟨f3, o3, some 0⟩)), (.int .u8 x5)] H).bind fun p55 =>
  g39_J1 T hs x0 f3 o3 x4 p55.2)
  ((CT T hs 20 [(.pointer (some ⟨f3, o3, some 0⟩)), (.string (⟨#[92, 120]⟩ : ByteArray))] H).bind fun p16 =>
  ifTup p16.1 fun l16 =>
  ifCons l16 fun v16 l16_1 =>
  ifInt .i64 v16 fun x16 =>
  ifCons l16_1 fun v16_1 l16_2 =>
  ifNil l16_2 <|
  (atS (⟨#[48, 49, 50, 51, 52, 53, 54, 55, 56, 57, 97, 98, 99, 100, 101, 102]⟩ : ByteArray) (shrI .u8 x5 4)).bind fun b19 =>
  (CT T hs 17 [(.pointer (some ⟨f3, o3, some 0⟩)), (.int .u8 (b19.toNat : Int))] p16.2).bind fun p20 =>
  (atS (⟨#[48, 49, 50, 51, 52, 53, 54, 55, 56, 57, 97, 98, 99, 100, 101, 102]⟩ : ByteArray) (andI .u8 x5 15)).bind fun b23 =>
  (CT T hs 17 [(.pointer (some ⟨f3, o3, some 0⟩)), (.int .u8 (b23.toNat : Int))] p20.2).bind fun p24 =>
  g39_J1 T hs x0 f3 o3 x4 p24.2)
theorem g39_J3_step (T : Nat → Option AFn) (hs : Heap → Heap → Bool) (x0 : ByteArray) (f3 : Nat) (o3 : Nat) (x4 : Int) (x5 : Int) (x47 : Bool) (H : Heap) : runK T hs Y39 F39_C0 [(.v (.string x0)), .no, .no, (.v (.pointer (some ⟨f3, o3, some 0⟩))), (.v (.int .i64 x4)), (.v (.int .u8 x5)), .no, .no, .no, .no, .no, .no, .no, .no, .no, .no, .no, .no, .no, .no, .no, .no, .no, .no, .no, .no, .no, .no, .no, .no, .no, .no, .no, .no, .no, .no, .no, .no, .no, .no, .no, .no, .no, .no, .no, .no, .no, (.v (.bool x47)), .no, .no, .no, .no, .no, .no, .no, .no, .no, .no] H (F39_K5 T hs) = s39_J3 T hs x0 f3 o3 x4 x5 x47 H := by kernel_rfl
theorem g39_J3_ok {T : Nat → Option AFn} {hs : Heap → Heap → Bool} {x0 : ByteArray} {f3 : Nat} {o3 : Nat} {x4 : Int} {x5 : Int} {x47 : Bool} {H : Heap} {r : Value × Heap} (h : s39_J3 T hs x0 f3 o3 x4 x5 x47 H = some r) : g39_J3 T hs x0 f3 o3 x4 x5 x47 H = some r := join_intro ((g39_J3_step T hs x0 f3 o3 x4 x5 x47 H).trans h)
theorem g39_J3_ret {T : Nat → Option AFn} {hs : Heap → Heap → Bool} {x0 : ByteArray} {f3 : Nat} {o3 : Nat} {x4 : Int} {x5 : Int} {x47 : Bool} {H : Heap} {Q : Value → Heap → Prop} (h : Ret (s39_J3 T hs x0 f3 o3 x4 x5 x47 H) Q) : Ret (g39_J3 T hs x0 f3 o3 x4 x5 x47 H) Q := h.via fun _ q => g39_J3_ok q
noncomputable def s39 (T : Nat → Option AFn) (hs : Heap → Heap → Bool) (x0 : ByteArray) (H : Heap) : Option (Value × Heap) :=
  let H_1 := H ++ [.cells 51 1 [(.pointer none), (.slice none 0 0)] 0 0 0 false]
  (CT T hs 17 [(.pointer (some ⟨H.length, 0, some 0⟩)), (.int .u8 39)] H_1).bind fun p6 =>
  g39_L0 T hs x0 H.length 0 0 p6.2
theorem s39_run (T : Nat → Option AFn) (hs : Heap → Heap → Bool) (x0 : ByteArray) (H : Heap) : runFK T hs Y39 F39 [(.string x0)] H = s39 T hs x0 H := by kernel_rfl
theorem g39_ok {T : Nat → Option AFn} {hs : Heap → Heap → Bool} (hT : T 39 = some (.code F39)) {x0 : ByteArray} {H : Heap} {r : Value × Heap} (h : s39 T hs x0 H = some r) : CT T hs 39 [(.string x0)] H = some r := runFK_ok hT ((s39_run T hs x0 H).trans h)
theorem chk39 : chkFunc Tryd.prog 39 F39 = true := by kernel_rfl
/- internal/stringslite.TrimPrefix -/
def F41_C0 : ACode :=
  .seq (.reg [⟨(some 4), .mov (.c (.string ⟨#[]⟩)), none, false, none, 0⟩])
  (.seq (.seq (.reg [⟨(some 5), .mov (.t 0), none, false, none, 0⟩,
    ⟨(some 6), .mov (.t 1), none, false, none, 0⟩,
    ⟨(some 7), .call 49 [.t 5, .t 6], none, false, none, 0⟩])
  (.cond (.t 7)
  (.seq (.reg [⟨(some 8), .mov (.t 0), none, false, none, 0⟩,
    ⟨(some 9), .mov (.t 1), none, false, none, 0⟩,
    ⟨(some 10), .len true (.t 9), none, false, none, 0⟩,
    ⟨(some 11), .slStr (.t 8) (some (.t 10)) none, none, false, none, 0⟩,
    ⟨(some 4), .mov (.t 11), none, false, none, 0⟩])
  (.ret))
  (.skip)))
  (.seq (.reg [⟨(some 12), .mov (.t 0), none, false, none, 0⟩,
    ⟨(some 4), .mov (.t 12), none, false, none, 0⟩])
  (.ret)))
def F41 : AFunc := ⟨2, 13, [.tmp 4], F41_C0⟩
def Y41 : List VT := [.v (.one .str), .v (.one .str), .v (.one .any), .v (.one .any), .v (.one .str), .v (.one .str), .v (.one .str), .v (.one .bool), .v (.one .str), .v (.one .str), .v (.one (.int .i64)), .v (.one .str), .v (.one .str)]
noncomputable def s41 (T : Nat → Option AFn) (hs : Heap → Heap → Bool) (x0 : ByteArray) (x1 : ByteArray) (H : Heap) : Option (Value × Heap) :=
  (CT T hs 49 [(.string x0), (.string x1)] H).bind fun p7 =>
  ifBool p7.1 fun x7 =>
  cond x7
  ((ssA x0 (some (x1.size : Int)) none).bind fun s11 =>
  some ((.string s11), p7.2))
  (some ((.string x0), p7.2))
theorem s41_run (T : Nat → Option AFn) (hs : Heap → Heap → Bool) (x0 : ByteArray) (x1 : ByteArray) (H : Heap) : runFK T hs Y41 F41 [(.string x0), (.string x1)] H = s41 T hs x0 x1 H := by kernel_rfl
theorem g41_ok {T : Nat → Option AFn} {hs : Heap → Heap → Bool} (hT : T 41 = some (.code F41)) {x0 : ByteArray} {x1 : ByteArray} {H : Heap} {r : Value × Heap} (h : s41 T hs x0 x1 H = some r) : CT T hs 41 [(.string x0), (.string x1)] H = some r := runFK_ok hT ((s41_run T hs x0 x1 H).trans h)
theorem chk41 : chkFunc Tryd.prog 41 F41 = true := by kernel_rfl
/- internal/stringslite.HasPrefix -/
def F49_C0 : ACode :=
  .ret
def F49_C1 : ACode :=
  .seq (.reg [⟨(some 4), .mov (.c (.bool false)), none, false, none, 0⟩])
  (.seqj [4] (.reg [⟨(some 5), .mov (.t 0), none, false, none, 0⟩,
    ⟨(some 6), .len true (.t 5), none, false, none, 0⟩,
    ⟨(some 7), .mov (.t 1), none, false, none, 0⟩,
    ⟨(some 8), .len true (.t 7), none, false, none, 0⟩,
    ⟨(some 9), .bin .geq (.t 6) (.t 8), none, false, none, 0⟩,
    ⟨(some 10), .mov (.t 9), none, false, none, 0⟩,
    ⟨(some 11), .mov (.t 0), (some (10, true)), false, none, 0⟩,
    ⟨(some 12), .mov (.t 1), (some (10, true)), false, none, 0⟩,
    ⟨(some 13), .len true (.t 12), (some (10, true)), false, none, 0⟩,
    ⟨(some 14), .slStr (.t 11) none (some (.t 13)), (some (10, true)), false, none, 0⟩,
    ⟨(some 15), .mov (.t 1), (some (10, true)), false, none, 0⟩,
    ⟨(some 16), .bin .eql (.t 14) (.t 15), (some (10, true)), false, none, 0⟩,
    ⟨(some 17), .pick (.t 10) (.t 16) (.c (.bool false)), none, false, none, 0⟩,
    ⟨(some 4), .mov (.t 17), none, false, none, 0⟩])
  F49_C0)
def F49 : AFunc := ⟨2, 18, [.tmp 4], F49_C1⟩
def Y49 : List VT := [.v (.one .str), .v (.one .str), .v (.one .any), .v (.one .any), .v (.one .bool), .v (.one .str), .v (.one (.int .i64)), .v (.one .str), .v (.one (.int .i64)), .v (.one .bool), .v (.one .bool), .v (.one .str), .v (.one .str), .v (.one (.int .i64)), .v (.one .str), .v (.one .str), .v (.one .bool), .v (.one .bool)]
noncomputable def g49_J0 (T : Nat → Option AFn) (hs : Heap → Heap → Bool) (x4 : Bool) (H : Heap) : Option (Value × Heap) := joinK T hs F49_C0 [.no, .no, .no, .no, (.v (.bool x4)), .no, .no, .no, .no, .no, .no, .no, .no, .no, .no, .no, .no, .no] H (kontF F49)
noncomputable def s49_J0 (T : Nat → Option AFn) (hs : Heap → Heap → Bool) (x4 : Bool) (H : Heap) : Option (Value × Heap) :=
  some ((.bool x4), H)
theorem g49_J0_step (T : Nat → Option AFn) (hs : Heap → Heap → Bool) (x4 : Bool) (H : Heap) : runK T hs Y49 F49_C0 [.no, .no, .no, .no, (.v (.bool x4)), .no, .no, .no, .no, .no, .no, .no, .no, .no, .no, .no, .no, .no] H (kontF F49) = s49_J0 T hs x4 H := by kernel_rfl
theorem g49_J0_ok {T : Nat → Option AFn} {hs : Heap → Heap → Bool} {x4 : Bool} {H : Heap} {r : Value × Heap} (h : s49_J0 T hs x4 H = some r) : g49_J0 T hs x4 H = some r := join_intro ((g49_J0_step T hs x4 H).trans h)
theorem g49_J0_ret {T : Nat → Option AFn} {hs : Heap → Heap → Bool} {x4 : Bool} {H : Heap} {Q : Value → Heap → Prop} (h : Ret (s49_J0 T hs x4 H) Q) : Ret (g49_J0 T hs x4 H) Q := h.via fun _ q => g49_J0_ok q
noncomputable def s49 (T : Nat → Option AFn) (hs : Heap → Heap → Bool) (x0 : ByteArray) (x1 : ByteArray) (H : Heap) : Option (Value × Heap) :=
  cond (decide (((x0.size : Int) : Int) ≥ (x1.size : Int)))
  ((ssA x0 none (some (x1.size : Int))).bind fun s14 =>
  g49_J0 T hs ((s14.toList == x1.toList)) H)
  (g49_J0 T hs false H)
theorem s49_run (T : Nat → Option AFn) (hs : Heap → Heap → Bool) (x0 : ByteArray) (x1 : ByteArray) (H : Heap) : runFK T hs Y49 F49 [(.string x0), (.string x1)] H = s49 T hs x0 x1 H := by kernel_rfl
theorem g49_ok {T : Nat → Option AFn} {hs : Heap → Heap → Bool} (hT : T 49 = some (.code F49)) {x0 : ByteArray} {x1 : ByteArray} {H : Heap} {r : Value × Heap} (h : s49 T hs x0 x1 H = some r) : CT T hs 49 [(.string x0), (.string x1)] H = some r := runFK_ok hT ((s49_run T hs x0 x1 H).trans h)
theorem chk49 : chkFunc Tryd.prog 49 F49 = true := by kernel_rfl
end Go.Proofs.YtknogapmjleliaaDoor
