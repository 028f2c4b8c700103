/- Words for contracts: texts as lists of bytes, numbers that fit. No condition. -/
import Derived.Test.YtknogapmjleliaaDoorAmSb
import Derived.Laws.BitsLemmas
import Derived.Lib.Strings
namespace Go.AM
open Go

theorem w64 {n : Int} (h0 : -9223372036854775808 ≤ n) (h1 : n ≤ 9223372036854775807) : IntKind.wrap .i64 n = n := by
  rw [IntKind.wrap_i64]; omega
theorem w8 {n : Int} (h0 : 0 ≤ n) (h1 : n ≤ 255) : IntKind.wrap .u8 n = n := by
  rw [IntKind.wrap_u8]; omega

def bs (l : List UInt8) : ByteArray := ⟨l.toArray⟩

theorem bs_of (s : ByteArray) : bs s.data.toList = s := by simp [bs]
theorem bs_size (l : List UInt8) : (bs l).size = l.length := by simp [bs, ByteArray.size]
theorem bs_data (l : List UInt8) : (bs l).data.toList = l := by simp [bs]
theorem bs_toList (l : List UInt8) : (bs l).toList = l := by rw [ByteArray.toList_eq]; simp [bs]
theorem bs_inj {l k : List UInt8} (h : bs l = bs k) : l = k := by
  have := congrArg (fun s : ByteArray => s.data.toList) h
  simpa [bs] using this
theorem bs_get (l : List UInt8) (j : Nat) : (bs l)[j]? = l[j]? := by
  rcases Nat.lt_or_ge j l.length with h | h
  · have h' : j < (bs l).size := by rw [bs_size]; exact h
    rw [getElem?_pos (bs l) j h', List.getElem?_eq_getElem h]
    rfl
  · rw [getElem?_neg (bs l) j (by rw [bs_size]; omega), List.getElem?_eq_none h]
theorem atS_bs (l : List UInt8) {i : Int} {j : Nat} (h : i = j) : atS (bs l) i = l[j]? := by
  subst h
  simp [atS, bs_get]

theorem bs_extract (l : List UInt8) (a b : Nat) : (bs l).extract a b = bs ((l.drop a).take (b - a)) := by
  apply ByteArray.ext
  rw [ByteArray.data_extract]
  apply Array.ext'
  simp [bs, List.extract_eq_take_drop]

theorem ssA_from (l : List UInt8) {i : Int} {j : Nat} (h : i = j) (hj : j ≤ l.length) : ssA (bs l) (some i) none = some (bs (l.drop j)) := by
  subst h
  have h2 : (j : Int) ≤ (l.length : Int) := by omega
  simp only [ssA, bndI, hiI, loI, bs_size, bs_extract, Option.bind_some]
  rw [if_pos (by omega)]
  simp only [Option.bind_some, Int.toNat_natCast]
  rw [List.take_of_length_le (by simp)]
theorem ssA_upto (l : List UInt8) {i : Int} {j : Nat} (h : i = j) (hj : j ≤ l.length) : ssA (bs l) none (some i) = some (bs (l.take j)) := by
  subst h
  have h2 : (j : Int) ≤ (l.length : Int) := by omega
  simp [ssA, bndI, hiI, loI, bs_size, bs_extract, h2]
theorem ssA_both (l : List UInt8) {i k : Int} {j m : Nat} (h : i = j) (h' : k = m) (hj : j ≤ m) (hm : m ≤ l.length) : ssA (bs l) (some i) (some k) = some (bs ((l.drop j).take (m - j))) := by
  subst h; subst h'
  have h2 : (m : Int) ≤ (l.length : Int) := by omega
  have h3 : (j : Int) ≤ (m : Int) := by omega
  simp [ssA, bndI, hiI, loI, bs_size, bs_extract, h2, hj]

theorem bs_append (a b : List UInt8) : bs a ++ bs b = bs (a ++ b) := by
  apply ByteArray.ext
  rw [ByteArray.data_append]
  apply Array.ext'
  simp [bs]

theorem binS_add (a b : List UInt8) (h : a.length + b.length ≤ 9223372036854775807) : binS .add (bs a) (bs b) = some (.string (bs (a ++ b))) := by
  simp only [binS, bs_size]
  rw [if_neg (by omega), bs_append]

theorem bytesOf_map : ∀ l : List UInt8, bytesOf (l.map fun b => Value.int .u8 b.toNat) = some l
  | [] => rfl
  | b :: l => by
    simp only [List.map_cons, bytesOf]
    rw [bytesOf_map l]
    simp

/-- append of bytes laid in a row of their own first -/
theorem Own.lit {B : Nat} {H : Heap} {ty n c : Nat} {a : Option Addr} {xs : List (List Value)} (h : Own B H ty 1 a n c xs) (hB : B ≤ H.length) (l : List UInt8) {ty' : Nat} (hl : 0 < l.length) (hb : (n + l.length) * 1 ≤ 1099511627776) :
    ∃ a' c' H', apA (H ++ [.cells ty' 1 (l.map fun b => Value.int .u8 b.toNat) 0 0 0 false]) ty 1 1 (.slice a n c) (.slice (some ⟨H.length, 0, some 0⟩) l.length l.length) = some (.slice a' (n + l.length) c', H') ∧ Own B H' ty 1 a' (n + l.length) c' (xs ++ l.map fun b => [Value.int .u8 b.toNat]) ∧ Chd a a' H H' := by
  have p := Pre.app H [.cells ty' 1 (l.map fun b => Value.int .u8 b.toNat) 0 0 0 false]
  have hf : (l.map fun b => [Value.int .u8 b.toNat]).flatten = l.map fun b => Value.int .u8 b.toNat := by
    clear hl hb p
    induction l with
    | nil => rfl
    | cons x l ih => simp [ih]
  have hs : Sl (H ++ [.cells ty' 1 (l.map fun b => Value.int .u8 b.toNat) 0 0 0 false]) 1 (some ⟨H.length, 0, some 0⟩) l.length l.length (l.map fun b => [Value.int .u8 b.toNat]) := by
    refine ⟨by simp, Nat.le_refl _, by simp, .inr ⟨H.length, 0, 0, ty', _, 0, 0, 0, false, rfl, List.getElem?_concat_length, Nat.le_refl _, Nat.le_refl _, ?_, by simp⟩⟩
    rw [hf]; simp only [cut, List.drop_zero, Nat.mul_one]
    rw [List.take_of_length_le (by simp)]
  obtain ⟨a', c', H', q, r, k⟩ := (h.mono p).app (bytes := 1) (by simp; omega) hs hb
  refine ⟨a', c', H', q, r, ⟨?_, ?_, ?_, k.off⟩⟩
  · have := k.len; simp at this; omega
  · intro g hg hr
    rw [k.old g (by simp; omega) hr, List.getElem?_append_left hg]
  · rcases k.row with e | ⟨g, e, e1, e2⟩
    · exact .inl e
    · exact .inr ⟨g, e, by simp at e1; omega, e2⟩

end Go.AM
