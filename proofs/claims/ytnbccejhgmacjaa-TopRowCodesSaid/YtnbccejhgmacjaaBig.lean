/- Contract of the laws' own big. -/
import Derived.Test.YtnbccejhgmacjaaOct
namespace Go.Proofs.Ytnbccejhgmacjaa
open Go.RowKit
set_option linter.unusedVariables false
set_option linter.unusedSimpArgs false
/-! ### big -/
theorem putL_length (n : Int) (m : Nat) : (putL n m).length = m := by simp [putL]
theorem conv_one (W : World) (x : Int) : Sem.run Try.prog (convert 23 9 (.slice (some ⟨W.heap.size, 0, none⟩) 1 1)) (W.alloc (.cells #[.int .u8 x] 5)) = .ok (.string (strOfNums [x])) (W.alloc (.cells #[.int .u8 x] 5)) :=
  run_convert_bytes_arg _ 23 5 Try.underlying23 Try.underlying5 W.heap.size 0 1 1 [x] rfl (fun i hi => by
    obtain rfl : i = 0 := by omega
    rw [cell_blk (heap_alloc_new W _)]; rfl) 9 Try.underlying9
theorem conv_one_at (W : World) (n : Nat) (x : Int) (h : W.heap.size = n) : Sem.run Try.prog (convert 23 9 (.slice (some ⟨n, 0, none⟩) 1 1)) (W.alloc (.cells #[.int .u8 x] 5)) = .ok (.string (strOfNums [x])) (W.alloc (.cells #[.int .u8 x] 5)) := by
  subst h; exact conv_one W x
theorem conv_two (W : World) (x y : Int) : Sem.run Try.prog (convert 23 9 (.slice (some ⟨W.heap.size, 0, none⟩) 2 2)) (W.alloc (.cells #[.int .u8 x, .int .u8 y] 5)) = .ok (.string (strOfNums [x, y])) (W.alloc (.cells #[.int .u8 x, .int .u8 y] 5)) :=
  run_convert_bytes_arg _ 23 5 Try.underlying23 Try.underlying5 W.heap.size 0 2 2 [x, y] rfl (fun i hi => by
    have : i = 0 ∨ i = 1 := by omega
    rcases this with rfl | rfl <;> (rw [cell_blk (heap_alloc_new W _)]; rfl)) 9 Try.underlying9
theorem shr_u64 (n : Int) (i : Nat) (h : i ≤ 7) : IntKind.u64.wrap n / 2 ^ (8 * i) % 256 = n / 2 ^ (8 * i) % 256 := by
  rw [IntKind.wrap_u64]
  have : i = 0 ∨ i = 1 ∨ i = 2 ∨ i = 3 ∨ i = 4 ∨ i = 5 ∨ i = 6 ∨ i = 7 := by omega
  rcases this with rfl | rfl | rfl | rfl | rfl | rfl | rfl | rfl <;> simp <;> omega
theorem strOf_app (a b : List Int) : strOfNums a ++ strOfNums b = strOfNums (a ++ b) := by
  apply ByteArray.ext
  simp [strOfNums]

set_option maxHeartbeats 400000 in
set_option maxRecDepth 100000 in
theorem big_any (n : Int) (m : Nat) (w : World) (h8 : m ≤ 8) :
    Calls Try.prog 9 #[.int .i64 n, .int .i64 m] w fun e w' => e = .returned (.string (strOfNums (putL n m))) ∧ Below w.heap.size w w' := by
  have hcv := conv_one
  go_enter Try.func9, Try.ntmps9
  go_wp2
  go_loopw [5, 6] (fun s i wr => ∃ k : Nat, k ≤ m ∧ i = .int .i64 ((m : Int) - 1 - k) ∧ s = .string (strOfNums ((putL n m).take k)) ∧ Below w.heap.size w wr) (fun _ i _ => (intOf i + 1).toNat)
  case atStart => exact ⟨0, Nat.zero_le _, by simp, rfl, Below.refl _ _⟩
  case round =>
    obtain ⟨k, hk, rfl, rfl, hbel⟩ := hrel
    by_cases hlt : k < m
    · have hp : (strOfNums ((putL n m).take k)).size ≤ 8 := by rw [strOfNums_size, List.length_take]; omega
      generalize hq : strOfNums ((putL n m).take k) = p at hp ⊢
      have HQ := Lib.hid hq
      clear hq
      have hsub : 0 ≤ (m : Int) - 1 - k := by omega
      have hone' : (strOfNums [n / 2 ^ (8 * (m - 1 - k)) % 256]).size ≤ 1 := by rw [strOfNums_size]; simp
      go_wp2
      go_roundw
      case rel =>
        refine ⟨k + 1, by omega, by go_num, ?_, hbel.alloc hbel.size _⟩
        rw [← HQ.out, strOf_app, List.take_succ_eq_append_getElem (by rw [putL_length]; exact hlt)]
        simp [putL, putByte, shr_u64 n (m - 1 - k) (by omega)]
      case measure => simp [intOf]; omega
    · obtain rfl : k = m := by omega
      go_wp2
      go_ret
      refine ⟨ret_of ?_, hbel⟩
      show Value.string (strOfNums ((putL n k).take k)) = _
      rw [List.take_of_length_le (by rw [putL_length]; omega)]

theorem ofInt_wrap64 (x : Int) : BitVec.ofInt 64 (wrap64 x) = BitVec.ofInt 64 x := by
  apply BitVec.eq_of_toNat_eq
  rw [BitVec.toNat_ofInt, BitVec.toNat_ofInt]
  unfold wrap64
  omega
theorem or_i64 {v c : Nat} (hv : v < 72057594037927936) (hc : c < 256) : bits .or .i64 (wrap64 (wrap64 (v : Int) * 256)) (c : Int) = wrap64 ((v * 256 + c : Nat) : Int) := by
  have e1 : wrap64 (v : Int) = v := IntWalk.wrap64_in _ ⟨by omega, by omega⟩
  have e2 : v * 256 ||| c = v * 256 + c := by
    have := Nat.two_pow_add_eq_or_of_lt (i := 8) (b := c) (by omega) v
    rw [Nat.mul_comm]; exact this.symm
  have e3 : (BitVec.ofInt 64 ((v : Int) * 256)).toNat = v * 256 := by
    rw [show ((v : Int) * 256) = ((v * 256 : Nat) : Int) from by omega, BitVec.ofInt_natCast, BitVec.toNat_ofNat]; exact Nat.mod_eq_of_lt (by omega)
  have e4 : (BitVec.ofInt 64 (c : Int)).toNat = c := by rw [BitVec.ofInt_natCast, BitVec.toNat_ofNat]; exact Nat.mod_eq_of_lt (by omega)
  show IntKind.i64.wrap ((BitVec.ofInt 64 (wrap64 (wrap64 (v : Int) * 256)) ||| BitVec.ofInt 64 (c : Int)).toNat : Int) = _
  rw [ofInt_wrap64, e1, BitVec.toNat_or, e3, e4, e2]
  exact IntWalk.i64_left _

/-! ### The same, as total functions -/
def wantS (n size : Int) : ByteArray := if 0 ≤ size ∧ size ≤ 8 then strOfNums (putL n size.toNat) else ⟨#[]⟩
theorem put_any (n size : Int) (w : World) :
    Calls Try.prog 10 #[.int .i64 n, .int .i64 size] w fun e w' => e = .returned (.string (wantS n size)) ∧ Below w.heap.size w w' := by
  by_cases h : 0 ≤ size ∧ size ≤ 8
  · rw [show wantS n size = _ from if_pos h]
    exact put_good n size w h.1 h.2
  · rw [show wantS n size = _ from if_neg h]
    exact (put_bad n size w (by omega)).mono fun _ _ ⟨he, hw⟩ => ⟨he, hw ▸ Below.refl _ _⟩
def mayB (s : ByteArray) (a n : Int) : Bool := decide (1 ≤ n ∧ n ≤ 8 ∧ 0 ≤ a ∧ a + n ≤ s.size)
def dueN (s : ByteArray) (a n : Int) : Int := if mayB s a n then wrap64 (beL ((s.data.toList.drop a.toNat).take n.toNat)) else 0
theorem get_tot (s : ByteArray) (a n : Int) (w : World) (hs : s.size ≤ 140737488351232) (ha : -9223372036854775808 ≤ a ∧ a ≤ 9223372036854775807) :
    Calls Try.prog 11 #[.string s, .int .i64 a, .int .i64 n] w fun e w' => e = .returned (.tuple #[.int .i64 (dueN s a n), .bool (mayB s a n)]) ∧ Below w.heap.size w w' := by
  refine (get_any s a n w hs ha).mono fun e w' ⟨he, hw⟩ => ⟨he.trans (ret_of ?_), hw⟩
  unfold getV dueN mayB
  split
  · rename_i h; simp [h]
  · rename_i h; simp [h]
def gtB (s : ByteArray) (a : Nat) : Bool := decide (a + 2 + beL ((s.data.toList.drop a).take 2) ≤ s.size)
def gtS (s : ByteArray) (a : Nat) : ByteArray := if gtB s a then s.extract (a + 2) (a + 2 + beL ((s.data.toList.drop a).take 2)) else ⟨#[]⟩
def gtN (s : ByteArray) (a : Nat) : Int := if gtB s a then a + 2 + (beL ((s.data.toList.drop a).take 2) : Int) else 0
theorem getText_tot (s : ByteArray) (a : Nat) (w : World) (hs : s.size ≤ 1000000) (ha : a ≤ 1000000) :
    Calls Try.prog 12 #[.string s, .int .i64 a] w fun e w' => e = .returned (.tuple #[.string (gtS s a), .int .i64 (gtN s a), .bool (gtB s a)]) ∧ Below w.heap.size w w' := by
  by_cases h : a + 2 + beL ((s.data.toList.drop a).take 2) ≤ s.size
  · refine (getText_good s a _ w hs ha rfl h).mono fun e w' ⟨he, hw⟩ => ⟨he.trans (ret_of ?_), hw⟩
    simp [gtS, gtN, gtB, h]
  · refine (getText_bad s a _ w hs ha rfl (by omega)).mono fun e w' ⟨he, hw⟩ => ⟨he.trans (ret_of ?_), hw⟩
    simp [gtS, gtN, gtB, h]
theorem putText_is (s t : ByteArray) (w : World) (hs : s.size ≤ 65535) (h : t = strOfNums [0, (s.size : Int)] ++ s) (h8 : s.size ≤ 255) :
    Calls Try.prog 13 #[.string s] w fun e w' => e = .returned (.string t) ∧ Below w.heap.size w w' := by
  refine (putText_any s w hs).mono fun e w' ⟨he, hw⟩ => ⟨he.trans (ret_of ?_), hw⟩
  rw [h]
  have : putL (s.size : Int) 2 = [0, (s.size : Int)] := by
    simp [putL, putByte, List.range_succ, IntWalk.u64_in (s.size : Int) (by omega)]
    omega
  rw [this]
theorem seal_is (s t : ByteArray) (w : World) (hs : s.size ≤ 1000000) (h : t = strOfNums (putL (4294967295 - crcL s.data.toList) 4) ++ s) :
    Calls Try.prog 17 #[.string s] w fun e w' => e = .returned (.string t) ∧ Below w.heap.size w w' := by
  rw [h]; exact seal_any s w hs
def opB (s : ByteArray) : Bool := decide (4 ≤ s.size ∧ beL (s.data.toList.take 4) + crcL (s.data.toList.drop 4) = 4294967295)
def opS (s : ByteArray) : ByteArray := if opB s then s.extract 4 s.size else ⟨#[]⟩
theorem open_tot (s : ByteArray) (w : World) (hs : s.size ≤ 1000000) :
    Calls Try.prog 15 #[.string s] w fun e w' => e = .returned (.tuple #[.string (opS s), .bool (opB s)]) ∧ Below w.heap.size w w' := by
  by_cases h : 4 ≤ s.size
  · refine (open_long s _ _ w h hs rfl rfl).mono fun e w' ⟨he, hw⟩ => ⟨he.trans (ret_of ?_), hw⟩
    unfold openV
    split
    · rename_i h2; simp [opS, opB, h, h2]
    · rename_i h2; simp [opS, opB, h2]
  · refine (open_short s w (by omega)).mono fun e w' ⟨he, hw⟩ => ⟨he.trans (ret_of ?_), hw⟩
    simp [opS, opB, h]
end Go.Proofs.Ytnbccejhgmacjaa
