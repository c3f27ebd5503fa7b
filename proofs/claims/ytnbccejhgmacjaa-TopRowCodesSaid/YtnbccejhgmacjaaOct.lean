/- Contracts of package octet and of the laws' own big and summed. -/
import Derived.Test.YtnbccejhgmacjaaRows
import Derived.WalkKit
import Derived.WalkSpells
import Derived.WalkLawsBesides
import Derived.Lib.Hide
import Derived.Lib.Strings
import Derived.Lib.IndexBytes
import Derived.Lib.ConvBytes
import Derived.Deep.QuietTactic
import Derived.BigQuiet
import Derived.Deep.OwnRows
namespace Go.Proofs.Ytnbccejhgmacjaa
open Go.RowKit
set_option linter.unusedVariables false
set_option linter.unusedSimpArgs false

set_option maxHeartbeats 400000 in
theorem put_bad (n size : Int) (w : World) (h : size < 0 ∨ 8 < size) :
    Calls Try.prog 10 #[.int .i64 n, .int .i64 size] w fun e w' => e = .returned (.string ⟨#[]⟩) ∧ w = w' := by
  rcases h with h | h
  · go_enter Try.func10, Try.ntmps10
    go_wp2
    go_ret
    exact ⟨rfl, rfl⟩
  · have h' : decide (size < 0) = false := by simp; omega
    go_enter Try.func10, Try.ntmps10
    go_wp2
    go_ret
    exact ⟨rfl, rfl⟩

theorem info5 : (Try.prog.info? 5).map (fun i => (i.zero, i.size, i.bytes)) = some (some (.int .u8 0), 1, 1) := by kernel_rfl
theorem cell_blk {w : World} {g t : Nat} {cs : Array Value} (h : w.heap[g]? = some (.cells cs t (0, 0))) (i : Nat) : w.cell? ⟨g, i, none⟩ = cs[i]? := cell_of_row w g i cs t (0, 0) h
theorem frozen_blk {w : World} {g t : Nat} {cs : Array Value} (h : w.heap[g]? = some (.cells cs t (0, 0))) (i : Nat) : w.frozen? ⟨g, i, none⟩ = false := by simp [World.frozen?, h]


/-- Byte k of n in m bytes. -/
def putByte (n : Int) (m k : Nat) : Int := IntKind.u64.wrap n / 2 ^ (8 * (m - 1 - k)) % 256
def putCells (n : Int) (m k : Nat) : Array Value := ((List.range m).map fun i => Value.int .u8 (if i < k then putByte n m i else 0)).toArray
/-- n in m bytes, the highest one first. -/
def putL (n : Int) (m : Nat) : List Int := (List.range m).map (putByte n m)

theorem putCells_zero (n : Int) (m : Nat) : putCells n m 0 = madeCells #[.int .u8 0] m := by
  apply Array.toList_inj.1
  rw [toList_madeCells_one]
  simp [putCells, List.map_const']
theorem putCells_get (n : Int) (m k : Nat) (h : k < m) : (putCells n m k)[k]? = some (.int .u8 0) := by simp [putCells, h]
theorem putCells_set (n : Int) (m k : Nat) : (putCells n m k).setIfInBounds k (.int .u8 (putByte n m k)) = putCells n m (k + 1) := by
  apply Array.ext_getElem?
  intro i
  simp only [putCells, Array.getElem?_setIfInBounds, List.getElem?_toArray, List.getElem?_map]
  by_cases h : i < m
  · by_cases e : k = i
    · subst e; simp [h]
    · rw [if_neg e]
      simp [h]
      by_cases h2 : i < k
      · rw [if_pos h2, if_pos (by omega)]
      · rw [if_neg h2, if_neg (by omega)]
  · by_cases e : k = i
    · subst e; simp [h]
    · rw [if_neg e]; simp [h]
theorem putCells_all (n : Int) (m : Nat) : putCells n m m = ((putL n m).map (Value.int .u8)).toArray := by
  simp only [putCells, putL, List.map_map]
  congr 1
  apply List.map_congr_left
  intro i hi
  rw [if_pos (List.mem_range.1 hi)]; rfl

theorem heap_set {w : World} {g t : Nat} {cs : Array Value} (h : w.heap[g]? = some (.cells cs t (0, 0))) (i : Nat) (u : Value) :
    (w.setCell ⟨g, i, none⟩ u).heap[g]? = some (.cells (cs.setIfInBounds i u) t (0, 0)) := by
  simp [World.setCell, Array.getElem?_modify, h]
theorem heap_lt {w : World} {g : Nat} {o : Obj} (h : w.heap[g]? = some o) : g < w.heap.size := (Array.getElem?_eq_some_iff.1 h).1

set_option maxHeartbeats 400000 in
set_option maxRecDepth 100000 in
theorem put_good (n size : Int) (w : World) (h0 : 0 ≤ size) (h8 : size ≤ 8) :
    Calls Try.prog 10 #[.int .i64 n, .int .i64 size] w fun e w' => e = .returned (.string (strOfNums (putL n size.toNat))) ∧ Below w.heap.size w w' := by
  obtain ⟨m, rfl⟩ := Int.eq_ofNat_of_zero_le h0
  rw [show ((m : Int)).toNat = m from rfl]
  have hmk := fun w => Go.run_make_row' (P := Try.prog) 23 5 (.int .u8 0) 1 Try.underlying23 info5 rfl .i64 .i64 m (by omega) (by omega) w
  go_enter Try.func10, Try.ntmps10
  go_wp2
  go_loopw [17] (fun i wr => ∃ k : Nat, k ≤ m ∧ i = .int .i64 k ∧ wr.heap[w.heap.size]? = some (.cells (putCells n m k) 5 (0, 0)) ∧ Below w.heap.size w wr) (fun i _ => m - (intOf i).toNat)
  case atStart => exact ⟨0, Nat.zero_le _, rfl, by rw [putCells_zero]; exact heap_alloc_new w _, (Below.refl _ _).alloc (Nat.le_refl _) _⟩
  case round =>
    obtain ⟨k, hk, rfl, hb, hbel⟩ := hrel
    by_cases hlt : k < m
    · have c1 := cell_blk hb k
      have c2 := frozen_blk hb k
      have c3 := heap_lt hb
      rw [putCells_get n m k hlt] at c1
      have HB := Lib.hid hb
      clear hb
      go_wp2
      go_roundw
      case rel => exact ⟨k + 1, by omega, by go_num, by rw [heap_set HB.out, ← putCells_set]; rfl, hbel.setCell (Nat.le_refl _) _⟩
      case measure => simp [intOf]; omega
    · obtain rfl : k = m := by omega
      have hcv := run_convert_bytes_arg wr 23 5 Try.underlying23 Try.underlying5 w.heap.size 0 k k (putL n k) (by simp [putL]) (fun i hi => by
        rw [cell_blk hb, putCells_all]; simp [putL, hi]) 9 Try.underlying9
      clear hb
      go_wp2
      go_ret
      exact ⟨rfl, hbel⟩

set_option maxHeartbeats 400000 in
theorem get_bad (s : ByteArray) (at_ size : Int) (w : World) (hs : s.size ≤ 140737488351232) (ha : -9223372036854775808 ≤ at_ ∧ at_ ≤ 9223372036854775807) (h : size < 1 ∨ 8 < size ∨ at_ < 0 ∨ s.size < at_ + size) :
    Calls Try.prog 11 #[.string s, .int .i64 at_, .int .i64 size] w fun e w' => e = .returned (.tuple #[.int .i64 0, .bool false]) ∧ w = w' := by
  by_cases h1 : size < 1
  · go_enter Try.func11, Try.ntmps11
    go_wp2
    go_ret2
    exact ⟨rfl, rfl⟩
  by_cases h2 : 8 < size
  · have h1' : decide (size < 1) = false := by simp; omega
    go_enter Try.func11, Try.ntmps11
    go_wp2
    go_ret2
    exact ⟨rfl, rfl⟩
  have h1' : decide (size < 1) = false := by simp; omega
  have h2' : decide (8 < size) = false := by simp; omega
  by_cases h3 : at_ < 0
  · go_enter Try.func11, Try.ntmps11
    go_wp2
    go_ret2
    exact ⟨rfl, rfl⟩
  have h3' : decide (at_ < 0) = false := by simp; omega
  by_cases h4 : (s.size : Int) < at_
  · go_enter Try.func11, Try.ntmps11
    go_wp2
    go_ret2
    exact ⟨rfl, rfl⟩
  have h4' : decide ((s.size : Int) < at_) = false := by simp; omega
  have h5 : decide ((s.size : Int) - at_ < size) = true := by simp; omega
  go_enter Try.func11, Try.ntmps11
  go_wp2
  go_ret2
  exact ⟨rfl, rfl⟩

/-- The number of bytes, the highest one first. -/
def beL (l : List UInt8) : Nat := l.foldl (fun n c => n * 256 + c.toNat) 0


theorem conv_bytes (s : ByteArray) (w : World) : ∃ (c : Nat) (W : World), Sem.run Try.prog (convert 9 23 (.string s)) w = .ok (.slice (some ⟨w.heap.size, 0, none⟩) s.size c) W ∧ s.size ≤ c ∧
    (∀ j, j < s.size → W.cell? ⟨w.heap.size, j, none⟩ = some (.int .u8 (s.data.toList.getD j 0).toNat)) ∧ (∀ j, j < s.size → W.frozen? ⟨w.heap.size, j, none⟩ = false) ∧ Below w.heap.size w W ∧ w.heap.size < W.heap.size := by
  refine ⟨_, _, Lib.run_convert_string_bytes w 9 23 5 s Try.underlying9 Try.underlying23 Try.underlying5, ?_, fun j hj => Lib.bytesWorld_cell w 5 s j hj, fun j hj => ?_, ⟨rfl, rfl, rfl, ?_, fun i hi => Lib.bytesWorld_at_old w 5 s i hi⟩, ?_⟩
  · exact grownCap_ge _ _ _ _
  · have := Lib.bytesWorld_at_new w 5 s
    simp [World.frozen?, this, Lib.bytesCells]; omega
  · rw [Lib.bytesWorld_size]; omega
  · rw [Lib.bytesWorld_size]; omega

theorem ret_of {v v' : Value} (h : v = v') : Ending.returned v = Ending.returned v' := by rw [h]
theorem beL_snoc (l : List UInt8) (c : UInt8) : beL (l ++ [c]) = beL l * 256 + c.toNat := by simp [beL]
theorem beL_lt (l : List UInt8) : beL l < 256 ^ l.length := by
  suffices h : ∀ n, l.foldl (fun n c => n * 256 + c.toNat) n < (n + 1) * 256 ^ l.length by simpa [beL] using h 0
  induction l with
  | nil => intro n; simp
  | cons c l ih =>
    intro n
    simp only [List.foldl_cons, List.length_cons]
    refine Nat.lt_of_lt_of_le (ih _) ?_
    rw [Nat.pow_succ, Nat.mul_comm (256 ^ _), ← Nat.mul_assoc]
    exact Nat.mul_le_mul_right _ (by have := c.toNat_lt; omega)

set_option maxHeartbeats 400000 in
set_option maxRecDepth 100000 in
theorem get_good (s : ByteArray) (a n : Nat) (w : World) (hs : s.size ≤ 140737488351232) (h1 : 1 ≤ n) (h8 : n ≤ 8) (h : a + n ≤ s.size) :
    Calls Try.prog 11 #[.string s, .int .i64 a, .int .i64 n] w fun e w' => e = .returned (.tuple #[.int .i64 (wrap64 (beL ((s.data.toList.drop a).take n))), .bool true]) ∧ Below w.heap.size w w' := by
  have h1' : decide ((n:Int) < 1) = false := by simp; omega
  have h2' : decide ((8:Int) < (n:Int)) = false := by simp; omega
  have h3' : decide ((a:Int) < 0) = false := by simp
  have h4' : decide (s.size < a) = false := by simp; omega
  have h5 : decide ((s.size : Int) - a < n) = false := by simp; omega
  obtain ⟨c, W, hcv, hc, hcell, _, hbel, _⟩ := conv_bytes (s.extract a (a + n)) w
  have hz : (s.extract a (a + n)).size = n := by simp; omega
  rw [hz] at hc hcell hcv
  have Hz := Lib.hid hz
  clear hz
  have hl : (s.extract a (a + n)).data.toList = (s.data.toList.drop a).take n := by rw [Lib.extract_data]; congr 1; omega
  rw [hl] at hcell
  clear hl
  generalize hL : (s.data.toList.drop a).take n = l at hcell ⊢
  have hll : l.length = n := by rw [← hL]; simp; omega
  have HL := Lib.hid hL
  have HLL := Lib.hid hll
  clear hL hll
  go_enter Try.func11, Try.ntmps11
  go_wp2
  go_loop [8, 43] (fun x i => ∃ k : Nat, k ≤ n ∧ i = .int .i64 k ∧ x = .int .u64 (beL (l.take k))) (fun _ i => n - (intOf i).toNat)
  case atStart => exact ⟨0, Nat.zero_le _, rfl, rfl⟩
  case round =>
    obtain ⟨k, hk, rfl, rfl⟩ := hrel
    by_cases hlt : k < n
    · have c1 := hcell k hlt
      go_wp2
      go_round
      case rel =>
        refine ⟨k + 1, by omega, by go_num, ?_⟩
        have e : l.take (k + 1) = l.take k ++ [l[k]?.getD 0] := by
          rw [List.take_succ_eq_append_getElem (by rw [HLL.out]; exact hlt), List.getElem?_eq_getElem (by rw [HLL.out]; exact hlt)]; rfl
        have hb := (l[k]?.getD 0).toNat_lt
        have hlt' : beL (l.take k) < 256 ^ 7 := Nat.lt_of_lt_of_le (beL_lt _) (Nat.pow_le_pow_right (by omega) (by rw [List.length_take]; omega))
        rw [e, beL_snoc]
        rw [show (256:Nat) ^ 7 = 72057594037927936 from rfl] at hlt'
        rw [IntWalk.u64_in _ (by omega), IntWalk.u64_in _ (by omega), bits_join .u64 64 (by decide) (fun n h0 h1 => IntWalk.u64_in n (by omega)) 8 _ _ (by omega) (by omega) (by omega) (by omega) (by omega) (by omega)]
        simp
      case measure => simp [intOf]; omega
    · obtain rfl : k = n := by omega
      go_wp2
      go_ret2
      refine ⟨ret_of ?_, hbel⟩
      show Value.tuple #[.int .i64 (wrap64 (beL (l.take k))), .bool true] = _
      rw [List.take_of_length_le (by rw [HLL.out]; omega)]

/-! ### The sums -/
def crcBit (n : Nat) : Nat := if n % 2 = 1 then n / 2 ^^^ 3988292384 else n / 2
def crcBits : Nat → Nat → Nat
  | 0, n => n
  | k + 1, n => crcBit (crcBits k n)
def crcByte (n : Nat) (c : UInt8) : Nat := crcBits 8 (n ^^^ c.toNat)
def crcL (l : List UInt8) : Nat := l.foldl crcByte 4294967295

theorem xor_lt32 {a b : Nat} (ha : a < 4294967296) (hb : b < 4294967296) : a ^^^ b < 4294967296 := Nat.xor_lt_two_pow (n := 32) ha hb
theorem crcBit_lt {n : Nat} (h : n < 4294967296) : crcBit n < 4294967296 := by
  unfold crcBit; split
  · exact xor_lt32 (by omega) (by omega)
  · omega
theorem crcBits_lt {n : Nat} (h : n < 4294967296) (k : Nat) : crcBits k n < 4294967296 := by
  induction k with
  | zero => exact h
  | succ k ih => exact crcBit_lt ih
theorem crcByte_lt {n : Nat} (h : n < 4294967296) (c : UInt8) : crcByte n c < 4294967296 := crcBits_lt (xor_lt32 h (by have := c.toNat_lt; omega)) 8
theorem foldl_crc_lt (l : List UInt8) : ∀ {n : Nat}, n < 4294967296 → l.foldl crcByte n < 4294967296 := by
  induction l with
  | nil => intro n h; exact h
  | cons c l ih => intro n h; exact ih (crcByte_lt h c)
theorem crcL_lt (l : List UInt8) : crcL l < 4294967296 := foldl_crc_lt l (by omega)
theorem bits_xor_u32_nat (a b : Nat) (ha : a < 4294967296) (hb : b < 4294967296) : bits .xor .u32 (a : Int) (b : Int) = ((a ^^^ b : Nat) : Int) := by
  have hx : a ^^^ b < 4294967296 := xor_lt32 ha hb
  have h1 : (BitVec.ofInt 32 (a : Int)).toNat = a := by
    rw [BitVec.ofInt_natCast, BitVec.toNat_ofNat]; exact Nat.mod_eq_of_lt (by omega)
  have h2 : (BitVec.ofInt 32 (b : Int)).toNat = b := by
    rw [BitVec.ofInt_natCast, BitVec.toNat_ofNat]; exact Nat.mod_eq_of_lt (by omega)
  show IntKind.u32.wrap ((BitVec.ofInt 32 (a : Int) ^^^ BitVec.ofInt 32 (b : Int)).toNat : Int) = _
  rw [BitVec.toNat_xor, h1, h2, IntKind.wrap_u32]
  omega
theorem take_snoc8 (s : ByteArray) (k : Nat) (h : k < s.size) : s.data.toList.take (k + 1) = s.data.toList.take k ++ [s[k]] := by
  rw [List.take_succ_eq_append_getElem (by simpa using h)]; rfl

theorem xor_ones {a : Nat} (h : a < 4294967296) : 4294967295 ^^^ a = 4294967295 - a := by
  have e := BitVec.toNat_not (x := BitVec.ofNat 32 a)
  rw [BitVec.not_def, BitVec.toNat_xor, BitVec.toNat_allOnes, BitVec.toNat_ofNat, Nat.mod_eq_of_lt (by omega)] at e
  omega
theorem crc_not {n : Nat} (h : n < 4294967296) : wrap64 (bits .xor .u32 IntKind.u32.max (n : Int)) = 4294967295 - n := by
  have e := bits_xor_u32_nat 4294967295 n (by omega) h
  rw [xor_ones h] at e
  rw [show IntKind.u32.max = ((4294967295 : Nat) : Int) from rfl, e]
  unfold wrap64
  omega

set_option maxHeartbeats 400000 in
theorem summed_any (s : ByteArray) (w : World) (hs : s.size ≤ 140737488351232) :
    Calls Try.prog 14 #[.string s] w fun e w' => e = .returned (.int .i64 (4294967295 - crcL s.data.toList)) ∧ w = w' := by
  have hs' : (s.size : Int) ≤ 140737488351232 := by omega
  go_enter Try.func14, Try.ntmps14
  go_wp2
  go_loop [3, 7] (fun x i => ∃ k : Nat, k ≤ s.size ∧ i = .int .i64 k ∧ x = .int .u32 (crcL (s.data.toList.take k))) (fun _ i => s.size - (intOf i).toNat)
  case atStart => exact ⟨0, Nat.zero_le _, rfl, rfl⟩
  case round =>
    obtain ⟨k, hk, rfl, rfl⟩ := hrel
    by_cases hlt : k < s.size
    · have hn := crcL_lt (s.data.toList.take k)
      have hts := take_snoc8 s k hlt
      have hcr : crcL (s.data.toList.take (k + 1)) = crcByte (crcL (s.data.toList.take k)) s[k] := by rw [hts]; simp [crcL]
      have HC := Lib.hid hcr
      clear hcr hts
      generalize crcL (s.data.toList.take k) = n at hn HC ⊢
      have hb := s[k].toNat_lt
      have hx : bits .xor .u32 (n : Int) (s[k].toNat : Int) = ((n ^^^ s[k].toNat : Nat) : Int) := bits_xor_u32_nat n _ hn (by omega)
      have hm : n ^^^ s[k].toNat < 4294967296 := xor_lt32 hn (by omega)
      go_wp2
      clear hx
      go_loop [3, 16] (fun x i => ∃ j : Nat, j ≤ 8 ∧ i = .int .i64 j ∧ x = .int .u32 (crcBits j (n ^^^ s[k].toNat))) (fun _ i => 8 - (intOf i).toNat)
      case atStart => exact ⟨0, Nat.zero_le _, rfl, rfl⟩
      case round =>
        obtain ⟨j, hj, rfl, rfl⟩ := hrel
        have hq := crcBits_lt hm j
        have hsu : crcBits (j + 1) (n ^^^ s[k].toNat) = crcBit (crcBits j (n ^^^ s[k].toNat)) := rfl
        have HS := Lib.hid hsu
        clear hsu
        generalize hq0 : crcBits j (n ^^^ s[k].toNat) = q at hq HS ⊢
        have HQ := Lib.hid hq0
        clear hq0
        by_cases hlj : j < 8
        · by_cases hodd : q % 2 = 1
          · have ho : ((q:Int) % 2 == 1) = true := by rw [beq_iff_eq]; omega
            go_wp2
            go_round
            case rel =>
              refine ⟨j + 1, by omega, by go_num, ?_⟩
              rw [HS.out, crcBit, if_pos hodd, ← bits_xor_u32_nat _ _ (by omega) (by omega)]
              rfl
            case measure => simp [intOf]; omega
          · have ho : ((q:Int) % 2 == 1) = false := by rw [beq_eq_false_iff_ne]; omega
            go_wp2
            go_round
            case rel =>
              refine ⟨j + 1, by omega, by go_num, ?_⟩
              rw [HS.out, crcBit, if_neg hodd]
              rfl
            case measure => simp [intOf]; omega
        · obtain rfl : j = 8 := by omega
          go_wp2
          go_round
          case rel =>
            exact ⟨k + 1, by omega, by go_num, by rw [HC.out, crcByte, HQ.out]⟩
          case measure => simp [intOf]; omega
    · obtain rfl : k = s.size := by omega
      have hn := crcL_lt (s.data.toList.take s.size)
      have hx : wrap64 (bits .xor .u32 IntKind.u32.max (crcL (s.data.toList.take s.size) : Int)) = 4294967295 - crcL s.data.toList := by
        rw [List.take_of_length_le (by simp)] at hn ⊢
        exact crc_not hn
      have HX := Lib.hid hx
      clear hx
      go_wp2
      go_ret
      exact ⟨ret_of (congrArg (Value.int .i64) HX.out), rfl⟩

theorem and_one_u32 {q : Nat} (h : q < 4294967296) : bits .and .u32 (q : Int) 1 = ((q % 2 : Nat) : Int) := by
  have e := (bits_nat .u32 32 (by decide) (fun n h0 h1 => by rw [IntKind.wrap_u32]; omega) q 1 (by omega) (by omega)).1
  rw [Nat.and_one_is_mod] at e
  exact e
theorem crc_step {q : Nat} (h : q < 4294967296) : bits .xor .u32 ((q : Int) / 2) (3988292384 * bits .and .u32 (q : Int) 1 % 4294967296) = (crcBit q : Int) := by
  rw [and_one_u32 h, show ((q : Int) / 2) = ((q / 2 : Nat) : Int) from by omega]
  unfold crcBit
  rcases Nat.mod_two_eq_zero_or_one q with e | e
  · rw [e, if_neg (by omega)]
    have := bits_xor_u32_nat (q / 2) 0 (by omega) (by omega)
    rw [Nat.xor_zero] at this
    exact this
  · rw [e, if_pos rfl]
    exact bits_xor_u32_nat (q / 2) 3988292384 (by omega) (by omega)

set_option maxHeartbeats 400000 in
theorem sum_any (s : ByteArray) (w : World) (hs : s.size ≤ 140737488351232) :
    Calls Try.prog 16 #[.string s] w fun e w' => e = .returned (.int .i64 (4294967295 - crcL s.data.toList)) ∧ w = w' := by
  have hs' : (s.size : Int) ≤ 140737488351232 := by omega
  go_enter Try.func16, Try.ntmps16
  go_wp2
  go_loop [3, 4] (fun x i => ∃ k : Nat, k ≤ s.size ∧ i = .int .i64 k ∧ x = .int .u32 (crcL (s.data.toList.take k))) (fun _ i => s.size - (intOf i).toNat)
  case atStart => exact ⟨0, Nat.zero_le _, rfl, rfl⟩
  case round =>
    obtain ⟨k, hk, rfl, rfl⟩ := hrel
    by_cases hlt : k < s.size
    · have hn := crcL_lt (s.data.toList.take k)
      have hts := take_snoc8 s k hlt
      have hcr : crcL (s.data.toList.take (k + 1)) = crcByte (crcL (s.data.toList.take k)) s[k] := by rw [hts]; simp [crcL]
      have HC := Lib.hid hcr
      clear hcr hts
      generalize crcL (s.data.toList.take k) = n at hn HC ⊢
      have hb := s[k].toNat_lt
      have hx : bits .xor .u32 (n : Int) (s[k].toNat : Int) = ((n ^^^ s[k].toNat : Nat) : Int) := bits_xor_u32_nat n _ hn (by omega)
      have hm : n ^^^ s[k].toNat < 4294967296 := xor_lt32 hn (by omega)
      go_wp2
      clear hx
      go_loop [3, 18] (fun x i => ∃ j : Nat, j ≤ 8 ∧ i = .int .i64 j ∧ x = .int .u32 (crcBits j (n ^^^ s[k].toNat))) (fun _ i => 8 - (intOf i).toNat)
      case atStart => exact ⟨0, Nat.zero_le _, rfl, rfl⟩
      case round =>
        obtain ⟨j, hj, rfl, rfl⟩ := hrel
        have hq := crcBits_lt hm j
        have hsu : crcBits (j + 1) (n ^^^ s[k].toNat) = crcBit (crcBits j (n ^^^ s[k].toNat)) := rfl
        have HS := Lib.hid hsu
        clear hsu
        generalize hq0 : crcBits j (n ^^^ s[k].toNat) = q at hq HS ⊢
        have HQ := Lib.hid hq0
        clear hq0
        by_cases hlj : j < 8
        · have hst := crc_step hq
          have HST := Lib.hid hst
          clear hst
          go_wp2
          go_round
          case rel => exact ⟨j + 1, by omega, by go_num, by rw [HS.out, ← HST.out]⟩
          case measure => simp [intOf]; omega
        · obtain rfl : j = 8 := by omega
          go_wp2
          go_round
          case rel =>
            exact ⟨k + 1, by omega, by go_num, by rw [HC.out, crcByte, HQ.out]⟩
          case measure => simp [intOf]; omega
    · obtain rfl : k = s.size := by omega
      have hn := crcL_lt (s.data.toList.take s.size)
      have hx : wrap64 (bits .xor .u32 IntKind.u32.max (crcL (s.data.toList.take s.size) : Int)) = 4294967295 - crcL s.data.toList := by
        rw [List.take_of_length_le (by simp)] at hn ⊢
        exact crc_not hn
      have HX := Lib.hid hx
      clear hx
      go_wp2
      go_ret
      exact ⟨ret_of (congrArg (Value.int .i64) HX.out), rfl⟩

/-! ### Seal, Open, PutText, GetText -/
theorem size_app (a b : ByteArray) : (a ++ b).size = a.size + b.size := by simp
theorem put_size (n : Int) (m : Nat) : (strOfNums (putL n m)).size = m := by simp [strOfNums_size, putL]

set_option maxHeartbeats 400000 in
theorem seal_any (s : ByteArray) (w : World) (hs : s.size ≤ 1000000) :
    Calls Try.prog 17 #[.string s] w fun e w' => e = .returned (.string (strOfNums (putL (4294967295 - crcL s.data.toList) 4) ++ s)) ∧ Below w.heap.size w w' := by
  have hp := Nat.le_of_eq (put_size (4294967295 - crcL s.data.toList) 4)
  go_enter Try.func17, Try.ntmps17
  go_wp2_with (first | (go_at_call 16; refine (sum_any _ _ (by omega)).mono ?_; rintro e w' ⟨rfl, rfl⟩) | (go_at_call 10; refine (put_good _ _ _ (by omega) (by omega)).mono ?_; rintro e w' ⟨rfl, hb⟩))
  go_ret
  exact ⟨rfl, hb⟩

set_option maxHeartbeats 400000 in
theorem putText_any (s : ByteArray) (w : World) (hs : s.size ≤ 65535) :
    Calls Try.prog 13 #[.string s] w fun e w' => e = .returned (.string (strOfNums (putL s.size 2) ++ s)) ∧ Below w.heap.size w w' := by
  have hp := Nat.le_of_eq (put_size s.size 2)
  have hs' : (s.size : Int) ≤ 65535 := by omega
  go_enter Try.func13, Try.ntmps13
  go_wp2_with (first | (go_at_call 10; refine (put_good _ _ _ (by omega) (by omega)).mono ?_; rintro e w' ⟨rfl, hb⟩))
  go_ret
  exact ⟨rfl, hb⟩

/-- What Get tells, in one word. -/
def getV (s : ByteArray) (a n : Int) : Value :=
  if 1 ≤ n ∧ n ≤ 8 ∧ 0 ≤ a ∧ a + n ≤ s.size then .tuple #[.int .i64 (wrap64 (beL ((s.data.toList.drop a.toNat).take n.toNat))), .bool true] else .tuple #[.int .i64 0, .bool false]
theorem get_any (s : ByteArray) (a n : Int) (w : World) (hs : s.size ≤ 140737488351232) (ha : -9223372036854775808 ≤ a ∧ a ≤ 9223372036854775807) :
    Calls Try.prog 11 #[.string s, .int .i64 a, .int .i64 n] w fun e w' => e = .returned (getV s a n) ∧ Below w.heap.size w w' := by
  by_cases h : 1 ≤ n ∧ n ≤ 8 ∧ 0 ≤ a ∧ a + n ≤ s.size
  · have e : getV s a n = _ := if_pos h
    rw [e]
    obtain ⟨h1, h2, h3, h4⟩ := h
    obtain ⟨m, rfl⟩ := Int.eq_ofNat_of_zero_le (show 0 ≤ n by omega)
    obtain ⟨b, rfl⟩ := Int.eq_ofNat_of_zero_le h3
    exact get_good s b m w hs (by omega) (by omega) (by omega)
  · have e : getV s a n = _ := if_neg h
    rw [e]
    exact (get_bad s a n w hs ha (by omega)).mono fun _ _ ⟨he, hw⟩ => ⟨he, hw ▸ Below.refl _ _⟩

theorem get_small (s : ByteArray) (a n b : Nat) (w : World) (hs : s.size ≤ 140737488351232) (h1 : 1 ≤ n) (h8 : n ≤ 7) (h : a + n ≤ s.size) (hb : beL ((s.data.toList.drop a).take n) = b) :
    Calls Try.prog 11 #[.string s, .int .i64 a, .int .i64 n] w fun e w' => e = .returned (.tuple #[.int .i64 b, .bool true]) ∧ Below w.heap.size w w' := by
  refine (get_good s a n w hs h1 (by omega) h).mono fun e w' ⟨he, hw⟩ => ⟨he.trans ?_, hw⟩
  have hlt : beL ((s.data.toList.drop a).take n) < 256 ^ 7 := Nat.lt_of_lt_of_le (beL_lt _) (Nat.pow_le_pow_right (by omega) (by rw [List.length_take]; omega))
  rw [show (256:Nat) ^ 7 = 72057594037927936 from rfl] at hlt
  rw [hb] at hlt ⊢
  rw [IntWalk.wrap64_in _ ⟨by omega, by omega⟩]

set_option maxHeartbeats 400000 in
theorem getText_bad (s : ByteArray) (a b : Nat) (w : World) (hs : s.size ≤ 1000000) (ha : a ≤ 1000000) (hb : beL ((s.data.toList.drop a).take 2) = b) (h : s.size < a + 2 ∨ s.size < a + 2 + b) :
    Calls Try.prog 12 #[.string s, .int .i64 a] w fun e w' => e = .returned (.tuple #[.string ⟨#[]⟩, .int .i64 0, .bool false]) ∧ Below w.heap.size w w' := by
  by_cases h1 : s.size < a + 2
  · go_enter Try.func12, Try.ntmps12
    go_wp2_with (first | (go_at_call 11; refine (get_bad _ _ _ _ (by omega) (by omega) (by omega)).mono ?_; rintro e w' ⟨rfl, rfl⟩))
    go_ret3
    exact ⟨rfl, Below.refl _ _⟩
  · have HB := Lib.hid hb
    clear hb
    have h2 : decide ((s.size : Int) - a - 2 < b) = true := by simp; omega
    go_enter Try.func12, Try.ntmps12
    go_wp2_with (first | (go_at_call 11; refine (get_small _ a 2 b _ (by omega) (by omega) (by omega) (by omega) HB.out).mono ?_; rintro e w' ⟨rfl, hb⟩))
    go_ret3
    exact ⟨rfl, hb⟩
set_option maxHeartbeats 400000 in
theorem getText_good (s : ByteArray) (a b : Nat) (w : World) (hs : s.size ≤ 1000000) (ha : a ≤ 1000000) (hb : beL ((s.data.toList.drop a).take 2) = b) (h1 : a + 2 + b ≤ s.size) :
    Calls Try.prog 12 #[.string s, .int .i64 a] w fun e w' => e = .returned (.tuple #[.string (s.extract (a + 2) (a + 2 + b)), .int .i64 (a + 2 + b), .bool true]) ∧ Below w.heap.size w w' := by
  have HB := Lib.hid hb
  clear hb
  have h2 : decide ((s.size : Int) - a - 2 < b) = false := by simp; omega
  go_enter Try.func12, Try.ntmps12
  go_wp2_with (first | (go_at_call 11; refine (get_small _ a 2 b _ (by omega) (by omega) (by omega) (by omega) HB.out).mono ?_; rintro e w' ⟨rfl, hb⟩))
  go_ret3
  exact ⟨rfl, hb⟩

set_option maxHeartbeats 400000 in
theorem open_short (s : ByteArray) (w : World) (hs : s.size < 4) :
    Calls Try.prog 15 #[.string s] w fun e w' => e = .returned (.tuple #[.string ⟨#[]⟩, .bool false]) ∧ Below w.heap.size w w' := by
  go_enter Try.func15, Try.ntmps15
  go_wp2_with (first | (go_at_call 11; refine (get_bad _ _ _ _ (by omega) (by omega) (by omega)).mono ?_; rintro e w' ⟨rfl, rfl⟩))
  go_ret2
  exact ⟨rfl, Below.refl _ _⟩
theorem sum_is (s : ByteArray) (c : Nat) (w : World) (hs : s.size ≤ 140737488351232) (hc : crcL s.data.toList = c) :
    Calls Try.prog 16 #[.string s] w fun e w' => e = .returned (.int .i64 (4294967295 - c)) ∧ w = w' := hc ▸ sum_any s w hs
/-- What Open tells of four bytes or more: c their sum, b the number ahead. -/
def openV (s : ByteArray) (b c : Nat) : Value := if b + c = 4294967295 then .tuple #[.string (s.extract 4 s.size), .bool true] else .tuple #[.string ⟨#[]⟩, .bool false]
set_option maxHeartbeats 400000 in
theorem open_long (s : ByteArray) (b c : Nat) (w : World) (h4 : 4 ≤ s.size) (hs : s.size ≤ 1000000) (hb : beL (s.data.toList.take 4) = b) (hc : crcL (s.data.toList.drop 4) = c) :
    Calls Try.prog 15 #[.string s] w fun e w' => e = .returned (openV s b c) ∧ Below w.heap.size w w' := by
  have HB := Lib.hid hb
  clear hb
  have hz : (s.extract 4 s.size).size ≤ 1000000 := by simp; omega
  have HC : Hid (crcL (s.extract 4 s.size).data.toList = c) := by rw [Lib.extract_to_end]; exact hc
  clear hc
  by_cases h : b + c = 4294967295
  · have e := Lib.hid (show openV s b c = _ from if_pos h)
    have ht : ((b : Int) != 4294967295 - (c : Int)) = false := by rw [bne_eq_false_iff_eq]; omega
    clear h
    go_enter Try.func15, Try.ntmps15
    go_wp2_with (first | (go_at_call 11; refine (get_small _ 0 4 b _ (by omega) (by omega) (by omega) (by omega) HB.out).mono ?_; rintro e w' ⟨rfl, hb⟩) | (go_at_call 16; refine (sum_is _ c _ (by omega) HC.out).mono ?_; rintro e w' ⟨rfl, rfl⟩))
    go_ret2
    exact ⟨ret_of e.out.symm, hb⟩
  · have e := Lib.hid (show openV s b c = _ from if_neg h)
    have ht : ((b : Int) != 4294967295 - (c : Int)) = true := by rw [bne_iff_ne]; omega
    clear h
    go_enter Try.func15, Try.ntmps15
    go_wp2_with (first | (go_at_call 11; refine (get_small _ 0 4 b _ (by omega) (by omega) (by omega) (by omega) HB.out).mono ?_; rintro e w' ⟨rfl, hb⟩) | (go_at_call 16; refine (sum_is _ c _ (by omega) HC.out).mono ?_; rintro e w' ⟨rfl, rfl⟩))
    go_ret2
    exact ⟨ret_of e.out.symm, hb⟩

end Go.Proofs.Ytnbccejhgmacjaa
