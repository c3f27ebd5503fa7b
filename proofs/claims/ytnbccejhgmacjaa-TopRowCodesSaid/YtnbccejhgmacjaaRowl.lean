/- Plain laws of rows as bytes. -/
import Derived.Test.YtnbccejhgmacjaaClone
namespace Go.Proofs.Ytnbccejhgmacjaa
open Go.RowKit
set_option linter.unusedVariables false
set_option linter.unusedSimpArgs false

/-- The values that the law's rows hold. -/
def V.nice (v : V) : Prop :=
  (v.kind = 0 ∧ v.n = 0 ∧ v.s = ⟨#[]⟩) ∨ (v.kind = 1 ∧ (v.n = 0 ∨ v.n = 1) ∧ v.s = ⟨#[]⟩) ∨ (v.kind = 2 ∧ (-1000000000000000 ≤ v.n ∧ v.n ≤ 1000000000000000) ∧ v.s = ⟨#[]⟩) ∨ (v.kind = 3 ∧ v.n = 0 ∧ v.s.size ≤ 100 ∧ ∀ c ∈ v.s.data.toList, 32 ≤ c.toNat ∧ c.toNat ≤ 126)
theorem textOf_nice (l : List Int) (h : ∀ c ∈ l, 0 ≤ c ∧ c ≤ 255) : (textOf l).size ≤ 100 ∧ ∀ c ∈ (textOf l).data.toList, 32 ≤ c.toNat ∧ c.toNat ≤ 126 := by
  constructor
  · simp [textOf, strOfNums_size]; omega
  · intro c hc
    simp only [textOf, strOfNums, List.mem_map, List.map_map] at hc
    obtain ⟨x, hx, rfl⟩ := hc
    have hx2 := h x (List.mem_of_mem_take hx)
    have : ((32 + x % 95).toNat) ≤ 126 ∧ 32 ≤ (32 + x % 95).toNat := by omega
    simp only [Function.comp, UInt8.toNat_ofNat']
    omega
theorem valueV_nice (v : Vl) (h : v.wf) : (valueV v).nice := by
  obtain ⟨h1, h2, h3, h4, h5⟩ := h
  unfold valueV V.nice
  split
  · right; left; exact ⟨rfl, by show v.n % 2 = 0 ∨ v.n % 2 = 1; omega, rfl⟩
  · split
    · right; right; left
      have := Int.tmod_lt_of_pos v.n (show (0:Int) < 1000000000000001 by decide)
      have := Int.lt_tmod_of_pos v.n (show (0:Int) < 1000000000000001 by decide)
      exact ⟨rfl, by show -1000000000000000 ≤ Int.tmod v.n _ ∧ Int.tmod v.n _ ≤ _; omega, rfl⟩
    · split
      · right; right; right
        exact ⟨rfl, rfl, textOf_nice v.s h5⟩
      · left; exact ⟨rfl, rfl, rfl⟩
theorem V.nice.fair {v : V} (h : v.nice) : v.fair := by unfold V.fair; rcases h with h | h | h | h <;> omega
theorem V.nice.good {v : V} (h : v.nice) : v.good := by
  have he : (⟨#[]⟩ : ByteArray).size = 0 := rfl
  unfold V.good
  rcases h with ⟨h1, h2, h3⟩ | ⟨h1, h2, h3⟩ | ⟨h1, h2, h3⟩ | ⟨h1, h2, h3, h4⟩
  · rw [h3, he]; omega
  · rw [h3, he]; omega
  · rw [h3, he]; omega
  · omega
theorem V.nice.plain {v : V} (h : v.nice) : v.plain := by
  unfold V.plain Ascii
  rcases h with ⟨h1, h2, h3⟩ | ⟨h1, h2, h3⟩ | ⟨h1, h2, h3⟩ | ⟨h1, h2, h3, h4⟩
  · rw [h3]; exact ⟨by simp, by omega⟩
  · rw [h3]; exact ⟨by simp, by omega⟩
  · rw [h3]; exact ⟨by simp, by omega⟩
  · exact ⟨fun b hb => by have := h4 b hb; omega, by omega⟩
theorem V.nice.right {v : V} (h : v.nice) : rightV v = true := by
  have he : (⟨#[]⟩ : ByteArray).size = 0 := rfl
  unfold rightV
  rcases h with ⟨h1, h2, h3⟩ | ⟨h1, h2, h3⟩ | ⟨h1, h2, h3⟩ | ⟨h1, h2, h3, h4⟩
  · simp [h1, h2, h3, he]
  · simp [h1, h2, h3, he]
  · simp [h1, h2, h3, he, inB15]
  · rw [if_pos h1, h2]
    have ht : textB v.s = true := List.all_eq_true.2 fun b hb => by simpa using h4 b hb
    rw [ht]
    simp [h3]
theorem compareBytes_self (l : List UInt8) : Lib.compareBytes l l = 0 := by
  induction l with
  | nil => rfl
  | cons c l ih => simp [Lib.compareBytes, ih]
theorem rankV_self (v : V) : rankV v v = 0 := by simp [rankV, compareBytes_self]
theorem ranksV_self (r : List V) : ranksV r r = 0 := by
  induction r with
  | nil => rfl
  | cons v r ih => simp [ranksV, rankV_self, ih]
theorem beL_digits (N m : Nat) : beL ((List.range m).map fun k => UInt8.ofNat (N / 256 ^ (m - 1 - k) % 256)) = N % 256 ^ m := by
  induction m generalizing N with
  | zero => simp [beL]; omega
  | succ m ih =>
    rw [List.range_succ, List.map_append, List.map_singleton, beL_snoc]
    have h1 : (List.range m).map (fun k => UInt8.ofNat (N / 256 ^ (m + 1 - 1 - k) % 256)) = (List.range m).map fun k => UInt8.ofNat (N / 256 / 256 ^ (m - 1 - k) % 256) := by
      apply List.map_congr_left
      intro k hk
      have hk := List.mem_range.1 hk
      rw [Nat.div_div_eq_div_mul, show m + 1 - 1 - k = (m - 1 - k) + 1 by omega, Nat.pow_succ, Nat.mul_comm]
    rw [h1, ih]
    simp only [Nat.add_sub_cancel, Nat.sub_self, Nat.pow_zero, Nat.div_one, UInt8.toNat_ofNat']
    rw [show N % 256 ^ (m + 1) = N % (256 * 256 ^ m) by rw [Nat.pow_succ, Nat.mul_comm], Nat.mod_mul]
    omega
theorem beL_put8 (n : Int) (h : -9223372036854775808 ≤ n ∧ n ≤ 9223372036854775807) : wrap64 (beL (putU n 8)) = n := by
  have hw : 0 ≤ IntKind.u64.wrap n ∧ IntKind.u64.wrap n < 18446744073709551616 ∧ IntKind.u64.wrap n % 18446744073709551616 = n % 18446744073709551616 := by
    have : IntKind.u64.wrap n = n % 18446744073709551616 := by
      simp [IntKind.wrap, IntKind.bits, IntKind.signed]
    omega
  have e : putU n 8 = (List.range 8).map fun k => UInt8.ofNat ((IntKind.u64.wrap n).toNat / 256 ^ (8 - 1 - k) % 256) := by
    unfold putU putL
    rw [List.map_map]
    apply List.map_congr_left
    intro k hk
    have hk := List.mem_range.1 hk
    simp only [Function.comp, putByte]
    obtain ⟨N, hN⟩ := Int.eq_ofNat_of_zero_le hw.1
    rw [hN, Int.toNat_natCast, show ((2 : Int) ^ (8 * (8 - 1 - k))) = ((256 ^ (8 - 1 - k) : Nat) : Int) by rw [Int.pow_mul]; simp]
    congr 1
  rw [e, beL_digits]
  unfold wrap64
  omega
/-! ### reading what was written -/
theorem charsA_all (l t : List UInt8) (h : ∀ c ∈ l, 32 ≤ c.toNat ∧ c.toNat ≤ 126) (acc : List UInt8) : charsA acc l.length (l ++ t) = .ok (acc ++ l, t) := by
  induction l generalizing acc with
  | nil => simp [charsA]
  | cons c l ih =>
    have hc := h c (by simp)
    have : ¬ (c.toNat < 32 ∨ 126 < c.toNat) := by omega
    simp only [List.length_cons, List.cons_append, charsA, if_neg this]
    rw [ih (fun x hx => h x (by simp [hx]))]
    simp
theorem charsA_cut (l : List UInt8) (h : ∀ c ∈ l, 32 ≤ c.toNat ∧ c.toNat ≤ 126) (acc : List UInt8) (n : Nat) (hn : l.length < n) : charsA acc n l = .error 3 := by
  induction l generalizing acc n with
  | nil => cases n with
    | zero => simp at hn
    | succ n => simp [charsA]
  | cons c l ih =>
    have hc := h c (by simp)
    have : ¬ (c.toNat < 32 ∨ 126 < c.toNat) := by omega
    cases n with
    | zero => simp at hn
    | succ n =>
      simp only [charsA, if_neg this]
      exact ih (fun x hx => h x (by simp [hx])) _ _ (by simpa using hn)
theorem valP0 (t : List UInt8) : valP (0 :: t) = .ok (⟨0, 0, ⟨#[]⟩⟩, t) := by simp [valP]
theorem valP1 (t : List UInt8) : valP (1 :: t) = boolP t := by simp [valP]
theorem valP2 (t : List UInt8) : valP (2 :: t) = mapP (fun n => ⟨2, n, ⟨#[]⟩⟩) (numP t) := by simp [valP]
theorem valP3 (t : List UInt8) : valP (3 :: t) = mapP (fun s => ⟨3, 0, s⟩) (textP t) := by simp [valP]
theorem code0 : codeV ⟨0, 0, ⟨#[]⟩⟩ = [0] := by simp [codeV, tailV]
theorem code1 (n : Int) : codeV ⟨1, n, ⟨#[]⟩⟩ = [1, UInt8.ofNat n.toNat] := by simp [codeV, tailV]
theorem code2 (n : Int) : codeV ⟨2, n, ⟨#[]⟩⟩ = 2 :: putU n 8 := by simp [codeV, tailV]
theorem code3 (s : ByteArray) : codeV ⟨3, 0, s⟩ = 3 :: UInt8.ofNat s.size :: s.data.toList := by simp [codeV, tailV]
theorem boolP_ok (n : Int) (h : n = 0 ∨ n = 1) (t : List UInt8) : boolP (UInt8.ofNat n.toNat :: t) = .ok (⟨1, n, ⟨#[]⟩⟩, t) := by
  rcases h with rfl | rfl <;> simp [boolP]
theorem numP_ok (n : Int) (h : -1000000000000000 ≤ n ∧ n ≤ 1000000000000000) (t : List UInt8) : numP (putU n 8 ++ t) = .ok (n, t) := by
  have hl : (putU n 8).length = 8 := putU_length n 8
  have h1 : (putU n 8 ++ t).take 8 = putU n 8 := List.take_left' hl
  have h2 : (putU n 8 ++ t).drop 8 = t := List.drop_left' hl
  have h3 : inB15 n = true := decide_eq_true h
  unfold numP
  rw [if_neg (by rw [List.length_append]; omega), h1, h2, beL_put8 n (by omega), if_pos h3]
theorem textP_ok (s : ByteArray) (h : s.size ≤ 100) (hc : ∀ c ∈ s.data.toList, 32 ≤ c.toNat ∧ c.toNat ≤ 126) (t : List UInt8) : textP (UInt8.ofNat s.size :: (s.data.toList ++ t)) = .ok (s, t) := by
  have hs : (UInt8.ofNat s.size).toNat = s.size := by rw [UInt8.toNat_ofNat']; omega
  have hz : s.size = s.data.toList.length := by simp
  unfold textP
  simp only [hs]
  rw [if_neg (by omega), hz, charsA_all _ _ hc]
  simp [Sx_of]
theorem valP_code (v : V) (h : v.nice) (t : List UInt8) : valP (codeV v ++ t) = .ok (v, t) := by
  obtain ⟨k, n, s⟩ := v
  simp only [V.nice] at h
  rcases h with ⟨rfl, rfl, rfl⟩ | ⟨rfl, h, rfl⟩ | ⟨rfl, h, rfl⟩ | ⟨rfl, rfl, h, hc⟩
  · rw [code0]; exact valP0 t
  · rw [code1]; exact (valP1 _).trans (boolP_ok n h t)
  · rw [code2, List.cons_append, valP2, numP_ok n h t]; rfl
  · rw [code3, List.cons_append, List.cons_append, valP3, textP_ok s h hc t]; rfl
theorem valP_cut (v : V) (h : v.nice) (j : Nat) (hj : j < (codeV v).length) : valP ((codeV v).take j) = .error 3 := by
  rcases j with _ | j
  · rfl
  · obtain ⟨k, n, s⟩ := v
    simp only [V.nice] at h
    rcases h with ⟨rfl, rfl, rfl⟩ | ⟨rfl, h, rfl⟩ | ⟨rfl, h, rfl⟩ | ⟨rfl, rfl, h, hc⟩
    · rw [code0] at hj; simp at hj
    · rw [code1] at hj ⊢
      obtain rfl : j = 0 := by simp at hj; omega
      exact (valP1 _).trans rfl
    · rw [code2] at hj ⊢
      have hl : (putU n 8).length = 8 := putU_length n 8
      rw [List.length_cons] at hj
      rw [List.take_succ_cons, valP2, show numP ((putU n 8).take j) = .error 3 from if_pos (by rw [List.length_take]; omega)]; rfl
    · rw [code3] at hj ⊢
      have hs : (UInt8.ofNat s.size).toNat = s.size := by rw [UInt8.toNat_ofNat']; omega
      rw [List.length_cons, List.length_cons] at hj
      have ht : textP ((UInt8.ofNat s.size :: s.data.toList).take j) = .error 3 := by
        rcases j with _ | j
        · rfl
        · simp only [List.take_succ_cons, textP, hs]
          have hz : s.data.toList.length = s.size := by simp
          rw [if_neg (by omega), charsA_cut _ (fun c hc2 => hc c (List.mem_of_mem_take hc2)) _ _ (by rw [List.length_take]; omega)]
      rw [List.take_succ_cons, valP3, ht]; rfl
theorem valsA_codes (r : List V) (h : ∀ v ∈ r, v.nice) (acc : List V) (t : List UInt8) : valsA r.length acc (codesV r ++ t) = .ok (acc ++ r, t) := by
  induction r generalizing acc with
  | nil => simp [valsA, codesV]
  | cons v r ih =>
    have e : codesV (v :: r) ++ t = codeV v ++ (codesV r ++ t) := by simp [codesV]
    rw [e, List.length_cons]
    simp only [valsA, valP_code v (h v (by simp))]
    rw [ih (fun x hx => h x (by simp [hx]))]
    simp
theorem valsA_cut (r : List V) (h : ∀ v ∈ r, v.nice) (acc : List V) (j : Nat) (hj : j < (codesV r).length) : valsA r.length acc ((codesV r).take j) = .error 3 := by
  induction r generalizing acc j with
  | nil => simp [codesV] at hj
  | cons v r ih =>
    have e : codesV (v :: r) = codeV v ++ codesV r := by simp [codesV]
    rw [e] at hj ⊢
    rw [List.take_append, List.length_cons]
    by_cases hl : j < (codeV v).length
    · rw [show j - (codeV v).length = 0 by omega]
      simp only [List.take_zero, List.append_nil, valsA, valP_cut v (h v (by simp)) j hl]
    · rw [List.take_of_length_le (by omega)]
      simp only [valsA, valP_code v (h v (by simp))]
      exact ih (fun x hx => h x (by simp [hx])) _ _ (by rw [List.length_append] at hj; omega)
theorem getP_coded (r : List V) (h : ∀ v ∈ r, v.nice) (hl : r.length ≤ 32) (hz : (codedV r).length ≤ 400) : getP (codedV r) = .ok r := by
  unfold getP
  rw [if_neg (by omega)]
  have hc : (UInt8.ofNat r.length).toNat = r.length := by rw [UInt8.toNat_ofNat']; omega
  simp only [codedV, hc]
  rw [if_neg (by omega)]
  have := valsA_codes r h [] []
  rw [List.append_nil] at this
  rw [this]; rfl
theorem getP_late (r : List V) (hl : r.length ≤ 40) (hz : 32 < r.length ∨ 400 < (codedV r).length) : getP (codedV r) = .error 4 := by
  unfold getP
  by_cases h4 : 400 < (codedV r).length
  · rw [if_pos h4]
  · rw [if_neg h4]
    have hc : (UInt8.ofNat r.length).toNat = r.length := by rw [UInt8.toNat_ofNat']; omega
    simp only [codedV, hc]
    rw [if_pos (by omega)]
theorem getP_cut (r : List V) (h : ∀ v ∈ r, v.nice) (hl : r.length ≤ 32) (hz : (codedV r).length ≤ 400) (j : Nat) (hj : j < (codedV r).length) : getP ((codedV r).take j) = .error 3 := by
  unfold getP
  rw [if_neg (by rw [List.length_take]; omega)]
  rcases j with _ | j
  · rfl
  · have hc : (UInt8.ofNat r.length).toNat = r.length := by rw [UInt8.toNat_ofNat']; omega
    simp only [codedV, List.take_succ_cons, hc]
    rw [if_neg (by omega), valsA_cut r h [] j (by simpa [codedV] using hj)]
    rfl
theorem getP_more (r : List V) (h : ∀ v ∈ r, v.nice) (hl : r.length ≤ 32) (hz : (codedV r).length ≤ 400) : getP (codedV r ++ [97]) = .error (if (codedV r).length = 400 then 4 else 2) := by
  unfold getP
  by_cases h4 : (codedV r).length = 400
  · rw [if_pos (by rw [List.length_append]; simp; omega), if_pos h4]
  · rw [if_neg (by rw [List.length_append]; simp; omega), if_neg h4]
    have hc : (UInt8.ofNat r.length).toNat = r.length := by rw [UInt8.toNat_ofNat']; omega
    simp only [codedV, List.cons_append, hc]
    rw [if_neg (by omega), valsA_codes r h [] [97]]
    rfl
theorem getP_one (l : List UInt8) (h : l.length ≤ 399) : getP (1 :: l) = finG (match valP l with | .error e => .error e | .ok (v, t) => .ok ([v], t)) := by
  unfold getP
  rw [if_neg (by rw [List.length_cons]; omega)]
  show finG (valsA 1 [] l) = _
  simp only [valsA]
  cases valP l with
  | error e => rfl
  | ok p => rfl
theorem wrong2 (n : Int) (h : -9223372036854775808 ≤ n ∧ n ≤ 9223372036854775807) (h2 : inB15 n = false) : getP (1 :: 2 :: putU n 8) = .error 2 := by
  have hl : (putU n 8).length = 8 := putU_length n 8
  have hn : numP (putU n 8) = .error 2 := by
    unfold numP
    rw [if_neg (by omega), List.take_of_length_le (by omega), beL_put8 n h, if_neg (by simp [h2])]
  rw [getP_one _ (by rw [List.length_cons]; omega), valP2, hn]; rfl
theorem wrong_text (l : List UInt8) (h : l.length ≤ 300) (h2 : textP l = .error 2) : getP (1 :: 3 :: l) = .error 2 := by
  rw [getP_one _ (by rw [List.length_cons]; omega), valP3, h2]; rfl
theorem wrongs : getP [1, 4] = .error 2 ∧ getP [1, 1, 2] = .error 2 ∧ getP (1 :: 2 :: putU 1000000000000001 8) = .error 2 ∧ getP (1 :: 2 :: putU (-1000000000000001) 8) = .error 2 ∧ getP [1, 3, 101] = .error 2 ∧ getP [1, 3, 1, 31] = .error 2 ∧ getP [1, 3, 2, 97, 127] = .error 2 ∧ getP [0, 0] = .error 2 ∧ getP [33] = .error 4 ∧ getP [] = .error 3 := by
  refine ⟨?_, ?_, wrong2 _ (by omega) (by decide), wrong2 _ (by omega) (by decide), wrong_text _ (by simp) (by simp [textP]), wrong_text _ (by simp) (by simp [textP, charsA]), wrong_text _ (by simp) (by simp [textP, charsA]), ?_, ?_, ?_⟩
  · rw [getP_one _ (by simp)]; simp [valP, finG]
  · rw [getP_one _ (by simp), valP1]; simp [boolP, finG]
  · simp [getP, valsA, finG]
  · simp [getP]
  · simp [getP]
end Go.Proofs.Ytnbccejhgmacjaa
