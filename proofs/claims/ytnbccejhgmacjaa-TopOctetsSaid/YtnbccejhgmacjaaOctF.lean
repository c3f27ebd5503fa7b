/- Plain laws that TopOctets wants. -/
import Derived.Test.YtnbccejhgmacjaaBig
import Derived.Test.YtnbccejhgmacjaaCrc
namespace Go.Proofs.Ytnbccejhgmacjaa
open Go.RowKit
set_option linter.unusedVariables false
set_option linter.unusedSimpArgs false

/-! ### Linear steps -/
theorem xor_zero_eq {a b : Nat} (h : a ^^^ b = 0) : a = b := by
  have e := congrArg (· ^^^ b) h
  simpa [Nat.xor_assoc] using e
theorem xor_mod2 (x y : Nat) : (x ^^^ y) % 2 = (x % 2 + y % 2) % 2 := by
  have h := Nat.xor_mod_two_pow (a := x) (b := y) (n := 1)
  rw [Nat.pow_one] at h
  rw [h]
  rcases Nat.mod_two_eq_zero_or_one x with hx | hx <;> rcases Nat.mod_two_eq_zero_or_one y with hy | hy <;> rw [hx, hy] <;> rfl
theorem crcBit_xor {x y : Nat} : crcBit (x ^^^ y) = crcBit x ^^^ crcBit y := by
  unfold crcBit
  have h2 : (x ^^^ y) / 2 = x / 2 ^^^ y / 2 := Nat.xor_div_two
  have hm : (x ^^^ y) % 2 = (x % 2 + y % 2) % 2 := xor_mod2 x y
  rw [h2]
  rcases Nat.mod_two_eq_zero_or_one x with hx | hx <;> rcases Nat.mod_two_eq_zero_or_one y with hy | hy
  · rw [if_neg (by omega), if_neg (by omega), if_neg (by omega)]
  · rw [if_pos (by omega), if_neg (by omega), if_pos hy, Nat.xor_assoc]
  · rw [if_pos (by omega), if_pos hx, if_neg (by omega), Nat.xor_assoc, Nat.xor_comm (y / 2), ← Nat.xor_assoc]
  · rw [if_neg (by omega), if_pos hx, if_pos hy]
    rw [Nat.xor_assoc, Nat.xor_comm 3988292384, Nat.xor_assoc, Nat.xor_self, Nat.xor_zero]
theorem crcBits_xor {x y : Nat} (k : Nat) : crcBits k (x ^^^ y) = crcBits k x ^^^ crcBits k y := by
  induction k with
  | zero => rfl
  | succ k ih => simp only [crcBits]; rw [ih, crcBit_xor]
/-- Where the top bit of a step is 0, it was a shift. -/
theorem crcBit_back {x : Nat} (h : x < 4294967296) (hb : crcBit x < 2147483648) : x = 2 * crcBit x := by
  unfold crcBit at hb ⊢
  by_cases ho : x % 2 = 1
  · rw [if_pos ho] at hb
    exfalso
    have ht : (x / 2 ^^^ 3988292384).testBit 31 = true := by
      rw [Nat.testBit_xor]
      have h1 : (x / 2).testBit 31 = false := Nat.testBit_lt_two_pow (by omega)
      rw [h1]
      decide
    rw [Nat.testBit_lt_two_pow (by omega)] at ht
    cases ht
  · rw [if_neg ho]; omega
theorem crcBits_back (k : Nat) : ∀ {x : Nat}, x < 4294967296 → k ≤ 8 → crcBits k x < 2 ^ (32 - k) → x = 2 ^ k * crcBits k x := by
  induction k with
  | zero => intro x _ _ _; simp [crcBits]
  | succ k ih =>
    intro x hx hk hb
    simp only [crcBits] at hb ⊢
    have h1 := crcBits_lt hx k
    have hp : (2 : Nat) ^ (32 - (k + 1)) ≤ 2 ^ 31 := Nat.pow_le_pow_right (by omega) (by omega)
    have h2 := crcBit_back h1 (by omega)
    have hq : (2 : Nat) ^ (32 - k) = 2 ^ (32 - (k + 1)) * 2 := by rw [← Nat.pow_succ]; congr 1; omega
    have h3 := ih hx (by omega) (by omega)
    rw [Nat.pow_succ, Nat.mul_assoc, ← h2]
    exact h3
theorem crc8_back {x : Nat} (h : x < 4294967296) (hb : crcBits 8 x < 16777216) : x = 256 * crcBits 8 x := crcBits_back 8 h (by omega) hb
theorem crc8_inj {x y : Nat} (hx : x < 4294967296) (hy : y < 4294967296) (h : crcBits 8 x = crcBits 8 y) : x = y := by
  have h0 : crcBits 8 (x ^^^ y) = 0 := by rw [crcBits_xor, h, Nat.xor_self]
  have := crc8_back (xor_lt32 hx hy) (by omega)
  rw [h0] at this
  exact xor_zero_eq (by omega)
theorem crcByte_inj {x y : Nat} (hx : x < 4294967296) (hy : y < 4294967296) (c : UInt8) (h : crcByte x c = crcByte y c) : x = y := by
  have hc := c.toNat_lt
  have := crc8_inj (xor_lt32 hx (by omega)) (xor_lt32 hy (by omega)) h
  have e := congrArg (· ^^^ c.toNat) this
  simpa [Nat.xor_assoc] using e
theorem foldl_crc_inj (l : List UInt8) : ∀ {x y : Nat}, x < 4294967296 → y < 4294967296 → l.foldl crcByte x = l.foldl crcByte y → x = y := by
  induction l with
  | nil => intro x y _ _ h; exact h
  | cons c l ih => intro x y hx hy h; exact crcByte_inj hx hy c (ih (crcByte_lt hx c) (crcByte_lt hy c) h)
theorem xor4 (a b c d : Nat) : (a ^^^ b) ^^^ (c ^^^ d) = (a ^^^ c) ^^^ (b ^^^ d) := by
  rw [Nat.xor_assoc, ← Nat.xor_assoc b, Nat.xor_comm b c, Nat.xor_assoc c, ← Nat.xor_assoc]
theorem crc_step_back {x y : Nat} {b b' : UInt8} (hx : x < 4294967296) (hy : y < 4294967296) (h : crcByte x b ^^^ crcByte y b' < 16777216) :
    (x ^^^ y) ^^^ (b.toNat ^^^ b'.toNat) = 256 * (crcByte x b ^^^ crcByte y b') := by
  have hb := b.toNat_lt
  have hb' := b'.toNat_lt
  unfold crcByte at h ⊢
  rw [← crcBits_xor, xor4 x b.toNat y b'.toNat] at h ⊢
  exact crc8_back (xor_lt32 (xor_lt32 hx hy) (xor_lt32 (by omega) (by omega))) h
theorem xor_lt8 {a b : Nat} (ha : a < 256) (hb : b < 256) : a ^^^ b < 256 := Nat.xor_lt_two_pow (n := 8) ha hb
theorem byte_eq {a b : UInt8} (h : a.toNat ^^^ b.toNat = 0) : a = b := UInt8.toNat.inj (xor_zero_eq h)
/-- Four bytes from one state: another end, if one is another. -/
theorem crc_four {n : Nat} (hn : n < 4294967296) {a b c d a' b' c' d' : UInt8} (h : crcByte (crcByte (crcByte (crcByte n a) b) c) d = crcByte (crcByte (crcByte (crcByte n a') b') c') d') :
    a = a' ∧ b = b' ∧ c = c' ∧ d = d' := by
  have x1 := crcByte_lt hn a
  have y1 := crcByte_lt hn a'
  have x2 := crcByte_lt x1 b
  have y2 := crcByte_lt y1 b'
  have x3 := crcByte_lt x2 c
  have y3 := crcByte_lt y2 c'
  have da := xor_lt8 a.toNat_lt a'.toNat_lt
  have db := xor_lt8 b.toNat_lt b'.toNat_lt
  have dc := xor_lt8 c.toNat_lt c'.toNat_lt
  have dd := xor_lt8 d.toNat_lt d'.toNat_lt
  have e4 := crc_step_back (b := d) (b' := d') x3 y3 (by rw [h, Nat.xor_self]; omega)
  rw [h, Nat.xor_self] at e4
  have q3 := xor_zero_eq (show crcByte (crcByte (crcByte n a) b) c ^^^ crcByte (crcByte (crcByte n a') b') c' ^^^ (d.toNat ^^^ d'.toNat) = 0 by omega)
  have e3 := crc_step_back (b := c) (b' := c') x2 y2 (by rw [q3]; omega)
  rw [q3] at e3
  have q2 : crcByte (crcByte n a) b ^^^ crcByte (crcByte n a') b' = 256 * (d.toNat ^^^ d'.toNat) ^^^ (c.toNat ^^^ c'.toNat) := by rw [← e3, Nat.xor_assoc, Nat.xor_self, Nat.xor_zero]
  have l2 : 256 * (d.toNat ^^^ d'.toNat) ^^^ (c.toNat ^^^ c'.toNat) < 65536 := Nat.xor_lt_two_pow (n := 16) (by omega) (by omega)
  have e2 := crc_step_back (b := b) (b' := b') x1 y1 (by rw [q2]; omega)
  rw [q2] at e2
  have q1 : crcByte n a ^^^ crcByte n a' = 256 * (256 * (d.toNat ^^^ d'.toNat) ^^^ (c.toNat ^^^ c'.toNat)) ^^^ (b.toNat ^^^ b'.toNat) := by rw [← e2, Nat.xor_assoc, Nat.xor_self, Nat.xor_zero]
  have l1 : 256 * (256 * (d.toNat ^^^ d'.toNat) ^^^ (c.toNat ^^^ c'.toNat)) ^^^ (b.toNat ^^^ b'.toNat) < 16777216 := Nat.xor_lt_two_pow (n := 24) (by omega) (by omega)
  have e1 := crc_step_back (b := a) (b' := a') hn hn (by rw [q1]; omega)
  rw [q1, Nat.xor_self, Nat.zero_xor] at e1
  have z1 := xor_zero_eq (show 256 * (256 * (d.toNat ^^^ d'.toNat) ^^^ (c.toNat ^^^ c'.toNat)) ^^^ (b.toNat ^^^ b'.toNat) = 0 by omega)
  have z2 := xor_zero_eq (show 256 * (d.toNat ^^^ d'.toNat) ^^^ (c.toNat ^^^ c'.toNat) = 0 by omega)
  exact ⟨byte_eq (by omega), byte_eq (by omega), byte_eq (by omega), byte_eq (by omega)⟩

/-- Two texts that part in a window of up to four bytes alone part in their sums, too. -/
theorem crc_window {u v m m' : List UInt8} (hm : m.length ≤ 4) (hl : m'.length = m.length) (h : crcL (u ++ m ++ v) = crcL (u ++ m' ++ v)) : m = m' := by
  unfold crcL at h
  simp only [List.foldl_append] at h
  have hn := foldl_crc_lt u (n := 4294967295) (by omega)
  generalize List.foldl crcByte 4294967295 u = n at hn h
  have h1 := foldl_crc_inj v (foldl_crc_lt m hn) (foldl_crc_lt m' hn) h
  match m, m', hm, hl with
  | [], [], _, _ => rfl
  | [a], [a'], _, _ =>
    have := crc_four hn (a := a) (a' := a') (b := 0) (c := 0) (d := 0) (b' := 0) (c' := 0) (d' := 0) (by simp only [List.foldl_cons, List.foldl_nil] at h1; rw [h1])
    rw [this.1]
  | [a, b], [a', b'], _, _ =>
    have := crc_four hn (a := a) (a' := a') (b := b) (b' := b') (c := 0) (d := 0) (c' := 0) (d' := 0) (by simp only [List.foldl_cons, List.foldl_nil] at h1; rw [h1])
    rw [this.1, this.2.1]
  | [a, b, c], [a', b', c'], _, _ =>
    have := crc_four hn (a := a) (a' := a') (b := b) (b' := b') (c := c) (c' := c') (d := 0) (d' := 0) (by simp only [List.foldl_cons, List.foldl_nil] at h1; rw [h1])
    rw [this.1, this.2.1, this.2.2.1]
  | [a, b, c, d], [a', b', c', d'], _, _ =>
    have := crc_four hn (show _ = _ from h1)
    rw [this.1, this.2.1, this.2.2.1, this.2.2.2]
  | _ :: _ :: _ :: _ :: _ :: _, _, hm, _ => simp at hm

/-! ### What the spoiling leaves -/
theorem spoil_get (l : List UInt8) (cut : Nat) (turn : Int) (i q : Nat) :
    (spoil l cut turn i).1.getD q 0 = if 4 + cut ≤ q ∧ q < 4 + cut + i ∧ q < l.length ∧ turn / 2 ^ (8 * (q - (4 + cut))) % 256 ≠ 0 then l.getD q 0 ^^^ turnB turn (q - (4 + cut)) else l.getD q 0 := by
  induction i with
  | zero => rw [if_neg (by omega)]; rfl
  | succ i ih =>
    by_cases hp : 4 + cut + i < l.length ∧ ¬ turn / 2 ^ (8 * i) % 256 = 0
    · rw [spoil_turn hp.1 hp.2]
      by_cases hq : q = 4 + cut + i
      · subst hq
        rw [show 4 + cut + i - (4 + cut) = i by omega] at ih ⊢
        rw [if_neg (by omega)] at ih
        rw [if_pos ⟨by omega, by omega, hp.1, hp.2⟩, ← ih]
        rw [List.getD_eq_getElem?_getD, List.getElem?_set_self (by rw [spoil_length]; exact hp.1)]
        rfl
      · rw [List.getD_eq_getElem?_getD, List.getElem?_set_ne (by omega), ← List.getD_eq_getElem?_getD, ih]
        by_cases hc : 4 + cut ≤ q ∧ q < 4 + cut + i ∧ q < l.length ∧ turn / 2 ^ (8 * (q - (4 + cut))) % 256 ≠ 0
        · rw [if_pos hc, if_pos ⟨hc.1, by omega, hc.2.2⟩]
        · rw [if_neg hc, if_neg (by rintro ⟨h1, h2, h3⟩; exact hc ⟨h1, by omega, h3⟩)]
    · rw [spoil_stay (by by_cases h1 : 4 + cut + i < l.length; exact .inr (by simpa [h1] using hp); exact .inl h1), ih]
      by_cases hc : 4 + cut ≤ q ∧ q < 4 + cut + i ∧ q < l.length ∧ turn / 2 ^ (8 * (q - (4 + cut))) % 256 ≠ 0
      · rw [if_pos hc, if_pos ⟨hc.1, by omega, hc.2.2⟩]
      · rw [if_neg hc, if_neg]
        rintro ⟨h1, h2, h3, h4⟩
        by_cases hq : q = 4 + cut + i
        · subst hq
          rw [show 4 + cut + i - (4 + cut) = i by omega] at h4
          exact hp ⟨h3, h4⟩
        · exact hc ⟨h1, by omega, h3, h4⟩
theorem spoil_some (l : List UInt8) (cut : Nat) (turn : Int) (i : Nat) (h : (spoil l cut turn i).2 ≠ 0) : ∃ j, j < i ∧ 4 + cut + j < l.length ∧ turn / 2 ^ (8 * j) % 256 ≠ 0 := by
  induction i with
  | zero => exact absurd rfl h
  | succ i ih =>
    by_cases hp : 4 + cut + i < l.length ∧ ¬ turn / 2 ^ (8 * i) % 256 = 0
    · exact ⟨i, by omega, hp⟩
    · rw [spoil_stay (by by_cases h1 : 4 + cut + i < l.length; exact .inr (by simpa [h1] using hp); exact .inl h1)] at h
      obtain ⟨j, hj, hh⟩ := ih h
      exact ⟨j, by omega, hh⟩
theorem turnB_ne {turn : Int} {i : Nat} (h : turn / 2 ^ (8 * i) % 256 ≠ 0) (x : UInt8) : x ^^^ turnB turn i ≠ x := by
  intro e
  have e2 := congrArg (x ^^^ ·) e
  simp only [← UInt8.xor_assoc, UInt8.xor_self, UInt8.zero_xor] at e2
  have e3 := congrArg UInt8.toNat e2
  unfold turnB at e3
  rw [UInt8.toNat_ofNat'] at e3
  simp at e3
  omega
theorem list_getD_ext {l l' : List UInt8} (hl : l.length = l'.length) (h : ∀ q, l.getD q 0 = l'.getD q 0) : l = l' := by
  apply List.ext_getElem hl
  intro q h1 h2
  have := h q
  simpa [List.getD_eq_getElem?_getD, h1, h2] using this
/-- A sealed text of which something behind the sum has been spoilt is none. -/
theorem spoilt_none (P s : List UInt8) (cut : Nat) (turn : Int) (hP : P.length = 4) (h : (spoil (P ++ s) cut turn 4).2 ≠ 0) :
    (spoil (P ++ s) cut turn 4).1.take 4 = P ∧ crcL ((spoil (P ++ s) cut turn 4).1.drop 4) ≠ crcL s := by
  have hz := spoil_length (P ++ s) cut turn 4
  have hg := spoil_get (P ++ s) cut turn 4
  obtain ⟨j, hj, hjl, hjt⟩ := spoil_some _ _ _ _ h
  generalize (spoil (P ++ s) cut turn 4).1 = r at hz hg ⊢
  rw [List.length_append] at hz hjl
  constructor
  · apply list_getD_ext (by rw [List.length_take]; omega)
    intro q
    by_cases hq : q < 4
    · have := hg q
      rw [if_neg (by omega)] at this
      rw [List.getD_eq_getElem?_getD, List.getElem?_take, if_pos hq, ← List.getD_eq_getElem?_getD, this]
      simp [List.getD_eq_getElem?_getD, List.getElem?_append, hP, hq]
    · simp [List.getD_eq_getElem?_getD, List.getElem?_take, hq, hP]
  · intro hc
    have hs : ∀ q, (r.drop 4).getD q 0 = if cut ≤ q ∧ q < cut + 4 ∧ q < s.length ∧ turn / 2 ^ (8 * (q - cut)) % 256 ≠ 0 then s.getD q 0 ^^^ turnB turn (q - cut) else s.getD q 0 := by
      intro q
      have h1 := hg (4 + q)
      rw [List.getD_eq_getElem?_getD, List.getElem?_drop, ← List.getD_eq_getElem?_getD, h1]
      have e1 : (P ++ s).getD (4 + q) 0 = s.getD q 0 := by
        rw [List.getD_eq_getElem?_getD, List.getElem?_append_right (by omega), hP, ← List.getD_eq_getElem?_getD]; congr 1; omega
      rw [e1, List.length_append, hP, show 4 + q - (4 + cut) = q - cut by omega]
      by_cases hh : cut ≤ q ∧ q < cut + 4 ∧ q < s.length ∧ turn / 2 ^ (8 * (q - cut)) % 256 ≠ 0
      · rw [if_pos hh, if_pos ⟨by omega, by omega, by omega, hh.2.2.2⟩]
      · rw [if_neg hh, if_neg (by rintro ⟨a, b, c, d⟩; exact hh ⟨by omega, by omega, by omega, d⟩)]
    have hrl : (r.drop 4).length = s.length := by rw [List.length_drop]; omega
    generalize r.drop 4 = r' at hs hrl hc
    have e1 : r' = s.take cut ++ (r'.drop cut).take 4 ++ s.drop (cut + 4) := by
      apply list_getD_ext (by simp; omega)
      intro q
      simp only [List.getD_eq_getElem?_getD, List.getElem?_append, List.length_append, List.length_take, List.length_drop]
      by_cases h1 : q < cut
      · have := hs q
        rw [if_neg (by omega)] at this
        simp only [List.getD_eq_getElem?_getD] at this
        rw [this]
        by_cases h2 : q < s.length
        · rw [if_pos (by omega), if_pos (by omega), List.getElem?_take, if_pos h1]
        · rw [if_neg (by omega), List.getElem?_eq_none (by omega), List.getElem?_eq_none (by simp; omega)]
      · by_cases h2 : q < s.length
        · by_cases h3 : q < cut + 4
          · rw [if_pos (by omega), if_neg (by omega), List.getElem?_take, if_pos (by omega), List.getElem?_drop]
            congr 2; omega
          · have := hs q
            rw [if_neg (by omega)] at this
            simp only [List.getD_eq_getElem?_getD] at this
            rw [this, if_neg (by omega), List.getElem?_drop]
            congr 2; omega
        · rw [List.getElem?_eq_none (by omega), if_neg (by omega), List.getElem?_eq_none (by simp; omega)]
    have e2 : s = s.take cut ++ (s.drop cut).take 4 ++ s.drop (cut + 4) := by
      rw [List.append_assoc, ← List.drop_drop, List.take_append_drop, List.take_append_drop]
    rw [e1] at hc
    rw [show crcL s = crcL (s.take cut ++ (s.drop cut).take 4 ++ s.drop (cut + 4)) by rw [← e2]] at hc
    have e3 := crc_window (by rw [List.length_take]; omega) (by simp [hrl]) hc
    have h4 := hs (cut + j)
    rw [if_pos ⟨by omega, by omega, by omega, by rw [show cut + j - cut = j by omega]; exact hjt⟩, show cut + j - cut = j by omega] at h4
    have h5 := congrArg (fun l => l.getD j 0) e3
    simp only [List.getD_eq_getElem?_getD, List.getElem?_take, if_pos hj, List.getElem?_drop] at h5 h4
    exact turnB_ne hjt _ (h4.symm.trans h5)

/-! ### The facts that the walk asks -/
theorem data_app (a b : ByteArray) : (a ++ b).data.toList = a.data.toList ++ b.data.toList := by simp
theorem fact1 (s text row : ByteArray) (hs : s.size ≤ 60) (ht : text = strOfNums [0, (s.size : Int)] ++ s) (hr : row = (⟨#[97, 98]⟩ : ByteArray) ++ text ++ ⟨#[99]⟩) :
    row.data.toList = [97, 98] ++ ([0, UInt8.ofNat s.size] ++ s.data.toList) ++ [99] := by
  rw [hr, data_app, data_app, ht, data_app, strOfNums_data]
  rfl
theorem beL_two (n : Nat) (h : n < 256) : beL [0, UInt8.ofNat n] = n := by
  simp [beL, UInt8.toNat_ofNat']; omega
theorem fact2 (s text row : ByteArray) (hs : s.size ≤ 60) (ht : text = strOfNums [0, (s.size : Int)] ++ s) (hr : row = (⟨#[97, 98]⟩ : ByteArray) ++ text ++ ⟨#[99]⟩) (hz : text.size = s.size + 2) (hrz : row.size = text.size + 3) :
    gtB row 2 = true ∧ gtS row 2 = s ∧ gtN row 2 = 2 + text.size := by
  have hd := fact1 s text row hs ht hr
  have hb : beL ((row.data.toList.drop 2).take 2) = s.size := by rw [hd]; exact beL_two _ (by omega)
  have h1 : gtB row 2 = true := by unfold gtB; rw [hb]; simp; omega
  refine ⟨h1, ?_, ?_⟩
  · rw [show gtS row 2 = _ from if_pos h1, hb]
    apply ByteArray.ext
    apply Array.toList_inj.1
    rw [Lib.extract_data, hd]
    have : s.data.toList.length = s.size := by simp
    simp only [List.append_assoc, List.cons_append, List.nil_append, List.drop_succ_cons, List.drop_zero]
    rw [show 2 + 2 + s.size - (2 + 2) = s.data.toList.length by omega, List.take_left]
  · rw [show gtN row 2 = _ from if_pos h1, hb, hz]
    omega
theorem fact3 (s text row : ByteArray) (cm : Nat) (hs : s.size ≤ 60) (ht : text = strOfNums [0, (s.size : Int)] ++ s) (hr : row = (⟨#[97, 98]⟩ : ByteArray) ++ text ++ ⟨#[99]⟩) (hz : text.size = s.size + 2) (hrz : row.size = text.size + 3) (hcm : cm < text.size) :
    gtB (row.extract 0 (2 + cm)) 2 = false := by
  have hd := fact1 s text row hs ht hr
  unfold gtB
  rw [decide_eq_false_iff_not]
  have hx : (row.extract 0 (2 + cm)).size = 2 + cm := by simp; omega
  rw [hx, Lib.extract_data, hd]
  by_cases h2 : 2 ≤ cm
  · have : beL (List.take 2 (List.drop 2 (List.take (2 + cm - 0) (List.drop 0 ([97, 98] ++ ([0, UInt8.ofNat s.size] ++ s.data.toList) ++ [99]))))) = s.size := by
      obtain ⟨k, rfl⟩ : ∃ k, cm = 2 + k := ⟨cm - 2, by omega⟩
      rw [List.drop_zero, Nat.sub_zero, show 2 + (2 + k) = k + 4 by omega]
      exact beL_two _ (by omega)
    rw [this]; omega
  · omega
theorem beL_four (n : Int) (h0 : 0 ≤ n) (h : n < 4294967296) : beL (strOfNums (putL n 4)).data.toList = n.toNat := by
  rw [strOfNums_data]
  simp [putL, putByte, List.range_succ, IntWalk.u64_in n (by omega), beL, UInt8.toNat_ofNat']
  omega
theorem fact4 (s sealed : ByteArray) (h : sealed = strOfNums (putL (4294967295 - crcL s.data.toList) 4) ++ s) (hz : sealed.size = s.size + 4) : opB sealed = true ∧ opS sealed = s := by
  have hd : sealed.data.toList = (strOfNums (putL (4294967295 - crcL s.data.toList) 4)).data.toList ++ s.data.toList := by rw [h, data_app]
  have hl : (strOfNums (putL (4294967295 - crcL s.data.toList) 4)).data.toList.length = 4 := by simp [strOfNums_data, putL]
  have hc := crcL_lt s.data.toList
  have h1 : opB sealed = true := by
    unfold opB
    rw [hd, List.take_left' hl, List.drop_left' hl, beL_four _ (by omega) (by omega)]
    simp; omega
  refine ⟨h1, ?_⟩
  rw [show opS sealed = _ from if_pos h1]
  apply ByteArray.ext
  apply Array.toList_inj.1
  rw [Lib.extract_to_end, hd, List.drop_left' hl]
theorem map_back (l : List UInt8) : (l.map fun b => (b.toNat : Int)).map (fun n => UInt8.ofNat n.toNat) = l := by
  rw [List.map_map]
  conv => rhs; rw [← List.map_id l]
  apply List.map_congr_left
  intro b _
  simp
theorem fact5 (s sealed T : ByteArray) (L : List UInt8) (c : Nat) (turn : Int) (h : sealed = strOfNums (putL (4294967295 - crcL s.data.toList) 4) ++ s) (hL : L = sealed.data.toList)
    (hT : T = strOfNums ((spoil L c turn 4).1.map fun b => (b.toNat : Int))) : (spoil L c turn 4).2 = 0 ∨ (spoil L c turn 4).2 ≠ 0 ∧ opB T = false := by
  by_cases h0 : (spoil L c turn 4).2 = 0
  · exact .inl h0
  · refine .inr ⟨h0, ?_⟩
    have hd : L = (strOfNums (putL (4294967295 - crcL s.data.toList) 4)).data.toList ++ s.data.toList := by rw [hL, h, data_app]
    have hl : (strOfNums (putL (4294967295 - crcL s.data.toList) 4)).data.toList.length = 4 := by simp [strOfNums_data, putL]
    have hc := crcL_lt s.data.toList
    have htd : T.data.toList = (spoil L c turn 4).1 := by rw [hT, strOfNums_data, map_back]
    rw [hd] at h0 htd
    obtain ⟨h1, h2⟩ := spoilt_none _ _ c turn hl h0
    unfold opB
    rw [decide_eq_false_iff_not, htd, h1, beL_four _ (by omega) (by omega)]
    rintro ⟨_, h3⟩
    exact h2 (by omega)
end Go.Proofs.Ytnbccejhgmacjaa
