/- Plain laws of sums: what is spoilt in up to four bytes side by side has another sum. -/
import Derived.Test.YtnbccejhgmacjaaOct
namespace Go.Proofs.Ytnbccejhgmacjaa
open Go.RowKit
set_option linter.unusedVariables false
set_option linter.unusedSimpArgs false

/-- Byte i of turn. -/
def turnB (turn : Int) (i : Nat) : UInt8 := UInt8.ofNat (turn / 2 ^ (8 * i) % 256).toNat
/-- A text behind i rounds of the spoiling, and how many bytes have turned. -/
def spoil (l : List UInt8) (cut turn : Int) : Nat → List UInt8 × Nat
  | 0 => (l, 0)
  | i + 1 =>
    let p := 4 + cut.toNat + i
    let r := spoil l cut turn i
    if p < l.length ∧ turn / 2 ^ (8 * i) % 256 ≠ 0 then (r.1.set p (r.1.getD p 0 ^^^ turnB turn i), r.2 + 1) else r
theorem spoil_length (l : List UInt8) (cut turn : Int) (i : Nat) : (spoil l cut turn i).1.length = l.length := by
  induction i with
  | zero => rfl
  | succ i ih =>
    simp only [spoil]
    split
    · rw [List.length_set, ih]
    · exact ih
theorem spoil_le (l : List UInt8) (cut turn : Int) (i : Nat) : (spoil l cut turn i).2 ≤ i := by
  induction i with
  | zero => exact Nat.le_refl _
  | succ i ih =>
    simp only [spoil]
    split
    · exact Nat.succ_le_succ ih
    · omega
theorem spoil_stay {L : List UInt8} {cut : Nat} {turn : Int} {i : Nat} (h : ¬ 4 + cut + i < L.length ∨ turn / 2 ^ (8 * i) % 256 = 0) : spoil L cut turn (i + 1) = spoil L cut turn i :=
  if_neg (by rintro ⟨h1, h2⟩; rcases h with h | h; exact h h1; exact h2 h)
theorem spoil_turn {L : List UInt8} {cut : Nat} {turn : Int} {i : Nat} (h : 4 + cut + i < L.length) (h2 : ¬ turn / 2 ^ (8 * i) % 256 = 0) :
    spoil L cut turn (i + 1) = ((spoil L cut turn i).1.set (4 + cut + i) ((spoil L cut turn i).1.getD (4 + cut + i) 0 ^^^ turnB turn i), (spoil L cut turn i).2 + 1) := if_pos ⟨h, h2⟩
theorem bits_xor_u8 (x : UInt8) (t : Int) (h0 : 0 ≤ t) (h1 : t < 256) : bits .xor .u8 (x.toNat : Int) t = ((x ^^^ UInt8.ofNat t.toNat).toNat : Int) := by
  obtain ⟨b, rfl⟩ := Int.eq_ofNat_of_zero_le h0
  have hx := x.toNat_lt
  have h3 : (BitVec.ofInt 8 (x.toNat : Int)).toNat = x.toNat := by
    rw [BitVec.ofInt_natCast, BitVec.toNat_ofNat]; exact Nat.mod_eq_of_lt (by omega)
  have h2 : (BitVec.ofInt 8 (b : Int)).toNat = b := by
    rw [BitVec.ofInt_natCast, BitVec.toNat_ofNat]; exact Nat.mod_eq_of_lt (by omega)
  have hlt : x.toNat ^^^ b < 256 := Nat.xor_lt_two_pow (n := 8) (by omega) (by omega)
  show IntKind.u8.wrap ((BitVec.ofInt 8 (x.toNat : Int) ^^^ BitVec.ofInt 8 (b : Int)).toNat : Int) = _
  rw [BitVec.toNat_xor, h3, h2, IntKind.wrap_u8, UInt8.toNat_xor, UInt8.toNat_ofNat', show ((b : Int)).toNat = b from rfl, Nat.mod_eq_of_lt (show b < 2 ^ 8 by omega)]
  omega
end Go.Proofs.Ytnbccejhgmacjaa
