/- How plain data lie in memory: kinds of data, rows of them, what keeps them. -/
import Derived.Test.YtnbccejhgmacjaaRows
import Derived.WalkKit
import Derived.WalkSpells
import Derived.WalkLawsBesides
import Derived.Lib.Hide
import Derived.Lib.Strings
import Derived.Lib.IndexBytes
import Derived.Lib.ConvBytes
import Derived.Deep.QuietTactic
import Derived.BigQuiet
import Derived.Deep.OwnRows
import Derived.Deep.AppendLies
import Derived.Deep.DeepCutAuto
import Derived.Deep.CutBlock
import Derived.Maps.AppendAt
namespace Go.Proofs.Ytnbccejhgmacjaa
open Go.RowKit
set_option linter.unusedVariables false
set_option linter.unusedSimpArgs false

/-- The two worlds agree on the blocks that satisfy ok. -/
def Agree (ok : Nat → Prop) (w w' : World) : Prop := ∀ p : Addr, ok p.block → w'.cell? p = w.cell? p

theorem Agree.refl (ok : Nat → Prop) (w : World) : Agree ok w w := fun _ _ => rfl
theorem Agree.trans {ok : Nat → Prop} {a b c : World} (h : Agree ok a b) (k : Agree ok b c) : Agree ok a c := fun p hp => (k p hp).trans (h p hp)
theorem Agree.below {B : Nat} {ok : Nat → Prop} {w w' : World} (h : Below B w w') (hok : ∀ k, ok k → k < B) : Agree ok w w' := fun p hp => h.cell (hok _ hp)
theorem Agree.grown {row : Option Nat} {ok : Nat → Prop} {w w' : World} (h : w.grownBy w' row) (hok : ∀ k, ok k → k < w.heap.size ∧ some k ≠ row) : Agree ok w w' := fun p hp => World.cell?_of_block (h.block p.block (hok _ hp).1 (hok _ hp).2)

/-- A kind of plain data: how many cells, and what they say, all within blocks that satisfy ok. -/
structure Knd (α : Type) where
  sz : Nat
  K : World → (Nat → Prop) → α → List Value → Prop
  len : ∀ {w ok x cs}, K w ok x cs → cs.length = sz
  one : ∀ {w ok x cs}, K w ok x cs → ∀ u ∈ cs, u.oneCell' = true
  keep : ∀ {w w' : World} {ok x cs}, Agree ok w w' → K w ok x cs → K w' ok x cs
  mono : ∀ {w} {ok ok' : Nat → Prop} {x cs}, (∀ k, ok k → ok' k) → K w ok x cs → K w ok' x cs

/-- A row of such data, read at an address. -/
def Rd {α : Type} (d : Knd α) (w : World) (ok : Nat → Prop) (A : Option Addr) (xs : List α) : Prop :=
  xs.length ≤ 9223372036854775807 ∧ (xs ≠ [] → ∃ b o, A = some ⟨b, o, none⟩ ∧ ok b ∧ ∀ j x, xs[j]? = some x → ∃ cs, d.K w ok x cs ∧ ∀ i u, cs[i]? = some u → w.cell? ⟨b, o + j * d.sz + i, none⟩ = some u)

section
variable {α : Type} {d : Knd α} {w w' : World} {ok ok' : Nat → Prop} {A : Option Addr} {xs : List α}
theorem Rd.nil (d : Knd α) (w : World) (ok : Nat → Prop) (A : Option Addr) : Rd d w ok A [] := ⟨by simp, fun h => absurd rfl h⟩
theorem Rd.keep (h : Rd d w ok A xs) (hk : Agree ok w w') : Rd d w' ok A xs := by
  refine ⟨h.1, fun hn => ?_⟩
  obtain ⟨b, o, rfl, hb, hc⟩ := h.2 hn
  refine ⟨b, o, rfl, hb, fun j x hj => ?_⟩
  obtain ⟨cs, hK, hcell⟩ := hc j x hj
  exact ⟨cs, d.keep hk hK, fun i u hu => (hk _ hb).trans (hcell i u hu)⟩
theorem Rd.mono (h : Rd d w ok A xs) (hk : ∀ k, ok k → ok' k) : Rd d w ok' A xs := by
  refine ⟨h.1, fun hn => ?_⟩
  obtain ⟨b, o, rfl, hb, hc⟩ := h.2 hn
  exact ⟨b, o, rfl, hk _ hb, fun j x hj => let ⟨cs, hK, hcell⟩ := hc j x hj; ⟨cs, d.mono hk hK, hcell⟩⟩
theorem Rd.below {B : Nat} (h : Rd d w ok A xs) (hb : Below B w w') (hok : ∀ k, ok k → k < B) : Rd d w' ok A xs := h.keep (.below hb hok)
end

/-- One cell a datum. -/
def Knd.scalar {α : Type} (enc : α → Value) (h1 : ∀ x, (enc x).oneCell' = true) : Knd α where
  sz := 1
  K := fun _ _ x cs => cs = [enc x]
  len := fun h => by rw [h]; rfl
  one := fun h u hu => by rw [h] at hu; rw [List.mem_singleton.1 hu]; exact h1 _
  keep := fun _ h => h
  mono := fun _ h => h
def kInt (k : IntKind) : Knd Int := Knd.scalar (Value.int k) (fun _ => rfl)
def kBool : Knd Bool := Knd.scalar Value.bool (fun _ => rfl)
def kStr : Knd ByteArray := Knd.scalar Value.string (fun _ => rfl)
/-- A slice of such data. -/
def Knd.slice {α : Type} (d : Knd α) : Knd (List α) where
  sz := 1
  K := fun w ok xs cs => ∃ A c, cs = [.slice A xs.length c] ∧ xs.length ≤ c ∧ c ≤ 9223372036854775807 ∧ Rd d w ok A xs
  len := by rintro w ok x cs ⟨A, c, rfl, _⟩; rfl
  one := by rintro w ok x cs ⟨A, c, rfl, _⟩ u hu; rw [List.mem_singleton.1 hu]; rfl
  keep := by rintro w w' ok x cs hk ⟨A, c, rfl, hl, hc, h⟩; exact ⟨A, c, rfl, hl, hc, h.keep hk⟩
  mono := by rintro w ok ok' x cs hk ⟨A, c, rfl, hl, hc, h⟩; exact ⟨A, c, rfl, hl, hc, h.mono hk⟩

/-- The program's api.Value. -/
structure V where
  kind : Int
  n : Int
  s : ByteArray
def V.cells (v : V) : List Value := [.int .i64 v.kind, .int .i64 v.n, .string v.s]
def V.agg (v : V) : Value := .agg #[.int .i64 v.kind, .int .i64 v.n, .string v.s]
def kV : Knd V where
  sz := 3
  K := fun _ _ v cs => cs = v.cells
  len := fun h => by rw [h]; rfl
  one := fun h u hu => by
    rw [h] at hu
    simp only [V.cells, List.mem_cons, List.not_mem_nil, or_false] at hu
    rcases hu with rfl | rfl | rfl <;> rfl
  keep := fun _ h => h
  mono := fun _ h => h
abbrev kRow : Knd (List V) := kV.slice
abbrev kRows : Knd (List (List V)) := kRow.slice

theorem add_add (a : Addr) (i j : Nat) : (a.add i).add j = a.add (i + j) := by
  unfold Addr.add
  by_cases hi : i = 0 <;> by_cases hj : j = 0 <;> simp [hi, hj, Nat.add_assoc]
theorem add_block (a : Addr) (i : Nat) : (a.add i).block = a.block := by unfold Addr.add; split <;> rfl

/-- The three cells of a row's value k. -/
theorem Rd.val {w : World} {ok : Nat → Prop} {A : Option Addr} {r : List V} (h : Rd kV w ok A r) {k : Nat} (hk : k < r.length) :
    ∃ b o, A = some ⟨b, o, none⟩ ∧ ok b ∧ w.cell? ⟨b, o + k * 3, none⟩ = some (.int .i64 r[k].kind) ∧ w.cell? ⟨b, o + k * 3 + 1, none⟩ = some (.int .i64 r[k].n) ∧ w.cell? ⟨b, o + k * 3 + 2, none⟩ = some (.string r[k].s) := by
  obtain ⟨b, o, rfl, hb, hc⟩ := h.2 (by intro e; rw [e] at hk; simp at hk)
  obtain ⟨cs, rfl, hcell⟩ := hc k _ (List.getElem?_eq_getElem hk)
  exact ⟨b, o, rfl, hb, hcell 0 _ rfl, hcell 1 _ rfl, hcell 2 _ rfl⟩
end Go.Proofs.Ytnbccejhgmacjaa
