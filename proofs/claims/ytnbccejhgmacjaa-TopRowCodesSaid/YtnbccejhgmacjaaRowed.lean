/- The law's own rowed: a row of values. -/
import Derived.Test.YtnbccejhgmacjaaValue
namespace Go.Proofs.Ytnbccejhgmacjaa
open Go.RowKit
set_option linter.unusedVariables false
set_option linter.unusedSimpArgs false

theorem info48 : (Try.prog.info? 48).map (fun i => (i.zero, i.size, i.bytes)) = some (some (.agg #[.int .i64 0, .int .i64 0, .string ⟨#[]⟩]), 3, 32) := by kernel_rfl
def rowCells (r : List V) : List Value := r.flatMap V.cells
theorem rowCells_length (r : List V) : (rowCells r).length = r.length * 3 := by
  induction r with
  | nil => rfl
  | cons v r ih => simp only [rowCells, List.flatMap_cons, List.length_append, List.length_cons] at ih ⊢; rw [ih]; simp [V.cells]; omega
theorem rowCells_append (r q : List V) : rowCells (r ++ q) = rowCells r ++ rowCells q := by simp [rowCells]
theorem rowCells_get (r : List V) (j : Nat) (v : V) (h : r[j]? = some v) (i : Nat) (u : Value) (hu : v.cells[i]? = some u) : (rowCells r)[j * 3 + i]? = some u := by
  induction r generalizing j with
  | nil => simp at h
  | cons a r ih =>
    have hi : i < 3 := by have := (List.getElem?_eq_some_iff.1 hu).1; simpa [V.cells] using this
    cases j with
    | zero =>
      simp only [List.getElem?_cons_zero, Option.some.injEq] at h
      subst h
      simp only [rowCells, List.flatMap_cons, Nat.zero_mul, Nat.zero_add]
      rw [List.getElem?_append_left (by simp [V.cells]; omega)]
      exact hu
    | succ j =>
      simp only [List.getElem?_cons_succ] at h
      have := ih j h
      simp only [rowCells, List.flatMap_cons] at this ⊢
      rw [List.getElem?_append_right (by simp [V.cells]; omega)]
      rw [← this]
      congr 1
      simp [V.cells]; omega
/-- A row that the call owns is read. -/
theorem rd_of_own {w : World} {B : Nat} {v : Value} {r : List V} (h : w.ownsRow B 48 3 v r.length (rowCells r)) (hl : r.length ≤ 9223372036854775807) :
    ∃ A c, v = .slice A r.length c ∧ r.length ≤ c ∧ c ≤ 9223372036854775807 ∧ Rd kV w (fun k => B ≤ k ∧ k < w.heap.size) A r := by
  rcases h.2 with ⟨rfl, h0⟩ | ⟨g, cap, cur, rfl, hg, hh, h1, h2, h3⟩
  · obtain rfl : r = [] := List.eq_nil_of_length_eq_zero h0
    exact ⟨none, 0, rfl, Nat.le_refl _, by omega, Rd.nil _ _ _ _⟩
  · refine ⟨_, cap, rfl, h1, by simpa [maxLen] using h2, hl, fun hn => ⟨g, 0, rfl, ⟨hg, (Array.getElem?_eq_some_iff.1 hh).1⟩, fun j x hj => ⟨x.cells, rfl, fun i u hu => ?_⟩⟩⟩
    have := h.cells (g := g) rfl (j * 3 + i) u (rowCells_get r j x hj i u hu)
    have ha : (⟨g, 0, none⟩ : Addr).add (j * 3 + i) = ⟨g, 0 + j * 3 + i, none⟩ := by unfold Addr.add; split <;> simp_all
    rw [ha] at this
    exact this

set_option maxHeartbeats 2000000 in
set_option maxRecDepth 100000 in
theorem rowed_any (l : List Vl) (A : Option Addr) (c : Nat) (w : World) (hv : ∀ v ∈ l, v.wf) (hc : l.length ≤ c) (hl : l.length ≤ 1000) (hA : Rd kVl w (fun k => k < w.heap.size) A l) :
    Calls Try.prog 18 #[.slice A l.length c] w fun e w' => (∃ A' c', e = .returned (.slice A' l.length c') ∧ l.length ≤ c' ∧ c' ≤ 9223372036854775807 ∧ Rd kV w' (fun k => w.heap.size ≤ k ∧ k < w'.heap.size) A' (l.map valueV) ∧ (A' = none → l = []) ∧ (l = [] → A' = none)) ∧ Below w.heap.size w w' := by
  obtain ⟨i0, hi, hz0, hz1, hz2⟩ := info_parts info48
  go_enter Try.func18, Try.ntmps18
  go_wp2
  go_loopw [3, 8] (fun v i wr => ∃ k : Nat, k ≤ l.length ∧ i = .int .i64 k ∧ (k = 0 → v = .slice none 0 0) ∧ (v = .slice none 0 0 → k = 0) ∧ wr.ownsRow w.heap.size 48 3 v k (rowCells ((l.take k).map valueV)) ∧ Below w.heap.size w wr) (fun _ i _ => l.length - (intOf i).toNat)
  case atStart => exact ⟨0, Nat.zero_le _, rfl, fun _ => rfl, fun _ => rfl, World.ownsRow_nil _ _ _ _, Below.refl _ _⟩
  case round =>
    obtain ⟨k, hk, rfl, hk0, hk1, hown, hbel⟩ := hrel
    by_cases hlt : k < l.length
    · obtain ⟨b, o, rfl, hb, hcl⟩ := hA.2 (by intro e; rw [e] at hlt; simp at hlt)
      obtain ⟨cs, ⟨S, cS, rfl, hcS, hcS2, hS⟩, hcell⟩ := hcl k _ (List.getElem?_eq_getElem hlt)
      have c0 := hbel.cell (p := ⟨b, o + k * 3, none⟩) hb |>.trans (hcell 0 _ rfl)
      have c1 := hbel.cell (p := ⟨b, o + k * 3 + 1, none⟩) hb |>.trans (hcell 1 _ rfl)
      have c2 := hbel.cell (p := ⟨b, o + k * 3 + 2, none⟩) hb |>.trans (hcell 2 _ rfl)
      clear hcl hcell
      have hwf := hv _ (List.getElem_mem hlt)
      have hsn : l.take (k + 1) = l.take k ++ [l[k]] := List.take_succ_eq_append_getElem hlt
      have HSN := Lib.hid hsn
      clear hsn
      generalize l[k] = x at *
      have hxl : (valueV x).cells = [.int .i64 (valueV x).kind, .int .i64 (valueV x).n, .string (valueV x).s] := rfl
      have HXL := Lib.hid hxl
      clear hxl
      go_wp2_with fail
      refine (value_any x S cS _ hwf hcS (((hS.below hbel (fun _ h => h)).mono (fun k hk => Nat.lt_of_lt_of_le hk hbel.size)).below (((Below.refl _ _).alloc (Nat.le_refl _) _)) (fun _ h => h) |>.mono (fun k hk => by simp; omega))).mono ?_
      rintro e w1 ⟨rfl, hb1⟩
      generalize hy : valueV x = y at *
      have HY := Lib.hid hy
      clear hy
      simp only [V.agg]
      have hb2 : Below w.heap.size w w1 := (hbel.alloc hbel.size _).trans (hb1.mono (by have := hbel.size; simp; omega))
      have hown1 : w1.ownsRow w.heap.size 48 3 u3 k (rowCells ((l.take k).map valueV)) := by
        refine (hown.alloc _).kept (row := none) ⟨hb1.os, hb1.tape, hb1.output, hb1.size, fun i hi _ => hb1.block i hi⟩ (by cases u3.ownBlock <;> simp)
      clear hown hbel hb1
      go_wp2_with (at_builtin; refine wpList_append_own _ rfl _ _ 39 rfl w.heap.size 48 i0 (.agg #[.int .i64 0, .int .i64 0, .string ⟨#[]⟩]) 3 32 Try.underlying39 hi hz0 hz1 hz2 rfl (by decide) _ _ _ rfl (hown1.alloc _) ⟨w1.heap.size, 0, none⟩ 1 1 [.int .i64 y.kind, .int .i64 y.n, .string y.s] rfl rfl ?c1 ?c2 ?c3 ?c4 ?c5 ?_)
      case c1 =>
        intro j u hj
        match j, hj with
        | 0, hj => simp at hj; subst hj; simp [Addr.add]
        | 1, hj => simp at hj; subst hj; simp [Addr.add]
        | 2, hj => simp at hj; subst hj; simp [Addr.add]
      case c2 => intro u hu; simp at hu; rcases hu with rfl | rfl | rfl <;> rfl
      case c3 => unfold maxLen; omega
      case c4 => omega
      case c5 => have := hb2.size; simp; omega
      intro v' w2 hown' hgrow hnn
      have hnn2 : v' = .slice none 0 0 → k + 1 = 0 := fun h => (hnn h).elim
      clear hnn
      go_wp2
      go_roundw
      case rel =>
        refine ⟨k + 1, by omega, by go_num, by omega, hnn2, ?_, (hb2.alloc hb2.size _).grown hgrow (by have := hb2.size; simp; omega) (fun k hk => (hown1.lt k hk).1)⟩
        rw [HSN.out, List.map_append, rowCells_append]
        simp only [List.map_cons, List.map_nil, HY.out, List.map_take]
        exact hown'
      case measure => simp [intOf]; omega
    · obtain rfl : k = l.length := by omega
      have HK := Lib.hid (And.intro hk0 hk1)
      clear hk0 hk1
      obtain ⟨A', c', rfl, h1, h2, h3⟩ := rd_of_own (r := (l.take l.length).map valueV) (by simpa using hown) (by simp; omega)
      simp only [List.length_map, List.take_length] at *
      go_wp2
      go_ret
      refine ⟨⟨A', c', rfl, h1, h2, h3, fun e => ?_, fun e => ?_⟩, hbel⟩
      · have hc0 : c' = 0 ∨ l ≠ [] := by
          by_cases hl0 : l = []
          · subst hl0
            have := HK.out.1 rfl
            simp at this
            exact .inl this.2
          · exact .inr hl0
        rcases hc0 with h0 | h0
        · exact List.eq_nil_of_length_eq_zero (by omega)
        · by_cases hl0 : l = []
          · exact hl0
          · have := h3.2 (by simpa using hl0)
            obtain ⟨b, o, e2, -⟩ := this
            rw [e] at e2; cases e2
      · have := HK.out.1 (by rw [e]; rfl)
        simp at this
        exact this.1
end Go.Proofs.Ytnbccejhgmacjaa
