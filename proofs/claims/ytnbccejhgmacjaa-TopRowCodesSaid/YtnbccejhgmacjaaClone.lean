/- slices.Clone at rows. -/
import Derived.Test.YtnbccejhgmacjaaRowr
namespace Go.Proofs.Ytnbccejhgmacjaa
open Go.RowKit
set_option linter.unusedVariables false
set_option linter.unusedSimpArgs false

theorem rowCells_one (r : List V) : ∀ u ∈ rowCells r, u.oneCell' = true := by
  intro u hu
  obtain ⟨v, -, hv⟩ := List.mem_flatMap.1 hu
  simp only [V.cells, List.mem_cons, List.not_mem_nil, or_false] at hv
  rcases hv with rfl | rfl | rfl <;> rfl
theorem rowCells_at {w : World} {ok : Nat → Prop} {ad : Addr} {r : List V} (h : Rd kV w ok (some ad) r) : ∀ j u, (rowCells r)[j]? = some u → w.cell? (ad.add j) = some u := by
  intro j u hj
  have hlt : j < r.length * 3 := by have := (List.getElem?_eq_some_iff.1 hj).1; rwa [rowCells_length] at this
  obtain ⟨b, o, e, hb, hc⟩ := h.2 (by rintro rfl; simp at hlt)
  injection e with e
  subst e
  obtain ⟨cs, hK, hcell⟩ := hc (j / 3) _ (List.getElem?_eq_getElem (by omega))
  obtain rfl : cs = _ := hK
  have hi : j % 3 < 3 := Nat.mod_lt _ (by omega)
  have h3 : j / 3 * 3 + j % 3 = j := by omega
  have := rowCells_get r (j / 3) _ (List.getElem?_eq_getElem (by omega)) (j % 3) _ (List.getElem?_eq_getElem (by simpa [V.cells] using hi))
  rw [h3, hj] at this
  have h4 := hcell (j % 3) _ (List.getElem?_eq_getElem (by simpa [V.cells] using hi))
  rw [← this] at h4
  have ha : (⟨b, o, none⟩ : Addr).add j = ⟨b, o + j / 3 * kV.sz + j % 3, none⟩ := by
    have : o + j / 3 * kV.sz + j % 3 = o + j := by show o + j / 3 * 3 + j % 3 = o + j; omega
    rw [this]
    unfold Addr.add; split <;> simp_all
  rw [ha]
  exact h4

set_option maxHeartbeats 1000000 in
set_option maxRecDepth 100000 in
theorem clone_any (A : Option Addr) (c : Nat) (r : List V) (w : World) (hA : Rd kV w (fun k => k < w.heap.size) A r) (hn : A = none → r = []) (hl : r.length ≤ 1000) :
    Calls Try.prog 22 #[.slice A r.length c] w fun e w' => ∃ v, e = .returned v ∧ w'.ownsRow w.heap.size TV 3 v r.length (rowCells r) ∧ Below w.heap.size w w' := by
  obtain ⟨i0, hi, hz0, hz1, hz2⟩ := info_parts info48
  have he := fun (w : World) (a : Option Addr) (n c : Nat) => Lib.run_eql_slice_nil (P := Try.prog) w 39 48 a n c 0 0 Try.underlying39
  rcases A with _ | ad
  · obtain rfl := hn rfl
    have he1 := he w none 0 c
    simp only [Option.isNone_none] at he1
    clear he
    go_enter Try.func22, Try.ntmps22
    go_wp2
    go_ret
    exact ⟨_, rfl, World.ownsRow_nil _ _ _ _, Below.refl _ _⟩
  · have he1 := he w (some ad) r.length c
    simp only [Option.isNone_some] at he1
    clear he
    have hlen := rowCells_length r
    go_enter Try.func22, Try.ntmps22
    have hown0 : (w.alloc (.cells #[] TV)).ownsRow w.heap.size TV 3 (.slice (some ⟨w.heap.size, 0, none⟩) 0 0) 0 [] := by
      refine ⟨rfl, .inr ⟨w.heap.size, 0, #[], rfl, Nat.le_refl _, heap_alloc_new w _, ?_⟩⟩
      simp
    go_wp2_with (at_builtin; refine wpList_append_own _ rfl _ _ 39 rfl w.heap.size 48 i0 (.agg #[.int .i64 0, .int .i64 0, .string ⟨#[]⟩]) 3 32 Try.underlying39 hi hz0 hz1 hz2 rfl (by decide) _ 0 [] rfl hown0 ad r.length c (rowCells r) rfl hlen ?c1 (rowCells_one r) ?c3 ?c4 ?c5 ?_)
    case c1 => exact rowCells_at ((hA.below ((Below.refl w.heap.size w).alloc (Nat.le_refl _) _) (fun _ h => h)))
    case c3 => unfold maxLen; omega
    case c4 => omega
    case c5 => simp
    intro v' w2 hown' hgrow _
    go_wp2
    go_ret
    exact ⟨_, rfl, by simpa using hown', ((Below.refl w.heap.size w).alloc (Nat.le_refl _) _).grown hgrow (by simp) (by rintro k ⟨⟩; exact Nat.le_refl _)⟩
end Go.Proofs.Ytnbccejhgmacjaa
