/- Arguments that come in, opened to lists: whatever a kind of data is. -/
import Derived.Test.YtnbccejhgmacjaaValue
import Derived.ProofKit
import Derived.OpenShut
import Derived.ShutString
import Derived.ChangeOld
import Derived.Below
import Derived.Carry
import Derived.Deep.Slices
import Derived.Deep.Fields
import Derived.ChangeSame
namespace Go.Proofs.Ytnbccejhgmacjaa
open Go.ChangeShapes Go.WideShapes Go.RowKit Go.Deep
set_option linter.unusedVariables false
set_option maxRecDepth 100000
set_option linter.unusedSimpArgs false

theorem addr_add (b off q i : Nat) : (⟨b, off, none⟩ : Addr).add (q + i) = ⟨b, off + q + i, none⟩ := by
  unfold Addr.add
  by_cases h0 : q + i = 0
  · rw [if_pos h0, Nat.add_assoc, h0]; rfl
  · rw [if_neg h0, Nat.add_assoc]
/-- What lies there of type t is of kind d, and as ok says. -/
def Opens {α H : Type} (enc : TypeId × Value → H) (w : World) (t : TypeId) (d : Knd α) (ok : α → Prop) : Prop :=
  ∀ fuel cs x, DataW.trod enc Try.prog w 0 (fun _ => true) true fuel t cs = some x → ∃ a, d.K w (fun k => k < w.heap.size) a cs ∧ ok a
section
variable {α H : Type} {enc : TypeId × Value → H} {w : World} {t e : TypeId} {d : Knd α} {ok : α → Prop}
theorem opens_int {k : IntKind} (ht : Try.prog.underlying t = some (.int k)) : Opens enc w t (kInt k) (fun n => (Lit.int k n).wf = true) := by
  intro fuel cs x h
  obtain ⟨n, rfl, _, hw⟩ := DataW.trod_int ht h
  exact ⟨n, rfl, hw⟩
theorem opens_bool (ht : Try.prog.underlying t = some .bool) : Opens enc w t kBool (fun _ => True) := by
  intro fuel cs x h
  obtain ⟨n, rfl, _⟩ := DataW.trod_bool ht h
  exact ⟨n, rfl, trivial⟩
theorem opens_string (ht : Try.prog.underlying t = some .string) : Opens enc w t kStr (fun s => s.size ≤ maxLen) := by
  intro fuel cs x h
  obtain ⟨n, rfl, _, hn⟩ := DataW.trod_string ht h
  exact ⟨n, rfl, hn⟩
theorem opens_slice (ht : Try.prog.underlying t = some (.slice e)) (hc : Try.prog.cellsOf e = d.sz) (hp : 0 < d.sz) (h : Opens enc w e d ok) : Opens enc w t d.slice (fun xs => ∀ x ∈ xs, ok x) := by
  intro fuel cs x hx
  rcases open_slice ht hx with ⟨rfl, -⟩ | ⟨a, len, cap, m, n, D, Pl, rfl, -, hl, hm, hmm, -, hi⟩
  · exact ⟨[], ⟨none, 0, rfl, Nat.le_refl _, by omega, Rd.nil _ _ _ _⟩, by simp⟩
  · have hml : len ≤ m := by rw [hmm]; split <;> omega
    have each : ∀ i : Fin len, ∃ y : α, ok y ∧ ∃ cs', d.K w (fun k => k < w.heap.size) y cs' ∧ ∀ j, j < d.sz → w.cell? ((a.add (i * d.sz)).add j) = cs'[j]? := by
      intro i
      obtain ⟨cs', hcs, htr⟩ := hi i (by omega)
      rw [hc] at hcs
      obtain ⟨y, hK, hok⟩ := h _ _ _ htr
      exact ⟨y, hok, cs', hK, (World.cells?_some hcs).2.2⟩
    obtain ⟨f, hf⟩ : ∃ f : Fin len → α, ∀ i, ok (f i) ∧ ∃ cs', d.K w (fun k => k < w.heap.size) (f i) cs' ∧ ∀ j, j < d.sz → w.cell? ((a.add (i * d.sz)).add j) = cs'[j]? := ⟨fun i => Classical.choose (each i), fun i => Classical.choose_spec (each i)⟩
    clear each
    refine ⟨List.ofFn f, ⟨some a, cap, by simp, by simpa using hl, hm, ?_⟩, ?_⟩
    · refine ⟨by rw [List.length_ofFn]; exact Nat.le_trans hl hm, fun hn => ?_⟩
      have hlen : 0 < len := by
        rcases Nat.eq_zero_or_pos len with h0 | h0
        · subst h0; simp at hn
        · exact h0
      obtain ⟨b, off, spot⟩ := a
      have hfirst : ∃ v, w.cell? (⟨b, off, spot⟩ : Addr) = some v := by
        obtain ⟨-, cs', hK, hcell⟩ := hf ⟨0, hlen⟩
        have := hcell 0 hp
        rw [show ((⟨b, off, spot⟩ : Addr).add ((⟨0, hlen⟩ : Fin len) * d.sz)).add 0 = ⟨b, off, spot⟩ by simp [Addr.add]] at this
        rw [this]
        exact ⟨_, List.getElem?_eq_getElem (by rw [d.len hK]; exact hp)⟩
      obtain ⟨v, hv⟩ := hfirst
      have hspot : spot = none := by simpa using World.cell?_spot hv
      subst hspot
      refine ⟨b, off, rfl, World.block_lt_of_cell? w _ hv, fun j y hj => ?_⟩
      have hjl : j < len := by have := (List.getElem?_eq_some_iff.1 hj).1; simpa using this
      obtain ⟨-, cs', hK, hcell⟩ := hf ⟨j, hjl⟩
      have hy : y = f ⟨j, hjl⟩ := by
        rw [List.getElem?_eq_getElem (by simpa using hjl)] at hj
        simpa using hj.symm
      subst hy
      refine ⟨cs', hK, fun i u hu => ?_⟩
      have hi2 : i < d.sz := by have := (List.getElem?_eq_some_iff.1 hu).1; rwa [d.len hK] at this
      have := hcell i hi2
      rw [hu, add_add] at this
      rw [← this, show (⟨j, hjl⟩ : Fin len).1 = j from rfl, addr_add]
    · intro y hy
      obtain ⟨i, hi2⟩ := List.mem_ofFn.1 hy
      rw [← hi2]
      exact (hf i).1
theorem opens_mono {ok' : α → Prop} (h : Opens enc w t d ok) (hk : ∀ a, ok a → ok' a) : Opens enc w t d ok' := fun fuel cs x hx => let ⟨a, h1, h2⟩ := h fuel cs x hx; ⟨a, h1, hk a h2⟩
theorem opens_bytes : Opens enc w 23 (kInt .u8).slice (fun xs => ∀ c ∈ xs, 0 ≤ c ∧ c ≤ 255) :=
  opens_mono (opens_slice Try.underlying23 (by kernel_rfl) (by decide) (opens_int Try.underlying5)) fun xs h c hc => bounds_u8 (h c hc)
theorem three {β : Type} {l : List β} (h : l.length = 3) : ∃ a b c, l = [a, b, c] := by
  match l, h with
  | [a, b, c], _ => exact ⟨a, b, c, rfl⟩
theorem cellsVal : Try.prog.cellsOf 58 = 3 := by kernel_rfl
theorem cellsK : Try.prog.cellsOf 5 = 1 ∧ Try.prog.cellsOf 2 = 1 ∧ Try.prog.cellsOf 23 = 1 := ⟨by kernel_rfl, by kernel_rfl, by kernel_rfl⟩
/-- The law's Val. -/
theorem opens_val : Opens enc w 58 kVl Vl.wf := by
  intro fuel cs x h
  obtain ⟨ys, n, hn, hy, hlen, hyl, hf⟩ := DataW.trod_struct Try.underlying58 h
  rw [cellsVal] at hlen
  obtain ⟨c0, c1, c2, rfl⟩ := three hlen
  obtain ⟨y0, y1, y2, rfl⟩ := three (l := ys) (hyl.trans rfl)
  have f0 := hf 0 _ rfl
  have f1 := hf 1 _ rfl
  have f2 := hf 2 _ rfl
  simp only [cellsK.1, cellsK.2.1, cellsK.2.2, List.drop_zero, List.drop_succ_cons, List.take_succ_cons, List.take_zero, List.getElem?_cons_zero, List.getElem?_cons_succ] at f0 f1 f2
  obtain ⟨k, hk, hkw⟩ := opens_int Try.underlying5 _ _ _ f0
  obtain ⟨m, hm, hmw⟩ := opens_int Try.underlying2 _ _ _ f1
  obtain ⟨s, hs, hsw⟩ := opens_bytes _ _ _ f2
  obtain ⟨A, c, e2, hl, hc, hrd⟩ := hs
  have e0 : c0 = .int .u8 k := by simpa [kInt, Knd.scalar, cellsK.1] using hk
  have e1 : c1 = .int .i64 m := by simpa [kInt, Knd.scalar, cellsK.2.1] using hm
  have e3 : c2 = .slice A s.length c := by simpa [cellsK.2.2] using e2
  subst e0 e1 e3
  exact ⟨⟨k, m, s⟩, ⟨A, c, rfl, hl, hc, hrd⟩, (bounds_u8 hkw).1, (bounds_u8 hkw).2, (bounds_i64 hmw).1, (bounds_i64 hmw).2, hsw⟩
theorem opens_row : Opens enc w 36 kVl.slice (fun xs => ∀ x ∈ xs, x.wf) := opens_slice Try.underlying36 (by kernel_rfl) (by decide) opens_val
theorem opens_rows : Opens enc w 92 kVl.slice.slice (fun xs => ∀ x ∈ xs, ∀ y ∈ x, y.wf) := opens_slice Try.underlying92 (by kernel_rfl) (by decide) opens_row
/-- A slice that came in as an argument. -/
theorem open_arg {r : Reach} {b0 : Nat} {a : Value} {ds : DataW H} {p : List MemPlace} {ok' : List α → Prop} (ht : Try.prog.underlying t = some (.slice e)) (h : Opens enc w t d.slice ok') (hv : Value.okWide Try.prog w r b0 t a) (hd : DataW.Trod enc Try.prog w 0 (fun _ => true) true t a ds p) :
    ∃ A c xs, a = .slice A xs.length c ∧ xs.length ≤ c ∧ c ≤ 9223372036854775807 ∧ Rd d w (fun k => k < w.heap.size) A xs ∧ ok' xs := by
  obtain ⟨a3, len3, cap3, rfl⟩ := okWide_slice ht hv
  obtain ⟨fuel, hf⟩ := hd
  obtain ⟨xs, ⟨A, c, e2, hl, hc, hrd⟩, hok⟩ := h _ _ _ hf
  simp [Value.cells] at e2
  obtain ⟨rfl, rfl, rfl⟩ := e2
  exact ⟨_, _, xs, rfl, hl, hc, hrd, hok⟩
end
end Go.Proofs.Ytnbccejhgmacjaa
