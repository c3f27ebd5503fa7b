/- Values and rows: the law's own order. -/
import Derived.Test.YtnbccejhgmacjaaBld
import Derived.StillTailTactics
namespace Go.Proofs.Ytnbccejhgmacjaa
open Go.RowKit
set_option linter.unusedVariables false
set_option linter.unusedSimpArgs false

/-- The kinds that occur. -/
def V.fair (v : V) : Prop := -10 ≤ v.kind ∧ v.kind ≤ 10
def rankV (a b : V) : Int :=
  if a.kind ≠ b.kind then (if a.kind < b.kind then -1 else 1) else if a.n < b.n then -1 else if b.n < a.n then 1 else Lib.compareBytes a.s.data.toList b.s.data.toList
def ranksV : List V → List V → Int
  | [], [] => 0
  | [], _ :: _ => -1
  | _ :: _, [] => 1
  | a :: r, b :: q => if rankV a b ≠ 0 then rankV a b else ranksV r q

theorem drew_fold (w : World) : ({ heap := w.heap, tape := w.tape, drawn := w.drawn + 1, os := w.os, output := w.output } : World) = w.drew := rfl
theorem drew_cell {w : World} {a : Addr} {v : Value} (h : w.cell? a = some v) : w.drew.cell? a = some v := h
theorem below_drew' {B : Nat} {w W : World} (h : Below B w W) : Below B w W.drew := ⟨h.os, h.tape, h.output, h.size, h.block⟩
theorem ret_of {v v' : Value} (h : v = v') : Ending.returned v = Ending.returned v' := by rw [h]
theorem below2 (w : World) (o o' : Obj) : Below w.heap.size w ((w.alloc o).alloc o') := ((Below.refl _ _).alloc (Nat.le_refl _) _).alloc (by simp) _
set_option maxHeartbeats 1000000 in
set_option maxRecDepth 100000 in
theorem rank_any (a b : V) (w : World) (ha : a.fair) (hb : b.fair) :
    Calls Try.prog 26 #[a.agg, b.agg] w fun e w' => e = .returned (.int .i64 (rankV a b)) ∧ Below w.heap.size w w' := by
  obtain ⟨ka, na, sa⟩ := a
  obtain ⟨kb, nb, sb⟩ := b
  simp only [V.fair] at ha hb
  simp only [V.agg]
  obtain ⟨ha1, ha2⟩ := ha
  obtain ⟨hb1, hb2⟩ := hb
  by_cases hk : ka = kb
  · subst hk
    by_cases h1 : na < nb
    · have e : rankV ⟨ka, na, sa⟩ ⟨ka, nb, sb⟩ = -1 := by simp [rankV, h1]
      rw [e]; clear e
      go_enter Try.func26, Try.ntmps26
      go_wp2
      go_ret
      exact ⟨rfl, below2 _ _ _⟩
    · have h1' : decide (na < nb) = false := by simpa using h1
      by_cases h2 : nb < na
      · have e : rankV ⟨ka, na, sa⟩ ⟨ka, nb, sb⟩ = 1 := by simp [rankV, h1, h2]
        rw [e]; clear e h1
        go_enter Try.func26, Try.ntmps26
        go_wp2
        go_ret
        exact ⟨rfl, below2 _ _ _⟩
      · have h2' : decide (nb < na) = false := by simpa using h2
        have e : rankV ⟨ka, na, sa⟩ ⟨ka, nb, sb⟩ = Lib.compareBytes sa.data.toList sb.data.toList := by simp [rankV, h1, h2]
        rw [e]; clear e h1 h2
        go_enter Try.func26, Try.ntmps26
        go_wp2_with (first | (go_at_call 46; refine (Try.strings_Compare _ _ _).mono ?_; rintro e w' ⟨rfl, rfl⟩))
        go_ret
        exact ⟨rfl, below2 _ _ _⟩
  · have hne : (ka != kb) = true := by simpa using hk
    by_cases h1 : ka < kb
    · have e : rankV ⟨ka, na, sa⟩ ⟨kb, nb, sb⟩ = -1 := by simp [rankV, hk, h1]
      rw [e]; clear e hk
      go_enter Try.func26, Try.ntmps26
      go_wp2
      go_ret
      exact ⟨ret_of (congrArg (Value.int .i64) (by omega)), below2 _ _ _⟩
    · have e : rankV ⟨ka, na, sa⟩ ⟨kb, nb, sb⟩ = 1 := by simp [rankV, hk, h1]
      have h2 : kb < ka := by omega
      rw [e]; clear e h1 hk
      go_enter Try.func26, Try.ntmps26
      go_wp2
      go_ret
      exact ⟨ret_of (congrArg (Value.int .i64) (by omega)), below2 _ _ _⟩

theorem rankV_range (a b : V) : -1 ≤ rankV a b ∧ rankV a b ≤ 1 := by
  have hc : ∀ x y : List UInt8, -1 ≤ Lib.compareBytes x y ∧ Lib.compareBytes x y ≤ 1 := by
    intro x
    induction x with
    | nil => intro y; cases y <;> simp [Lib.compareBytes]
    | cons c x ih =>
      intro y
      cases y with
      | nil => simp [Lib.compareBytes]
      | cons d y =>
        simp only [Lib.compareBytes]
        split
        · omega
        · split
          · omega
          · exact ih y
  unfold rankV
  have := hc a.s.data.toList b.s.data.toList
  repeat' split
  all_goals omega

set_option maxHeartbeats 1000000 in
set_option maxRecDepth 100000 in
theorem ranks_any (A B : Option Addr) (ca cb : Nat) (r q : List V) (w : World) (hr : ∀ v ∈ r, v.fair) (hq : ∀ v ∈ q, v.fair) (hA : Rd kV w (fun k => k < w.heap.size) A r) (hB : Rd kV w (fun k => k < w.heap.size) B q) :
    Calls Try.prog 27 #[.slice A r.length ca, .slice B q.length cb] w fun e w' => e = .returned (.int .i64 (ranksV r q)) ∧ Below w.heap.size w w' := by
  have hlr := hA.1
  have hlq := hB.1
  obtain ⟨m, hm⟩ : ∃ m, m = min r.length q.length := ⟨_, rfl⟩
  have hm1 : m ≤ r.length := by omega
  have hm2 : m ≤ q.length := by omega
  have hm3 : (min (r.length : Int) (q.length : Int)) = m := by omega
  have HM := Lib.hid hm
  clear hm
  go_enter Try.func27, Try.ntmps27
  go_wp2
  go_loopw [12] (fun i wr => ∃ k : Nat, k ≤ m ∧ i = .int .i64 k ∧ ranksV r q = ranksV (r.drop k) (q.drop k) ∧ Below w.heap.size w wr) (fun i _ => m - (intOf i).toNat)
  case atStart => exact ⟨0, Nat.zero_le _, rfl, rfl, Below.refl _ _⟩
  case round =>
    obtain ⟨k, hk, rfl, heq, hbel⟩ := hrel
    by_cases hlt : k < m
    · obtain ⟨bA, oA, rfl, ha, a0, a1, a2⟩ := (hA.below hbel (fun _ h => h)).val (k := k) (by omega)
      obtain ⟨bB, oB, rfl, hb, b0, b1, b2⟩ := (hB.below hbel (fun _ h => h)).val (k := k) (by omega)
      have hstep : ranksV (r.drop k) (q.drop k) = if rankV (r[k]'(by omega)) (q[k]'(by omega)) ≠ 0 then rankV (r[k]'(by omega)) (q[k]'(by omega)) else ranksV (r.drop (k + 1)) (q.drop (k + 1)) := by
        rw [List.drop_eq_getElem_cons (by omega), List.drop_eq_getElem_cons (show k < q.length by omega)]; rfl
      have fx := hr _ (List.getElem_mem (show k < r.length by omega))
      have fy := hq _ (List.getElem_mem (show k < q.length by omega))
      generalize r[k]'(by omega) = x at *
      generalize q[k]'(by omega) = y at *
      rw [hstep] at heq
      have HE := Lib.hid heq
      clear heq hstep
      go_upto_region 4 with fail
      go_cut [6] from 15 to 23 (fun z w2 => z = .int .i64 (rankV x y) ∧ Below w.heap.size w w2)
      case first =>
        have i0 : (0 : Int) ≤ (k : Int) := by omega
        have i1 : (k : Int) < (r.length : Int) := by omega
        have i2 : (k : Int) < (q.length : Int) := by omega
        refine wp_region_still_tail 8 (by kernel_rfl) (by kernel_rfl) ?_
        simp only [List.take_succ_cons, List.take_zero, List.drop_succ_cons, List.drop_zero, drew_fold]
        replace a0 := drew_cell a0
        replace a1 := drew_cell a1
        replace a2 := drew_cell a2
        replace b0 := drew_cell b0
        replace b1 := drew_cell b1
        replace b2 := drew_cell b2
        have hbd := below_drew' hbel
        generalize wr.drew = wd at *
        repeat still_step
        try refine wpStill_nil ?_
        go_wp2_with (first | (go_at_call 26; refine (rank_any x y _ fx fy).mono ?_; rintro e w' ⟨rfl, hb3⟩))
        go_meet
        exact ⟨rfl, hbd.trans (hb3.mono hbd.size)⟩
      case rest =>
        obtain ⟨rfl, hb2⟩ := hcut
        clear hbel
        have h3 := rankV_range x y
        by_cases h0 : rankV x y = 0
        · have h0' : (rankV x y != 0) = false := by simp [h0]
          go_wp2
          first
          | (go_roundw; (case rel => exact ⟨k + 1, by omega, by go_num, by rw [HE.out, if_neg (by simp [h0])], hb2⟩); (case measure => simp [intOf]; omega))
          | (refine ⟨⟨k + 1, by omega, by go_num, by rw [HE.out, if_neg (by simp [h0])], hb2⟩, ?_⟩; simp [intOf]; omega)
          | ((repeat apply Exists.intro); exact ⟨⟨k + 1, by omega, by go_num, by rw [HE.out, if_neg (by simp [h0])], hb2⟩, rfl⟩)
        · have h0' : (rankV x y != 0) = true := by simp [h0]
          have HE2 := Lib.hid (HE.out.trans (if_pos h0))
          clear h0
          go_wp2
          go_ret
          exact ⟨ret_of (congrArg (Value.int .i64) HE2.out.symm), hb2⟩
    · have hkm : k = r.length ∨ k = q.length := by have := HM.out; omega
      have hv : ranksV (r.drop k) (q.drop k) = max (-1) (min 1 ((r.length : Int) - q.length)) := by
        have h1 : k ≤ r.length := by omega
        have h2 : k ≤ q.length := by omega
        rcases Nat.lt_or_ge k r.length with h3 | h3
        · rw [List.drop_eq_getElem_cons h3, List.drop_eq_nil_of_le (show q.length ≤ k by omega)]
          show (1 : Int) = _
          omega
        · rcases Nat.lt_or_ge k q.length with h4 | h4
          · rw [List.drop_eq_nil_of_le (show r.length ≤ k by omega), List.drop_eq_getElem_cons h4]
            show (-1 : Int) = _
            omega
          · rw [List.drop_eq_nil_of_le (by omega), List.drop_eq_nil_of_le (by omega)]
            show (0 : Int) = _
            omega
      have HE := Lib.hid (heq.trans hv)
      clear heq hv hkm
      go_wp2
      go_ret
      exact ⟨ret_of (congrArg (Value.int .i64) HE.out.symm), hbel⟩
end Go.Proofs.Ytnbccejhgmacjaa
