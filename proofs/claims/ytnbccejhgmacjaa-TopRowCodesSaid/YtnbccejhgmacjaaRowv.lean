/- Package rowcode's reader of values; Get. -/
import Derived.Test.YtnbccejhgmacjaaRowg
namespace Go.Proofs.Ytnbccejhgmacjaa
open Go.RowKit
set_option linter.unusedVariables false
set_option linter.unusedSimpArgs false

def mapP {α β : Type} (f : α → β) : Except Int (α × List UInt8) → Except Int (β × List UInt8)
  | .ok (x, t) => .ok (f x, t)
  | .error e => .error e
def boolP : List UInt8 → Except Int (V × List UInt8)
  | [] => .error 3
  | c :: t => if 1 < c.toNat then .error 2 else .ok (⟨1, c.toNat, ⟨#[]⟩⟩, t)
def valP : List UInt8 → Except Int (V × List UInt8)
  | [] => .error 3
  | k :: t => if k.toNat = 0 then .ok (⟨0, 0, ⟨#[]⟩⟩, t) else if k.toNat = 1 then boolP t else if k.toNat = 2 then mapP (fun n => ⟨2, n, ⟨#[]⟩⟩) (numP t) else if k.toNat = 3 then mapP (fun s => ⟨3, 0, s⟩) (textP t) else .error 2

theorem Told.map {α β : Type} {f : α → β} {res : Except Int (α × List UInt8)} {v : α} {l : List UInt8} {e : Int} (h : Told res v l e) : Told (mapP f res) (f v) l e := by
  rcases res with x | ⟨x, t⟩
  · exact h
  · obtain ⟨rfl, h2, h3⟩ := h
    exact ⟨rfl, h2, h3⟩

abbrev TV : Nat := 48
/-- The box of a value. -/
def Box (w : World) (X : Nat) (k n : Int) (s : ByteArray) : Prop := w.heap[X]? = some (.cells #[.int .i64 k, .int .i64 n, .string s] TV (0, 0))
section
variable {w w' : World} {X g : Nat} {k n : Int} {s : ByteArray}
theorem Box.lt (h : Box w X k n s) : X < w.heap.size := (Array.getElem?_eq_some_iff.1 h).1
theorem Box.c0 (h : Box w X k n s) : w.cell? ⟨X, 0, none⟩ = some (.int .i64 k) := (cell_blk h 0).trans rfl
theorem Box.c1 (h : Box w X k n s) : w.cell? ⟨X, 1, none⟩ = some (.int .i64 n) := (cell_blk h 1).trans rfl
theorem Box.c2 (h : Box w X k n s) : w.cell? ⟨X, 2, none⟩ = some (.string s) := (cell_blk h 2).trans rfl
theorem Box.fz (h : Box w X k n s) (i : Nat) : w.frozen? ⟨X, i, none⟩ = false := frozen_blk h i
theorem Box.grown (h : Box w X k n s) (hg : w.grownBy w' (some g)) (hne : g < X) : Box w' X k n s := (hg.block X h.lt (by simp; omega)).trans h
theorem Box.new (w : World) (k n : Int) (s : ByteArray) : Box (w.alloc (.cells #[.int .i64 k, .int .i64 n, .string s] TV)) w.heap.size k n s := heap_alloc_new w _
theorem Box.set0 (h : Box w X k n s) (x : Int) : Box (w.setCell ⟨X, 0, none⟩ (.int .i64 x)) X x n s := blk_set h 0 _
theorem Box.set1 (h : Box w X k n s) (x : Int) : Box (w.setCell ⟨X, 1, none⟩ (.int .i64 x)) X k x s := blk_set h 1 _
theorem Box.set2 (h : Box w X k n s) (x : ByteArray) : Box (w.setCell ⟨X, 2, none⟩ (.string x)) X k n x := blk_set h 2 _
end
theorem Rdr.set {w : World} {g X : Nat} {s : ByteArray} {at_ : Nat} {e : Int} (h : Rdr w g s at_ e) (hne : g < X) (i : Nat) (v : Value) : Rdr (w.setCell ⟨X, i, none⟩ v) g s at_ e := (Below.heap_setCell w ⟨X, i, none⟩ v g (by show g ≠ X; omega)).trans h

theorem Box.alloc {w : World} {X : Nat} {k n : Int} {s : ByteArray} (h : Box w X k n s) (o : Obj) : Box (w.alloc o) X k n s := (Lib.alloc_old w o X h.lt).trans h
theorem Box.other {w : World} {X Y : Nat} {k n : Int} {s : ByteArray} (h : Box w X k n s) (hne : X ≠ Y) (i : Nat) (v : Value) : Box (w.setCell ⟨Y, i, none⟩ v) X k n s := (Below.heap_setCell w ⟨Y, i, none⟩ v X hne).trans h
theorem Box.put {w : World} {X : Nat} {k n : Int} {s : ByteArray} (h : Box w X k n s) (k' n' : Int) (s' : ByteArray) : Box (((w.setCell ⟨X, 0, none⟩ (.int .i64 k')).setCell ⟨X, 1, none⟩ (.int .i64 n')).setCell ⟨X, 2, none⟩ (.string s')) X k' n' s' := ((h.set0 k').set1 n').set2 s'
theorem Rdr.put {w : World} {g X : Nat} {s : ByteArray} {at_ : Nat} {e : Int} (h : Rdr w g s at_ e) (hne : g < X) (a b c : Value) : Rdr (((w.setCell ⟨X, 0, none⟩ a).setCell ⟨X, 1, none⟩ b).setCell ⟨X, 2, none⟩ c) g s at_ e := ((h.set hne 0 a).set hne 1 b).set hne 2 c
theorem grown_far {w w' : World} {row : Option Nat} (h : w.grownBy w' row) {X : Nat} (hX : w.heap.size ≤ X) (i : Nat) (v : Value) : w.grownBy (w'.setCell ⟨X, i, none⟩ v) row := grown_below h ((Below.refl w.heap.size w').setCell (p := ⟨X, i, none⟩) hX v)
theorem grown_put {w w' : World} {row : Option Nat} (h : w.grownBy w' row) {X : Nat} (hX : w.heap.size ≤ X) (a b c : Value) : w.grownBy (((w'.setCell ⟨X, 0, none⟩ a).setCell ⟨X, 1, none⟩ b).setCell ⟨X, 2, none⟩ c) row := grown_far (grown_far (grown_far h hX 0 a) hX 1 b) hX 2 c

set_option maxHeartbeats 2000000 in
set_option maxRecDepth 100000 in
theorem rvalue_any (g : Nat) (s : ByteArray) (at_ : Nat) (w : World) (h : Rdr w g s at_ 0) (ha : at_ ≤ s.size) (hs : s.size ≤ 500) :
    Calls Try.prog 66 #[.pointer (some ⟨g, 0, none⟩)] w fun e w' => ∃ v : V, e = .returned v.agg ∧ Read w g s (valP (lft s at_)) v w' := by
  have hgX := h.lt
  have h0 := h.alloc (.cells #[.int .i64 0, .int .i64 0, .string ⟨#[]⟩] TV)
  have hG0 := World.grownBy_alloc w (.cells #[.int .i64 0, .int .i64 0, .string ⟨#[]⟩] TV) (some g)
  have hX0 := Box.new w 0 0 ⟨#[]⟩
  obtain ⟨X, hX⟩ : ∃ X, X = w.heap.size := ⟨_, rfl⟩
  rw [← hX] at hgX hX0
  have hXw : w.heap.size ≤ X := by omega
  have HX := Lib.hid hX
  clear hX
  obtain ⟨w0, hw0⟩ : ∃ w0, w0 = w.alloc (.cells #[.int .i64 0, .int .i64 0, .string ⟨#[]⟩] TV) := ⟨_, rfl⟩
  rw [← hw0] at h0 hG0 hX0
  have HW0 := Lib.hid hw0
  clear hw0
  rcases hl : lft s at_ with _ | ⟨k, t⟩
  · have HL := Lib.hid hl
    clear hl
    go_enter Try.func66, Try.ntmps66
    go_wp2_with fail
    rw [← HW0.out, ← HX.out]
    refine (one_nil g s at_ _ h0 HL.out hs).mono ?_
    rintro e w1 ⟨rfl, hr1, hg1⟩
    have hX1 := hX0.grown hg1 hgX
    have hlX := hX1.lt
    have hG1 := hG0.trans hg1
    clear h h0 hX0 hG0 hg1
    have c0 := hX1.c0
    have c1 := hX1.c1
    have c2 := hX1.c2
    have f0 := hX1.fz 0
    have f1 := hX1.fz 1
    have f2 := hX1.fz 2
    go_wp2
    have hXf := (hX1.put 0 0 ⟨#[]⟩).alloc (.cells #[.int .i64 0, .int .i64 0, .string ⟨#[]⟩] TV)
    have d0 := hXf.c0
    have d1 := hXf.c1
    have d2 := hXf.c2
    refine bodyPost_ret (v := .agg #[.int .i64 0, .int .i64 0, .string ⟨#[]⟩]) (by simp [results, Try.results66, go_sem, d0, d1, d2]) rfl ⟨⟨0, 0, ⟨#[]⟩⟩, rfl, ?_⟩
    exact ⟨_, _, (hr1.put hgX _ _ _).alloc _, ha, (grown_put hG1 hXw _ _ _).trans (World.grownBy_alloc _ _ _), rfl⟩
  · have hk := k.toNat_lt
    obtain ⟨hlt, -, ht⟩ := lft_cons hl
    have HL := Lib.hid hl
    by_cases h00 : k.toNat = 0
    · have e : valP (k :: t) = .ok (⟨0, 0, ⟨#[]⟩⟩, lft s (at_ + 1)) := by rw [ht]; simp [valP, h00]
      rw [e]
      have h1' : (k.toNat : Int) = 0 := by omega
      clear h00 hl e
      go_enter Try.func66, Try.ntmps66
      go_wp2_with fail
      rw [← HW0.out, ← HX.out]
      refine (one_cons g s at_ k t _ h0 HL.out hs).mono ?_
      rw [h1']
      rintro e w1 ⟨rfl, hr1, hg1⟩
      have hX1 := hX0.grown hg1 hgX
      have hlX := hX1.lt
      have hG1 := hG0.trans hg1
      clear h h0 hX0 hG0 hg1
      have c0 := hX1.c0
      have c1 := hX1.c1
      have c2 := hX1.c2
      have f0 := hX1.fz 0
      have f1 := hX1.fz 1
      have f2 := hX1.fz 2
      go_wp2
      have hXf := (hX1.put 0 0 ⟨#[]⟩).alloc (.cells #[.int .i64 0, .int .i64 0, .string ⟨#[]⟩] TV)
      have d0 := hXf.c0
      have d1 := hXf.c1
      have d2 := hXf.c2
      refine bodyPost_ret (v := .agg #[.int .i64 0, .int .i64 0, .string ⟨#[]⟩]) (by simp [results, Try.results66, go_sem, d0, d1, d2]) rfl ⟨⟨0, 0, ⟨#[]⟩⟩, rfl, ?_⟩
      exact ⟨_, _, (hr1.put hgX _ _ _).alloc _, hlt, (grown_put hG1 hXw _ _ _).trans (World.grownBy_alloc _ _ _), rfl, rfl, rfl⟩
    · by_cases h01 : k.toNat = 1
      · have e : valP (k :: t) = boolP (lft s (at_ + 1)) := by rw [ht]; simp [valP, h01]
        rw [e]
        have h1' : (k.toNat : Int) = 1 := by omega
        clear h00 h01 hl e
        rcases hl2 : lft s (at_ + 1) with _ | ⟨c, t2⟩
        · have HL2 := Lib.hid hl2
          clear hl2
          go_enter Try.func66, Try.ntmps66
          go_wp2_with fail
          rw [← HW0.out, ← HX.out]
          refine (one_cons g s at_ k t _ h0 HL.out hs).mono ?_
          rw [h1']
          rintro e w1 ⟨rfl, hr1, hg1⟩
          have hX1 := hX0.grown hg1 hgX
          have hG1 := hG0.trans hg1
          clear h h0 hX0 hG0 hg1
          go_wp2_with fail
          have hr2 := hr1.alloc (.cells #[.int .i64 1, .int .i64 0, .string ⟨#[]⟩] TV)
          have hX2 := hX1.alloc (.cells #[.int .i64 1, .int .i64 0, .string ⟨#[]⟩] TV)
          have hY2 := Box.new w1 1 0 ⟨#[]⟩
          have hG2 := hG1.trans (World.grownBy_alloc w1 (.cells #[.int .i64 1, .int .i64 0, .string ⟨#[]⟩] TV) (some g))
          have hgY := hr1.lt
          have hXY := hX1.lt
          have hYw := hG1.size
          clear hr1 hX1 hG1
          generalize w1.heap.size = Y at *
          generalize w1.alloc (.cells #[.int .i64 1, .int .i64 0, .string ⟨#[]⟩] TV) = w2 at *
          refine (one_nil g s (at_ + 1) _ hr2 HL2.out hs).mono ?_
          rintro e w3 ⟨rfl, hr3, hg3⟩
          have hX3 := hX2.grown hg3 hgX
          have hY3 := hY2.grown hg3 hgY
          have hG3 := hG2.trans hg3
          clear hX2 hY2 hG2 hg3 hr2
          have c0 := hX3.c0
          have c1 := hX3.c1
          have c2 := hX3.c2
          have f0 := hX3.fz 0
          have f1 := hX3.fz 1
          have f2 := hX3.fz 2
          have y0 := hY3.c0
          have y1 := hY3.c1
          have y2 := hY3.c2
          have fy1 := hY3.fz 1
          have fy2 := hY3.fz 2
          go_wp2
          have hXf := (hX3.other (Nat.ne_of_lt hXY) 1 (.int .i64 0)).put 1 0 ⟨#[]⟩
          have d0 := hXf.c0
          have d1 := hXf.c1
          have d2 := hXf.c2
          refine bodyPost_ret (v := .agg #[.int .i64 1, .int .i64 0, .string ⟨#[]⟩]) (by simp [results, Try.results66, go_sem, d0, d1, d2]) rfl ⟨⟨1, 0, ⟨#[]⟩⟩, rfl, ?_⟩
          exact ⟨_, _, (hr3.set hgY 1 _).put hgX _ _ _, hlt, grown_put (grown_far hG3 hYw _ _) hXw _ _ _, by rfl⟩
        · obtain ⟨hlt2, -, ht2⟩ := lft_cons hl2
          have HL2 := Lib.hid hl2
          have hc := c.toNat_lt
          by_cases hc1 : 1 < c.toNat
          · have e : boolP (c :: t2) = .error 2 := if_pos hc1
            rw [e]
            have hc1' : decide (1 < (c.toNat : Int)) = true := by simp; omega
            clear hl2 e hc1
            go_enter Try.func66, Try.ntmps66
            go_wp2_with fail
            rw [← HW0.out, ← HX.out]
            refine (one_cons g s at_ k t _ h0 HL.out hs).mono ?_
            rw [h1']
            rintro e w1 ⟨rfl, hr1, hg1⟩
            have hX1 := hX0.grown hg1 hgX
            have hG1 := hG0.trans hg1
            clear h h0 hX0 hG0 hg1
            go_wp2_with fail
            have hr2 := hr1.alloc (.cells #[.int .i64 1, .int .i64 0, .string ⟨#[]⟩] TV)
            have hX2 := hX1.alloc (.cells #[.int .i64 1, .int .i64 0, .string ⟨#[]⟩] TV)
            have hY2 := Box.new w1 1 0 ⟨#[]⟩
            have hG2 := hG1.trans (World.grownBy_alloc w1 (.cells #[.int .i64 1, .int .i64 0, .string ⟨#[]⟩] TV) (some g))
            have hgY := hr1.lt
            have hXY := hX1.lt
            have hYw := hG1.size
            clear hr1 hX1 hG1
            generalize w1.heap.size = Y at *
            generalize w1.alloc (.cells #[.int .i64 1, .int .i64 0, .string ⟨#[]⟩] TV) = w2 at *
            refine (one_cons g s (at_ + 1) c t2 _ hr2 HL2.out hs).mono ?_
            rintro e w3 ⟨rfl, hr3, hg3⟩
            have hX3 := hX2.grown hg3 hgX
            have hY3 := hY2.grown hg3 hgY
            have hG3 := hG2.trans hg3
            clear hX2 hY2 hG2 hg3 hr2
            have c0 := hX3.c0
            have c1 := hX3.c1
            have c2 := hX3.c2
            have f0 := hX3.fz 0
            have f1 := hX3.fz 1
            have f2 := hX3.fz 2
            have y0 := hY3.c0
            have y1 := hY3.c1
            have y2 := hY3.c2
            have fy1 := hY3.fz 1
            have fy2 := hY3.fz 2
            go_wp2_with fail
            have hr4 := hr3.set hgY 1 (.int .i64 c.toNat)
            have hX4 := hX3.other (Nat.ne_of_lt hXY) 1 (.int .i64 c.toNat)
            have hY4 := hY3.set1 c.toNat
            have hG4 := grown_far hG3 hYw 1 (.int .i64 c.toNat)
            clear hr3 hX3 hY3 hG3 c0 c1 c2 f0 f1 f2 y0 y1 y2 fy1 fy2
            refine (fault_any g s (at_ + 2) 2 _ hr4).mono ?_
            rintro e w5 ⟨rfl, hr5, hg5⟩
            have hX5 := hX4.grown hg5 hgX
            have hY5 := hY4.grown hg5 hgY
            have hG5 := hG4.trans hg5
            clear hX4 hY4 hG4 hg5 hr4
            have c0 := hX5.c0
            have c1 := hX5.c1
            have c2 := hX5.c2
            have f0 := hX5.fz 0
            have f1 := hX5.fz 1
            have f2 := hX5.fz 2
            have y0 := hY5.c0
            have y1 := hY5.c1
            have y2 := hY5.c2
            have fy1 := hY5.fz 1
            have fy2 := hY5.fz 2
            go_wp2
            have hXf := hX5.put 1 c.toNat ⟨#[]⟩
            have d0 := hXf.c0
            have d1 := hXf.c1
            have d2 := hXf.c2
            refine bodyPost_ret (v := .agg #[.int .i64 1, .int .i64 c.toNat, .string ⟨#[]⟩]) (by simp [results, Try.results66, go_sem, d0, d1, d2]) rfl ⟨⟨1, c.toNat, ⟨#[]⟩⟩, rfl, ?_⟩
            exact ⟨_, _, hr5.put hgX _ _ _, hlt2, grown_put hG5 hXw _ _ _, by rfl⟩
          · have e : boolP (c :: t2) = .ok (⟨1, c.toNat, ⟨#[]⟩⟩, lft s (at_ + 1 + 1)) := (if_neg hc1).trans (by rw [ht2])
            rw [e]
            have hc1' : decide (1 < (c.toNat : Int)) = false := by simp; omega
            clear hl2 e hc1
            go_enter Try.func66, Try.ntmps66
            go_wp2_with fail
            rw [← HW0.out, ← HX.out]
            refine (one_cons g s at_ k t _ h0 HL.out hs).mono ?_
            rw [h1']
            rintro e w1 ⟨rfl, hr1, hg1⟩
            have hX1 := hX0.grown hg1 hgX
            have hG1 := hG0.trans hg1
            clear h h0 hX0 hG0 hg1
            go_wp2_with fail
            have hr2 := hr1.alloc (.cells #[.int .i64 1, .int .i64 0, .string ⟨#[]⟩] TV)
            have hX2 := hX1.alloc (.cells #[.int .i64 1, .int .i64 0, .string ⟨#[]⟩] TV)
            have hY2 := Box.new w1 1 0 ⟨#[]⟩
            have hG2 := hG1.trans (World.grownBy_alloc w1 (.cells #[.int .i64 1, .int .i64 0, .string ⟨#[]⟩] TV) (some g))
            have hgY := hr1.lt
            have hXY := hX1.lt
            have hYw := hG1.size
            clear hr1 hX1 hG1
            generalize w1.heap.size = Y at *
            generalize w1.alloc (.cells #[.int .i64 1, .int .i64 0, .string ⟨#[]⟩] TV) = w2 at *
            refine (one_cons g s (at_ + 1) c t2 _ hr2 HL2.out hs).mono ?_
            rintro e w3 ⟨rfl, hr3, hg3⟩
            have hX3 := hX2.grown hg3 hgX
            have hY3 := hY2.grown hg3 hgY
            have hG3 := hG2.trans hg3
            clear hX2 hY2 hG2 hg3 hr2
            have c0 := hX3.c0
            have c1 := hX3.c1
            have c2 := hX3.c2
            have f0 := hX3.fz 0
            have f1 := hX3.fz 1
            have f2 := hX3.fz 2
            have y0 := hY3.c0
            have y1 := hY3.c1
            have y2 := hY3.c2
            have fy1 := hY3.fz 1
            have fy2 := hY3.fz 2
            go_wp2
            have hXf := (hX3.other (Nat.ne_of_lt hXY) 1 (.int .i64 c.toNat)).put 1 c.toNat ⟨#[]⟩
            have d0 := hXf.c0
            have d1 := hXf.c1
            have d2 := hXf.c2
            refine bodyPost_ret (v := .agg #[.int .i64 1, .int .i64 c.toNat, .string ⟨#[]⟩]) (by simp [results, Try.results66, go_sem, d0, d1, d2]) rfl ⟨⟨1, c.toNat, ⟨#[]⟩⟩, rfl, ?_⟩
            exact ⟨_, _, (hr3.set hgY 1 _).put hgX _ _ _, hlt2, grown_put (grown_far hG3 hYw _ _) hXw _ _ _, rfl, rfl, rfl⟩
      · by_cases h02 : k.toNat = 2
        · have e : valP (k :: t) = mapP (fun n => ⟨2, n, ⟨#[]⟩⟩) (numP (lft s (at_ + 1))) := by rw [ht]; simp [valP, h02]
          rw [e]
          have h1' : (k.toNat : Int) = 2 := by omega
          clear h00 h01 h02 hl e
          go_enter Try.func66, Try.ntmps66
          go_wp2_with fail
          rw [← HW0.out, ← HX.out]
          refine (one_cons g s at_ k t _ h0 HL.out hs).mono ?_
          rw [h1']
          rintro e w1 ⟨rfl, hr1, hg1⟩
          have hX1 := hX0.grown hg1 hgX
          have hG1 := hG0.trans hg1
          clear h h0 hX0 hG0 hg1
          go_wp2_with fail
          have hr2 := hr1.alloc (.cells #[.int .i64 2, .int .i64 0, .string ⟨#[]⟩] TV)
          have hX2 := hX1.alloc (.cells #[.int .i64 2, .int .i64 0, .string ⟨#[]⟩] TV)
          have hY2 := Box.new w1 2 0 ⟨#[]⟩
          have hG2 := hG1.trans (World.grownBy_alloc w1 (.cells #[.int .i64 2, .int .i64 0, .string ⟨#[]⟩] TV) (some g))
          have hgY := hr1.lt
          have hXY := hX1.lt
          have hYw := hG1.size
          clear hr1 hX1 hG1
          generalize w1.heap.size = Y at *
          generalize w1.alloc (.cells #[.int .i64 2, .int .i64 0, .string ⟨#[]⟩] TV) = w2 at *
          refine (number_any g s (at_ + 1) _ hr2 hlt hs).mono ?_
          rintro e w3 ⟨n, rfl, hn0, hn1, at2, e2, hr3, ha3, hg3, hT⟩
          have HT := Lib.hid (hT.map (f := fun n => (⟨2, n, ⟨#[]⟩⟩ : V)))
          have hX3 := hX2.grown hg3 hgX
          have hY3 := hY2.grown hg3 hgY
          have hG3 := hG2.trans hg3
          clear hT hX2 hY2 hG2 hg3 hr2
          have c0 := hX3.c0
          have c1 := hX3.c1
          have c2 := hX3.c2
          have f0 := hX3.fz 0
          have f1 := hX3.fz 1
          have f2 := hX3.fz 2
          have y0 := hY3.c0
          have y1 := hY3.c1
          have y2 := hY3.c2
          have fy1 := hY3.fz 1
          have fy2 := hY3.fz 2
          go_wp2
          have hXf := (hX3.other (Nat.ne_of_lt hXY) 1 (.int .i64 n)).put 2 n ⟨#[]⟩
          have d0 := hXf.c0
          have d1 := hXf.c1
          have d2 := hXf.c2
          refine bodyPost_ret (v := .agg #[.int .i64 2, .int .i64 n, .string ⟨#[]⟩]) (by simp [results, Try.results66, go_sem, d0, d1, d2]) rfl ⟨⟨2, n, ⟨#[]⟩⟩, rfl, ?_⟩
          exact ⟨_, _, (hr3.set hgY 1 _).put hgX _ _ _, ha3, grown_put (grown_far hG3 hYw _ _) hXw _ _ _, HT.out⟩
        · by_cases h03 : k.toNat = 3
          · have e : valP (k :: t) = mapP (fun s => ⟨3, 0, s⟩) (textP (lft s (at_ + 1))) := by rw [ht]; simp [valP, h03]
            rw [e]
            have h1' : (k.toNat : Int) = 3 := by omega
            clear h00 h01 h02 h03 hl e
            go_enter Try.func66, Try.ntmps66
            go_wp2_with fail
            rw [← HW0.out, ← HX.out]
            refine (one_cons g s at_ k t _ h0 HL.out hs).mono ?_
            rw [h1']
            rintro e w1 ⟨rfl, hr1, hg1⟩
            have hX1 := hX0.grown hg1 hgX
            have hG1 := hG0.trans hg1
            clear h h0 hX0 hG0 hg1
            go_wp2_with fail
            have hr2 := hr1.alloc (.cells #[.int .i64 3, .int .i64 0, .string ⟨#[]⟩] TV)
            have hX2 := hX1.alloc (.cells #[.int .i64 3, .int .i64 0, .string ⟨#[]⟩] TV)
            have hY2 := Box.new w1 3 0 ⟨#[]⟩
            have hG2 := hG1.trans (World.grownBy_alloc w1 (.cells #[.int .i64 3, .int .i64 0, .string ⟨#[]⟩] TV) (some g))
            have hgY := hr1.lt
            have hXY := hX1.lt
            have hYw := hG1.size
            clear hr1 hX1 hG1
            generalize w1.heap.size = Y at *
            generalize w1.alloc (.cells #[.int .i64 3, .int .i64 0, .string ⟨#[]⟩] TV) = w2 at *
            refine (text_any g s (at_ + 1) _ hr2 hlt hs).mono ?_
            rintro e w3 ⟨n, rfl, hn0, at2, e2, hr3, ha3, hg3, hT⟩
            have HT := Lib.hid (hT.map (f := fun n => (⟨3, 0, n⟩ : V)))
            have hX3 := hX2.grown hg3 hgX
            have hY3 := hY2.grown hg3 hgY
            have hG3 := hG2.trans hg3
            clear hT hX2 hY2 hG2 hg3 hr2
            have c0 := hX3.c0
            have c1 := hX3.c1
            have c2 := hX3.c2
            have f0 := hX3.fz 0
            have f1 := hX3.fz 1
            have f2 := hX3.fz 2
            have y0 := hY3.c0
            have y1 := hY3.c1
            have y2 := hY3.c2
            have fy1 := hY3.fz 1
            have fy2 := hY3.fz 2
            go_wp2
            have hXf := (hX3.other (Nat.ne_of_lt hXY) 2 (.string n)).put 3 0 n
            have d0 := hXf.c0
            have d1 := hXf.c1
            have d2 := hXf.c2
            refine bodyPost_ret (v := .agg #[.int .i64 3, .int .i64 0, .string n]) (by simp [results, Try.results66, go_sem, d0, d1, d2]) rfl ⟨⟨3, 0, n⟩, rfl, ?_⟩
            exact ⟨_, _, (hr3.set hgY 2 _).put hgX _ _ _, ha3, grown_put (grown_far hG3 hYw _ _) hXw _ _ _, HT.out⟩
          · have e : valP (k :: t) = .error 2 := by simp [valP, h00, h01, h02, h03]
            rw [e]
            have h1' : (k.toNat : Int) = k.toNat := rfl
            have b0 : ((k.toNat : Int) == 0) = false := by simpa using h00
            have b1 : ((k.toNat : Int) == 1) = false := by simp; omega
            have b2 : ((k.toNat : Int) == 2) = false := by simp; omega
            have b3 : ((k.toNat : Int) == 3) = false := by simp; omega
            clear h00 h01 h02 h03 hl e
            go_enter Try.func66, Try.ntmps66
            go_wp2_with fail
            rw [← HW0.out, ← HX.out]
            refine (one_cons g s at_ k t _ h0 HL.out hs).mono ?_
            rintro e w1 ⟨rfl, hr1, hg1⟩
            have hX1 := hX0.grown hg1 hgX
            have hG1 := hG0.trans hg1
            clear h h0 hX0 hG0 hg1
            go_wp2_with fail
            have hr2 := hr1.alloc (.cells #[.int .i64 k.toNat, .int .i64 0, .string ⟨#[]⟩] TV)
            have hX2 := hX1.alloc (.cells #[.int .i64 k.toNat, .int .i64 0, .string ⟨#[]⟩] TV)
            have hY2 := Box.new w1 k.toNat 0 ⟨#[]⟩
            have hG2 := hG1.trans (World.grownBy_alloc w1 (.cells #[.int .i64 k.toNat, .int .i64 0, .string ⟨#[]⟩] TV) (some g))
            have hgY := hr1.lt
            have hXY := hX1.lt
            have hYw := hG1.size
            clear hr1 hX1 hG1
            generalize w1.heap.size = Y at *
            generalize w1.alloc (.cells #[.int .i64 k.toNat, .int .i64 0, .string ⟨#[]⟩] TV) = w2 at *
            refine (fault_any g s (at_ + 1) 2 _ hr2).mono ?_
            rintro e w3 ⟨rfl, hr3, hg3⟩
            have hX3 := hX2.grown hg3 hgX
            have hY3 := hY2.grown hg3 hgY
            have hG3 := hG2.trans hg3
            clear hX2 hY2 hG2 hg3 hr2
            have c0 := hX3.c0
            have c1 := hX3.c1
            have c2 := hX3.c2
            have f0 := hX3.fz 0
            have f1 := hX3.fz 1
            have f2 := hX3.fz 2
            have y0 := hY3.c0
            have y1 := hY3.c1
            have y2 := hY3.c2
            have fy1 := hY3.fz 1
            have fy2 := hY3.fz 2
            go_wp2
            have hXf := hX3.put k.toNat 0 ⟨#[]⟩
            have d0 := hXf.c0
            have d1 := hXf.c1
            have d2 := hXf.c2
            refine bodyPost_ret (v := .agg #[.int .i64 k.toNat, .int .i64 0, .string ⟨#[]⟩]) (by simp [results, Try.results66, go_sem, d0, d1, d2]) rfl ⟨⟨k.toNat, 0, ⟨#[]⟩⟩, rfl, ?_⟩
            exact ⟨_, _, hr3.put hgX _ _ _, hlt, grown_put hG3 hXw _ _ _, rfl⟩
end Go.Proofs.Ytnbccejhgmacjaa
