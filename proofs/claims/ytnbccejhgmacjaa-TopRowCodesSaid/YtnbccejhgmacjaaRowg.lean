/- Package rowcode's reader. -/
import Derived.Test.YtnbccejhgmacjaaRowp
import Derived.Deep.RegionHeld3
namespace Go.Proofs.Ytnbccejhgmacjaa
open Go.RowKit
set_option linter.unusedVariables false
set_option linter.unusedSimpArgs false

theorem blk_set {w : World} {g t : Nat} {cs : Array Value} (h : w.heap[g]? = some (.cells cs t (0, 0))) (i : Nat) (v : Value) : (w.setCell ⟨g, i, none⟩ v).heap[g]? = some (.cells (cs.setIfInBounds i v) t (0, 0)) := by
  simp [World.setCell, Array.getElem?_modify, h]
theorem grown_set {w w' : World} {g : Nat} (h : w.grownBy w' (some g)) (i : Nat) (v : Value) : w.grownBy (w'.setCell ⟨g, i, none⟩ v) (some g) :=
  h.trans ⟨rfl, rfl, rfl, by simp [World.setCell], fun k _ hk => Below.heap_setCell w' _ _ _ (fun e => hk (by simp [e]))⟩
theorem grown_drew {w w' : World} {row : Option Nat} (h : w.grownBy w' row) : w.grownBy w'.drew row := ⟨h.os, h.tape, h.output, h.size, h.block⟩
theorem grown_below {w w1 w2 : World} {row : Option Nat} (h : w.grownBy w1 row) (k : Below w.heap.size w1 w2) : w.grownBy w2 row :=
  ⟨k.os.trans h.os, k.tape.trans h.tape, k.output.trans h.output, Nat.le_trans h.size k.size, fun i hi hne => (k.block i hi).trans (h.block i hi hne)⟩
abbrev TR : Nat := 134
/-- A reader that stands at a byte. -/
def Rdr (w : World) (g : Nat) (s : ByteArray) (at_ : Nat) (e : Int) : Prop := w.heap[g]? = some (.cells #[.string s, .int .i64 at_, .int .i64 e] TR (0, 0))
section
variable {w w' : World} {g : Nat} {s : ByteArray} {at_ : Nat} {e : Int}
theorem Rdr.lt (h : Rdr w g s at_ e) : g < w.heap.size := (Array.getElem?_eq_some_iff.1 h).1
theorem Rdr.c0 (h : Rdr w g s at_ e) : w.cell? ⟨g, 0, none⟩ = some (.string s) := (cell_blk h 0).trans rfl
theorem Rdr.c1 (h : Rdr w g s at_ e) : w.cell? ⟨g, 1, none⟩ = some (.int .i64 at_) := (cell_blk h 1).trans rfl
theorem Rdr.c2 (h : Rdr w g s at_ e) : w.cell? ⟨g, 2, none⟩ = some (.int .i64 e) := (cell_blk h 2).trans rfl
theorem Rdr.fz (h : Rdr w g s at_ e) (i : Nat) : w.frozen? ⟨g, i, none⟩ = false := frozen_blk h i
theorem Rdr.setE (h : Rdr w g s at_ e) (x : Int) : Rdr (w.setCell ⟨g, 2, none⟩ (.int .i64 x)) g s at_ x := blk_set h 2 _
theorem Rdr.setAt (h : Rdr w g s at_ e) (x : Nat) : Rdr (w.setCell ⟨g, 1, none⟩ (.int .i64 x)) g s x e := blk_set h 1 _
theorem Rdr.keepT (h : Rdr w g s at_ e) (k : KeepT w w') : Rdr w' g s at_ e := k _ _ _ _ h (by decide) (by decide)
end

set_option maxHeartbeats 1000000 in
set_option maxRecDepth 100000 in
theorem fault_any (g : Nat) (s : ByteArray) (at_ : Nat) (x : Int) (w : World) (h : Rdr w g s at_ 0) :
    Calls Try.prog 65 #[.pointer (some ⟨g, 0, none⟩), .int .i64 x] w fun e w' => e = .returned (.tuple #[]) ∧ Rdr w' g s at_ x ∧ w.grownBy w' (some g) := by
  have c2 := h.c2
  have f2 := h.fz 2
  have HS := Lib.hid h
  clear h
  go_enter Try.func65, Try.ntmps65
  go_wp2
  go_end0
  exact ⟨rfl, HS.out.setE x, grown_set (World.grownBy.refl _ _) _ _⟩

/-- The bytes that are left. -/
def lft (s : ByteArray) (a : Nat) : List UInt8 := s.data.toList.drop a
/-- What is told by a result: it is v, and so much is left; or the fault is e. -/
def Told {α : Type} (res : Except Int (α × List UInt8)) (v : α) (l : List UInt8) (e : Int) : Prop := match res with
  | .ok (x, t) => x = v ∧ t = l ∧ e = 0
  | .error x => e = x
/-- What a step of the reader did: it went on to what p tells, or has a fault. -/
def Read {α : Type} (w : World) (g : Nat) (s : ByteArray) (res : Except Int (α × List UInt8)) (v : α) (w' : World) : Prop :=
  ∃ at' e', Rdr w' g s at' e' ∧ at' ≤ s.size ∧ w.grownBy w' (some g) ∧ Told res v (lft s at') e'
def oneP : List UInt8 → Except Int (Int × List UInt8)
  | [] => .error 3
  | c :: t => .ok ((c.toNat : Int), t)

theorem lft_length (s : ByteArray) (a : Nat) : (lft s a).length = s.size - a := by simp [lft]
theorem lft_cons {s : ByteArray} {a : Nat} {c : UInt8} {t : List UInt8} (h : lft s a = c :: t) : ∃ hlt : a < s.size, s[a]'hlt = c ∧ lft s (a + 1) = t := by
  have hl := lft_length s a
  rw [h, List.length_cons] at hl
  have hlt : a < s.size := by omega
  unfold lft at h ⊢
  rw [List.drop_eq_getElem_cons (by simpa using hlt)] at h
  injection h with h1 h2
  exact ⟨hlt, h1, h2⟩
set_option maxHeartbeats 1000000 in
set_option maxRecDepth 100000 in
theorem one_cons (g : Nat) (s : ByteArray) (at_ : Nat) (c : UInt8) (t : List UInt8) (w : World) (h : Rdr w g s at_ 0) (hl : lft s at_ = c :: t) (hs : s.size ≤ 500) :
    Calls Try.prog 64 #[.pointer (some ⟨g, 0, none⟩)] w fun e w' => e = .returned (.int .i64 c.toNat) ∧ Rdr w' g s (at_ + 1) 0 ∧ w.grownBy w' (some g) := by
  have c0 := h.c0
  have c1 := h.c1
  have c2 := h.c2
  have f1 := h.fz 1
  obtain ⟨hlt, hc, -⟩ := lft_cons hl
  rw [← hc]
  have hlt' : decide (s.size ≤ at_) = false := by simp; omega
  have hb := (s[at_]'hlt).toNat_lt
  have HS := Lib.hid h
  have hlt2 : g < w.heap.size := h.lt
  clear h hl hc
  go_enter Try.func64, Try.ntmps64
  go_wp2
  go_region
  go_wp2
  have hr := HS.out.setAt (at_ + 1)
  have hg := grown_drew (grown_set (World.grownBy.refl w (some g)) 1 (.int .i64 (at_ + 1)))
  have hr2 : Rdr (w.setCell ⟨g, 1, none⟩ (.int .i64 (at_ + 1))).drew g s (at_ + 1) 0 := hr
  clear c0 c1 c2 f1 hlt2 hr
  generalize (w.setCell ⟨g, 1, none⟩ (.int .i64 (at_ + 1))).drew = w1 at *
  have c0 := hr2.c0
  have c1 := hr2.c1
  have c2 := hr2.c2
  have HR := Lib.hid hr2
  clear hr2
  have i0 : (0 : Int) ≤ (at_ : Int) := by omega
  have i1 : (at_ : Int) < (s.size : Int) := by omega
  go_region
  go_wp2
  go_ret
  exact ⟨rfl, HR.out, grown_drew hg⟩
set_option maxHeartbeats 1000000 in
set_option maxRecDepth 100000 in
theorem one_nil (g : Nat) (s : ByteArray) (at_ : Nat) (w : World) (h : Rdr w g s at_ 0) (hl : lft s at_ = []) (hs : s.size ≤ 500) :
    Calls Try.prog 64 #[.pointer (some ⟨g, 0, none⟩)] w fun e w' => e = .returned (.int .i64 0) ∧ Rdr w' g s at_ 3 ∧ w.grownBy w' (some g) := by
  have c0 := h.c0
  have c1 := h.c1
  have c2 := h.c2
  have f1 := h.fz 1
  have hl2 := lft_length s at_
  rw [hl] at hl2
  have hlt' : decide (s.size ≤ at_) = true := by simp at hl2 ⊢; omega
  have HS := Lib.hid h
  clear h hl hl2
  go_enter Try.func64, Try.ntmps64
  go_wp2
  go_region
  go_wp2_with (first | (go_at_call 65; refine (fault_any g s at_ 3 w.drew HS.out).mono ?_; rintro e w' ⟨rfl, hr, hg⟩))
  go_ret
  exact ⟨rfl, hr, (grown_drew (World.grownBy.refl w (some g))).trans hg⟩

def numP (l : List UInt8) : Except Int (Int × List UInt8) :=
  if l.length < 8 then .error 3 else if inB15 (wrap64 (beL (l.take 8))) then .ok (wrap64 (beL (l.take 8)), l.drop 8) else .error 2
theorem wrap64_le (n : Nat) : -9223372036854775808 ≤ wrap64 n ∧ wrap64 n ≤ 9223372036854775807 := by unfold wrap64; omega

theorem got {w wp w' : World} {g : Nat} {s : ByteArray} {at_ : Nat} (hb : Below wp.heap.size wp w') (h : wp.cell? ⟨g, 0, none⟩ = some (.string s) ∧ wp.cell? ⟨g, 1, none⟩ = some (.int .i64 at_) ∧ Rdr wp g s at_ 0 ∧ w.grownBy wp (some g)) :
    w'.cell? ⟨g, 0, none⟩ = some (.string s) ∧ w'.cell? ⟨g, 1, none⟩ = some (.int .i64 at_) ∧ Rdr w' g s at_ 0 ∧ w.grownBy w' (some g) := by
  have hr : Rdr w' g s at_ 0 := (hb.block g h.2.2.1.lt).trans h.2.2.1
  exact ⟨hr.c0, hr.c1, hr, h.2.2.2.trans ⟨hb.os, hb.tape, hb.output, hb.size, fun k hk _ => hb.block k hk⟩⟩
set_option maxHeartbeats 1000000 in
set_option maxRecDepth 100000 in
theorem number_any (g : Nat) (s : ByteArray) (at_ : Nat) (w : World) (h : Rdr w g s at_ 0) (ha : at_ ≤ s.size) (hs : s.size ≤ 500) :
    Calls Try.prog 104 #[.pointer (some ⟨g, 0, none⟩)] w fun e w' => ∃ v : Int, e = .returned (.int .i64 v) ∧ -9223372036854775808 ≤ v ∧ v ≤ 9223372036854775807 ∧ Read w g s (numP (lft s at_)) v w' := by
  have hl := lft_length s at_
  have hg0 : g < w.heap.size := h.lt
  by_cases hlt : at_ + 8 ≤ s.size
  · have hm : mayB s at_ 8 = true := by unfold mayB; simp; omega
    have hn : dueN s at_ 8 = wrap64 (beL ((lft s at_).take 8)) := (if_pos hm).trans rfl
    have hwr := wrap64_le (beL ((lft s at_).take 8))
    have hp : numP (lft s at_) = if inB15 (wrap64 (beL ((lft s at_).take 8))) then .ok (wrap64 (beL ((lft s at_).take 8)), (lft s at_).drop 8) else .error 2 := if_neg (by omega)
    have hd : (lft s at_).drop 8 = lft s (at_ + 8) := by simp [lft]
    rw [hd] at hp
    generalize numP (lft s at_) = res at *
    clear hd hl
    generalize wrap64 (beL ((lft s at_).take 8)) = n at *
    have HP := Lib.hid hp
    clear hp
    have HM := Lib.hid hm
    have HN := Lib.hid hn
    have HS := Lib.hid h
    have c0 := h.c0
    have c1 := h.c1
    clear h hm hn
    go_enter Try.func104, Try.ntmps104
    go_upto_region 1 with fail
    go_cut [3, 4] from 5 to 16 (fun x y w2 => x = .int .i64 n ∧ y = .bool true ∧ Rdr w2 g s at_ 0 ∧ w.grownBy w2 (some g))
    case first =>
      have hh := HS.out
      have hgb := World.grownBy.refl w (some g)
      go_region_held3 (fun w' => w'.cell? ⟨g, 0, none⟩ = some (.string s) ∧ w'.cell? ⟨g, 1, none⟩ = some (.int .i64 at_) ∧ Rdr w' g s at_ 0 ∧ w.grownBy w' (some g))
        (first | exact ⟨c0, c1, hh, hgb⟩ | exact ⟨c0, c1, hh, grown_drew hgb⟩ | exact got hb (by assumption))
        (first | (go_at_call 11; refine (get_tot s at_ 8 _ (by omega) (by omega)).mono ?_; rintro e w' ⟨rfl, hb⟩))
      go_wp2
      go_meet
      rename_i hHeld
      exact ⟨congrArg (Value.int .i64) HN.out, congrArg Value.bool HM.out, hHeld.2.2⟩
    case rest =>
    obtain ⟨rfl, rfl, hr1, hg1⟩ := hcut
    clear c0 c1
    have c0 := hr1.c0
    have c1 := hr1.c1
    have c2 := hr1.c2
    have f1 := hr1.fz 1
    have HR := Lib.hid hr1
    clear hr1
    rcases hin : inB15 n with _ | _
    · have HI := Lib.hid hin
      clear hin
      go_wp2_with (first | (go_at_call 113; refine (in_any n _).mono ?_; rintro e w' ⟨rfl, rfl⟩; rw [HI.out]) | (go_at_call 65; refine (fault_any g s (at_ + 8) 2 _ (HR.out.setAt (at_ + 8))).mono ?_; rintro e w' ⟨rfl, hr, hg⟩))
      go_ret
      exact ⟨n, rfl, hwr.1, hwr.2, _, _, hr, hlt, (grown_set hg1 1 _).trans hg, by rw [HP.out, if_neg (by simp [HI.out])]; rfl⟩
    · have HI := Lib.hid hin
      clear hin
      go_wp2_with (first | (go_at_call 113; refine (in_any n _).mono ?_; rintro e w' ⟨rfl, rfl⟩; rw [HI.out]))
      go_ret
      exact ⟨n, rfl, hwr.1, hwr.2, _, _, HR.out.setAt (at_ + 8), hlt, grown_set hg1 1 _, by rw [HP.out, if_pos HI.out]; exact ⟨rfl, rfl, rfl⟩⟩
  · have hm : mayB s at_ 8 = false := by unfold mayB; simp; omega
    have hn : dueN s at_ 8 = 0 := if_neg (by rw [hm]; simp)
    have hp : numP (lft s at_) = .error 3 := if_pos (by omega)
    rw [hp]
    clear hp hl
    have HM := Lib.hid hm
    have HN := Lib.hid hn
    have HS := Lib.hid h
    have c0 := h.c0
    have c1 := h.c1
    clear h hm hn hlt
    go_enter Try.func104, Try.ntmps104
    go_upto_region 1 with fail
    go_cut [3, 4] from 5 to 16 (fun x y w2 => x = .int .i64 0 ∧ y = .bool false ∧ Rdr w2 g s at_ 0 ∧ w.grownBy w2 (some g))
    case first =>
      have hh := HS.out
      have hgb := World.grownBy.refl w (some g)
      go_region_held3 (fun w' => w'.cell? ⟨g, 0, none⟩ = some (.string s) ∧ w'.cell? ⟨g, 1, none⟩ = some (.int .i64 at_) ∧ Rdr w' g s at_ 0 ∧ w.grownBy w' (some g))
        (first | exact ⟨c0, c1, hh, hgb⟩ | exact ⟨c0, c1, hh, grown_drew hgb⟩ | exact got hb (by assumption))
        (first | (go_at_call 11; refine (get_tot s at_ 8 _ (by omega) (by omega)).mono ?_; rintro e w' ⟨rfl, hb⟩))
      go_wp2
      go_meet
      rename_i hHeld
      exact ⟨congrArg (Value.int .i64) HN.out, congrArg Value.bool HM.out, hHeld.2.2⟩
    case rest =>
    obtain ⟨rfl, rfl, hr1, hg1⟩ := hcut
    clear c0 c1
    have HR := Lib.hid hr1
    clear hr1
    go_wp2_with (first | (go_at_call 65; refine (fault_any g s at_ 3 _ HR.out).mono ?_; rintro e w' ⟨rfl, hr, hg⟩))
    go_ret
    exact ⟨0, rfl, by omega, by omega, _, _, hr, ha, hg1.trans hg, rfl⟩

/-! ### text -/
def charsA : List UInt8 → Nat → List UInt8 → Except Int (List UInt8 × List UInt8)
  | acc, 0, l => .ok (acc, l)
  | _, _ + 1, [] => .error 3
  | acc, n + 1, c :: t => if c.toNat < 32 ∨ 126 < c.toNat then .error 2 else charsA (acc ++ [c]) n t
def textP : List UInt8 → Except Int (ByteArray × List UInt8)
  | [] => .error 3
  | c :: t => if 100 < c.toNat then .error 2 else match charsA [] c.toNat t with
    | .ok (x, r) => .ok (Sx x, r)
    | .error e => .error e
theorem isb_grown {B b g : Nat} {bs : List Value} {w w' : World} (h : Lib.IsBuilder TB 5 B b bs w) (hg : w.grownBy w' (some g)) (hgB : g < B) : Lib.IsBuilder TB 5 B b bs w' := by
  have one : ∀ p, Lib.BuilderAt TB 5 B b p bs w → Lib.BuilderAt TB 5 B b p bs w' := by
    intro p h
    have hlt := h.lt
    obtain ⟨hB, v, hbk, hown, hne⟩ := h
    refine ⟨hB, v, (hg.block b hlt (by simp; omega)).trans hbk, hown.kept hg ?_, hne⟩
    rcases ho : v.ownBlock with _ | k
    · exact .inl rfl
    · right
      have := (hown.lt k ho).1
      simp; omega
  exact h.imp (one _) (one _)
theorem Rdr.alloc {w : World} {g : Nat} {s : ByteArray} {at_ : Nat} {e : Int} (h : Rdr w g s at_ e) (o : Obj) : Rdr (w.alloc o) g s at_ e := (Lib.alloc_old w o g h.lt).trans h
theorem charsA_ok {acc l x r : List UInt8} {n : Nat} (h : charsA acc n l = .ok (x, r)) : x.length = acc.length + n := by
  induction n generalizing acc l with
  | zero => simp [charsA] at h; rw [← h.1]; rfl
  | succ n ih =>
    cases l with
    | nil => simp [charsA] at h
    | cons c t =>
      simp only [charsA] at h
      split at h
      · cases h
      · have := ih h; simp at this; omega

def finT : Except Int (List UInt8 × List UInt8) → Except Int (ByteArray × List UInt8)
  | .ok (x, r) => .ok (Sx x, r)
  | .error e => .error e
/-- Where the reader of a text stands. -/
def TextAt (s : ByteArray) (res : Except Int (ByteArray × List UInt8)) (bs : List UInt8) (m : Nat) (at_ : Nat) (e : Int) : Prop :=
  at_ ≤ s.size ∧ bs.length + m ≤ 255 ∧ ((e = 0 ∧ res = finT (charsA bs m (lft s at_))) ∨ (e = 3 ∨ e = 2) ∧ res = .error e)
set_option maxHeartbeats 2000000 in
set_option maxRecDepth 100000 in
theorem text_any (g : Nat) (s : ByteArray) (at_ : Nat) (w : World) (h : Rdr w g s at_ 0) (ha : at_ ≤ s.size) (hs : s.size ≤ 500) :
    Calls Try.prog 105 #[.pointer (some ⟨g, 0, none⟩)] w fun e w' => ∃ v : ByteArray, e = .returned (.string v) ∧ v.size ≤ 500 ∧ Read w g s (textP (lft s at_)) v w' := by
  have hsz := lft_length s at_
  obtain ⟨res, hres⟩ : ∃ res, res = textP (lft s at_) := ⟨_, rfl⟩
  rw [← hres]
  go_enter Try.func105, Try.ntmps105
  go_upto_region 1 with fail
  go_cut [3] from 6 to 7 (fun x w2 => ∃ (m at1 : Nat) (e1 : Int), x = .int .i64 m ∧ Rdr w2 g s at1 e1 ∧ w.grownBy w2 (some g) ∧ at1 ≤ s.size ∧ m ≤ 255 ∧ ((m = 0 ∧ e1 = 3 ∧ res = .error 3) ∨ (e1 = 0 ∧ res = if 100 < m then .error 2 else finT (charsA [] m (lft s at1)))))
  case first =>
    rcases hl : lft s at_ with _ | ⟨c, t⟩
    · have HR := Lib.hid (show res = Except.error 3 from hres.trans (by rw [hl]; rfl))
      clear hres
      go_wp2_with (first | (go_at_call 64; refine (one_nil g s at_ _ h hl hs).mono ?_; rintro e w1 ⟨rfl, hr1, hg1⟩))
      go_meet
      exact ⟨0, _, _, rfl, hr1, hg1, ha, by omega, .inl ⟨rfl, rfl, HR.out⟩⟩
    · obtain ⟨hlt, -, ht⟩ := lft_cons hl
      have HR := Lib.hid (show res = if 100 < c.toNat then .error 2 else finT (charsA [] c.toNat (lft s (at_ + 1))) from hres.trans (by rw [hl, ← ht]; rfl))
      have hc := c.toNat_lt
      clear hres
      go_wp2_with (first | (go_at_call 64; refine (one_cons g s at_ c t _ h hl hs).mono ?_; rintro e w1 ⟨rfl, hr1, hg1⟩))
      go_meet
      exact ⟨c.toNat, _, _, rfl, hr1, hg1, hlt, by omega, .inr ⟨rfl, HR.out⟩⟩
  case rest =>
  obtain ⟨m, at1, e1, rfl, hr1, hg1, ha1, hm255, hd⟩ := hcut
  clear h hres ha hsz
  go_upto_if 9 with fail
  go_cut [3] from 8 to 11 (fun x w2 => x = .int .i64 m ∧ ∃ (e1 : Int), Rdr w2 g s at1 e1 ∧ w.grownBy w2 (some g) ∧ TextAt s res [] m at1 e1)
  case first =>
    rcases hd with ⟨rfl, rfl, hr⟩ | ⟨rfl, hr⟩
    · have HR := Lib.hid hr
      clear hr
      go_wp2
      go_meet
      exact ⟨rfl, _, hr1, hg1, ha1, by simp, .inr ⟨.inl rfl, HR.out⟩⟩
    · by_cases h100 : 100 < m
      · have h100' : decide (100 < (m : Int)) = true := by simp; omega
        have HR := Lib.hid (hr.trans (if_pos h100))
        clear hr
        go_wp2_with (first | (go_at_call 65; refine (fault_any g s at1 2 _ hr1).mono ?_; rintro e w2 ⟨rfl, hr2, hg2⟩))
        go_meet
        exact ⟨rfl, _, hr2, hg1.trans hg2, ha1, by simp; omega, .inr ⟨.inr rfl, HR.out⟩⟩
      · have h100' : decide (100 < (m : Int)) = false := by simp; omega
        have HR := Lib.hid (hr.trans (if_neg h100))
        clear hr
        go_wp2
        go_meet
        exact ⟨rfl, _, hr1, hg1, ha1, by simp; omega, .inl ⟨rfl, HR.out⟩⟩
  case rest =>
  clear hg1 hr1 hd
  obtain ⟨rfl, e2, hr1, hg1, hT⟩ := hcut
  obtain ⟨B, hB⟩ : ∃ B, B = wc.heap.size := ⟨_, rfl⟩
  have hf := Lib.fresh_isBuilder TB 5 wc
  have hgB := hr1.lt
  rw [← hB] at hf hgB
  have hBw : w.heap.size ≤ B := by rw [hB]; exact hg1.size
  have HR2 := hr1.alloc (.cells #[.pointer none, .slice none 0 0] TB)
  have HG2 := hg1.trans (World.grownBy_alloc wc (.cells #[.pointer none, .slice none 0 0] TB) (some g))
  clear hr1 hg1
  go_wp2_with fail
  rw [← hB]
  clear hB
  generalize wc.alloc (.cells #[.pointer none, .slice none 0 0] TB) = w3 at *
  go_loopw [3] (fun i wr => ∃ (m1 at2 : Nat) (e3 : Int) (bs : List UInt8), i = .int .i64 m1 ∧ Rdr wr g s at2 e3 ∧ w.grownBy wr (some g) ∧ TextAt s res bs m1 at2 e3 ∧ Lib.IsBuilder TB 5 B B (Lib.byteCells bs) wr) (fun i _ => (intOf i).toNat)
  case atStart => exact ⟨m, at1, _, [], rfl, HR2, HG2, hT, hf⟩
  case round =>
    obtain ⟨m1, at2, e3, bs, rfl, hr, hg, hT, hbd⟩ := hrel
    obtain ⟨ha2, hbm, hd⟩ := hT
    have q2 := hr.c2
    have hBr : B ≤ wr.heap.size := by
      rcases hbd with hbd | hbd <;> exact Nat.le_of_lt (Nat.lt_of_le_of_lt hbd.1 hbd.lt)
    have HD := Lib.hid hbd
    have HR := Lib.hid hr
    clear hbd hr HR2 hf HG2
    by_cases hend : m1 = 0 ∨ e3 ≠ 0
    · have hres : Told res (Sx bs) (lft s at2) e3 := by
        rcases hd with ⟨rfl, hr⟩ | ⟨-, hr⟩
        · obtain rfl : m1 = 0 := by simpa using hend
          rw [hr]
          simp [charsA, finT, Told]
        · rw [hr]; rfl
      have HRes := Lib.hid hres
      clear hd hres
      by_cases hm0 : m1 = 0
      · subst hm0
        go_wp2_with (first | (go_at_call 63; refine (Try.Builder_String_any B B _ _ HD.out (by omega)).mono ?_; rintro e w' ⟨rfl, hb⟩))
        go_ret
        exact ⟨Sx bs, rfl, by rw [Sx_size]; omega, _, _, (hb.block g hgB).trans HR.out, ha2, grown_below hg (hb.mono hBw), HRes.out⟩
      · have t1 : decide (0 < m1) = true := by simp; omega
        have t2 : (e3 == 0) = false := by simp; omega
        clear hend hm0
        go_wp2_with (first | (go_at_call 63; refine (Try.Builder_String_any B B _ _ HD.out (by omega)).mono ?_; rintro e w' ⟨rfl, hb⟩))
        go_ret
        exact ⟨Sx bs, rfl, by rw [Sx_size]; omega, _, _, (hb.block g hgB).trans HR.out, ha2, grown_below hg (hb.mono hBw), HRes.out⟩
    · obtain ⟨k, rfl⟩ : ∃ k, m1 = k + 1 := ⟨m1 - 1, by omega⟩
      obtain rfl : e3 = 0 := by omega
      have hr2 : res = finT (charsA bs (k + 1) (lft s at2)) := by
        rcases hd with ⟨-, hr⟩ | ⟨hr, -⟩
        · exact hr
        · omega
      clear hd hend
      rcases hl : lft s at2 with _ | ⟨c, t⟩
      · have HRes := Lib.hid (show res = .error 3 from hr2.trans (by rw [hl]; simp [charsA, finT]))
        clear hr2
        go_wp2_with fail
        refine (one_nil g s at2 _ HR.out hl hs).mono ?_
        rintro e w1 ⟨rfl, hr1, hg1⟩
        have hbd1 := isb_grown HD.out hg1 hgB
        have q3 := hr1.c2
        have HB := Lib.hid hbd1
        have HR1 := Lib.hid hr1
        have hs1 := hg1.size
        clear hbd1 hr1 q2
        go_wp2_with fail
        refine (writeByte_any B B _ _ _ HB.out (by simp [Lib.byteCells]; omega) (by omega)).mono ?_
        rintro e w2 ⟨rfl, hb2, hbel2, hk2⟩
        have HB2 := Lib.hid (bld_byte hb2 (x := 0) (by decide))
        have HR2 := Lib.hid (HR1.out.keepT hk2)
        clear hb2 hk2
        go_wp2
        go_roundw
        case rel => exact ⟨k, at2, 3, bs ++ [0], by go_num, HR2.out, grown_below (hg.trans hg1) (hbel2.mono hBw), ⟨ha2, by simp; omega, .inr ⟨.inl rfl, HRes.out⟩⟩, .inr HB2.out⟩
        case measure => simp [intOf]
      · obtain ⟨hlt, -, ht⟩ := lft_cons hl
        have HC := Lib.hid (show res = if c.toNat < 32 ∨ 126 < c.toNat then .error 2 else finT (charsA (bs ++ [c]) k (lft s (at2 + 1))) from hr2.trans (by rw [hl, ← ht]; simp only [charsA]; split <;> rfl))
        clear hr2
        have hc := c.toNat_lt
        go_wp2_with fail
        refine (one_cons g s at2 c t _ HR.out hl hs).mono ?_
        rintro e w1 ⟨rfl, hr1, hg1⟩
        have hbd1 := isb_grown HD.out hg1 hgB
        have q3 := hr1.c2
        have HB := Lib.hid hbd1
        have HR1 := Lib.hid hr1
        have hs1 := hg1.size
        clear hbd1 hr1 q2
        by_cases h32 : c.toNat < 32
        · have HRes := Lib.hid (HC.out.trans (if_pos (.inl h32)))
          have h1 : decide ((c.toNat : Int) < 32) = true := by simp; omega
          go_wp2_with fail
          refine (fault_any g s (at2 + 1) 2 _ HR1.out).mono ?_
          rintro e w2 ⟨rfl, hr3, hg2⟩
          have hbd3 := isb_grown HB.out hg2 hgB
          have HB3 := Lib.hid hbd3
          have HR3 := Lib.hid hr3
          have hs2 := hg2.size
          clear hbd3 hr3 q3
          go_wp2_with fail
          refine (writeByte_any B B _ _ _ HB3.out (by simp [Lib.byteCells]; omega) (by omega)).mono ?_
          rintro e w4 ⟨rfl, hb2, hbel2, hk2⟩
          have HB2 := Lib.hid (bld_byte hb2 (x := c) (by simp))
          have HR2 := Lib.hid (HR3.out.keepT hk2)
          clear hb2 hk2
          go_wp2
          go_roundw
          case rel => exact ⟨k, at2 + 1, 2, bs ++ [c], by go_num, HR2.out, grown_below ((hg.trans hg1).trans hg2) (hbel2.mono hBw), ⟨hlt, by simp; omega, .inr ⟨.inr rfl, HRes.out⟩⟩, .inr HB2.out⟩
          case measure => simp [intOf]
        · have h1 : decide ((c.toNat : Int) < 32) = false := by simp; omega
          by_cases h126 : 126 < c.toNat
          · have HRes := Lib.hid (HC.out.trans (if_pos (.inr h126)))
            have h2 : decide (126 < (c.toNat : Int)) = true := by simp; omega
            go_wp2_with fail
            refine (fault_any g s (at2 + 1) 2 _ HR1.out).mono ?_
            rintro e w2 ⟨rfl, hr3, hg2⟩
            have hbd3 := isb_grown HB.out hg2 hgB
            have HB3 := Lib.hid hbd3
            have HR3 := Lib.hid hr3
            have hs2 := hg2.size
            clear hbd3 hr3 q3
            go_wp2_with fail
            refine (writeByte_any B B _ _ _ HB3.out (by simp [Lib.byteCells]; omega) (by omega)).mono ?_
            rintro e w4 ⟨rfl, hb2, hbel2, hk2⟩
            have HB2 := Lib.hid (bld_byte hb2 (x := c) (by simp))
            have HR2 := Lib.hid (HR3.out.keepT hk2)
            clear hb2 hk2
            go_wp2
            go_roundw
            case rel => exact ⟨k, at2 + 1, 2, bs ++ [c], by go_num, HR2.out, grown_below ((hg.trans hg1).trans hg2) (hbel2.mono hBw), ⟨hlt, by simp; omega, .inr ⟨.inr rfl, HRes.out⟩⟩, .inr HB2.out⟩
            case measure => simp [intOf]
          · have HRes := Lib.hid (HC.out.trans (if_neg (by omega)))
            have h2 : decide (126 < (c.toNat : Int)) = false := by simp; omega
            go_wp2_with fail
            refine (writeByte_any B B _ _ _ HB.out (by simp [Lib.byteCells]; omega) (by omega)).mono ?_
            rintro e w2 ⟨rfl, hb2, hbel2, hk2⟩
            have HB2 := Lib.hid (bld_byte hb2 (x := c) (by simp))
            have HR2 := Lib.hid (HR1.out.keepT hk2)
            clear hb2 hk2
            go_wp2
            go_roundw
            case rel => exact ⟨k, at2 + 1, 0, bs ++ [c], by go_num, HR2.out, grown_below (hg.trans hg1) (hbel2.mono hBw), ⟨hlt, by simp; omega, .inl ⟨rfl, HRes.out⟩⟩, .inr HB2.out⟩
            case measure => simp [intOf]
end Go.Proofs.Ytnbccejhgmacjaa
