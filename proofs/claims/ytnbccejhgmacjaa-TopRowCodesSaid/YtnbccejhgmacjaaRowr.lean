/- Package rowcode's Get. -/
import Derived.Test.YtnbccejhgmacjaaRowv
namespace Go.Proofs.Ytnbccejhgmacjaa
open Go.RowKit
set_option linter.unusedVariables false
set_option linter.unusedSimpArgs false

def valsA : Nat → List V → List UInt8 → Except Int (List V × List UInt8)
  | 0, acc, l => .ok (acc, l)
  | n + 1, acc, l => match valP l with
    | .error e => .error e
    | .ok (v, t) => valsA n (acc ++ [v]) t
def finG : Except Int (List V × List UInt8) → Except Int (List V)
  | .error e => .error e
  | .ok (r, []) => .ok r
  | .ok (_, _ :: _) => .error 2
def getP (l : List UInt8) : Except Int (List V) :=
  if 400 < l.length then .error 4 else match l with
    | [] => .error 3
    | c :: t => if 32 < c.toNat then .error 4 else finG (valsA c.toNat [] t)
def ToldG (res : Except Int (List V)) (r : List V) (x : Int) : Prop := match res with
  | .ok q => r = q ∧ x = 0
  | .error y => r = [] ∧ x = y
theorem numP_err {l : List UInt8} {x : Int} (h : numP l = .error x) : x = 2 ∨ x = 3 := by
  unfold numP at h
  repeat' split at h
  all_goals first | (injection h with h; omega) | cases h
theorem charsA_err {n : Nat} {acc l : List UInt8} {x : Int} (h : charsA acc n l = .error x) : x = 2 ∨ x = 3 := by
  induction n generalizing acc l with
  | zero => simp [charsA] at h
  | succ n ih =>
    cases l with
    | nil => simp [charsA] at h; omega
    | cons c t =>
      simp only [charsA] at h
      split at h
      · injection h with h; omega
      · exact ih h
theorem textP_err {l : List UInt8} {x : Int} (h : textP l = .error x) : x = 2 ∨ x = 3 := by
  unfold textP at h
  split at h
  · injection h with h; omega
  · split at h
    · injection h with h; omega
    · split at h
      · cases h
      · injection h with h; subst h; exact charsA_err (by assumption)
theorem mapP_err {α β : Type} {f : α → β} {p : Except Int (α × List UInt8)} {x : Int} (h : mapP f p = .error x) : p = .error x := by
  unfold mapP at h
  split at h
  · cases h
  · injection h with h; subst h; rfl
theorem valP_err {l : List UInt8} {x : Int} (h : valP l = .error x) : x = 2 ∨ x = 3 := by
  unfold valP at h
  split at h
  · injection h with h; omega
  · repeat' split at h
    · cases h
    · unfold boolP at h
      split at h
      · injection h with h; omega
      · split at h
        · injection h with h; omega
        · cases h
    · exact numP_err (mapP_err h)
    · exact textP_err (mapP_err h)
    · injection h with h; omega
/-- Where Get stands. -/
def GetAt (s : ByteArray) (res : Except Int (List V)) (acc : List V) (m : Nat) (at_ : Nat) (e : Int) : Prop :=
  at_ ≤ s.size ∧ acc.length + m ≤ 255 ∧ ((e = 0 ∧ res = finG (valsA m acc (lft s at_))) ∨ (e = 4 ∨ e = 3 ∨ e = 2) ∧ res = .error e)

set_option maxHeartbeats 2000000 in
set_option maxRecDepth 100000 in
theorem rowGet_any (s : ByteArray) (w : World) :
    Calls Try.prog 23 #[.string s] w fun e w' => ∃ A cp r x, e = .returned (.tuple #[.slice A r.length cp, .int .i64 x]) ∧ ToldG (getP s.data.toList) r x ∧ r.length ≤ cp ∧ cp ≤ 9223372036854775807 ∧ Rd kV w' (fun k => w.heap.size ≤ k ∧ k < w'.heap.size) A r ∧ Below w.heap.size w w' := by
  obtain ⟨i0, hi, hz0, hz1, hz2⟩ := info_parts info48
  by_cases hs : 400 < s.size
  · have e : getP s.data.toList = .error 4 := if_pos (by simpa using hs)
    rw [e]
    have hs' : decide ((400 : Int) < (s.size : Int)) = true := by simp; omega
    clear hs e
    go_enter Try.func23, Try.ntmps23
    go_wp2
    go_ret2
    exact ⟨none, 0, [], 4, rfl, ⟨rfl, rfl⟩, by simp, by simp, Rd.nil _ _ _ _, Below.refl _ _⟩
  · have hs' : decide ((400 : Int) < (s.size : Int)) = false := by simp; omega
    have hs5 : s.size ≤ 500 := by omega
    obtain ⟨res, hres⟩ : ∃ res, res = getP s.data.toList := ⟨_, rfl⟩
    rw [← hres]
    have hres2 : res = match lft s 0 with
      | [] => .error 3
      | c :: t => if 32 < c.toNat then .error 4 else finG (valsA c.toNat [] t) := hres.trans (if_neg (by simpa using hs))
    clear hs hres
    obtain ⟨g, hg⟩ : ∃ g, g = w.heap.size := ⟨_, rfl⟩
    have hr0 : Rdr (w.alloc (.cells #[.string s, .int .i64 0, .int .i64 0] TR)) w.heap.size s 0 0 := heap_alloc_new w _
    have hb0 : Below w.heap.size w (w.alloc (.cells #[.string s, .int .i64 0, .int .i64 0] TR)) := (Below.refl _ _).alloc (Nat.le_refl _) _
    rw [← hg] at hr0 hb0
    obtain ⟨w0, hw0⟩ : ∃ w0, w0 = w.alloc (.cells #[.string s, .int .i64 0, .int .i64 0] TR) := ⟨_, rfl⟩
    rw [← hw0] at hr0 hb0
    have HG := Lib.hid hg
    have HW0 := Lib.hid hw0
    clear hg hw0
    go_enter Try.func23, Try.ntmps23
    go_upto_region 4 with fail
    rw [← HW0.out, ← HG.out]
    clear HW0
    go_cut [5] from 13 to 14 (fun x w2 => ∃ (m at1 : Nat) (e1 : Int), x = .int .i64 m ∧ Rdr w2 g s at1 e1 ∧ Below g w w2 ∧ at1 ≤ s.size ∧ m ≤ 255 ∧ ((m = 0 ∧ e1 = 3 ∧ res = .error 3) ∨ (e1 = 0 ∧ res = if 32 < m then .error 4 else finG (valsA m [] (lft s at1)))))
    case first =>
      rcases hl : lft s 0 with _ | ⟨c, t⟩
      · have HR := Lib.hid (show res = Except.error 3 from hres2.trans (by rw [hl]))
        clear hres2
        go_wp2_with fail
        refine (one_nil g s 0 _ hr0 hl hs5).mono ?_
        rintro e w1 ⟨rfl, hr1, hg1⟩
        go_wp2
        go_meet
        exact ⟨0, _, _, rfl, hr1, hb0.grown hg1 (Nat.le_of_lt hr0.lt) (by rintro k ⟨⟩; exact Nat.le_refl _), Nat.zero_le _, by omega, .inl ⟨rfl, rfl, HR.out⟩⟩
      · obtain ⟨hlt, -, ht⟩ := lft_cons hl
        have HR := Lib.hid (show res = if 32 < c.toNat then .error 4 else finG (valsA c.toNat [] (lft s (0 + 1))) from hres2.trans (by rw [hl, ← ht]))
        have hc := c.toNat_lt
        clear hres2
        go_wp2_with fail
        refine (one_cons g s 0 c t _ hr0 hl hs5).mono ?_
        rintro e w1 ⟨rfl, hr1, hg1⟩
        go_wp2
        go_meet
        exact ⟨c.toNat, _, _, rfl, hr1, hb0.grown hg1 (Nat.le_of_lt hr0.lt) (by rintro k ⟨⟩; exact Nat.le_refl _), hlt, by omega, .inr ⟨rfl, HR.out⟩⟩
    case rest =>
    obtain ⟨m, at1, e1, rfl, hr1, hb1, ha1, hm255, hd⟩ := hcut
    clear hres2 hr0 hb0
    go_upto_if 16 with fail
    go_cut [5] from 15 to 18 (fun x w2 => x = .int .i64 m ∧ ∃ (e1 : Int), Rdr w2 g s at1 e1 ∧ Below g w w2 ∧ GetAt s res [] m at1 e1)
    case first =>
      rcases hd with ⟨rfl, rfl, hr⟩ | ⟨rfl, hr⟩
      · have HR := Lib.hid hr
        clear hr
        go_wp2
        go_meet
        exact ⟨rfl, _, hr1, hb1, ha1, by simp, .inr ⟨.inr (.inl rfl), HR.out⟩⟩
      · by_cases h32 : 32 < m
        · have h32' : decide (32 < (m : Int)) = true := by simp; omega
          have HR := Lib.hid (hr.trans (if_pos h32))
          clear hr
          go_wp2_with fail
          refine (fault_any g s at1 4 _ hr1).mono ?_
          rintro e w2 ⟨rfl, hr2, hg2⟩
          go_wp2
          go_meet
          exact ⟨rfl, _, hr2, hb1.grown hg2 (Nat.le_of_lt hr1.lt) (by rintro k ⟨⟩; exact Nat.le_refl _), ha1, by simp; omega, .inr ⟨.inl rfl, HR.out⟩⟩
        · have h32' : decide (32 < (m : Int)) = false := by simp; omega
          have HR := Lib.hid (hr.trans (if_neg h32))
          clear hr
          go_wp2
          go_meet
          exact ⟨rfl, _, hr1, hb1, ha1, by simp; omega, .inl ⟨rfl, HR.out⟩⟩
    case rest =>
    clear hr1 hb1 hd
    obtain ⟨rfl, e2, hr1, hb1, hT⟩ := hcut
    go_wp2_with fail
    go_loopw [5, 6] (fun i o wr => ∃ (m1 at2 : Nat) (e3 : Int) (acc : List V), i = .int .i64 m1 ∧ Rdr wr g s at2 e3 ∧ Below g w wr ∧ GetAt s res acc m1 at2 e3 ∧ wr.ownsRow (g + 1) TV 3 o acc.length (rowCells acc)) (fun i _ _ => (intOf i).toNat)
    case atStart => exact ⟨m, at1, _, [], rfl, hr1, hb1, hT, World.ownsRow_nil _ _ _ _⟩
    case round =>
      obtain ⟨m1, at2, e3, acc, rfl, hr, hbel, hT2, hown⟩ := hrel
      clear hT hr1 hb1
      obtain ⟨ha2, hbm, hd⟩ := hT2
      have q1 := hr.c1
      have q2 := hr.c2
      have hlt := hr.lt
      have HR := Lib.hid hr
      clear hr
      by_cases hend : m1 = 0 ∨ e3 ≠ 0
      · by_cases he3 : e3 = 0
        · subst he3
          obtain rfl : m1 = 0 := by simpa using hend
          have hr2 : res = finG (valsA 0 acc (lft s at2)) := by
            rcases hd with ⟨-, hr⟩ | ⟨hr, -⟩
            · exact hr
            · omega
          have hll := lft_length s at2
          obtain ⟨A, cp, rfl, hc1, hc2, hrd⟩ := rd_of_own hown (by omega)
          rcases hlf : lft s at2 with _ | ⟨c, t⟩
          · have HRes := Lib.hid (show res = .ok acc from hr2.trans (by rw [hlf]; simp [valsA, finG]))
            rw [hlf] at hll
            have hlt2 : decide (at2 < s.size) = false := by simp at hll ⊢; omega
            clear hd hend hr2 hll hown
            go_wp2
            go_ret2
            exact ⟨A, cp, acc, 0, rfl, by rw [HRes.out]; exact ⟨rfl, rfl⟩, hc1, hc2, HG.out ▸ hrd.mono (fun k hk => ⟨by omega, hk.2⟩), HG.out ▸ hbel⟩
          · have HRes := Lib.hid (show res = .error 2 from hr2.trans (by rw [hlf]; simp [valsA, finG]))
            rw [hlf] at hll
            have hlt2 : decide (at2 < s.size) = true := by simp at hll ⊢; omega
            clear hd hend hr2 hll hown
            go_wp2_with fail
            refine (fault_any g s at2 2 _ HR.out).mono ?_
            rintro e w2 ⟨rfl, hr2, hg2⟩
            have q3 := hr2.c2
            have hb2 := hbel.grown hg2 (Nat.le_of_lt hlt) (by rintro k ⟨⟩; exact Nat.le_refl _)
            go_wp2
            go_region
            go_wp2
            go_ret2
            exact ⟨none, 0, [], 2, rfl, by rw [HRes.out]; exact ⟨rfl, rfl⟩, by simp, by simp, Rd.nil _ _ _ _, HG.out ▸ below_drew' hb2⟩
        · have HRes := Lib.hid (show res = .error e3 by
            rcases hd with ⟨h, -⟩ | ⟨-, hr⟩
            · exact absurd h he3
            · exact hr)
          have t2 : (e3 == 0) = false := by simpa using he3
          have t3 : (e3 != 0) = true := by simpa using he3
          clear hd hend he3
          by_cases hm0 : 0 < m1
          · have t1 : decide (0 < m1) = true := by simp; omega
            go_wp2
            go_region
            go_wp2
            go_ret2
            exact ⟨none, 0, [], e3, rfl, by rw [HRes.out]; exact ⟨rfl, rfl⟩, by simp, by simp, Rd.nil _ _ _ _, HG.out ▸ below_drew' hbel⟩
          · have t1 : decide (0 < m1) = false := by simp; omega
            go_wp2
            go_region
            go_wp2
            go_ret2
            exact ⟨none, 0, [], e3, rfl, by rw [HRes.out]; exact ⟨rfl, rfl⟩, by simp, by simp, Rd.nil _ _ _ _, HG.out ▸ below_drew' hbel⟩
      · obtain ⟨k, rfl⟩ : ∃ k, m1 = k + 1 := ⟨m1 - 1, by omega⟩
        obtain rfl : e3 = 0 := by omega
        have hr2 : res = finG (valsA (k + 1) acc (lft s at2)) := by
          rcases hd with ⟨-, hr⟩ | ⟨hr, -⟩
          · exact hr
          · omega
        have HR2 := Lib.hid hr2
        clear hd hend hr2
        go_wp2_with fail
        refine (rvalue_any g s at2 _ HR.out ha2 hs5).mono ?_
        rintro e w1 ⟨v, rfl, at3, e4, hr3, ha3, hg3, hT3⟩
        have hown1 := hown.kept hg3 (by
          rcases ho : u6.ownBlock with _ | k
          · exact .inl rfl
          · right
            have := (hown.lt k ho).1
            simp; omega)
        have hbel1 := hbel.grown hg3 (Nat.le_of_lt hlt) (by rintro k ⟨⟩; exact Nat.le_refl _)
        have HR3 := Lib.hid hr3
        have hlt3 := hr3.lt
        have HT3 := Lib.hid hT3
        clear hown hbel hg3 hr3 HR q1 q2 hT3
        obtain ⟨kk, nn, ss⟩ := v
        simp only [V.agg]
        go_wp2_with (at_builtin; refine wpList_append_own _ rfl _ _ 39 rfl (g + 1) 48 i0 (.agg #[.int .i64 0, .int .i64 0, .string ⟨#[]⟩]) 3 32 Try.underlying39 hi hz0 hz1 hz2 rfl (by decide) _ _ _ rfl (hown1.alloc _) ⟨w1.heap.size, 0, none⟩ 1 1 [.int .i64 kk, .int .i64 nn, .string ss] rfl rfl ?c1 ?c2 ?c3 ?c4 ?c5 ?_)
        case c1 =>
          intro j u hj
          match j, hj with
          | 0, hj => simp at hj; subst hj; simp [Addr.add]
          | 1, hj => simp at hj; subst hj; simp [Addr.add]
          | 2, hj => simp at hj; subst hj; simp [Addr.add]
        case c2 => intro u hu; simp at hu; rcases hu with rfl | rfl | rfl <;> rfl
        case c3 => unfold maxLen; omega
        case c4 => omega
        case c5 => simp; omega
        intro v' w2 hown' hgrow _
        have hrA := HR3.out.alloc (.cells #[.int .i64 kk, .int .i64 nn, .string ss] TV)
        have hr4 : Rdr w2 g s at3 e4 := (hgrow.block g hrA.lt (fun e => by have := (hown1.lt g e.symm).1; omega)).trans hrA
        have hb4 : Below g w w2 := (hbel1.alloc (Nat.le_of_lt hlt3) _).grown hgrow (by simp; omega) (fun k hk => by have := (hown1.lt k hk).1; omega)
        have HR4 := Lib.hid hr4
        clear hrA hr4 hgrow hown1 hbel1
        go_wp2
        go_roundw
        case rel =>
          refine ⟨k, at3, e4, acc ++ [⟨kk, nn, ss⟩], by go_num, HR4.out, hb4, ⟨ha3, by simp; omega, ?_⟩, ?_⟩
          · have h3 := HT3.out
            have h2 := HR2.out
            rcases hv : valP (lft s at2) with x | ⟨x, t⟩
            · rw [hv] at h3
              obtain rfl : e4 = x := h3
              rw [show valsA (k + 1) acc (lft s at2) = .error e4 by simp [valsA, hv]] at h2
              have := valP_err hv
              exact .inr ⟨by omega, h2⟩
            · rw [hv] at h3
              obtain ⟨h4, h5, h6⟩ := h3
              rw [show valsA (k + 1) acc (lft s at2) = valsA k (acc ++ [x]) t by simp [valsA, hv], h4, h5] at h2
              exact .inl ⟨h6, h2⟩
          · rw [rowCells_append]
            rw [show rowCells [⟨kk, nn, ss⟩] = [.int .i64 kk, .int .i64 nn, .string ss] from rfl]
            simpa using hown'
        case measure => simp [intOf]
end Go.Proofs.Ytnbccejhgmacjaa
