/- What values may be: package value's Right and Rights, num.In; slices.IndexFunc and ContainsFunc at a row. -/
import Derived.Test.YtnbccejhgmacjaaRowed
namespace Go.Proofs.Ytnbccejhgmacjaa
open Go.RowKit
set_option linter.unusedVariables false
set_option linter.unusedSimpArgs false

def oddB (r : Nat) : Bool := decide (r < 32 ∨ 126 < r)
set_option maxHeartbeats 1000000 in
theorem odd_any (r : Nat) (w : World) :
    Calls Try.prog 117 #[.int .i32 (r : Int)] w fun e w' => e = .returned (.bool (oddB r)) ∧ w = w' := by
  by_cases h1 : r < 32
  · have h1' : (r : Int) < 32 := by omega
    go_enter Try.func117, Try.ntmps117
    go_wp2
    go_ret
    exact ⟨ret_of (congrArg Value.bool (by simp [oddB]; omega)), rfl⟩
  · have h1' : decide ((r : Int) < 32) = false := by simp; omega
    go_enter Try.func117, Try.ntmps117
    go_wp2
    go_ret
    refine ⟨ret_of ?_, rfl⟩
    show Value.bool (decide ((126 : Int) < (r : Int))) = _
    congr 1
    simp only [oddB, decide_eq_decide]
    omega

def inB15 (n : Int) : Bool := decide (-1000000000000000 ≤ n ∧ n ≤ 1000000000000000)
set_option maxHeartbeats 1000000 in
theorem in_any (n : Int) (w : World) :
    Calls Try.prog 113 #[.int .i64 n] w fun e w' => e = .returned (.bool (inB15 n)) ∧ w = w' := by
  by_cases h1 : -1000000000000000 ≤ n
  · go_enter Try.func113, Try.ntmps113
    go_wp2
    go_ret
    refine ⟨ret_of ?_, rfl⟩
    show Value.bool (decide (n ≤ 1000000000000000)) = _
    congr 1
    simp only [inB15, decide_eq_decide]
    omega
  · have h1' : decide (-1000000000000000 ≤ n) = false := by simp; omega
    go_enter Try.func113, Try.ntmps113
    go_wp2
    go_ret
    exact ⟨ret_of (congrArg Value.bool (by simp [inB15]; omega)), rfl⟩

/-! ### A text's bytes -/
def Ascii (s : ByteArray) : Prop := ∀ b ∈ s.data.toList, b.toNat < 128
def textB (s : ByteArray) : Bool := s.data.toList.all fun b => decide (32 ≤ b.toNat ∧ b.toNat ≤ 126)
theorem idx_from (s : ByteArray) (h : Ascii s) : ∀ (f pos : Nat), s.size ≤ pos + f → decide (Lib.idxFuncFrom oddB true s f pos < 0) = (s.data.toList.drop pos).all fun b => decide (32 ≤ b.toNat ∧ b.toNat ≤ 126) := by
  intro f
  induction f with
  | zero =>
    intro pos hp
    rw [List.drop_eq_nil_of_le (by simpa using hp)]
    rfl
  | succ f ih =>
    intro pos hp
    by_cases hlt : pos < s.size
    · have hb : (s[pos]'hlt).toNat < 128 := h _ (by rw [ByteArray.getElem_eq_getElem_data]; exact Array.getElem_mem_toList _)
      have hd := decode_ascii s pos hlt hb
      rw [List.drop_eq_getElem_cons (by simpa using hlt), List.all_cons, ← ih (pos + 1) (by omega)]
      rw [show Lib.idxFuncFrom oddB true s (f + 1) pos = (if pos < s.size then (if oddB (Utf8.decode s pos).1 = true then (pos : Int) else Lib.idxFuncFrom oddB true s f (pos + (Utf8.decode s pos).2)) else -1) from rfl, if_pos hlt, hd]
      have e : s.data.toList[pos]'(by simpa using hlt) = s[pos]'hlt := rfl
      rw [e]
      by_cases ho : oddB (s[pos]'hlt).toNat = true
      · rw [if_pos ho]
        have : ¬ (32 ≤ (s[pos]'hlt).toNat ∧ (s[pos]'hlt).toNat ≤ 126) := by simp [oddB] at ho; omega
        simp only [this, decide_false, Bool.false_and]
        simp
      · rw [if_neg ho]
        have : 32 ≤ (s[pos]'hlt).toNat ∧ (s[pos]'hlt).toNat ≤ 126 := by simp [oddB] at ho; omega
        simp only [this, and_self, decide_true, Bool.true_and]
    · rw [List.drop_eq_nil_of_le (by simp; omega)]
      unfold Lib.idxFuncFrom
      rw [if_neg hlt]; rfl
theorem idx_text (s : ByteArray) (h : Ascii s) : decide (Lib.idxFunc oddB true s < 0) = textB s := by
  have := idx_from s h s.size 0 (by omega)
  rw [List.drop_zero] at this
  exact this
theorem index_odd (s : ByteArray) (w : World) :
    Calls Try.prog 116 #[.string s, .func (.func 117) #[] #[]] w fun e w' => e = .returned (.int .i64 (Lib.idxFunc oddB true s)) ∧ Below w.heap.size w w' :=
  Try.strings_IndexFunc 117 #[] (enters_of Try.func117 (by kernel_rfl) rfl) oddB s w (fun W x _ => (odd_any x W).mono fun e w' ⟨he, hw⟩ => ⟨he, 0, hw.symm⟩)

def rightV (v : V) : Bool :=
  if v.kind = 3 then decide (v.n = 0) && decide (v.s.size ≤ 100) && textB v.s
  else if v.s.size ≠ 0 then false
  else if v.kind = 0 then decide (v.n = 0)
  else if v.kind = 1 then decide (v.n = 0 ∨ v.n = 1)
  else decide (v.kind = 2) && inB15 v.n

theorem andNot_one (n : Int) (hn : -9223372036854775808 ≤ n ∧ n ≤ 9223372036854775807) : (bits .andNot .i64 n 1 == 0) = decide (n = 0 ∨ n = 1) := by
  have hx : (BitVec.ofInt 64 n &&& ~~~ BitVec.ofInt 64 1).toNat = 2 * ((BitVec.ofInt 64 n).toNat / 2) := by
    apply Nat.eq_of_testBit_eq
    intro i
    rw [Nat.mul_comm, ← Nat.pow_one 2, ← Nat.shiftLeft_eq, Nat.testBit_shiftLeft]
    have h1 : (BitVec.ofInt 64 n &&& ~~~ BitVec.ofInt 64 1).toNat.testBit i = (BitVec.ofInt 64 n &&& ~~~ BitVec.ofInt 64 1).getLsbD i := rfl
    rw [h1, BitVec.getLsbD_and, BitVec.getLsbD_not, show BitVec.ofInt 64 1 = 1#64 from rfl, BitVec.getLsbD_one]
    cases i with
    | zero => simp
    | succ j =>
      have h2 : (BitVec.ofInt 64 n).getLsbD (j + 1) = (BitVec.ofInt 64 n).toNat.testBit (j + 1) := rfl
      rw [← Nat.testBit_succ, show (j + 1 - 1).succ = j + 1 from rfl, ← h2]
      by_cases hj : j + 1 < 64
      · simp [hj]
      · rw [BitVec.getLsbD_of_ge _ _ (by omega)]; simp
  have hu : (BitVec.ofInt 64 n).toNat = (n % 18446744073709551616).toNat := by rw [BitVec.toNat_ofInt]; rfl
  show (IntKind.i64.wrap ((BitVec.ofInt 64 n &&& ~~~ BitVec.ofInt 64 1).toNat : Int) == 0) = _
  rw [hx, hu, IntKind.wrap_i64, Bool.eq_iff_iff]
  simp only [beq_iff_eq, decide_eq_true_eq]
  omega

set_option maxHeartbeats 1000000 in
set_option maxRecDepth 100000 in
theorem right_any (v : V) (w : World) (ha : Ascii v.s) (hn : -9223372036854775808 ≤ v.n ∧ v.n ≤ 9223372036854775807) :
    Calls Try.prog 85 #[v.agg] w fun e w' => e = .returned (.bool (rightV v)) ∧ Below w.heap.size w w' := by
  obtain ⟨k, n, s⟩ := v
  simp only [V.agg] at *
  have hb1 : ∀ o : Obj, Below w.heap.size w (w.alloc o) := fun o => (Below.refl _ _).alloc (Nat.le_refl _) _
  by_cases h3 : k = 3
  · subst h3
    by_cases hn0 : n = 0
    · subst hn0
      have e : rightV ⟨3, 0, s⟩ = (decide (s.size ≤ 100) && textB s) := by simp [rightV]
      rw [e]
      by_cases hs : s.size ≤ 100
      · rw [show (decide (s.size ≤ 100) && textB s) = textB s by simp [hs], ← idx_text s ha]
        clear ha e
        go_enter Try.func85, Try.ntmps85
        go_wp2_with (first | (go_at_call 116; refine (index_odd s _).mono ?_; rintro e w' ⟨rfl, hb⟩))
        go_ret
        exact ⟨rfl, (hb1 _).trans (hb.mono (by simp))⟩
      · rw [show (decide (s.size ≤ 100) && textB s) = false by simp [hs]]
        have hs' : decide ((s.size : Int) ≤ 100) = false := by simp; omega
        clear ha e
        go_enter Try.func85, Try.ntmps85
        go_wp2
        go_ret
        exact ⟨rfl, hb1 _⟩
    · have e : rightV ⟨3, n, s⟩ = false := by simp [rightV, hn0]
      rw [e]
      have hn' : (n == 0) = false := by simpa using hn0
      clear ha e hn0
      go_enter Try.func85, Try.ntmps85
      go_wp2
      go_ret
      exact ⟨rfl, hb1 _⟩
  · have h3' : (k == 3) = false := by simpa using h3
    by_cases hs : s.size = 0
    · have hs' : s.toList = [] := by
        have : s.data.toList = [] := List.eq_nil_of_length_eq_zero (by simpa using hs)
        rw [Lib.toList_data]; exact this
      by_cases h0 : k = 0
      · subst h0
        have e : rightV ⟨0, n, s⟩ = decide (n = 0) := by simp [rightV, hs]
        rw [e]
        clear ha e h3
        go_enter Try.func85, Try.ntmps85
        go_wp2
        go_ret
        exact ⟨ret_of (congrArg Value.bool (by rw [Bool.eq_iff_iff]; simp)), hb1 _⟩
      · have h0' : (k == 0) = false := by simpa using h0
        by_cases h1 : k = 1
        · subst h1
          have e : rightV ⟨1, n, s⟩ = decide (n = 0 ∨ n = 1) := by simp [rightV, hs]
          rw [e, ← andNot_one n hn]
          clear ha e h3 h0
          go_enter Try.func85, Try.ntmps85
          go_wp2
          go_ret
          exact ⟨rfl, hb1 _⟩
        · have h1' : (k == 1) = false := by simpa using h1
          by_cases h2 : k = 2
          · subst h2
            have e : rightV ⟨2, n, s⟩ = inB15 n := by simp [rightV, hs]
            rw [e]
            clear ha e h3 h0 h1
            go_enter Try.func85, Try.ntmps85
            go_wp2_with (first | (go_at_call 113; refine (in_any n _).mono ?_; rintro e w' ⟨rfl, rfl⟩))
            go_ret
            exact ⟨rfl, hb1 _⟩
          · have h2' : (k == 2) = false := by simpa using h2
            have e : rightV ⟨k, n, s⟩ = false := by simp [rightV, hs, h3, h0, h1, h2]
            rw [e]
            clear ha e h3 h0 h1 h2
            go_enter Try.func85, Try.ntmps85
            go_wp2
            go_ret
            exact ⟨rfl, hb1 _⟩
    · have hs' : ¬ s.toList = [] := by
        rw [Lib.toList_data]
        intro h
        apply hs
        have := congrArg List.length h
        simpa using this
      have e : rightV ⟨k, n, s⟩ = false := by simp [rightV, hs, h3]
      rw [e]
      have hs2 : s.toList.isEmpty = false := by simpa using hs'
      clear ha e h3 hs hs'
      go_enter Try.func85, Try.ntmps85
      go_wp2
      go_ret
      exact ⟨rfl, hb1 _⟩

/-! ### slices.IndexFunc and ContainsFunc at a row -/
/-- What is asked of a predicate on values: it tells p of each of them, and writes nothing that was there. -/
def PredV (g : Nat) (lb : Array Value) (p : V → Bool) (r : List V) (w : World) : Prop :=
  ∀ (W : World) (x : V), x ∈ r → Below w.heap.size w W → Calls Try.prog g (#[x.agg] ++ lb) W fun e w' => e = .returned (.bool (p x)) ∧ Below W.heap.size W w'
def idxV (p : V → Bool) (r : List V) : Int := match r.findIdx? p with | some i => i | none => -1

set_option maxHeartbeats 1000000 in
set_option maxRecDepth 100000 in
theorem indexFunc_any (g : Nat) (lb : Array Value) (eg : ∀ args w, (callFunc g args).run Try.prog w = .ok (.enter g args) w) (p : V → Bool) (A : Option Addr) (c : Nat) (r : List V) (w : World)
    (hA : Rd kV w (fun k => k < w.heap.size) A r) (hp : PredV g lb p r w) :
    Calls Try.prog 139 #[.slice A r.length c, .func (.func g) #[] lb] w fun e w' => e = .returned (.int .i64 (idxV p r)) ∧ Below w.heap.size w w' := by
  have hl := hA.1
  go_enter Try.func139, Try.ntmps139
  go_wp2
  go_loopw [8] (fun i wr => ∃ k : Nat, k ≤ r.length ∧ i = .int .i64 k ∧ (∀ x ∈ r.take k, p x = false) ∧ Below w.heap.size w wr) (fun i _ => r.length - (intOf i).toNat)
  case atStart => exact ⟨0, Nat.zero_le _, rfl, by simp, Below.refl _ _⟩
  case round =>
    obtain ⟨k, hk, rfl, hno, hbel⟩ := hrel
    by_cases hlt : k < r.length
    · obtain ⟨b, o, rfl, hb, c0, c1, c2⟩ := (hA.below hbel (fun _ h => h)).val (k := k) hlt
      have hx : r[k] ∈ r := List.getElem_mem hlt
      have hpx := hp wr _ hx hbel
      have hsn : r.take (k + 1) = r.take k ++ [r[k]] := List.take_succ_eq_append_getElem hlt
      have hfi : p r[k] = true → idxV p r = k := by
        intro h
        have : r.findIdx? p = some k := by
          rw [List.findIdx?_eq_some_iff_getElem]
          refine ⟨hlt, h, fun j hj => ?_⟩
          have := hno r[j] (by rw [List.mem_take_iff_getElem]; exact ⟨j, by omega, rfl⟩)
          simp [this]
        simp [idxV, this]
      have HFI := Lib.hid hfi
      have HSN := Lib.hid hsn
      have HNO := Lib.hid hno
      clear hfi hsn hno hx
      generalize r[k] = x at *
      have HPX := Lib.hid hpx
      clear hpx
      rcases hv : p x with _ | _
      · have HV := Lib.hid hv
        clear hv
        go_wp2_with (first | (go_at_fn g; refine HPX.out.mono ?_; rintro e w' ⟨rfl, hb1⟩; rw [HV.out]))
        go_roundw
        case rel =>
          refine ⟨k + 1, by omega, by go_num, fun y hy => ?_, hbel.trans (hb1.mono hbel.size)⟩
          rw [HSN.out, List.mem_append, List.mem_singleton] at hy
          rcases hy with hy | rfl
          · exact HNO.out y hy
          · exact HV.out
        case measure => simp [intOf]; omega
      · have HV := Lib.hid hv
        clear hv
        go_wp2_with (first | (go_at_fn g; refine HPX.out.mono ?_; rintro e w' ⟨rfl, hb1⟩; rw [HV.out]))
        go_ret
        exact ⟨ret_of (congrArg (Value.int .i64) (HFI.out HV.out).symm), hbel.trans (hb1.mono hbel.size)⟩
    · obtain rfl : k = r.length := by omega
      have hn : idxV p r = -1 := by
        have : r.findIdx? p = none := by
          rw [List.findIdx?_eq_none_iff]
          intro x hx
          exact hno x (by rw [List.take_length]; exact hx)
        simp [idxV, this]
      have HN := Lib.hid hn
      clear hn hno
      go_wp2
      go_ret
      exact ⟨ret_of (congrArg (Value.int .i64) HN.out.symm), hbel⟩
theorem idxV_any (p : V → Bool) (r : List V) : decide (0 ≤ idxV p r) = r.any p := by
  unfold idxV
  cases h : r.findIdx? p with
  | none =>
    rw [List.findIdx?_eq_none_iff] at h
    have : r.any p = false := by rw [List.any_eq_false]; intro x hx; simp [h x hx]
    rw [this]; rfl
  | some i =>
    rw [List.findIdx?_eq_some_iff_getElem] at h
    obtain ⟨hi, hp, _⟩ := h
    have : r.any p = true := List.any_eq_true.2 ⟨_, List.getElem_mem hi, hp⟩
    rw [this]; simp

set_option maxHeartbeats 1000000 in
theorem containsFunc_any (g : Nat) (lb : Array Value) (eg : ∀ args w, (callFunc g args).run Try.prog w = .ok (.enter g args) w) (p : V → Bool) (A : Option Addr) (c : Nat) (r : List V) (w : World)
    (hA : Rd kV w (fun k => k < w.heap.size) A r) (hp : PredV g lb p r w) :
    Calls Try.prog 101 #[.slice A r.length c, .func (.func g) #[] lb] w fun e w' => e = .returned (.bool (r.any p)) ∧ Below w.heap.size w w' := by
  rw [← idxV_any]
  have HP := Lib.hid hp
  clear hp
  go_enter Try.func101, Try.ntmps101
  go_wp2_with (first | (go_at_call 139; refine (indexFunc_any g lb eg p A c r _ hA HP.out).mono ?_; rintro e w' ⟨rfl, hb⟩))
  go_ret
  exact ⟨rfl, hb⟩

/-- The values of a row are as they come here: texts of ASCII, numbers of 64 bits. -/
def V.plain (v : V) : Prop := Ascii v.s ∧ -9223372036854775808 ≤ v.n ∧ v.n ≤ 9223372036854775807
set_option maxHeartbeats 1000000 in
theorem rights1_any (v : V) (w : World) (h : v.plain) :
    Calls Try.prog 102 #[v.agg] w fun e w' => e = .returned (.bool (!rightV v)) ∧ Below w.heap.size w w' := by
  obtain ⟨h1, h2⟩ := h
  have H := Lib.hid (fun W => right_any v W h1 h2)
  have hb1 : ∀ o : Obj, Below w.heap.size w (w.alloc o) := fun o => (Below.refl _ _).alloc (Nat.le_refl _) _
  obtain ⟨k, n, s⟩ := v
  simp only [V.agg] at *
  clear h1 h2
  go_enter Try.func102, Try.ntmps102
  go_wp2_with (first | (go_at_call 85; refine (H.out _).mono ?_; rintro e w' ⟨rfl, hb⟩))
  go_ret
  exact ⟨rfl, (hb1 _).trans (hb.mono (by simp))⟩
def rightsV (r : List V) : Bool := r.all rightV
set_option maxHeartbeats 1000000 in
theorem rights_any (A : Option Addr) (c : Nat) (r : List V) (w : World) (hA : Rd kV w (fun k => k < w.heap.size) A r) (hr : ∀ v ∈ r, v.plain) :
    Calls Try.prog 60 #[.slice A r.length c] w fun e w' => e = .returned (.bool (rightsV r)) ∧ Below w.heap.size w w' := by
  have e : rightsV r = !(r.any fun v => !rightV v) := by
    unfold rightsV
    rw [Bool.eq_iff_iff]
    simp
  rw [e]
  clear e
  have HP : Hid (PredV 102 #[] (fun v => !rightV v) r w) := fun W x hx _ => rights1_any x W (hr x hx)
  clear hr
  go_enter Try.func60, Try.ntmps60
  go_wp2_with (first | (go_at_call 101; refine (containsFunc_any 102 #[] (enters_of Try.func102 (by kernel_rfl) rfl) (fun v => !rightV v) A c r _ hA HP.out).mono ?_; rintro e w' ⟨rfl, hb⟩))
  go_ret
  exact ⟨rfl, hb⟩
end Go.Proofs.Ytnbccejhgmacjaa
