/- Rows as bytes: the law's own coded; package rowcode's Size and Put. -/
import Derived.Test.YtnbccejhgmacjaaRight
import Derived.Test.YtnbccejhgmacjaaBig
namespace Go.Proofs.Ytnbccejhgmacjaa
open Go.RowKit
set_option linter.unusedVariables false
set_option linter.unusedSimpArgs false

/-- Bytes as a text. -/
def Sx (l : List UInt8) : ByteArray := ⟨l.toArray⟩
theorem Sx_size (l : List UInt8) : (Sx l).size = l.length := by simp [Sx, ByteArray.size]
theorem Sx_app (a b : List UInt8) : Sx a ++ Sx b = Sx (a ++ b) := by apply ByteArray.ext; simp [Sx]
theorem Sx_data (l : List UInt8) : (Sx l).data.toList = l := rfl
theorem Sx_of (s : ByteArray) : Sx s.data.toList = s := by apply ByteArray.ext; simp [Sx]
def putU (n : Int) (m : Nat) : List UInt8 := (putL n m).map fun x => UInt8.ofNat x.toNat
theorem putU_length (n : Int) (m : Nat) : (putU n m).length = m := by simp [putU, putL]
theorem strOf_putL (n : Int) (m : Nat) : strOfNums (putL n m) = Sx (putU n m) := rfl
theorem strOf_one (x : Int) : strOfNums [x] = Sx [UInt8.ofNat x.toNat] := rfl

/-- A value's bytes behind its kind. -/
def tailV (v : V) : List UInt8 :=
  if v.kind = 1 then [UInt8.ofNat v.n.toNat] else if v.kind = 2 then putU v.n 8 else if v.kind = 3 then UInt8.ofNat v.s.size :: v.s.data.toList else []
def codeV (v : V) : List UInt8 := UInt8.ofNat v.kind.toNat :: tailV v
def codesV (r : List V) : List UInt8 := r.flatMap codeV
def codedV (r : List V) : List UInt8 := UInt8.ofNat r.length :: codesV r
theorem codesV_snoc (r : List V) (v : V) : codesV (r ++ [v]) = codesV r ++ codeV v := by simp [codesV]
/-- Such values are what rows hold here. -/
def V.good (v : V) : Prop := 0 ≤ v.kind ∧ v.kind ≤ 3 ∧ (v.kind = 1 → v.n = 0 ∨ v.n = 1) ∧ (v.kind = 3 → v.s.size ≤ 100) ∧ -9223372036854775808 ≤ v.n ∧ v.n ≤ 9223372036854775807 ∧ v.s.size ≤ 100
theorem codeV_le (v : V) (h : v.good) : (codeV v).length ≤ 110 := by
  obtain ⟨_, _, _, h3, _, _, h4⟩ := h
  unfold codeV tailV
  repeat' split
  all_goals simp [putU_length] <;> omega
theorem codesV_le (r : List V) (h : ∀ v ∈ r, v.good) : (codesV r).length ≤ 110 * r.length := by
  induction r with
  | nil => simp [codesV]
  | cons v r ih =>
    have h1 := codeV_le v (h v (by simp))
    have h2 := ih (fun x hx => h x (by simp [hx]))
    simp only [codesV, List.flatMap_cons, List.length_append, List.length_cons] at h2 ⊢
    omega

theorem step_code {r : List V} {v : V} {k : Nat} {p x : ByteArray} {c : UInt8} (hs : r.take (k + 1) = r.take k ++ [v]) (hp : Sx (c :: codesV (r.take k)) = p) (hx : x = p ++ Sx (codeV v)) : Value.string x = Value.string (Sx (c :: codesV (r.take (k + 1)))) := by
  rw [hx, ← hp, hs, codesV_snoc, Sx_app]; rfl
set_option maxHeartbeats 2000000 in
set_option maxRecDepth 100000 in
theorem coded_any (A : Option Addr) (c : Nat) (r : List V) (w : World) (hA : Rd kV w (fun k => k < w.heap.size) A r) (hr : ∀ v ∈ r, v.good) (hl : r.length ≤ 200) :
    Calls Try.prog 19 #[.slice A r.length c] w fun e w' => e = .returned (.string (Sx (codedV r))) ∧ Below w.heap.size w w' := by
  have hcv := conv_one_at
  have hz1 : ∀ x : Int, (strOfNums [x]).size ≤ 1 := fun x => by simp [strOfNums_size]
  have HZ1 := Lib.hid hz1
  clear hz1
  have hl' : (r.length : Int) ≤ 200 := by omega
  go_enter Try.func19, Try.ntmps19
  go_wp2
  go_loopw [3, 13] (fun x i wr => ∃ k : Nat, k ≤ r.length ∧ i = .int .i64 k ∧ x = .string (Sx (UInt8.ofNat r.length :: codesV (r.take k))) ∧ Below w.heap.size w wr) (fun _ i _ => r.length - (intOf i).toNat)
  case atStart => exact ⟨0, Nat.zero_le _, rfl, rfl, (Below.refl _ _).alloc (Nat.le_refl _) _⟩
  case round =>
    obtain ⟨k, hk, rfl, rfl, hbel⟩ := hrel
    by_cases hlt : k < r.length
    · obtain ⟨b, o, rfl, hb, c0, c1, c2⟩ := (hA.below hbel (fun _ h => h)).val (k := k) hlt
      have hsn : r.take (k + 1) = r.take k ++ [r[k]] := List.take_succ_eq_append_getElem hlt
      have HSN := Lib.hid hsn
      have hg := hr _ (List.getElem_mem hlt)
      have hcl := codesV_le (r.take k) (fun v hv => hr v (List.mem_of_mem_take hv))
      have hp : (Sx (UInt8.ofNat r.length :: codesV (r.take k))).size ≤ 22001 := by
        rw [Sx_size, List.length_cons]
        have := List.length_take_le k r
        omega
      clear hsn hcl
      generalize r[k] = v at *
      generalize hq : Sx (UInt8.ofNat r.length :: codesV (r.take k)) = p at hp ⊢
      have HQ := Lib.hid hq
      clear hq
      obtain ⟨kk, n, s⟩ := v
      obtain ⟨g0, g1, g2, g3, g4, g5, g6⟩ := hg
      simp only at *
      have hz2 := HZ1.out kk
      have g6' : (s.size : Int) ≤ 100 := by omega
      by_cases h1 : kk = 1
      · subst h1
        have hz3 := HZ1.out n
        have hn : 0 ≤ n ∧ n ≤ 1 := by have := g2 rfl; omega
        clear g2 g3
        go_wp2
        go_roundw
        case rel => exact ⟨k + 1, by omega, by go_num, step_code HSN.out HQ.out (by rw [strOf_one, strOf_one, ByteArray.append_assoc, Sx_app]; rfl), ((hbel.alloc hbel.size _).alloc (by have := hbel.size; simp; omega) _).alloc (by have := hbel.size; simp; omega) _⟩
        case measure => simp [intOf]; omega
      · have h1' : (kk == 1) = false := by simpa using h1
        by_cases h2 : kk = 2
        · subst h2
          have hz3 : (strOfNums (putL n 8)).size ≤ 8 := Nat.le_of_eq (by rw [strOfNums_size, putL_length])
          clear g2 g3
          go_wp2_with (first | (go_at_call 9; refine (big_any _ 8 _ (by omega)).mono ?_; rintro e w' ⟨rfl, hb⟩))
          go_roundw
          case rel => exact ⟨k + 1, by omega, by go_num, step_code HSN.out HQ.out (by rw [strOf_one, strOf_putL, ByteArray.append_assoc, Sx_app]; rfl), ((hbel.alloc hbel.size _).alloc (by have := hbel.size; simp; omega) _).trans (hb.mono (by have := hbel.size; simp; omega))⟩
          case measure => simp [intOf]; omega
        · have h2' : (kk == 2) = false := by simpa using h2
          by_cases h3 : kk = 3
          · subst h3
            have hz3 := HZ1.out (s.size : Int)
            clear g2 g3
            go_wp2
            go_roundw
            case rel => exact ⟨k + 1, by omega, by go_num, step_code HSN.out HQ.out (by rw [strOf_one, strOf_one, ← Sx_of s, ByteArray.append_assoc, Sx_app, Sx_app]; rfl), ((hbel.alloc hbel.size _).alloc (by have := hbel.size; simp; omega) _).alloc (by have := hbel.size; simp; omega) _⟩
            case measure => simp [intOf]; omega
          · have h3' : (kk == 3) = false := by simpa using h3
            clear g2 g3
            go_wp2
            go_roundw
            case rel => exact ⟨k + 1, by omega, by go_num, step_code HSN.out HQ.out (by rw [strOf_one]; simp [codeV, tailV, h1, h2, h3]), (hbel.alloc hbel.size _).alloc (by have := hbel.size; simp; omega) _⟩
            case measure => simp [intOf]; omega
    · obtain rfl : k = r.length := by omega
      rw [List.take_length]
      go_wp2
      go_ret
      exact ⟨rfl, hbel⟩

/-! ### Size -/
theorem rightV_good {v : V} (h : rightV v = true) (hn : -9223372036854775808 ≤ v.n ∧ v.n ≤ 9223372036854775807) : v.good := by
  unfold rightV at h
  unfold V.good
  by_cases h3 : v.kind = 3
  · rw [if_pos h3] at h
    simp at h
    refine ⟨by omega, by omega, by omega, fun _ => h.1.2, hn.1, hn.2, h.1.2⟩
  · rw [if_neg h3] at h
    by_cases hs : v.s.size = 0
    · rw [if_neg (by omega)] at h
      by_cases h0 : v.kind = 0
      · exact ⟨by omega, by omega, by omega, by omega, hn.1, hn.2, by omega⟩
      · rw [if_neg h0] at h
        by_cases h1 : v.kind = 1
        · rw [if_pos h1] at h
          simp at h
          exact ⟨by omega, by omega, fun _ => h, by omega, hn.1, hn.2, by omega⟩
        · rw [if_neg h1] at h
          simp at h
          exact ⟨by omega, by omega, by omega, by omega, hn.1, hn.2, by omega⟩
    · rw [if_pos hs] at h
      cases h
theorem rights_good {r : List V} (h : rightsV r = true) (hp : ∀ v ∈ r, v.plain) : ∀ v ∈ r, v.good := fun v hv => rightV_good (List.all_eq_true.1 h v hv) (hp v hv).2
set_option maxHeartbeats 2000000 in
set_option maxRecDepth 100000 in
theorem size_any (A : Option Addr) (c : Nat) (r : List V) (w : World) (hA : Rd kV w (fun k => k < w.heap.size) A r) (hp : ∀ v ∈ r, v.plain) (hl : r.length ≤ 200) :
    Calls Try.prog 21 #[.slice A r.length c] w fun e w' => e = .returned (.int .i64 (if rightsV r then (codedV r).length else 0)) ∧ Below w.heap.size w w' := by
  have hl' : (r.length : Int) ≤ 200 := by omega
  have HP := Lib.hid (fun W hW => rights_any A c r W hW hp)
  have hr := fun h => rights_good (r := r) h hp
  clear hp
  rcases hv : rightsV r with _ | _
  · have HV := Lib.hid hv
    clear hv hr
    go_enter Try.func21, Try.ntmps21
    go_wp2_with (first | (go_at_call 60; refine (HP.out _ hA).mono ?_; rintro e w' ⟨rfl, hb⟩; rw [HV.out]))
    go_ret
    exact ⟨rfl, hb⟩
  · have HV := Lib.hid hv
    have HG := Lib.hid (hr hv)
    clear hv hr
    go_enter Try.func21, Try.ntmps21
    go_wp2_with (first | (go_at_call 60; refine (HP.out _ hA).mono ?_; rintro e w' ⟨rfl, hb⟩; rw [HV.out]))
    go_loopw [3, 11] (fun x i wr => ∃ k : Nat, k ≤ r.length ∧ i = .int .i64 k ∧ x = .int .i64 (1 + (codesV (r.take k)).length) ∧ Below w.heap.size w wr) (fun _ i _ => r.length - (intOf i).toNat)
    case atStart => exact ⟨0, Nat.zero_le _, rfl, rfl, hb⟩
    case round =>
      obtain ⟨k, hk, rfl, rfl, hbel⟩ := hrel
      by_cases hlt : k < r.length
      · obtain ⟨b, o, rfl, hb, c0, c1, c2⟩ := (hA.below hbel (fun _ h => h)).val (k := k) hlt
        have hsn : r.take (k + 1) = r.take k ++ [r[k]] := List.take_succ_eq_append_getElem hlt
        have HSN := Lib.hid hsn
        have hg := HG.out _ (List.getElem_mem hlt)
        have hcl := codesV_le (r.take k) (fun v hv => HG.out v (List.mem_of_mem_take hv))
        have hp : (codesV (r.take k)).length ≤ 22000 := by
          have := List.length_take_le k r
          omega
        clear hsn hcl
        generalize r[k] = v at *
        generalize hq : (codesV (r.take k)).length = p at hp ⊢
        have HQ := Lib.hid hq
        clear hq
        obtain ⟨kk, n, s⟩ := v
        obtain ⟨g0, g1, g2, g3, g4, g5, g6⟩ := hg
        simp only at *
        have g6' : (s.size : Int) ≤ 100 := by omega
        have hk4 : kk = 0 ∨ kk = 1 ∨ kk = 2 ∨ kk = 3 := by omega
        clear g2 g3
        rcases hk4 with rfl | rfl | rfl | rfl
        all_goals go_wp2
        all_goals go_roundw
        all_goals first
          | (case rel => exact ⟨k + 1, by omega, by go_num, congrArg (Value.int .i64) (by rw [HSN.out, codesV_snoc, List.length_append, HQ.out]; simp [codeV, tailV, putU_length]; omega), (hbel.alloc hbel.size _).alloc (by have := hbel.size; simp; omega) _⟩)
          | skip
        all_goals (simp [intOf]; omega)
      · obtain rfl : k = r.length := by omega
        rw [List.take_length]
        go_wp2
        go_ret
        exact ⟨ret_of (congrArg (Value.int .i64) (by simp [codedV]; omega)), hbel⟩

end Go.Proofs.Ytnbccejhgmacjaa
