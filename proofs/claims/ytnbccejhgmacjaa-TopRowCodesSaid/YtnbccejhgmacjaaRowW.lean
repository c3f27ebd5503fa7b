/- The walk of TopRowCodes. -/
import Derived.Test.YtnbccejhgmacjaaRowl
namespace Go.Proofs.Ytnbccejhgmacjaa
open Go.RowKit
set_option linter.unusedVariables false
set_option linter.unusedSimpArgs false

theorem Rd.take {α : Type} {d : Knd α} {w : World} {ok : Nat → Prop} {A : Option Addr} {xs : List α} (h : Rd d w ok A xs) (k : Nat) : Rd d w ok A (xs.take k) := by
  refine ⟨by have := h.1; rw [List.length_take]; omega, fun hn => ?_⟩
  obtain ⟨b, o, e, hb, hc⟩ := h.2 (by rintro rfl; simp at hn)
  refine ⟨b, o, e, hb, fun j x hj => hc j x ?_⟩
  rw [List.getElem?_take] at hj
  split at hj
  · exact hj
  · cases hj
theorem nilBytes : (⟨#[]⟩ : ByteArray).toList = [] := by unfold ByteArray.toList ByteArray.toList.loop; simp [ByteArray.size]
def WS : List ByteArray := [⟨#[1, 4]⟩, ⟨#[1, 1, 2]⟩, ⟨#[1, 2]⟩ ++ strOfNums (putL 1000000000000001 8), ⟨#[1, 2]⟩ ++ strOfNums (putL (-1000000000000001) 8), ⟨#[1, 3, 101]⟩, ⟨#[1, 3, 1, 31]⟩, ⟨#[1, 3, 2, 97, 127]⟩, ⟨#[0, 0]⟩]
theorem WS_bad : ∀ x ∈ WS, getP x.data.toList = .error 2 := by
  obtain ⟨h1, h2, h3, h4, h5, h6, h7, h8, -, -⟩ := wrongs
  intro x hx
  simp only [WS, List.mem_cons, List.not_mem_nil, or_false] at hx
  rcases hx with rfl | rfl | rfl | rfl | rfl | rfl | rfl | rfl
  · exact h1
  · exact h2
  · rw [strOf_putL]; simpa [Sx] using h3
  · rw [strOf_putL]; simpa [Sx] using h4
  · exact h5
  · exact h6
  · exact h7
  · exact h8
def dueV (r : List V) : Int := if r.length ≤ 32 ∧ (codedV r).length ≤ 400 then 0 else 4
def bad4 : V := ⟨4, 0, ⟨#[]⟩⟩
theorem rights_bad (r : List V) : rightsV (r ++ [bad4]) = false := by
  have : rightV bad4 = false := by decide
  simp [rightsV, this]
set_option maxHeartbeats 4000000 in
set_option maxRecDepth 100000 in
theorem rowcodes_walk (l : List Vl) (A : Option Addr) (c : Nat) (cut : Int) (w : World) (hv : ∀ v ∈ l, v.wf) (hc : l.length ≤ c) (hA : Rd kVl w (fun k => k < w.heap.size) A l) (hcut : 0 ≤ cut ∧ cut ≤ 65535) :
    Calls Try.prog 4 #[.slice A l.length c, .int .u16 cut] w fun e w' => e = .returned (.bool true) ∧ Below w.heap.size w w' := by
  obtain ⟨m, hm⟩ : ∃ m, m = min l.length 40 := ⟨_, rfl⟩
  have hm0 : (l.take 40).length = m := by rw [List.length_take]; omega
  have hm1 : m ≤ l.length := by omega
  have hm2 : m ≤ 40 := by omega
  have hm3 : min (l.length : Int) 40 = m := by omega
  have hm4 : m ≤ c := by omega
  have hA4 := hA.take 40
  have hv4 : ∀ v ∈ l.take 40, v.wf := fun v hv2 => hv v (List.mem_of_mem_take hv2)
  clear hm hA hv
  generalize l.take 40 = L at *
  have hnice : ∀ v ∈ L.map valueV, v.nice := by
    intro v hv
    obtain ⟨x, hx, rfl⟩ := List.mem_map.1 hv
    exact valueV_nice x (hv4 x hx)
  have HN := Lib.hid hnice
  have HL := Lib.hid (show (L.map valueV).length = m by rw [List.length_map, hm0])
  have HM := Lib.hid hm0
  clear hnice hm0
  have HW := Lib.hid hv4
  have hlen := hA4.1
  go_enter Try.func4, Try.ntmps4
  go_upto_region 1 with fail
  go_cut [5] from 25 to 30 (fun x w2 => ∃ A' c', x = .slice A' m c' ∧ m ≤ c' ∧ c' ≤ 9223372036854775807 ∧ Rd kV w2 (fun k => k < w2.heap.size) A' (L.map valueV) ∧ (A' = none → L.map valueV = []) ∧ Below w.heap.size w w2)
  case first =>
    have hro := rowed_any L A c w HW.out (by rw [HM.out]; exact hm4) (by rw [HM.out]; omega) hA4
    rw [HM.out] at hro
    go_wp2_with fail
    refine hro.mono ?_
    rintro e w' ⟨⟨A', c', rfl, h1, h2, h3, h4, -⟩, hb⟩
    go_wp2
    go_meet
    exact ⟨A', c', rfl, h1, h2, h3.mono (fun k hk => hk.2), fun e => by rw [h4 e]; rfl, hb⟩
  case rest =>
  rename_i hcut0
  obtain ⟨A', c', rfl, h1, h2, hR, hnone, hb1⟩ := hcut
  clear hA4 hv4 HW HM hlen hm1 hm3 hm4 hc
  generalize L.map valueV = R at *
  obtain rfl := HL.out
  clear HL
  have hR40 := hm2
  obtain ⟨due, hdue⟩ : ∃ due, due = dueV R := ⟨_, rfl⟩
  have HD := Lib.hid hdue
  clear hdue hm2
  have HGood := Lib.hid (fun v hv => (HN.out v hv).good)
  have HPlain := Lib.hid (fun v hv => (HN.out v hv).plain)
  have HFair := Lib.hid (fun v hv => (HN.out v hv).fair)
  have HRight := Lib.hid (show rightsV R = true from List.all_eq_true.2 (fun v hv => (HN.out v hv).right))
  have hz := codesV_le R (fun v hv => HGood.out v hv)
  have hz2 : (Sx (codedV R)).size ≤ 22001 := by rw [Sx_size]; simp [codedV]; omega
  clear hz
  go_upto_region 2 with fail
  go_cut [6, 7] from 31 to 32 (fun x y w2 => x = .string (Sx (codedV R)) ∧ y = .int .i64 0 ∧ Below w.heap.size w w2 ∧ Rd kV w2 (fun k => k < w2.heap.size) A' R)
  case first =>
    go_wp2_with fail
    refine (coded_any A' c' R _ hR HGood.out (by omega)).mono ?_
    rintro e w' ⟨rfl, hb⟩
    go_wp2
    go_meet
    exact ⟨rfl, rfl, hb1.trans (hb.mono hb1.size), (hR.below hb (fun _ h => h)).mono (fun k hk => Nat.lt_of_lt_of_le hk hb.size)⟩
  case rest =>
  clear hb1 hR
  obtain ⟨rfl, rfl, hb1, hR⟩ := hcut
  have hsz := Sx_size (codedV R)
  have HSZ := Lib.hid hsz
  have hdd : (due = 0 ∧ R.length ≤ 32 ∧ (Sx (codedV R)).size ≤ 400) ∨ (due = 4 ∧ (32 < R.length ∨ 400 < (Sx (codedV R)).size)) := by
    have := HD.out
    rw [hsz, this]
    unfold dueV
    split <;> omega
  clear hsz
  obtain ⟨S, hS⟩ : ∃ S, S = Sx (codedV R) := ⟨_, rfl⟩
  rw [← hS] at hdd hz2 HSZ ⊢
  have HS := Lib.hid hS
  clear hS
  go_upto_region 3 with fail
  go_cut [40] from 33 to 40 (fun x w2 => x = .bool (due != 0) ∧ w2 = wc)
  case first =>
    rcases hdd with ⟨rfl, h3, h4⟩ | ⟨rfl, h3⟩
    · have h3' : decide (32 < (R.length : Int)) = false := by simp; omega
      have h4' : decide (400 < (S.size : Int)) = false := by simp; omega
      go_wp2
      go_meet
      exact ⟨rfl, rfl⟩
    · by_cases h5 : 32 < R.length
      · have h3' : decide (32 < (R.length : Int)) = true := by simp; omega
        go_wp2
        go_meet
        exact ⟨rfl, rfl⟩
      · have h3' : decide (32 < (R.length : Int)) = false := by simp; omega
        have h4' : decide (400 < (S.size : Int)) = true := by simp; omega
        go_wp2
        go_meet
        exact ⟨rfl, rfl⟩
  case rest =>
  obtain ⟨rfl, rfl⟩ := hcut
  go_upto_if 40 with fail
  go_cut [7] from 40 to 40 (fun x w2 => x = .int .i64 due ∧ w2 = wc)
  case first =>
    rcases hdd with ⟨rfl, h3, h4⟩ | ⟨rfl, h3⟩
    · go_wp2
      go_meet
      exact ⟨rfl, rfl⟩
    · go_wp2
      go_meet
      exact ⟨rfl, rfl⟩
  case rest =>
  obtain ⟨rfl, rfl⟩ := hcut
  have hput : (due = 0 ∧ R.length ≤ 32 ∧ S.size ≤ 400 ∧ putS R = S ∧ putE R = 0) ∨ (due = 4 ∧ (32 < R.length ∨ 400 < S.size) ∧ putS R = ⟨#[]⟩ ∧ putE R = 4) := by
    rcases hdd with ⟨h3, h4, h5⟩ | ⟨h3, h4⟩
    · have hp : rightsV R = true ∧ R.length ≤ 32 ∧ (codedV R).length ≤ 400 := ⟨HRight.out, h4, by rw [← HSZ.out]; exact h5⟩
      exact .inl ⟨h3, h4, h5, (if_pos hp).trans HS.out.symm, (if_pos hp.1).trans (if_pos hp.2)⟩
    · have hp : ¬ (R.length ≤ 32 ∧ (codedV R).length ≤ 400) := by rw [← HSZ.out]; omega
      exact .inr ⟨h3, h4, if_neg (fun h => hp h.2), (if_pos HRight.out).trans (if_neg hp)⟩
  clear hdd
  go_upto_region 5 with fail
  go_cut [8, 9] from 41 to 45 (fun x y w2 => x = .string (putS R) ∧ y = .int .i64 due ∧ Below w.heap.size w w2 ∧ Rd kV w2 (fun k => k < w2.heap.size) A' R)
  case first =>
    have hput2 := Lib.hid (show putE R = due by rcases hput with h | h <;> omega)
    clear hput
    go_wp2_with fail
    refine (rowPut_any A' c' R _ hR HPlain.out (by omega)).mono ?_
    rintro e w' ⟨rfl, hb⟩
    rw [hput2.out]
    go_wp2
    go_meet
    exact ⟨rfl, rfl, hb1.trans (hb.mono hb1.size), (hR.below hb (fun _ h => h)).mono (fun k hk => Nat.lt_of_lt_of_le hk hb.size)⟩
  case rest =>
  clear hb1 hR
  obtain ⟨rfl, rfl, hb1, hR⟩ := hcut
  generalize putS R = P at *
  go_upto_region 6 with fail
  go_cut [72] from 46 to 72 (fun x w2 => x = .bool false ∧ Below w.heap.size w w2 ∧ Rd kV w2 (fun k => k < w2.heap.size) A' R)
  case first =>
    have hsize := fun W hW => size_any A' c' R W hW HPlain.out (by omega)
    simp only [HRight.out, if_true, ← HSZ.out] at hsize
    rcases hput with ⟨rfl, h3, h4, h5, -⟩ | ⟨rfl, h3, h5, -⟩
    · have h6 : P.toList = S.toList := by rw [h5]
      clear h5
      go_wp2_with (first | (go_at_call 21; refine (hsize _ hR).mono ?_; rintro e w' ⟨rfl, hb⟩))
      go_meet
      exact ⟨rfl, hb1.trans (hb.mono hb1.size), (hR.below hb (fun _ h => h)).mono (fun k hk => Nat.lt_of_lt_of_le hk hb.size)⟩
    · have h6 : P.toList = [] := by rw [h5]; exact nilBytes
      clear h5
      go_wp2_with (first | (go_at_call 21; refine (hsize _ hR).mono ?_; rintro e w' ⟨rfl, hb⟩))
      go_meet
      exact ⟨rfl, hb1.trans (hb.mono hb1.size), (hR.below hb (fun _ h => h)).mono (fun k hk => Nat.lt_of_lt_of_le hk hb.size)⟩
  case rest =>
  clear hb1 hR
  obtain ⟨rfl, hb1, hR⟩ := hcut
  go_upto_region 8 with fail
  obtain ⟨i0, hi, hz0, hz1, hz2'⟩ := info_parts info48
  go_cut [10] from 73 to 77 (fun x w2 => Below w.heap.size w w2 ∧ Rd kV w2 (fun k => k < w2.heap.size) A' R ∧ ∃ A2 c2, x = .slice A2 (R ++ [bad4]).length c2 ∧ Rd kV w2 (fun k => k < w2.heap.size) A2 (R ++ [bad4]))
  case first =>
    clear hput
    go_wp2_with fail
    refine (clone_any A' c' R _ hR hnone (by omega)).mono ?_
    rintro e w1 ⟨v, rfl, hown, hb⟩
    have hb2 := hb1.trans (hb.mono hb1.size)
    have hbs := hb.size
    have hbs1 := hb1.size
    go_wp2_with (at_builtin; refine wpList_append_own _ rfl _ _ 39 rfl wc.heap.size 48 i0 (.agg #[.int .i64 0, .int .i64 0, .string ⟨#[]⟩]) 3 32 Try.underlying39 hi hz0 hz1 hz2' rfl (by decide) _ _ _ rfl (hown.alloc _) ⟨w1.heap.size, 0, none⟩ 1 1 [.int .i64 4, .int .i64 0, .string ⟨#[]⟩] rfl rfl ?c1 ?c2 ?c3 ?c4 ?c5 ?_)
    case c1 =>
      intro j u hj
      match j, hj with
      | 0, hj => simp at hj; subst hj; simp [Addr.add]
      | 1, hj => simp at hj; subst hj; simp [Addr.add]
      | 2, hj => simp at hj; subst hj; simp [Addr.add]
    case c2 => intro u hu; simp at hu; rcases hu with rfl | rfl | rfl <;> rfl
    case c3 => unfold maxLen; omega
    case c4 => omega
    case c5 => simp; omega
    intro v' w2 hown' hgrow _
    have hbA : Below wc.heap.size w1 w2 := ((Below.refl wc.heap.size w1).alloc hbs _).grown hgrow (by simp; omega) (fun k hk => (hown.lt k hk).1)
    have hbW := hb.trans hbA
    have hR2 := (hR.below hbW (fun _ h => h)).mono (fun k hk => Nat.lt_of_lt_of_le hk hbW.size)
    have hbT := hb1.trans (hbW.mono hbs1)
    have hown2 : w2.ownsRow wc.heap.size TV 3 v' (R ++ [bad4]).length (rowCells (R ++ [bad4])) := by
      rw [List.length_append, rowCells_append]
      exact hown'
    obtain ⟨A2, c2, rfl, -, -, hrd⟩ := rd_of_own hown2 (by rw [List.length_append]; simp; omega)
    clear hown' hgrow hown hR hb hbA hbW hb1
    go_wp2
    go_meet
    exact ⟨hbT, hR2, A2, c2, rfl, hrd.mono (fun k hk => hk.2)⟩
  case rest =>
  clear hb1 hR
  obtain ⟨hb1, hR, A2, c2, rfl, hR2⟩ := hcut
  have hbad := fun W hW => rowPut_any A2 c2 (R ++ [bad4]) W hW (by
    intro v hv
    rcases List.mem_append.1 hv with h | h
    · exact HPlain.out v h
    · rw [List.mem_singleton.1 h]; exact ⟨by intro b hb; simp [bad4] at hb, by decide, by decide⟩) (by rw [List.length_append]; simp; omega)
  have hbz := fun W hW => size_any A2 c2 (R ++ [bad4]) W hW (by
    intro v hv
    rcases List.mem_append.1 hv with h | h
    · exact HPlain.out v h
    · rw [List.mem_singleton.1 h]; exact ⟨by intro b hb; simp [bad4] at hb, by decide, by decide⟩) (by rw [List.length_append]; simp; omega)
  have e1 : putS (R ++ [bad4]) = ⟨#[]⟩ := if_neg (by rw [rights_bad]; simp)
  have e2 : putE (R ++ [bad4]) = 1 := if_neg (by rw [rights_bad]; simp)
  rw [e1, e2] at hbad
  rw [rights_bad] at hbz
  simp only [Bool.false_eq_true, if_false] at hbz
  clear e1 e2
  generalize R ++ [bad4] = RB at *
  have HB := Lib.hid hbad
  have HZ := Lib.hid hbz
  clear hbad hbz hi hz0 hz1 hz2'
  go_upto_region 9 with fail
  go_cut [11, 12] from 78 to 82 (fun x y w2 => x = .string ⟨#[]⟩ ∧ y = .int .i64 1 ∧ Below w.heap.size w w2 ∧ Rd kV w2 (fun k => k < w2.heap.size) A' R ∧ Rd kV w2 (fun k => k < w2.heap.size) A2 RB)
  case first =>
    clear hput
    go_wp2_with fail
    refine (HB.out _ hR2).mono ?_
    rintro e w' ⟨rfl, hb⟩
    go_wp2
    go_meet
    exact ⟨rfl, rfl, hb1.trans (hb.mono hb1.size), (hR.below hb (fun _ h => h)).mono (fun k hk => Nat.lt_of_lt_of_le hk hb.size), (hR2.below hb (fun _ h => h)).mono (fun k hk => Nat.lt_of_lt_of_le hk hb.size)⟩
  case rest =>
  clear hb1 hR hR2
  obtain ⟨rfl, rfl, hb1, hR, hR2⟩ := hcut
  go_upto_region 10 with fail
  go_cut [93] from 83 to 93 (fun x w2 => x = .bool false ∧ Below w.heap.size w w2 ∧ Rd kV w2 (fun k => k < w2.heap.size) A' R)
  case first =>
    clear hput
    go_wp2_with fail
    refine (HZ.out _ hR2).mono ?_
    rintro e w' ⟨rfl, hb⟩
    go_wp2
    go_meet
    exact ⟨rfl, hb1.trans (hb.mono hb1.size), (hR.below hb (fun _ h => h)).mono (fun k hk => Nat.lt_of_lt_of_le hk hb.size)⟩
  case rest =>
  clear hb1 hR hR2
  obtain ⟨rfl, hb1, hR⟩ := hcut
  have HSl := Lib.hid (show S.data.toList = codedV R by rw [HS.out]; rfl)
  go_upto_region 12 with fail
  go_cut [13, 9] from 94 to 98 (fun x y w2 => y = .int .i64 due ∧ Below w.heap.size w w2 ∧ Rd kV w2 (fun k => k < w2.heap.size) A' R ∧ ∃ A3 c3 r3, x = .slice A3 r3.length c3 ∧ Rd kV w2 (fun k => k < w2.heap.size) A3 r3 ∧ ((due = 0 ∧ r3 = R) ∨ (due = 4 ∧ r3 = [])))
  case first =>
    have hget : (due = 0 ∧ getP S.data.toList = .ok R) ∨ (due = 4 ∧ getP S.data.toList = .error 4) := by
      rw [HSl.out]
      rcases hput with ⟨h3, h4, h5, -⟩ | ⟨h3, h4, -⟩
      · exact .inl ⟨h3, getP_coded R HN.out h4 (by rw [← HSZ.out]; exact h5)⟩
      · exact .inr ⟨h3, getP_late R hR40 (by rw [← HSZ.out]; exact h4)⟩
    clear hput
    have HGet := Lib.hid hget
    clear hget
    go_wp2_with fail
    refine (rowGet_any S _).mono ?_
    rintro e w' ⟨A3, c3, r3, x3, rfl, ht, -, -, hrd, hb⟩
    have hd : x3 = due ∧ ((due = 0 ∧ r3 = R) ∨ (due = 4 ∧ r3 = [])) := by
      rcases HGet.out with ⟨h3, h4⟩ | ⟨h3, h4⟩
      · rw [h4] at ht; exact ⟨by rw [ht.2, h3], .inl ⟨h3, ht.1⟩⟩
      · rw [h4] at ht; exact ⟨by rw [ht.2, h3], .inr ⟨h3, ht.1⟩⟩
    obtain ⟨rfl, hd⟩ := hd
    have hb2 := hb1.trans (hb.mono hb1.size)
    have hR2 := (hR.below hb (fun _ h => h)).mono (fun k hk => Nat.lt_of_lt_of_le hk hb.size)
    have hrd2 := hrd.mono (fun k hk => hk.2)
    have HDD := Lib.hid hd
    clear hb1 hR hb ht hrd hd
    go_wp2
    go_meet
    exact ⟨rfl, hb2, hR2, A3, c3, r3, rfl, hrd2, HDD.out⟩
  case rest =>
  clear hb1 hR
  obtain ⟨rfl, hb1, hR, A3, c3, r3, rfl, hR3, hd3⟩ := hcut
  go_upto_region 13 with fail
  go_cut [120] from 99 to 120 (fun x w2 => x = .bool false ∧ Below w.heap.size w w2)
  case first =>
    clear hput
    rcases hd3 with ⟨rfl, rfl⟩ | ⟨rfl, rfl⟩
    · have hsame := fun W h1 h2 => sameRow_any A3 A' c3 c' r3 r3 W HFair.out HFair.out h1 h2
      simp only [ranksV_self] at hsame
      go_wp2_with (first | (go_at_call 24; refine (hsame _ hR3 hR).mono ?_; rintro e w' ⟨rfl, hb⟩))
      go_meet
      exact ⟨rfl, hb1.trans (hb.mono hb1.size)⟩
    · go_wp2
      go_meet
      exact ⟨rfl, hb1⟩
  case rest =>
  clear hb1 hR hR3
  obtain ⟨rfl, hb1⟩ := hcut
  clear hd3
  have hpos : 1 ≤ S.size := by rw [HSZ.out]; simp [codedV]
  go_upto_if 122 with fail
  go_cut [14, 15, 16, 17, 18] from 122 to 159 (fun a b d e f w2 => Below w.heap.size w w2)
  case first =>
    rcases hput with ⟨rfl, h3, h4, -⟩ | ⟨rfl, h3, -⟩
    · have hm0 : 0 ≤ cut % (S.size : Int) := Int.emod_nonneg _ (by omega)
      have hm1 : cut % (S.size : Int) < (S.size : Int) := Int.emod_lt_of_pos _ (by omega)
      obtain ⟨cm, hcm⟩ := Int.eq_ofNat_of_zero_le hm0
      rw [hcm] at hm1
      clear hm0
      have hz4 : (codedV R).length ≤ 400 := by rw [← HSZ.out]; exact h4
      have hs1 : getP (S.extract 0 cm).data.toList = .error 3 := by
        have : (S.extract 0 cm).data.toList = (codedV R).take cm := by
          rw [← HSl.out]; simp
        rw [this]
        exact getP_cut R HN.out h3 hz4 cm (by rw [← HSZ.out]; omega)
      have hs2 : getP (S ++ (⟨#[97]⟩ : ByteArray)).data.toList = .error (if S.size = 400 then 4 else 2) := by
        have : (S ++ (⟨#[97]⟩ : ByteArray)).data.toList = codedV R ++ [97] := by
          rw [← HSl.out]; simp
        rw [this, HSZ.out]
        exact getP_more R HN.out h3 hz4
      have H1 := Lib.hid hs1
      have H2 := Lib.hid hs2
      clear hs1 hs2
      have hb0 := hb1
      clear hb1 hz4
      go_wp2_with fail
      refine (rowGet_any (S.extract 0 cm) _).mono ?_
      rintro e w' ⟨A4, c4, r4, x4, rfl, ht, -, -, -, hb⟩
      rw [H1.out] at ht
      obtain ⟨rfl, rfl⟩ := ht
      have hb1 := hb0.trans (hb.mono hb0.size)
      clear hb hb0
      by_cases h400 : S.size = 400
      · have h4t : ((S.size : Int) == 400) = true := by simp; omega
        have H3 := Lib.hid (H2.out.trans (by rw [if_pos h400]))
        clear h400
        go_wp2_with fail
        refine (rowGet_any (S ++ (⟨#[97]⟩ : ByteArray)) _).mono ?_
        rintro e w' ⟨A5, c5, r5, x5, rfl, ht, -, -, -, hb⟩
        rw [H3.out] at ht
        obtain ⟨rfl, rfl⟩ := ht
        have hb2 := hb1.trans (hb.mono hb1.size)
        clear hb hb1
        go_wp2
        go_meet
        exact hb2
      · have h4t : ((S.size : Int) == 400) = false := by simp; omega
        have H3 := Lib.hid (H2.out.trans (by rw [if_neg h400]))
        clear h400
        go_wp2_with fail
        refine (rowGet_any (S ++ (⟨#[97]⟩ : ByteArray)) _).mono ?_
        rintro e w' ⟨A5, c5, r5, x5, rfl, ht, -, -, -, hb⟩
        rw [H3.out] at ht
        obtain ⟨rfl, rfl⟩ := ht
        have hb2 := hb1.trans (hb.mono hb1.size)
        clear hb hb1
        go_wp2
        go_meet
        exact hb2
    · go_wp2
      go_meet
      exact hb1
  case rest =>
  clear hb1
  have hb1 := hcut
  clear hcut hput HB HZ
  have p1 := Nat.le_of_eq (show (strOfNums (putL 1000000000000001 8)).size = 8 by rw [strOfNums_size, putL_length])
  have p2 := Nat.le_of_eq (show (strOfNums (putL (-1000000000000001) 8)).size = 8 by rw [strOfNums_size, putL_length])
  go_wp2_with fail
  refine (big_any 1000000000000001 8 _ (by omega)).mono ?_
  rintro e w' ⟨rfl, hb⟩
  have hb2 := hb1.trans (hb.mono hb1.size)
  clear hb hb1
  go_wp2_with fail
  refine (big_any (-1000000000000001) 8 _ (by omega)).mono ?_
  rintro e w2 ⟨rfl, hb⟩
  have hb3 := hb2.trans (hb.mono hb2.size)
  clear hb hb2
  go_wp2_with fail
  have hblk : (w2.alloc (.cells (WS.map Value.string).toArray 9)).heap[w2.heap.size]? = some (.cells (WS.map Value.string).toArray 9 (0, 0)) := heap_alloc_new w2 _
  have hb4 : Below w.heap.size w (w2.alloc (.cells (WS.map Value.string).toArray 9)) := hb3.alloc hb3.size _
  have hB4 : w2.heap.size < (w2.alloc (.cells (WS.map Value.string).toArray 9)).heap.size := by simp
  have hwB := hb3.size
  clear hb3
  go_loopw [20, 21, 22, 166] (fun a b d i wr => ∃ k : Nat, k ≤ 8 ∧ i = .int .i64 k ∧ Below w.heap.size w wr ∧ w2.heap.size < wr.heap.size ∧ wr.heap[w2.heap.size]? = some (.cells (WS.map Value.string).toArray 9 (0, 0))) (fun _ _ _ i _ => 8 - (intOf i).toNat)
  case atStart => exact ⟨0, Nat.zero_le _, rfl, hb4, hB4, hblk⟩
  case round =>
    obtain ⟨k, hk, rfl, hbel, hBr, hbk⟩ := hrel
    clear hblk hb4 hB4
    by_cases hlt : k < 8
    · have hx : ∃ x, wr.cell? ⟨w2.heap.size, k, none⟩ = some (.string x) ∧ getP x.data.toList = .error 2 := by
        have hl : k < WS.length := hlt
        refine ⟨WS[k], (cell_blk hbk k).trans ?_, WS_bad _ (List.getElem_mem hl)⟩
        simp [hl]
      obtain ⟨x, hc, hx⟩ := hx
      have HX := Lib.hid hx
      have HK := Lib.hid hbk
      clear hx hbk
      generalize hBq : w2.heap.size = B at *
      clear hBq
      go_wp2_with fail
      refine (rowGet_any x _).mono ?_
      rintro e w4 ⟨A4, c4, r4, x4, rfl, ht, -, -, -, hb⟩
      rw [HX.out] at ht
      obtain ⟨rfl, rfl⟩ := ht
      have hb5 := hbel.trans (hb.mono hbel.size)
      have hk5 := (hb.block B hBr).trans HK.out
      have hB5 := Nat.lt_of_lt_of_le hBr hb.size
      have HK5 := Lib.hid hk5
      clear hb hbel hk5 HK hc
      go_wp2
      go_roundw
      case rel => exact ⟨k + 1, by omega, by go_num, hb5, hB5, HK5.out⟩
      case measure => simp [intOf]; omega
    · obtain rfl : k = 8 := by omega
      go_wp2_with fail
      refine (rowGet_any ⟨#[33]⟩ _).mono ?_
      rintro e w4 ⟨A4, c4, r4, x4, rfl, ht, -, -, -, hb⟩
      have h33 : getP (⟨#[33]⟩ : ByteArray).data.toList = .error 4 := wrongs.2.2.2.2.2.2.2.2.1
      rw [h33] at ht
      obtain ⟨rfl, rfl⟩ := ht
      have hb5 := hbel.trans (hb.mono hbel.size)
      clear hb hbel hbk
      go_wp2_with fail
      refine (rowGet_any ⟨#[]⟩ _).mono ?_
      rintro e w5 ⟨A5, c5, r5, x5, rfl, ht, -, -, -, hb⟩
      have h0 : getP (⟨#[]⟩ : ByteArray).data.toList = .error 3 := wrongs.2.2.2.2.2.2.2.2.2
      rw [h0] at ht
      obtain ⟨rfl, rfl⟩ := ht
      have hb6 := hb5.trans (hb.mono hb5.size)
      clear hb hb5 h0 h33
      go_wp2
      go_ret
      exact ⟨rfl, hb6⟩
end Go.Proofs.Ytnbccejhgmacjaa
