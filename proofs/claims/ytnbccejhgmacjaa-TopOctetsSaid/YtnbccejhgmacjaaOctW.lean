/- The walk of TopOctets. -/
import Derived.Test.YtnbccejhgmacjaaBig
import Derived.Test.YtnbccejhgmacjaaOctF
import Derived.Deep.DeepCutAuto
import Derived.Deep.CutBlock
namespace Go.Proofs.Ytnbccejhgmacjaa
open Go.RowKit
set_option linter.unusedVariables false
set_option linter.unusedSimpArgs false

def inB (size : Int) : Bool := decide (0 ≤ size ∧ size ≤ 8)
/-- A slice of bytes that came in: nil, or at an address whose cells are bytes. -/
def ByteRow (w : World) (A : Option Addr) (len cap : Nat) : Prop :=
  (A = none ∧ len = 0 ∧ cap = 0) ∨ ∃ (x : Addr) (zs : List Int), A = some x ∧ len ≤ cap ∧ zs.length = cap ∧ cap ≤ maxLen ∧ ∀ i, i < cap → w.cell? (x.add i) = some (.int .u8 (zs.getD i 0))
theorem conv_addr (w : World) (x : Addr) (len cap : Nat) (xs : List Int) (hlen : xs.length = len) (hcell : ∀ i, i < len → w.cell? (x.add i) = some (.int .u8 (xs.getD i 0))) :
    Sem.run Try.prog (convert 23 9 (.slice (some x) len cap)) w = .ok (.string (strOfNums xs)) w := by
  have hl : (loadCells x len).run Try.prog w = .ok (xs.map (Value.int .u8)).toArray w := by
    have := run_loadCells_list (P := Try.prog) w x (xs.map (Value.int .u8)) (fun j v hj => by
      have hjl : j < xs.length := by have := (List.getElem?_eq_some_iff.1 hj).1; simpa using this
      rw [hcell j (by omega)]
      simp [List.getElem?_eq_getElem hjl] at hj
      subst hj
      simp [List.getD, List.getElem?_eq_getElem hjl])
    simpa [hlen] using this
  rw [run_convert_bytes_string w 23 9 5 _ len cap Try.underlying23 Try.underlying5 Try.underlying9, run_bytesToString w _ len cap xs hl, foldl_push_bytes]
  simp [strOfNums, ByteArray.empty, ByteArray.emptyWithCapacity]
  rfl

/-- Block B begins with the bytes l, which may be written. -/
def Spoilt (w : World) (B : Nat) (l : List UInt8) : Prop :=
  B < w.heap.size ∧ (∀ j, j < l.length → w.cell? ⟨B, j, none⟩ = some (.int .u8 (l.getD j 0).toNat)) ∧ ∀ j, j < l.length → w.frozen? ⟨B, j, none⟩ = false

theorem below_drew' {B : Nat} {w W : World} (h : Below B w W) : Below B w W.drew := ⟨h.os, h.tape, h.output, h.size, h.block⟩
theorem Spoilt.set {w : World} {B p : Nat} {l : List UInt8} (h : Spoilt w B l) (hp : p < l.length) {x : UInt8} {v : Int} (hv : v = x.toNat) : Spoilt (w.setCell ⟨B, p, none⟩ (.int .u8 v)).drew B (l.set p x) := by
  subst hv
  obtain ⟨h1, h2, h3⟩ := h
  refine ⟨by simpa [World.setCell] using h1, fun j hj => ?_, fun j hj => ?_⟩
  · rw [List.length_set] at hj
    show (w.setCell ⟨B, p, none⟩ (.int .u8 x.toNat)).cell? ⟨B, j, none⟩ = _
    by_cases e : p = j
    · subst e
      rw [World.cell?_setCell_same w _ _ (h2 p hj), List.getD_eq_getElem?_getD, List.getElem?_set_self hj]; rfl
    · rw [World.cell?_setCell_other w _ _ _ (by intro he; injection he; omega), h2 j hj, List.getD_eq_getElem?_getD, List.getD_eq_getElem?_getD, List.getElem?_set_ne e]
  · rw [List.length_set] at hj
    show (w.setCell ⟨B, p, none⟩ (.int .u8 x.toNat)).frozen? ⟨B, j, none⟩ = _
    rw [World.frozen?_setCell]; exact h3 j hj

set_option maxHeartbeats 1000000 in
set_option maxRecDepth 100000 in
theorem octets_walk (n size at_ cut turn : Int) (A : Option Addr) (len cap : Nat) (w : World) (hA : ByteRow w A len cap)
    (hn : -9223372036854775808 ≤ n ∧ n ≤ 9223372036854775807) (hs : -128 ≤ size ∧ size ≤ 127) (ha : -128 ≤ at_ ∧ at_ ≤ 127) (hc : 0 ≤ cut ∧ cut ≤ 255) (ht : 0 ≤ turn ∧ turn ≤ 4294967295) :
    Calls Try.prog 3 #[.int .i64 n, .int .i8 size, .int .i8 at_, .slice A len cap, .int .u8 cut, .int .u32 turn] w fun e w' => e = .returned (.bool true) ∧ Below w.heap.size w w' := by
  go_enter Try.func3, Try.ntmps3
  go_upto_region 1 with fail
  go_cut [13, 14] from 39 to 46 (fun s k wc => k = .int .i64 size ∧ Below w.heap.size w wc ∧ ∃ t : ByteArray, s = .string t ∧ t.size ≤ 60)
  case first =>
    rcases hA with ⟨rfl, rfl, rfl⟩ | ⟨x, zs, rfl, hl, hz, hcp, hcell⟩
    · have hcv := run_convert_bytes_nil (P := Try.prog) w 23 5 Try.underlying23 Try.underlying5 0 0 9 Try.underlying9
      go_wp2
      go_meet
      exact ⟨rfl, Below.refl _ _, _, rfl, by simp⟩
    · have hcp' : cap ≤ 9223372036854775807 := hcp
      clear hcp
      have hcv := fun m (hm : m ≤ cap) => conv_addr w x m cap (zs.take m) (by rw [List.length_take]; omega) (fun i hi => by
        rw [hcell i (by omega)]; simp [List.getD, hi])
      have h1 := hcv len hl
      by_cases h60 : len ≤ 60
      · clear hcv
        go_wp2
        go_meet
        exact ⟨rfl, Below.refl _ _, _, rfl, by rw [strOfNums_size, List.length_take]; omega⟩
      · have h2 := hcv 60 (by omega)
        clear hcv
        go_wp2
        go_meet
        exact ⟨rfl, Below.refl _ _, _, rfl, by rw [strOfNums_size, List.length_take]; omega⟩
  case rest =>
    obtain ⟨rfl, hbel, s, rfl, hsz⟩ := hcut
    clear hA
    go_upto_region 3 with fail
    go_cut [52] from 47 to 52 (fun x w2 => x = .bool (inB size) ∧ wc = w2)
    case first =>
      by_cases h1 : 0 ≤ size
      · go_wp2
        all_goals (go_meet; exact ⟨congrArg Value.bool (by unfold inB; simp; omega), rfl⟩)
      · have h2 : decide (0 ≤ size) = false := by simp; omega
        go_wp2
        go_meet
        exact ⟨congrArg Value.bool (by unfold inB; simp; omega), rfl⟩
    case rest =>
    obtain ⟨rfl, rfl⟩ := hcut
    go_upto_if 52 with fail
    go_cut [15] from 52 to 55 (fun x w2 => x = .string (wantS n size) ∧ Below w.heap.size w w2)
    case first =>
      rcases hb : inB size with _ | _
      · have e := Lib.hid (show wantS n size = _ from if_neg (by simpa [inB] using hb))
        go_wp2
        go_meet
        exact ⟨congrArg Value.string e.out.symm, hbel⟩
      · have hh : 0 ≤ size ∧ size ≤ 8 := by simpa [inB] using hb
        have e := Lib.hid (show wantS n size = _ from if_pos hh)
        obtain ⟨m, rfl⟩ := Int.eq_ofNat_of_zero_le hh.1
        have h2 := hh.2
        clear hh hb
        go_wp2_with (first | (go_at_call 9; refine (big_any _ m _ (by omega)).mono ?_; rintro e w' ⟨rfl, hb⟩))
        go_meet
        exact ⟨congrArg Value.string e.out.symm, hbel.trans (hb.mono hbel.size)⟩
    case rest =>
    obtain ⟨rfl, hbel2⟩ := hcut
    clear hbel
    go_upto_region 7 with (first | (go_at_call 10; refine (put_any _ _ _).mono ?_; rintro e w' ⟨rfl, hb⟩))
    have hb5 := hbel2.trans (hb.mono hbel2.size)
    clear hb hbel2
    go_cut [16, 17] from 56 to 68 (fun x y w2 => x = .int .i64 (dueN s at_ size) ∧ y = .bool (mayB s at_ size) ∧ Below w.heap.size w w2)
    case first =>
      go_wp2_with (first | (go_at_call 11; refine (get_tot _ _ _ _ (by omega) (by omega)).mono ?_; rintro e w' ⟨rfl, hb⟩))
      go_meet
      exact ⟨rfl, rfl, hb5.trans (hb.mono hb5.size)⟩
    case rest =>
    obtain ⟨rfl, rfl, hb6⟩ := hcut
    clear hb5
    go_upto_region 9 with fail
    go_cut [19] from 69 to 87 (fun x w2 => x = .bool (mayB s at_ size) ∧ w2 = wc)
    case first =>
      by_cases h1 : 1 ≤ size
      · by_cases h2 : size ≤ 8
        · by_cases h3 : 0 ≤ at_
          · go_wp2
            go_meet
            exact ⟨congrArg Value.bool (by unfold mayB; rw [decide_eq_decide]; omega), rfl⟩
          · have h3' : decide (0 ≤ at_) = false := by simp; omega
            go_wp2
            go_meet
            exact ⟨congrArg Value.bool (by unfold mayB; simp; omega), rfl⟩
        · have h2' : decide (size ≤ 8) = false := by simp; omega
          go_wp2
          go_meet
          exact ⟨congrArg Value.bool (by unfold mayB; simp; omega), rfl⟩
      · have h1' : decide (1 ≤ size) = false := by simp; omega
        go_wp2
        go_meet
        exact ⟨congrArg Value.bool (by unfold mayB; simp; omega), rfl⟩
    case rest =>
    obtain ⟨rfl, rfl⟩ := hcut
    go_upto_if 88 with fail
    go_cut [17, 18, 19] from 88 to 103 (fun y x z w2 => y = .bool (mayB s at_ size) ∧ x = .int .i64 (dueN s at_ size) ∧ z = .bool (mayB s at_ size) ∧ w2 = wc)
    case first =>
      rcases hb : mayB s at_ size with _ | _
      · have e := Lib.hid (show dueN s at_ size = _ from if_neg (by simp [hb]))
        have hb' := Lib.hid hb
        go_wp2
        go_meet
        exact ⟨congrArg Value.bool hb'.out.symm, congrArg (Value.int .i64) e.out.symm, congrArg Value.bool hb'.out.symm, rfl⟩
      · have e := Lib.hid (show dueN s at_ size = _ from if_pos hb)
        have hm : 1 ≤ size ∧ size ≤ 8 ∧ 0 ≤ at_ ∧ at_ + size ≤ s.size := by simpa [mayB] using hb
        have hb' := Lib.hid hb
        clear hb
        obtain ⟨m, rfl⟩ := Int.eq_ofNat_of_zero_le (show 0 ≤ size by omega)
        obtain ⟨a, rfl⟩ := Int.eq_ofNat_of_zero_le hm.2.2.1
        have hm1 : 1 ≤ m ∧ m ≤ 8 ∧ a + m ≤ s.size := by omega
        clear hm
        obtain ⟨l, hl⟩ : ∃ l, l = s.data.toList.drop a := ⟨_, rfl⟩
        have hll : m ≤ l.length := by rw [hl, List.length_drop]; simp; omega
        have hlk : ∀ k, k < m → ∀ h, s[a + k]'h = l[k]?.getD 0 := by
          intro k hk h
          rw [hl, List.getElem?_drop, List.getElem?_eq_getElem (by simpa using h)]
          rfl
        have HL := Lib.hid hl
        clear hl
        go_wp2
        go_loop [18, 90] (fun x i => ∃ k : Nat, k ≤ m ∧ i = .int .i64 k ∧ x = .int .i64 (wrap64 (beL (l.take k)))) (fun _ i => m - (intOf i).toNat)
        case atStart => exact ⟨0, Nat.zero_le _, rfl, congrArg (Value.int .i64) (show (0:Int) = wrap64 ((beL (l.take 0) : Nat) : Int) from by simp [beL, wrap64])⟩
        case round =>
          obtain ⟨k, hk, rfl, rfl⟩ := hrel
          by_cases hlt : k < m
          · have hs1 := hlk k hlt
            go_wp2
            go_round
            case rel =>
              refine ⟨k + 1, by omega, by go_num, ?_⟩
              have hlt' : beL (l.take k) < 256 ^ 7 := Nat.lt_of_lt_of_le (beL_lt _) (Nat.pow_le_pow_right (by omega) (by rw [List.length_take]; omega))
              rw [show (256:Nat) ^ 7 = 72057594037927936 from rfl] at hlt'
              rw [List.take_succ_eq_append_getElem (by omega), beL_snoc]
              rw [List.getElem?_eq_getElem (by omega), Option.getD_some, IntWalk.wrap64_in ((l[k]'(by omega)).toNat : Int) (by have := (l[k]'(by omega)).toNat_lt; omega), or_i64 hlt' (l[k]'(by omega)).toNat_lt]
            case measure => simp [intOf]; omega
          · obtain rfl : k = m := by omega
            go_wp2
            go_meet
            exact ⟨congrArg Value.bool hb'.out.symm, by rw [e.out, HL.out]; rfl, congrArg Value.bool hb'.out.symm, rfl⟩
    case rest =>
    obtain ⟨rfl, rfl, rfl, rfl⟩ := hcut
    go_upto_region 18 with fail
    obtain ⟨text, htext⟩ : ∃ t : ByteArray, t = strOfNums [0, (s.size : Int)] ++ s := ⟨_, rfl⟩
    have htz : text.size = s.size + 2 := by rw [htext, size_app, strOfNums_size]; simp only [List.length_cons, List.length_nil]; omega
    have htz' : text.size ≤ 62 := by omega
    have HT := Lib.hid htext
    have HTZ := Lib.hid htz
    clear htext htz
    go_cut [21] from 112 to 118 (fun x w2 => x = .string text ∧ Below w.heap.size w w2)
    case first =>
      have hcv := conv_two
      have h2 : (strOfNums [0, (s.size : Int)]).size ≤ 2 := by simp [strOfNums_size]
      go_wp2
      go_meet
      exact ⟨by rw [HT.out], hb6.alloc hb6.size _⟩
    case rest =>
    obtain ⟨rfl, hb7⟩ := hcut
    clear hb6
    go_upto_region 19 with fail
    have htp : 2 ≤ text.size := by have := HTZ.out; omega
    have htp' : 2 ≤ (text.size : Int) := by omega
    have hne : ¬ text = ByteArray.empty := by intro h; rw [h] at htp; simp at htp
    obtain ⟨row, hrow⟩ : ∃ t : ByteArray, t = (⟨#[97, 98]⟩ : ByteArray) ++ text ++ ⟨#[99]⟩ := ⟨_, rfl⟩
    have hrz : row.size = text.size + 3 := by rw [hrow, size_app, size_app]; show 2 + text.size + 1 = _; omega
    have hrz' : row.size ≤ 65 := by omega
    have hrz'' : text.size + 3 ≤ row.size := by omega
    have HR := Lib.hid hrow
    have HRZ := Lib.hid hrz
    clear hrow hrz
    go_cut [22] from 119 to 121 (fun x w2 => x = .string row ∧ w2 = wc)
    case first =>
      go_wp2
      go_meet
      exact ⟨by rw [HR.out]; first | done | rfl, rfl⟩
    case rest =>
    obtain ⟨rfl, rfl⟩ := hcut
    have F1 : Hid (gtB row 2 = true ∧ gtS row 2 = s ∧ gtN row 2 = 2 + text.size) := fact2 s text row hsz HT.out HR.out HTZ.out HRZ.out
    go_upto_region 20 with fail
    go_cut [23, 24, 25] from 122 to 127 (fun x y z w2 => x = .string s ∧ y = .int .i64 (2 + text.size) ∧ z = .bool true ∧ Below w.heap.size w w2)
    case first =>
      go_wp2_with (first | (go_at_call 12; refine (getText_tot _ 2 _ (by omega) (by omega)).mono ?_; rintro e w' ⟨rfl, hb⟩))
      go_meet
      exact ⟨congrArg Value.string F1.out.2.1, congrArg (Value.int .i64) F1.out.2.2, congrArg Value.bool F1.out.1, hb7.trans (hb.mono hb7.size)⟩
    case rest =>
    obtain ⟨rfl, rfl, rfl, hb8⟩ := hcut
    clear hb7
    have hcm : 0 ≤ cut % (text.size : Int) := Int.emod_nonneg _ (by omega)
    have hcl : cut % (text.size : Int) < (text.size : Int) := Int.emod_lt_of_pos _ (by omega)
    obtain ⟨cm, hcm1⟩ := Int.eq_ofNat_of_zero_le hcm
    rw [hcm1] at hcl
    clear hcm
    have F2 : Hid (gtB (row.extract 0 (2 + cm)) 2 = false) := fact3 s text row cm hsz HT.out HR.out HTZ.out HRZ.out (by omega)
    go_upto_region 21 with fail
    go_cut [26, 27, 28] from 128 to 140 (fun x y z w2 => x = .string ⟨#[]⟩ ∧ y = .int .i64 0 ∧ z = .bool false ∧ Below w.heap.size w w2)
    case first =>
      have hz : (row.extract 0 (2 + cm)).size ≤ 65 := by simp; omega
      go_wp2_with (first | (go_at_call 12; refine (getText_tot (row.extract 0 (2 + cm)) 2 _ (by omega) (by omega)).mono ?_; rintro e w' ⟨rfl, hb⟩))
      go_meet
      have e1 : gtS (row.extract 0 (2 + cm)) 2 = ⟨#[]⟩ := if_neg (by rw [F2.out]; simp)
      have e2 : gtN (row.extract 0 (2 + cm)) 2 = 0 := if_neg (by rw [F2.out]; simp)
      exact ⟨congrArg Value.string e1, congrArg (Value.int .i64) e2, congrArg Value.bool F2.out, hb8.trans (hb.mono hb8.size)⟩
    case rest =>
    obtain ⟨rfl, rfl, rfl, hb9⟩ := hcut
    clear hb8
    have HCM := Lib.hid hcm1
    clear hcm1
    go_upto_region 22 with fail
    go_cut [171] from 141 to 171 (fun x w2 => x = .bool false ∧ Below w.heap.size w w2)
    case first =>
      go_wp2_with (first | (go_at_call 13; refine (putText_is s text _ (by omega) HT.out (by omega)).mono ?_; rintro e w' ⟨rfl, hb⟩))
      go_meet
      exact ⟨rfl, hb9.trans (hb.mono hb9.size)⟩
    case rest =>
    obtain ⟨rfl, hb10⟩ := hcut
    clear hb9 hne htp htp'
    go_upto_region 24 with fail
    go_cut [29] from 172 to 173 (fun x w2 => x = .int .i64 (4294967295 - crcL s.data.toList) ∧ w2 = wc)
    case first =>
      go_wp2_with (first | (go_at_call 14; refine (summed_any s _ (by omega)).mono ?_; rintro e w' ⟨rfl, rfl⟩))
      go_meet
      exact ⟨rfl, rfl⟩
    case rest =>
    obtain ⟨rfl, rfl⟩ := hcut
    obtain ⟨sealed, hsealed⟩ : ∃ t : ByteArray, t = strOfNums (putL (4294967295 - crcL s.data.toList) 4) ++ s := ⟨_, rfl⟩
    have hsz4 : sealed.size = s.size + 4 := by rw [hsealed, size_app, put_size]; omega
    have hsz4' : sealed.size ≤ 64 := by omega
    have hsz4'' : 4 ≤ sealed.size := by omega
    have HS := Lib.hid hsealed
    clear hsealed
    have HSZ := Lib.hid hsz4
    clear hsz4
    go_upto_region 25 with fail
    go_cut [30] from 174 to 177 (fun x w2 => x = .string sealed ∧ Below w.heap.size w w2)
    case first =>
      have hp := Nat.le_of_eq (put_size (4294967295 - crcL s.data.toList) 4)
      go_wp2_with (first | (go_at_call 9; refine (big_any _ 4 _ (by omega)).mono ?_; rintro e w' ⟨rfl, hb⟩))
      go_meet
      exact ⟨congrArg Value.string HS.out.symm, hb10.trans (hb.mono hb10.size)⟩
    case rest =>
    obtain ⟨rfl, hb11⟩ := hcut
    clear hb10
    have F3 : Hid (opB sealed = true ∧ opS sealed = s) := fact4 s sealed HS.out HSZ.out
    go_upto_region 26 with fail
    go_cut [31, 32] from 178 to 182 (fun x y w2 => x = .string s ∧ y = .bool true ∧ Below w.heap.size w w2)
    case first =>
      go_wp2_with (first | (go_at_call 15; refine (open_tot sealed _ (by omega)).mono ?_; rintro e w' ⟨rfl, hb⟩))
      go_meet
      exact ⟨congrArg Value.string F3.out.2, congrArg Value.bool F3.out.1, hb11.trans (hb.mono hb11.size)⟩
    case rest =>
    obtain ⟨rfl, rfl, hb12⟩ := hcut
    clear hb11
    go_upto_region 27 with fail
    obtain ⟨c4, hc4⟩ := Int.eq_ofNat_of_zero_le (show 0 ≤ cut % 4 by omega)
    have hc4' : c4 < 4 := by omega
    go_cut [33, 34] from 183 to 191 (fun x y w2 => x = .string ⟨#[]⟩ ∧ y = .bool false ∧ Below w.heap.size w w2)
    case first =>
      have hz : (sealed.extract 0 c4).size < 4 := by simp; omega
      go_wp2_with (first | (go_at_call 15; refine (open_short (sealed.extract 0 c4) _ (by omega)).mono ?_; rintro e w' ⟨rfl, hb⟩))
      go_meet
      exact ⟨rfl, rfl, hb12.trans (hb.mono hb12.size)⟩
    case rest =>
    obtain ⟨rfl, rfl, hb13⟩ := hcut
    clear hb12 hc4 hc4'
    go_upto_region 28 with fail
    go_cut [217] from 192 to 217 (fun x w2 => x = .bool false ∧ Below w.heap.size w w2)
    case first =>
      go_wp2_with (first | (go_at_call 16; refine (sum_any s _ (by omega)).mono ?_; rintro e w' ⟨rfl, rfl⟩) | (go_at_call 17; refine (seal_is s sealed _ (by omega) HS.out).mono ?_; rintro e w' ⟨rfl, hb⟩))
      go_meet
      exact ⟨rfl, hb13.trans (hb.mono hb13.size)⟩
    case rest =>
    obtain ⟨rfl, hb14⟩ := hcut
    clear hb13
    obtain ⟨c, hcc⟩ := Int.eq_ofNat_of_zero_le hc.1
    subst hcc
    go_upto_region 30 with fail
    go_cut [35, 36] from 218 to 219 (fun x y w2 => y = .int .i64 0 ∧ ∃ B cp : Nat, x = .slice (some ⟨B, 0, none⟩) sealed.size cp ∧ w.heap.size ≤ B ∧ sealed.size ≤ cp ∧ Spoilt w2 B sealed.data.toList ∧ Below w.heap.size w w2)
    case first =>
      obtain ⟨cp, W, hcv, hcp, hcell, hfr, hbl, hlt⟩ := conv_bytes sealed wc
      go_wp2
      go_meet
      exact ⟨rfl, _, cp, rfl, hb14.size, hcp, ⟨hlt, fun j hj => hcell j (by simpa using hj), fun j hj => hfr j (by simpa using hj)⟩, hb14.trans (hbl.mono hb14.size)⟩
    case rest =>
    obtain ⟨rfl, B, cp, rfl, hB, hcp, hsp, hb15⟩ := hcut
    clear hb14
    go_upto_region 31 with fail
    obtain ⟨L, hL⟩ : ∃ L, L = sealed.data.toList := ⟨_, rfl⟩
    have hLz : L.length = sealed.size := by rw [hL]; simp
    rw [← hL] at hsp
    have HL := Lib.hid hL
    have HLZ := Lib.hid hLz
    clear hL hLz
    go_wp2
    go_loopw [36, 220] (fun mn ix wr => ∃ i : Nat, i ≤ 4 ∧ ix = .int .i64 i ∧ mn = .int .i64 (spoil L c turn i).2 ∧ Spoilt wr B (spoil L c turn i).1 ∧ Below w.heap.size w wr) (fun _ ix _ => 4 - (intOf ix).toNat)
    case atStart => exact ⟨0, by omega, rfl, rfl, hsp, hb15⟩
    case round =>
      obtain ⟨i, hi, rfl, rfl, hsi, hbi⟩ := hrel
      have hle := spoil_le L c turn i
      by_cases hlt : i < 4
      · by_cases hp : 4 + c + i < sealed.size
        · have hp' : decide ((4 : Int) + c + i < sealed.size) = true := by simp; omega
          by_cases ht0 : turn / 2 ^ (8 * i) % 256 = 0
          · have ht1 : (turn / 2 ^ (8 * i) % 256 != 0) = false := by simp [ht0]
            clear ht0
            have e := Lib.hid (spoil_stay (L := L) (cut := c) (turn := turn) (i := i) (by right; simpa using ht1))
            go_wp2
            go_roundw
            case rel => exact ⟨i + 1, by omega, by go_num, by rw [e.out], by rw [e.out]; exact hsi, hbi⟩
            case measure => simp [intOf]; omega
          · have ht1 : (turn / 2 ^ (8 * i) % 256 != 0) = true := by simp [ht0]
            have e := Lib.hid (spoil_turn (L := L) (cut := c) (turn := turn) (i := i) (by rw [HLZ.out]; exact hp) ht0)
            clear ht0
            have hc1 := hsi.2.1 (4 + c + i) (by rw [spoil_length, HLZ.out]; exact hp)
            have hc2 := hsi.2.2 (4 + c + i) (by rw [spoil_length, HLZ.out]; exact hp)
            have hc3 : B < wr.heap.size := hsi.1
            have HSI := Lib.hid hsi
            clear hsi
            go_wp2
            go_region
            go_wp2
            go_roundw
            case rel => exact ⟨i + 1, by omega, by go_num, by rw [e.out]; rfl, by rw [e.out]; exact HSI.out.set (by rw [spoil_length, HLZ.out]; exact hp) (bits_xor_u8 _ _ (by omega) (by omega)), below_drew' (hbi.setCell hB _)⟩
            case measure => simp [intOf]; omega
        · have hp' : decide ((4 : Int) + c + i < sealed.size) = false := by simp; omega
          have e := Lib.hid (spoil_stay (L := L) (cut := c) (turn := turn) (i := i) (by left; rw [HLZ.out]; exact hp))
          go_wp2
          go_roundw
          case rel => exact ⟨i + 1, by omega, by go_num, by rw [e.out], by rw [e.out]; exact hsi, hbi⟩
          case measure => simp [intOf]; omega
      · obtain rfl : i = 4 := by omega
        have hcv := run_convert_bytes_arg wr 23 5 Try.underlying23 Try.underlying5 B 0 sealed.size cp ((spoil L c turn 4).1.map fun b => (b.toNat : Int)) (by rw [List.length_map, spoil_length, HLZ.out]) (fun j hj => by
          have hj' : j < (spoil L c turn 4).1.length := by rw [spoil_length, HLZ.out]; exact hj
          rw [Nat.zero_add, hsi.2.1 j hj', List.getD_eq_getElem?_getD, List.getD_eq_getElem?_getD, List.getElem?_map, List.getElem?_eq_getElem hj']; rfl) 9 Try.underlying9
        obtain ⟨T, hT⟩ : ∃ T, T = strOfNums ((spoil L c turn 4).1.map fun b => (b.toNat : Int)) := ⟨_, rfl⟩
        rw [← hT] at hcv
        have HT2 := Lib.hid hT
        clear hT
        have hTz : T.size ≤ 64 := by rw [HT2.out, strOfNums_size, List.length_map, spoil_length, HLZ.out]; exact hsz4'
        go_upto_region 39 with fail
        go_cut [31, 32] from 254 to 259 (fun x y w2 => x = .string (opS T) ∧ y = .bool (opB T) ∧ Below w.heap.size w w2)
        case first =>
          go_wp2_with (first | (go_at_call 15; refine (open_tot T _ (by omega)).mono ?_; rintro e w' ⟨rfl, hb⟩))
          go_meet
          exact ⟨rfl, rfl, hbi.trans (hb.mono hbi.size)⟩
        case rest =>
        obtain ⟨rfl, rfl, hb16⟩ := hcut
        have hfin : Hid ((spoil L c turn 4).2 = 0 ∨ (spoil L c turn 4).2 ≠ 0 ∧ opB T = false) := fact5 s sealed T L c turn HS.out HL.out HT2.out
        rcases hfin.out with h0 | ⟨h0, h1⟩
        · have h0' : (((spoil L c turn 4).2 : Int) == 0) = true := by simp [h0]
          clear h0
          go_wp2_with (first | (go_at_call 16; refine (sum_is _ 873187033 _ (by decide) (by decide +kernel)).mono ?_; rintro e w' ⟨rfl, rfl⟩))
          go_ret
          exact ⟨rfl, hb16⟩
        · have h2 : opS T = ⟨#[]⟩ := if_neg (by simp [h1])
          have h0' : (((spoil L c turn 4).2 : Int) == 0) = false := by simp [h0]
          clear h0
          go_wp2_with (first | (go_at_call 16; refine (sum_is _ 873187033 _ (by decide) (by decide +kernel)).mono ?_; rintro e w' ⟨rfl, rfl⟩))
          go_ret
          exact ⟨rfl, hb16⟩
end Go.Proofs.Ytnbccejhgmacjaa
