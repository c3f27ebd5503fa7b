/- The law's own values: Val.value, rowed, sameRow. -/
import Derived.Test.YtnbccejhgmacjaaVal
import Derived.Laws.Runes
namespace Go.Proofs.Ytnbccejhgmacjaa
open Go.RowKit
set_option linter.unusedVariables false
set_option linter.unusedSimpArgs false

set_option maxHeartbeats 1000000 in
theorem sameRow_any (A B : Option Addr) (ca cb : Nat) (r q : List V) (w : World) (hr : ∀ v ∈ r, v.fair) (hq : ∀ v ∈ q, v.fair) (hA : Rd kV w (fun k => k < w.heap.size) A r) (hB : Rd kV w (fun k => k < w.heap.size) B q) :
    Calls Try.prog 24 #[.slice A r.length ca, .slice B q.length cb] w fun e w' => e = .returned (.bool (ranksV r q == 0)) ∧ Below w.heap.size w w' := by
  go_enter Try.func24, Try.ntmps24
  go_wp2_with (first | (go_at_call 27; refine (ranks_any _ _ _ _ r q _ hr hq hA hB).mono ?_; rintro e w' ⟨rfl, hb⟩))
  go_ret
  exact ⟨rfl, hb⟩

/-- The law's Val. -/
structure Vl where
  k : Int
  n : Int
  s : List Int
def kVl : Knd Vl where
  sz := 3
  K := fun w ok v cs => ∃ A c, cs = [.int .u8 v.k, .int .i64 v.n, .slice A v.s.length c] ∧ v.s.length ≤ c ∧ c ≤ 9223372036854775807 ∧ Rd (kInt .u8) w ok A v.s
  len := by rintro w ok x cs ⟨A, c, rfl, _⟩; rfl
  one := by
    rintro w ok x cs ⟨A, c, rfl, _⟩ u hu
    simp only [List.mem_cons, List.not_mem_nil, or_false] at hu
    rcases hu with rfl | rfl | rfl <;> rfl
  keep := by rintro w w' ok x cs hk ⟨A, c, rfl, hl, hc, h⟩; exact ⟨A, c, rfl, hl, hc, h.keep hk⟩
  mono := by rintro w ok ok' x cs hk ⟨A, c, rfl, hl, hc, h⟩; exact ⟨A, c, rfl, hl, hc, h.mono hk⟩
/-- Its numbers are of their kinds. -/
def Vl.wf (v : Vl) : Prop := 0 ≤ v.k ∧ v.k ≤ 255 ∧ -9223372036854775808 ≤ v.n ∧ v.n ≤ 9223372036854775807 ∧ ∀ c ∈ v.s, 0 ≤ c ∧ c ≤ 255
def textOf (l : List Int) : ByteArray := strOfNums ((l.take 100).map fun c => 32 + c % 95)
def valueV (v : Vl) : V :=
  if v.k % 4 = 1 then ⟨1, v.n % 2, ⟨#[]⟩⟩ else if v.k % 4 = 2 then ⟨2, v.n.tmod 1000000000000001, ⟨#[]⟩⟩ else if v.k % 4 = 3 then ⟨3, 0, textOf v.s⟩ else ⟨0, 0, ⟨#[]⟩⟩

theorem enc_ascii {x : Int} (h0 : 0 ≤ x) (h1 : x < 128) : Utf8.encode x = strOfNums [x] := by
  have hv : Utf8.valid x = true := by rw [validRune_eq]; simp [validRune]; omega
  unfold Utf8.encode
  simp only [hv, if_true, show x.toNat < 128 by omega]
  rfl
theorem strOf_app' (a b : List Int) : strOfNums (a ++ b) = strOfNums a ++ strOfNums b := by
  apply ByteArray.ext
  simp [strOfNums]
theorem and_one_i64 (n : Int) : bits .and .i64 n 1 = n % 2 := by
  show IntKind.i64.wrap ((BitVec.ofInt 64 n &&& BitVec.ofInt 64 1).toNat : Int) = _
  rw [BitVec.toNat_and, show (BitVec.ofInt 64 1).toNat = 1 from rfl, Nat.and_one_is_mod, BitVec.toNat_ofInt, IntKind.wrap_i64]
  omega

set_option maxHeartbeats 1000000 in
set_option maxRecDepth 100000 in
theorem value_any (v : Vl) (A : Option Addr) (c : Nat) (w : World) (hv : v.wf) (hc : v.s.length ≤ c) (hA : Rd (kInt .u8) w (fun k => k < w.heap.size) A v.s) :
    Calls Try.prog 36 #[.agg #[.int .u8 v.k, .int .i64 v.n, .slice A v.s.length c]] w fun e w' => e = .returned (valueV v).agg ∧ Below w.heap.size w w' := by
  obtain ⟨kk, n, s⟩ := v
  obtain ⟨hk0, hk1, hn0, hn1, hs⟩ := hv
  simp only at *
  by_cases h1 : kk % 4 = 1
  · have h1' : (kk % 4 == 1) = true := by simpa using h1
    have e : valueV ⟨kk, n, s⟩ = ⟨1, n % 2, ⟨#[]⟩⟩ := if_pos h1
    rw [e]
    clear h1 e
    go_enter Try.func36, Try.ntmps36
    go_wp2
    refine bodyPost_ret (v := .agg #[.int .i64 1, .int .i64 (bits .and .i64 n 1), .string ⟨#[]⟩]) (by simp [results, Try.results36, go_sem]) rfl ⟨ret_of ?_, ?_⟩
    · show Value.agg #[.int .i64 1, .int .i64 (bits .and .i64 n 1), .string ⟨#[]⟩] = V.agg ⟨1, n % 2, ⟨#[]⟩⟩
      rw [and_one_i64]; rfl
    · exact below2 _ _ _
  · by_cases h2 : kk % 4 = 2
    · have h1' : (kk % 4 == 1) = false := by simpa using h1
      have h2' : (kk % 4 == 2) = true := by simpa using h2
      have e : valueV ⟨kk, n, s⟩ = ⟨2, n.tmod 1000000000000001, ⟨#[]⟩⟩ := (if_neg h1).trans (if_pos h2)
      rw [e]
      clear h1 h2 e
      go_enter Try.func36, Try.ntmps36
      go_wp2
      refine bodyPost_ret (v := .agg #[.int .i64 2, .int .i64 (n.tmod 1000000000000001), .string ⟨#[]⟩]) (by simp [results, Try.results36, go_sem]) rfl ⟨rfl, ?_⟩
      exact below2 _ _ _
    · by_cases h3 : kk % 4 = 3
      · have h1' : (kk % 4 == 1) = false := by simpa using h1
        have h2' : (kk % 4 == 2) = false := by simpa using h2
        have h3' : (kk % 4 == 3) = true := by simpa using h3
        have e : valueV ⟨kk, n, s⟩ = ⟨3, 0, textOf s⟩ := (if_neg h1).trans ((if_neg h2).trans (if_pos h3))
        rw [e]
        clear h1 h2 h3 e
        obtain ⟨m, hm⟩ : ∃ m, m = min s.length 100 := ⟨_, rfl⟩
        have hm1 : m ≤ s.length := by omega
        have hm2 : m ≤ 100 := by omega
        have hm3 : min (s.length : Int) 100 = m := by omega
        have hm4 : m ≤ c := by omega
        have HM := Lib.hid hm
        clear hm
        go_enter Try.func36, Try.ntmps36
        go_wp2
        go_loop [3, 31] (fun x i => ∃ k : Nat, k ≤ m ∧ i = .int .i64 k ∧ x = .string (strOfNums ((s.take k).map fun c => 32 + c % 95))) (fun _ i => m - (intOf i).toNat)
        case atStart => exact ⟨0, Nat.zero_le _, rfl, rfl⟩
        case round =>
          obtain ⟨k, hk, rfl, rfl⟩ := hrel
          by_cases hlt : k < m
          · obtain ⟨b, o, rfl, hb, hcl⟩ := hA.2 (by intro e; rw [e] at hm1; simp at hm1; omega)
            obtain ⟨cs, hcs, hcell⟩ := hcl k _ (List.getElem?_eq_getElem (show k < s.length by omega))
            have c1 := hcell 0 _ (by rw [hcs]; rfl)
            simp only [kInt, Knd.scalar, Nat.mul_one, Nat.add_zero] at c1
            clear hcl hcell hcs
            have hsk := hs _ (List.getElem_mem (show k < s.length by omega))
            have hsn : (s.take (k + 1)) = s.take k ++ [s[k]'(by omega)] := List.take_succ_eq_append_getElem (by omega)
            have HSN := Lib.hid hsn
            clear hsn hs
            generalize s[k]'(by omega) = ch at *
            have hp : (strOfNums ((s.take k).map fun c => 32 + c % 95)).size ≤ 100 := by rw [strOfNums_size, List.length_map, List.length_take]; omega
            generalize hq : strOfNums ((s.take k).map fun c => 32 + c % 95) = p at hp ⊢
            have HQ := Lib.hid hq
            clear hq
            have he : Utf8.encode (32 + ch % 95) = strOfNums [32 + ch % 95] := enc_ascii (by omega) (by omega)
            have hz : (strOfNums [32 + ch % 95]).size ≤ 1 := by simp [strOfNums_size]
            go_wp2
            go_round
            case rel =>
              refine ⟨k + 1, by omega, by go_num, ?_⟩
              rw [HSN.out, List.map_append, strOf_app', HQ.out]; rfl
            case measure => simp [intOf]; omega
          · obtain rfl : k = m := by omega
            have hx : strOfNums ((s.take k).map fun c => 32 + c % 95) = textOf s := by
              unfold textOf; congr 2
              rw [HM.out]
              by_cases hl : s.length ≤ 100
              · rw [List.take_of_length_le (by omega), List.take_of_length_le hl]
              · rw [show min s.length 100 = 100 by omega]
            rw [hx]
            clear hx
            go_wp2
            refine bodyPost_ret (v := .agg #[.int .i64 3, .int .i64 0, .string (textOf s)]) (by simp [results, Try.results36, go_sem]) rfl ⟨rfl, ?_⟩
            exact below2 _ _ _
      · have h1' : (kk % 4 == 1) = false := by simpa using h1
        have h2' : (kk % 4 == 2) = false := by simpa using h2
        have h3' : (kk % 4 == 3) = false := by simpa using h3
        have e : valueV ⟨kk, n, s⟩ = ⟨0, 0, ⟨#[]⟩⟩ := (if_neg h1).trans ((if_neg h2).trans (if_neg h3))
        rw [e]
        clear h1 h2 h3 e
        go_enter Try.func36, Try.ntmps36
        go_wp2
        refine bodyPost_ret (v := .agg #[.int .i64 0, .int .i64 0, .string ⟨#[]⟩]) (by simp [results, Try.results36, go_sem]) rfl ⟨rfl, ?_⟩
        exact below2 _ _ _
end Go.Proofs.Ytnbccejhgmacjaa
