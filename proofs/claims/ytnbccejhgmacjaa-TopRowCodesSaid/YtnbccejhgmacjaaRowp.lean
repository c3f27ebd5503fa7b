/- Package rowcode's Put. -/
import Derived.Test.YtnbccejhgmacjaaRowc
namespace Go.Proofs.Ytnbccejhgmacjaa
open Go.RowKit
set_option linter.unusedVariables false
set_option linter.unusedSimpArgs false

theorem bld_alloc {T e B b : Nat} {p : Value} {bs : List Value} {w : World} (h : Lib.BuilderAt T e B b p bs w) (o : Obj) : Lib.BuilderAt T e B b p bs (w.alloc o) := by
  have hlt := h.lt
  obtain ⟨hB, v, hb, hown, hne⟩ := h
  exact ⟨hB, v, (Lib.alloc_old w o b hlt).trans hb, hown.alloc _, hne⟩
theorem bld_below {T e B b : Nat} {p : Value} {bs : List Value} {w w' : World} (h : Lib.BuilderAt T e B b p bs w) (hb : Below w.heap.size w w') : Lib.BuilderAt T e B b p bs w' := by
  have hlt := h.lt
  obtain ⟨hB, v, hbk, hown, hne⟩ := h
  refine ⟨hB, v, (hb.block b hlt).trans hbk, hown.kept (row := none) ⟨hb.os, hb.tape, hb.output, hb.size, fun i hi _ => hb.block i hi⟩ (by cases v.ownBlock <;> simp), hne⟩

/-! ### Put -/
theorem bld_byte {B b : Nat} {l : List UInt8} {p : Value} {c : Int} {x : UInt8} {w : World} (h : Lib.BuilderAt TB 5 B b p (Lib.byteCells l ++ [.int .u8 c]) w) (hc : c = x.toNat) : Lib.BuilderAt TB 5 B b p (Lib.byteCells (l ++ [x])) w := by
  subst hc; rw [Lib.byteCells_append]; exact h
theorem bld_str {B b : Nat} {l m : List UInt8} {p : Value} {s : ByteArray} {w : World} (h : Lib.BuilderAt TB 5 B b p (Lib.byteCells l ++ Lib.strCells s) w) (hs : s.data.toList = m) : Lib.BuilderAt TB 5 B b p (Lib.byteCells (l ++ m)) w := by
  subst hs; rw [Lib.byteCells_append]; exact h
theorem bld_eq {B b : Nat} {l m : List UInt8} {p : Value} {w : World} (h : Lib.BuilderAt TB 5 B b p (Lib.byteCells l) w) (e : l = m) : Lib.BuilderAt TB 5 B b p (Lib.byteCells m) w := e ▸ h
theorem put_size' (n : Int) (m : Nat) : (strOfNums (putL n m)).size = m := by rw [strOfNums_size, putL_length]
/-- What Put tells of a row. -/
def putS (r : List V) : ByteArray := if rightsV r ∧ r.length ≤ 32 ∧ (codedV r).length ≤ 400 then Sx (codedV r) else ⟨#[]⟩
def putE (r : List V) : Int := if rightsV r then (if r.length ≤ 32 ∧ (codedV r).length ≤ 400 then 0 else 4) else 1
set_option maxHeartbeats 2000000 in
set_option maxRecDepth 100000 in
theorem rowPut_any (A : Option Addr) (c : Nat) (r : List V) (w : World) (hA : Rd kV w (fun k => k < w.heap.size) A r) (hp : ∀ v ∈ r, v.plain) (hl : r.length ≤ 200) :
    Calls Try.prog 20 #[.slice A r.length c] w fun e w' => e = .returned (.tuple #[.string (putS r), .int .i64 (putE r)]) ∧ Below w.heap.size w w' := by
  have hl' : (r.length : Int) ≤ 200 := by omega
  have HP := Lib.hid (fun W hW => rights_any A c r W hW hp)
  have HZ := Lib.hid (fun W hW => size_any A c r W hW hp hl)
  have hr := fun h => rights_good (r := r) h hp
  clear hp
  rcases hv : rightsV r with _ | _
  · have e1 : putS r = ⟨#[]⟩ := if_neg (by simp [hv])
    have e2 : putE r = 1 := if_neg (by simp [hv])
    rw [e1, e2]
    have HV := Lib.hid hv
    clear hv hr e1 e2
    go_enter Try.func20, Try.ntmps20
    go_wp2_with (first | (go_at_call 60; refine (HP.out _ hA).mono ?_; rintro e w' ⟨rfl, hb⟩; rw [HV.out]))
    go_ret2
    exact ⟨rfl, hb⟩
  · have HV := Lib.hid hv
    have HG := Lib.hid (hr hv)
    have hez : (if rightsV r then ((codedV r).length : Int) else 0) = (codedV r).length := if_pos hv
    by_cases hlen : r.length ≤ 32
    · by_cases hsz : (codedV r).length ≤ 400
      · have e1 : putS r = Sx (codedV r) := if_pos ⟨hv, hlen, hsz⟩
        have e2 : putE r = 0 := (if_pos hv).trans (if_pos ⟨hlen, hsz⟩)
        rw [e1, e2]
        clear hv hr e1 e2
        have hlen' : decide ((32 : Int) < (r.length : Int)) = false := by simp; omega
        have hcl : (codedV r).length ≤ 22001 := by
          have := codesV_le r HG.out
          simp [codedV]; omega
        have HEZ := Lib.hid hez
        clear hez
        generalize hcz : (codedV r).length = z at *
        have hz' : decide ((400 : Int) < (z : Int)) = false := by simp; omega
        go_enter Try.func20, Try.ntmps20
        go_wp2_with (first | (go_at_call 60; refine (HP.out _ hA).mono ?_; rintro e w' ⟨rfl, hb⟩; rw [HV.out]) | (go_at_call 21; refine (HZ.out _ (hA.below hb (fun _ h => h) |>.mono (fun k hk => Nat.lt_of_lt_of_le hk hb.size))).mono ?_; rintro e w2 ⟨rfl, hb2⟩; rw [HEZ.out]))
        have hb3 := hb.trans (hb2.mono hb.size)
        clear hb hb2
        obtain ⟨B, hB⟩ : ∃ B, B = w2.heap.size := ⟨_, rfl⟩
        have hf := Lib.fresh_isBuilder TB 5 w2
        rw [← hB] at hf ⊢
        have hBw : w.heap.size ≤ B := by rw [hB]; exact hb3.size
        have hbW : Below w.heap.size w (w2.alloc (.cells #[.pointer none, .slice none 0 0] TB)) := hb3.alloc hb3.size _
        have hBa : B < (w2.alloc (.cells #[.pointer none, .slice none 0 0] TB)).heap.size := by rw [hB]; simp
        clear hB hb3
        generalize w2.alloc (.cells #[.pointer none, .slice none 0 0] TB) = w3 at *
        refine (writeByte_any B B [] _ _ hf (by simp) (by omega)).mono ?_
        rintro e w4 ⟨rfl, hbd, hb4, _⟩
        have hbd1 : Lib.BuilderAt TB 5 B B (.pointer (some ⟨B, 0, none⟩)) (Lib.byteCells (UInt8.ofNat r.length :: codesV (r.take 0))) w4 := by
          have := bld_byte (l := []) hbd (x := UInt8.ofNat r.length) (by simp; omega)
          exact this
        have hbW4 := hbW.trans (hb4.mono hBw)
        clear hbd hb4 hbW hf
        go_wp2_with fail
        go_loopw [24] (fun i wr => ∃ k : Nat, k ≤ r.length ∧ i = .int .i64 k ∧ Lib.BuilderAt TB 5 B B (.pointer (some ⟨B, 0, none⟩)) (Lib.byteCells (UInt8.ofNat r.length :: codesV (r.take k))) wr ∧ Below w.heap.size w wr) (fun i _ => r.length - (intOf i).toNat)
        case atStart => exact ⟨0, Nat.zero_le _, rfl, hbd1, hbW4⟩
        case round =>
          obtain ⟨k, hk, rfl, hbr, hbel⟩ := hrel
          have hBr : B < wr.heap.size := hbr.lt
          by_cases hlt : k < r.length
          · obtain ⟨b, o, rfl, hb, c0, c1, c2⟩ := (hA.below hbel (fun _ h => h)).val (k := k) hlt
            have hsn : r.take (k + 1) = r.take k ++ [r[k]] := List.take_succ_eq_append_getElem hlt
            have HSN := Lib.hid hsn
            have hg := HG.out _ (List.getElem_mem hlt)
            have hcl := codesV_le (r.take k) (fun v hv => HG.out v (List.mem_of_mem_take hv))
            have hpz : (codesV (r.take k)).length ≤ 22000 := by
              have := List.length_take_le k r
              omega
            clear hsn hcl
            generalize r[k] = v at *
            obtain ⟨kk, n, s⟩ := v
            obtain ⟨g0, g1, g2, g3, g4, g5, g6⟩ := hg
            simp only at *
            have g6' : (s.size : Int) ≤ 100 := by omega
            have hk4 : kk = 0 ∨ kk = 1 ∨ kk = 2 ∨ kk = 3 := by omega
            have HBR := Lib.hid hbr
            clear hbr
            -- the value's box, and its kind
            go_wp2_with fail
            have hbox : (wr.alloc (.cells #[.int .i64 kk, .int .i64 n, .string s] 48)).heap[wr.heap.size]? = some (.cells #[.int .i64 kk, .int .i64 n, .string s] 48 (0, 0)) := heap_alloc_new wr _
            have hbx : Lib.BuilderAt TB 5 B B (.pointer (some ⟨B, 0, none⟩)) (Lib.byteCells (UInt8.ofNat r.length :: codesV (r.take k))) (wr.alloc (.cells #[.int .i64 kk, .int .i64 n, .string s] 48)) := bld_alloc HBR.out _
            have hwx : Below w.heap.size w (wr.alloc (.cells #[.int .i64 kk, .int .i64 n, .string s] 48)) := hbel.alloc hbel.size _
            have hsx : wr.heap.size < (wr.alloc (.cells #[.int .i64 kk, .int .i64 n, .string s] 48)).heap.size := by simp
            generalize hX : wr.heap.size = X at *
            clear hX
            generalize wr.alloc (.cells #[.int .i64 kk, .int .i64 n, .string s] 48) = wx at *
            refine (writeByte_any B B _ _ _ (.inr hbx) (by simp [Lib.byteCells]; omega) (by omega)).mono ?_
            rintro e w5 ⟨rfl, h5, hb5, hk5⟩
            have hd := bld_byte h5 (x := UInt8.ofNat kk.toNat) (by simp; omega)
            have hbox5 := hk5 _ _ _ _ hbox (by decide) (by decide)
            have hw5 := hwx.trans (hb5.mono hBw)
            have f0 := cell_blk hbox5 0
            have f1 := cell_blk hbox5 1
            have f2 := cell_blk hbox5 2
            simp at f0 f1 f2
            have HD := Lib.hid hd
            have HB5 := Lib.hid hbox5
            clear h5 hd hbox5 hbx hbox HBR hk5 hb5 hwx
            have hBs := (HD.out).lt
            rcases hk4 with rfl | rfl | rfl | rfl
            · clear g2 g3
              go_wp2
              go_roundw
              case rel => exact ⟨k + 1, by omega, by go_num, by rw [HSN.out, codesV_snoc]; exact bld_eq HD.out (by simp [codeV, tailV]), hw5⟩
              case measure => simp [intOf]; omega
            · have hn := g2 rfl
              have hn2 : 0 ≤ n ∧ n ≤ 1 := by omega
              clear g2 g3 hn
              go_wp2_with fail
              refine (writeByte_any B B _ _ _ (.inr HD.out) (by simp [Lib.byteCells]; omega) (by omega)).mono ?_
              rintro e w6 ⟨rfl, h6, hb6, _⟩
              have HD6 := Lib.hid (bld_byte h6 (x := UInt8.ofNat n.toNat) (by simp; omega))
              clear h6
              go_wp2
              go_roundw
              case rel => exact ⟨k + 1, by omega, by go_num, by rw [HSN.out, codesV_snoc]; exact bld_eq HD6.out (by simp [codeV, tailV]), hw5.trans (hb6.mono hBw)⟩
              case measure => simp [intOf]; omega
            · clear g2 g3
              go_wp2_with fail
              refine (put_good n 8 _ (by omega) (by omega)).mono ?_
              rintro e w6 ⟨rfl, hb6⟩
              have hd6 := bld_below HD.out hb6
              have hs6 := hb6.size
              go_wp2_with fail
              refine (writeString_any B B _ _ _ (.inr hd6) (by rw [put_size']; simp [Lib.byteCells]; omega) (by omega)).mono ?_
              rintro e w7 ⟨rfl, h7, hb7, _⟩
              have HD7 := Lib.hid (bld_str h7 (m := putU n 8) rfl)
              clear h7 hd6
              go_wp2
              go_roundw
              case rel => exact ⟨k + 1, by omega, by go_num, by rw [HSN.out, codesV_snoc]; exact bld_eq HD7.out (by simp [codeV, tailV]), (hw5.trans (hb6.mono hw5.size)).trans (hb7.mono hBw)⟩
              case measure => simp [intOf]; omega
            · clear g2 g3
              go_wp2_with fail
              refine (writeByte_any B B _ _ _ (.inr HD.out) (by simp [Lib.byteCells]; omega) (by omega)).mono ?_
              rintro e w6 ⟨rfl, h6, hb6, hk6⟩
              have hd6 := bld_byte h6 (x := UInt8.ofNat s.size) (by simp; omega)
              have hbox6 := hk6 _ _ _ _ HB5.out (by decide) (by decide)
              replace f0 := cell_blk hbox6 0
              replace f1 := cell_blk hbox6 1
              replace f2 := cell_blk hbox6 2
              simp at f0 f1 f2
              have hBs6 := hd6.lt
              have HD6 := Lib.hid hd6
              clear h6 hd6 hbox6 hk6
              go_wp2_with fail
              refine (writeString_any B B _ _ _ (.inr HD6.out) (by simp [Lib.byteCells]; omega) (by omega)).mono ?_
              rintro e w7 ⟨rfl, h7, hb7, _⟩
              have HD7 := Lib.hid (bld_str h7 (m := s.data.toList) rfl)
              clear h7
              go_wp2
              go_roundw
              case rel => exact ⟨k + 1, by omega, by go_num, by rw [HSN.out, codesV_snoc]; exact bld_eq HD7.out (by simp [codeV, tailV]), (hw5.trans (hb6.mono hBw)).trans (hb7.mono hBw)⟩
              case measure => simp [intOf]; omega
          · obtain rfl : k = r.length := by omega
            rw [List.take_length] at hbr
            go_wp2_with (first | (go_at_call 63; refine (Try.Builder_String_any B B _ _ (.inr hbr) (by omega)).mono ?_; rintro e w' ⟨rfl, hb⟩))
            go_ret2
            exact ⟨rfl, hbel.trans (hb.mono hBw)⟩
      · have e1 : putS r = ⟨#[]⟩ := if_neg (by simp [hsz])
        have e2 : putE r = 4 := (if_pos hv).trans (if_neg (by simp [hsz]))
        rw [e1, e2]
        clear hv hr e1 e2
        have hlen' : decide ((32 : Int) < (r.length : Int)) = false := by simp; omega
        have hcl : (codedV r).length ≤ 22001 := by
          have := codesV_le r HG.out
          simp [codedV]; omega
        have HEZ := Lib.hid hez
        clear hez
        generalize hcz : (codedV r).length = z at *
        have hz' : decide ((400 : Int) < (z : Int)) = true := by simp; omega
        go_enter Try.func20, Try.ntmps20
        go_wp2_with (first | (go_at_call 60; refine (HP.out _ hA).mono ?_; rintro e w' ⟨rfl, hb⟩; rw [HV.out]) | (go_at_call 21; refine (HZ.out _ (hA.below hb (fun _ h => h) |>.mono (fun k hk => Nat.lt_of_lt_of_le hk hb.size))).mono ?_; rintro e w2 ⟨rfl, hb2⟩; rw [HEZ.out]))
        go_ret2
        exact ⟨rfl, hb.trans (hb2.mono hb.size)⟩
    · have e1 : putS r = ⟨#[]⟩ := if_neg (by simp [hlen])
      have e2 : putE r = 4 := (if_pos hv).trans (if_neg (by simp [hlen]))
      rw [e1, e2]
      clear hv hr e1 e2 hez
      have hlen' : decide ((32 : Int) < (r.length : Int)) = true := by simp; omega
      go_enter Try.func20, Try.ntmps20
      go_wp2_with (first | (go_at_call 60; refine (HP.out _ hA).mono ?_; rintro e w' ⟨rfl, hb⟩; rw [HV.out]))
      go_ret2
      exact ⟨rfl, hb⟩
end Go.Proofs.Ytnbccejhgmacjaa
