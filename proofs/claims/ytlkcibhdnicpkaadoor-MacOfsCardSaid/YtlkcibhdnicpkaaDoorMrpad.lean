/- A key as a block, by the document's answer: the walk of its pad. -/
import Derived.Test.YtlkcibhdnicpkaaDoorMpad
import Derived.Test.YtlkcibhdnicpkaaDoorSo
namespace Go.Proofs.YtlkcibhdnicpkaaDoor
namespace Mc
open Go.RowKit Ba Sm
set_option linter.unusedVariables false
/-- the row so far: the bytes that follow are noughts -/
def rpt (k : List UInt8) (x : UInt8) (i : Nat) : List UInt8 := (List.range 64).map fun j => if j < i then k.getD j 0 ^^^ x else 0
theorem rpt_len (k : List UInt8) (x : UInt8) (i : Nat) : (rpt k x i).length = 64 := by simp [rpt]
theorem rpt_zero (k : List UInt8) (x : UInt8) : rpt k x 0 = List.replicate 64 0 := by
  apply List.ext_getElem
  · simp [rpt]
  · intro j h1 h2
    simp only [rpt, List.getElem_map, Nat.not_lt_zero, if_false]
    rw [List.getElem_replicate]
theorem rpt_end (k : List UInt8) (x : UInt8) : rpt k x 64 = mpad k x := by
  unfold rpt mpad
  apply List.map_congr_left
  intro j hj
  rw [if_pos (List.mem_range.1 hj)]
theorem rpt_step (k : List UInt8) (x : UInt8) (i : Nat) (h : i < 64) : (rpt k x i).set i (k.getD i 0 ^^^ x) = rpt k x (i + 1) := by
  apply List.ext_getElem
  · simp [rpt]
  · intro j h1 h2
    have hj : j < 64 := by simpa [rpt] using h2
    rw [List.getElem_set]
    simp only [rpt, List.getElem_map, List.getElem_range]
    by_cases e : i = j
    · subst e; rw [if_pos rfl, if_pos (by omega)]
    · rw [if_neg e]
      by_cases l : j < i
      · rw [if_pos l, if_pos (by omega)]
      · rw [if_neg l, if_neg (by omega)]
set_option maxRecDepth 100000 in
set_option maxHeartbeats 2000000 in
theorem rpad_short (k : List UInt8) (A : Option Addr) (c : Nat) (hk : k.length ≤ 64) (hkc : k.length ≤ c) (x : UInt8) (w : World) (hr : ReadB w w.heap.size A k) :
    Calls Tryd.prog 51 #[.slice A k.length c, .int .u8 (x.toNat : Int)] w fun e w' => ∃ g, e = .returned (.slice (some ⟨g, 0, none⟩) 64 64) ∧ w.heap.size ≤ g ∧ Blk w' g 5 (bvs (mpad k x)).toArray ∧ Below w.heap.size w w' := by
  obtain ⟨i0, hi0⟩ := isByte_of info5
  have hmk := run_mk64 i0 hi0 w
  have Hr := Lib.hid hr
  have HB := Lib.hid (heap_alloc_new w (.cells (bvs (List.replicate 64 0)).toArray 5))
  have Hb := Lib.hid ((Below.refl w.heap.size w).alloc (Nat.le_refl _) (.cells (bvs (List.replicate 64 0)).toArray 5))
  obtain ⟨W1, hW1⟩ : ∃ W1, W1 = w.alloc (.cells (bvs (List.replicate 64 0)).toArray 5) := ⟨_, rfl⟩
  rw [← hW1] at hmk HB Hb
  clear hr hi0 hW1
  go_enter Tryd.func51, Tryd.ntmps51
  go_wp2_with fail
  go_loopg [7] 64 (fun n v wr => ∃ i : Nat, i ≤ 64 ∧ n = 64 - i ∧ v = .int .i64 i ∧ Blk wr w.heap.size 5 (bvs (rpt k x i)).toArray ∧ Below w.heap.size w wr)
  case atStart => exact ⟨0, by omega, rfl, rfl, by rw [rpt_zero]; exact HB.out, Hb.out⟩
  case round =>
    obtain ⟨i, hi64, hn, rfl, hB, hb⟩ := hrel
    have HX := Lib.hid hB
    have Hbw := Lib.hid hb
    have Hn := Lib.hid hn
    have Hq := Lib.hid (Hr.out.below hb)
    clear hn hb hB
    by_cases hil : i < 64
    · have hcell := Blk.cell HX.out i
      rw [List.getElem?_toArray, bvs_get _ _ (by rw [rpt_len]; omega)] at hcell
      have hfz := Blk.frozen HX.out i
      have hS1 := Blk.set_ HX.out i (.int .u8 (x.toNat : Int))
      rw [toArray_set] at hS1
      by_cases hik : i < k.length
      · obtain ⟨b, o, hA, hbl, hcells⟩ := Hq.out (by omega)
        subst hA
        obtain ⟨a, ha⟩ : ∃ a, a = k.getD i 0 := ⟨_, rfl⟩
        have hc := hcells i hik
        rw [← ha] at hc
        have hx := x8 a x
        have hcell2 := Blk.cell hS1 i
        rw [List.getElem?_toArray, List.getElem?_set_self (by rw [bvs_length, rpt_len]; omega)] at hcell2
        have hfz2 := Blk.frozen hS1 i
        have hS2 := Blk.set_ hS1 i (.int .u8 ((a ^^^ x).toNat : Int))
        rw [toArray_set, List.set_set] at hS2
        have e : (bvs (rpt k x i)).set i (.int .u8 ((a ^^^ x).toNat : Int)) = bvs (rpt k x (i + 1)) := by
          rw [← rpt_step k x i hil, ← ha]
          simp [bvs, List.map_set, bv]
        rw [e] at hS2
        have hc2 : (wr.setCell ⟨w.heap.size, i, none⟩ (.int .u8 (x.toNat : Int))).cell? ⟨b, o + i, none⟩ = some (.int .u8 (a.toNat : Int)) := by
          rw [World.cell?_setCell_other _ _ _ _ (by intro h; injection h with h1; omega)]
          exact hc
        have HS2 := Lib.hid hS2
        generalize (a ^^^ x).toNat = y at *
        clear hS1 hS2 e ha hcells HX
        go_wp2_with fail
        go_roundg (64 - (i + 1))
        case rel => exact ⟨i + 1, by omega, rfl, by simp, HS2.out, (Hbw.out.setCell (by simp) _).setCell (by simp) _⟩
        all_goals (have := Hn.out; omega)
      · have e : (bvs (rpt k x i)).set i (.int .u8 (x.toNat : Int)) = bvs (rpt k x (i + 1)) := by
          rw [← rpt_step k x i hil, show k.getD i 0 = 0 by simp [List.getD, List.getElem?_eq_none (by omega : k.length ≤ i)], UInt8.zero_xor]
          simp [bvs, List.map_set, bv]
        rw [e] at hS1
        have HS2 := Lib.hid hS1
        clear hS1 e HX Hq
        go_wp2_with fail
        go_roundg (64 - (i + 1))
        case rel => exact ⟨i + 1, by omega, rfl, by simp, HS2.out, Hbw.out.setCell (by simp) _⟩
        all_goals (have := Hn.out; omega)
    · have hX := HX.out
      rw [show i = 64 by omega, rpt_end] at hX
      have HX2 := Lib.hid hX
      clear hX HX Hq
      go_wp2_with fail
      go_ret
      exact ⟨_, rfl, Nat.le_refl _, HX2.out, Hbw.out⟩
theorem hx_store {W w1 w2 : World} {o : Obj} (hb : Below W.heap.size W w1) (hg : (w1.alloc o).grownBy w2 (some w1.heap.size)) : Below W.heap.size W w2 ∧ w1.heap.size < w2.heap.size :=
  ⟨(hb.alloc hb.size _).trans (below_of_only hg hb.size (by have := hb.size; simp; omega)), by have := hg.size; simp at this; omega⟩
theorem readB_of {w : World} {g : Nat} {t : TypeId} {l : List UInt8} (hb : Blk w g t (bvs l).toArray) : ReadB w w.heap.size (some ⟨g, 0, none⟩) l := by
  intro _
  refine ⟨g, 0, rfl, hb.lt, fun k hk => ?_⟩
  have := Blk.cell hb k
  rw [List.getElem?_toArray, bvs_get _ _ hk] at this
  simpa using this
set_option maxRecDepth 100000 in
set_option maxHeartbeats 2000000 in
theorem rpad_long (k : List UInt8) (A : Option Addr) (c : Nat) (hk : 64 < k.length) (hkc : k.length ≤ c) (hkm : k.length ≤ 140737488351232) (x : UInt8) (w : World) (hr : ReadB w w.heap.size A k) :
    Calls Tryd.prog 51 #[.slice A k.length c, .int .u8 (x.toNat : Int)] w fun e w' => ∃ g, e = .returned (.slice (some ⟨g, 0, none⟩) 64 64) ∧ w.heap.size ≤ g ∧ Blk w' g 5 (bvs (mpad (sha k) x)).toArray ∧ Below w.heap.size w w' := by
  obtain ⟨i0, hi0⟩ := isByte_of info5
  have hsl := hash_len k
  have Hof := Lib.hid (rof_calls k A c w hr hkc hkm)
  obtain ⟨H, hH⟩ : ∃ H, H = sha k := ⟨_, rfl⟩
  rw [← hH] at hsl Hof ⊢
  have Hl := Lib.hid hsl
  clear hH hr hsl
  go_enter Tryd.func51, Tryd.ntmps51
  go_wp2_with (first
    | (go_at_call 15; refine Calls.mono Hof.out ?_; rintro e w1 ⟨rfl, hb1⟩; have Hb1 := Lib.hid hb1; clear hb1)
    | (refine wpList_store_blk rfl 26 (.tmp 5) (.tmp 12) rfl w1.heap.size 0 26 [] (bvs (List.replicate 32 0)) [] (bvs H) rfl rfl (by rw [bvs_rep32]; exact heap_alloc_new _ _) rfl (by rw [bvs_length, bvs_length, Hl.out]; rfl) (by rw [bvs_length, Hl.out]; kernel_rfl) (bvs_one _) ?_; intro w2 hX2 hg2))
  have hk2 := hx_store Hb1.out hg2
  have hX : Blk w2 w1.heap.size 26 (bvs H).toArray := by simpa using hX2
  have hr2 := readB_of hX
  rw [← Hl.out]
  have hmk := run_mk64 i0 hi0 w2
  have Hr := Lib.hid hr2
  have HB := Lib.hid (heap_alloc_new w2 (.cells (bvs (List.replicate 64 0)).toArray 5))
  have Hb := Lib.hid ((Below.refl w2.heap.size w2).alloc (Nat.le_refl _) (.cells (bvs (List.replicate 64 0)).toArray 5))
  obtain ⟨W1, hW1⟩ : ∃ W1, W1 = w2.alloc (.cells (bvs (List.replicate 64 0)).toArray 5) := ⟨_, rfl⟩
  rw [← hW1] at hmk HB Hb
  have Hbase := Lib.hid hk2.1
  have hHl : H.length ≤ 64 := by rw [Hl.out]; omega
  clear hW1 hX2 hg2 hX hr2 hi0 Hb1 Hof
  rw [hmk]
  simp only [Result.andThen]
  rw [Oper.upon_value]
  clear hk2 hmk
  generalize w1.heap.size = gh at *
  go_wp2_with fail
  go_loopg [7] 64 (fun n v wr => ∃ i : Nat, i ≤ 64 ∧ n = 64 - i ∧ v = .int .i64 i ∧ Blk wr w2.heap.size 5 (bvs (rpt H x i)).toArray ∧ Below w2.heap.size w2 wr)
  case atStart => exact ⟨0, by omega, rfl, rfl, by rw [rpt_zero]; exact HB.out, Hb.out⟩
  case round =>
    obtain ⟨i, hi64, hn, rfl, hB, hb⟩ := hrel
    have HX := Lib.hid hB
    have Hbw := Lib.hid hb
    have Hn := Lib.hid hn
    have Hq := Lib.hid (Hr.out.below hb)
    clear hn hb hB
    by_cases hil : i < 64
    · have hcell := Blk.cell HX.out i
      rw [List.getElem?_toArray, bvs_get _ _ (by rw [rpt_len]; omega)] at hcell
      have hfz := Blk.frozen HX.out i
      have hS1 := Blk.set_ HX.out i (.int .u8 (x.toNat : Int))
      rw [toArray_set] at hS1
      by_cases hik : i < H.length
      · obtain ⟨b, o, hA, hbl, hcells⟩ := Hq.out (by omega)
        injection hA with hA
        injection hA with hA1 hA2
        subst hA1
        subst hA2
        obtain ⟨a, ha⟩ : ∃ a, a = H.getD i 0 := ⟨_, rfl⟩
        have hc := hcells i hik
        rw [← ha] at hc
        have hx := x8 a x
        have hcell2 := Blk.cell hS1 i
        rw [List.getElem?_toArray, List.getElem?_set_self (by rw [bvs_length, rpt_len]; omega)] at hcell2
        have hfz2 := Blk.frozen hS1 i
        have hS2 := Blk.set_ hS1 i (.int .u8 ((a ^^^ x).toNat : Int))
        rw [toArray_set, List.set_set] at hS2
        have e : (bvs (rpt H x i)).set i (.int .u8 ((a ^^^ x).toNat : Int)) = bvs (rpt H x (i + 1)) := by
          rw [← rpt_step H x i hil, ← ha]
          simp [bvs, List.map_set, bv]
        rw [e] at hS2
        have hc2 : (wr.setCell ⟨w2.heap.size, i, none⟩ (.int .u8 (x.toNat : Int))).cell? ⟨gh, 0 + i, none⟩ = some (.int .u8 (a.toNat : Int)) := by
          rw [World.cell?_setCell_other _ _ _ _ (by intro h; injection h with h1; omega)]
          exact hc
        have HS2 := Lib.hid hS2
        rw [Nat.zero_add] at hc hc2
        generalize (a ^^^ x).toNat = y at *
        clear hS1 hS2 e ha hcells HX
        go_wp2_with fail
        go_roundg (64 - (i + 1))
        case rel => exact ⟨i + 1, by omega, rfl, by simp, HS2.out, (Hbw.out.setCell (by simp) _).setCell (by simp) _⟩
        all_goals (have := Hn.out; omega)
      · have e : (bvs (rpt H x i)).set i (.int .u8 (x.toNat : Int)) = bvs (rpt H x (i + 1)) := by
          rw [← rpt_step H x i hil, show H.getD i 0 = 0 by simp [List.getD, List.getElem?_eq_none (by omega : H.length ≤ i)], UInt8.zero_xor]
          simp [bvs, List.map_set, bv]
        rw [e] at hS1
        have HS2 := Lib.hid hS1
        clear hS1 e HX Hq
        go_wp2_with fail
        go_roundg (64 - (i + 1))
        case rel => exact ⟨i + 1, by omega, rfl, by simp, HS2.out, Hbw.out.setCell (by simp) _⟩
        all_goals (have := Hn.out; omega)
    · have hX := HX.out
      rw [show i = 64 by omega, rpt_end] at hX
      have HX2 := Lib.hid hX
      clear hX HX Hq
      go_wp2_with fail
      go_ret
      exact ⟨_, rfl, Hbase.out.size, HX2.out, Hbase.out.trans (Hbw.out.mono Hbase.out.size)⟩
theorem rpad_calls (k : List UInt8) (A : Option Addr) (c : Nat) (hkc : k.length ≤ c) (hkm : k.length ≤ 140737488351232) (x : UInt8) (w : World) (hr : ReadB w w.heap.size A k) :
    Calls Tryd.prog 51 #[.slice A k.length c, .int .u8 (x.toNat : Int)] w fun e w' => ∃ g, e = .returned (.slice (some ⟨g, 0, none⟩) 64 64) ∧ w.heap.size ≤ g ∧ Blk w' g 5 (bvs (mpad (mkey k) x)).toArray ∧ Below w.heap.size w w' := by
  unfold mkey
  by_cases h : 64 < k.length
  · rw [if_pos h]; exact rpad_long k A c h hkc hkm x w hr
  · rw [if_neg h]; exact rpad_short k A c (by omega) hkc x w hr
end Mc
end Go.Proofs.YtlkcibhdnicpkaaDoor
