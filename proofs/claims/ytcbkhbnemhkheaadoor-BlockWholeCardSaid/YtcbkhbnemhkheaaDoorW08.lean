/- Each block of a file is found by its bytes, at its place, or at one ahead: the walk of the statement. -/
import Derived.Test.YtcbkhbnemhkheaaDoorW01
import Derived.Test.YtcbkhbnemhkheaaDoorW02
import Derived.Test.YtcbkhbnemhkheaaDoorW03
import Derived.Test.YtcbkhbnemhkheaaDoorW04
import Derived.Test.YtcbkhbnemhkheaaDoorW05
import Derived.Test.YtcbkhbnemhkheaaDoorW06
import Derived.Test.YtcbkhbnemhkheaaDoorW07
import Derived.ProofKit
import Derived.OpenShut
import Derived.ShutString
import Derived.ChangeOld
import Derived.SizedLaws
import Derived.ChangeSlices
import Derived.Test.YtcbkhbnemhkheaaDoorRows
import Derived.LaidMore
import Derived.Stop.Joined
import Derived.Lib.LaidTab
namespace Go.Proofs.YtcbkhbnemhkheaaDoor
namespace Bk
open Go.RowKit Ba Sm Ro
set_option linter.unusedVariables false
theorem findIx_at (L : List Sg) (s : Sg) (k : Nat) (hk : k < L.length) (hs : sg L k = s) : ∃ j, findIx L s = some j ∧ j ≤ k := by
  unfold findIx
  cases h : (List.range L.length).find? (fun i => sg L i == s) with
  | none =>
    rw [List.find?_eq_none] at h
    have := h k (by simpa using hk)
    rw [hs] at this
    simp at this
  | some j =>
    refine ⟨j, rfl, ?_⟩
    rw [List.find?_range_eq_some] at h
    rcases Nat.lt_or_ge k j with h2 | h2
    · have := h.2.2 k h2
      rw [hs] at this
      simp at this
    · exact h2
theorem sg_signK (z : Nat) (b : List UInt8) (m k : Nat) (hk : k < m) : sg (signK z b m) k = sgOf (blk z b k) := by
  unfold sg signK
  simp [List.getD, hk]
theorem whole_find (z : Nat) (b : List UInt8) (m k : Nat) (hk : k < m) (hm : m * z ≤ b.length) : ∃ j, j ≤ k ∧ findB z (signK z b m) (blk z b k) = (((j * z : Nat) : Int), true) := by
  obtain ⟨j, h1, h2⟩ := findIx_at (signK z b m) (sgOf (blk z b k)) k (by rw [signK_len]; exact hk) (sg_signK z b m k hk)
  refine ⟨j, h2, ?_⟩
  have hl : (blk z b k).length = z := blk_len z b k (Nat.le_trans (Nat.mul_le_mul_right z hk) hm)
  unfold findB
  rw [if_pos hl, h1]
  rfl
theorem whole_weak (z : Nat) (b : List UInt8) (m k : Nat) (hk : k < m) : hasWeak (signK z b m) (rsum (blk z b k)) = true := by
  unfold hasWeak
  rw [List.any_eq_true]
  refine ⟨k, by rw [signK_len]; simpa using hk, ?_⟩
  rw [sg_signK z b m k hk]
  exact beq_self_eq_true _
set_option maxRecDepth 100000 in
set_option maxHeartbeats 4000000 in
theorem blockWhole_calls (b : List UInt8) (A : Option Addr) (c : Nat) (s : Int) (hbc : b.length ≤ c) (hcm : c ≤ 9223372036854775807) (hs : 0 ≤ s ∧ s < 256) (w : World) (htab : Tab w) (hr : ReadB w w.heap.size A b) :
    Calls Tryd.prog 6 #[.slice A b.length c, .int .u8 s] w fun e w' => e = .returned (.bool true) ∧ Below w.heap.size w w' := by
  have Hw := Lib.hid awake_calls
  have Htab := Lib.hid htab
  obtain ⟨q, hq, hq2⟩ : ∃ q : Nat, s.tmod 64 = (q : Int) ∧ q < 64 := ⟨(s.tmod 64).toNat, by rw [Int.tmod_eq_emod_of_nonneg hs.1]; omega, by rw [Int.tmod_eq_emod_of_nonneg hs.1]; omega⟩
  obtain ⟨z, hz⟩ : ∃ z, z = 1 + q := ⟨_, rfl⟩
  have hqz : (1 : Int) + (q : Int) = (z : Int) := by omega
  have hz1 : 1 ≤ z ∧ z ≤ 64 := by omega
  have hwz : IntKind.i64.wrap (z : Int) = (z : Int) := by rw [IntKind.wrap_i64]; omega
  have Hz := Lib.hid hz
  clear hz
  by_cases h1 : 400 < b.length
  · have g1 : decide (400 < (b.length : Int)) = true := decide_eq_true (by omega)
    clear hr htab
    go_enter Tryd.func6, Tryd.ntmps6
    go_wp2_with (go_at_call 9; refine (Hw.out _ Htab.out).mono ?_; rintro e w5 ⟨rfl, hb5⟩)
    go_ret
    exact ⟨rfl, hb5⟩
  · have g1 : decide (400 < (b.length : Int)) = false := decide_eq_false (by omega)
    have hs1 : sign (z : Int) b = (signK z b (b.length / z), 0) := by
      have : b.length / z ≤ b.length := Nat.div_le_self _ _
      unfold sign; rw [if_neg (by omega), if_neg (by simp; omega)]; simp
    have h2 := sign_calls b (z : Int) A c w hr hbc hcm (by omega) htab
    rw [hs1] at h2
    obtain ⟨m, hm⟩ : ∃ m, m = b.length / z := ⟨_, rfl⟩
    rw [← hm] at h2
    have hmz : m * z ≤ b.length := by rw [hm]; exact Nat.div_mul_le_self _ _
    have hmz2 : b.length < m * z + z := by rw [hm]; have h5 := Nat.div_add_mod b.length z; have h6 := Nat.mod_lt b.length (show z > 0 by omega); rw [Nat.mul_comm] at h5; omega
    have hm400 : m ≤ 400 := by rw [hm]; have : b.length / z ≤ b.length := Nat.div_le_self _ _; omega
    have hdiv : (b.length : Int).tdiv (z : Int) = (m : Int) := by rw [hm]; exact Int.ofNat_tdiv _ _ |>.symm
    have hz0 : ¬ (z : Int) = 0 := by omega
    have hck : check (z : Int) (b.length : Int) m = 0 := by
      rw [check_spell _ _ _ (by omega) (by omega), hdiv, if_pos ⟨rfl, by omega⟩]
    have hwf := signK_wf z b m
    have hll := signK_len z b m
    have hfw := fun k hk => whole_find z b m k hk hmz
    have hww := fun k hk => whole_weak z b m k hk
    obtain ⟨L, hL⟩ : ∃ L, L = signK z b m := ⟨_, rfl⟩
    rw [← hL] at h2 hwf hll
    simp only [← hL] at hfw hww
    have H2 := Lib.hid h2
    have Hwf := Lib.hid hwf
    have Hll := Lib.hid hll
    have Hfw := Lib.hid hfw
    have Hww := Lib.hid hww
    have Hck := Lib.hid hck
    have Hr := Lib.hid hr
    have Hmz := Lib.hid hmz
    have Hmz2 := Lib.hid hmz2
    clear h2 hs1 hm hmz hmz2 hck hwf hll hfw hww hL hr htab
    go_enter Tryd.func6, Tryd.ntmps6
    go_wp2_with fail
    refine H2.out.mono ?_
    rintro e w2 ⟨v2, rfl, ho2, hb2⟩
    obtain ⟨A2, c2, rfl, p1, p2, p3, p4⟩ := ho2.opens
    have HB2 := Lib.hid hb2
    have hnew := new_good z (b.length : Int) L A2 c2 (by omega) w2 (by rw [Hll.out]; exact Hck.out) p3 Hwf.out
    have Hnew := Lib.hid hnew
    clear ho2 hb2 p3 p4 hnew
    go_wp2_with fail
    refine Hnew.out.mono ?_
    rintro e w3 ⟨g, rfl, hg3, hX3, hb3⟩
    have HB3 := Lib.hid (HB2.out.trans (hb3.mono HB2.out.size))
    have HX3 := Lib.hid hX3
    have hll2 : (L.length : Int) = (m : Int) := by rw [Hll.out]
    have hll3 : L.length = m := Hll.out
    clear hg3 hX3 hb3 HB2 H2 Hnew
    rw [hll3]
    clear hll2 hll3
    go_wp2_with fail
    go_loopg [10] m (fun q v10 wr => ∃ k i : Nat, k ≤ m ∧ q = m - k ∧ i = k * z ∧ v10 = .int .i64 (i : Int) ∧ IsX wr g z L ∧ Below w.heap.size w wr)
    case atStart => exact ⟨0, 0, by omega, rfl, by simp, rfl, HX3.out, HB3.out⟩
    case round =>
      obtain ⟨k, i, hk, hqk, hi, rfl, hX, hB⟩ := hrel
      have hib : i ≤ b.length := by
        have e1 : k * z ≤ m * z := Nat.mul_le_mul_right z hk
        have := Hmz.out
        omega
      have Hq := Lib.hid hqk
      have Hi := Lib.hid hi
      have HX := Lib.hid hX
      have HB := Lib.hid hB
      clear hqk hi hX hB HX3 HB3
      by_cases hkm : k < m
      · have hzr : i + z ≤ b.length := by
          have e1 : (k + 1) * z ≤ m * z := Nat.mul_le_mul_right z hkm
          rw [Nat.add_mul, Nat.one_mul] at e1
          have := Hmz.out
          have := Hi.out
          omega
        have t1 : decide (((i : Int) + (z : Int)) ≤ (b.length : Int)) = true := decide_eq_true (by omega)
        obtain ⟨x, hx⟩ : ∃ x, x = blk z b k := ⟨_, rfl⟩
        have hxl : x.length = z := by rw [hx, blk, List.length_take, List.length_drop, ← Hi.out]; omega
        have hR : ReadB w w.heap.size (A.map (·.add i)) x := by
          have := (Hr.out.cut (k := i) (cap := b.length + i + 1) (by omega)).take z
          rw [if_neg (by omega)] at this
          rw [hx, blk, ← Hi.out]
          exact this
        obtain ⟨j, hj, hfd⟩ := Hfw.out k hkm
        have hwk := Hww.out k hkm
        rw [← hx] at hfd hwk
        have hfc := find_calls wr g z L HX.out (by omega) (by rw [Hll.out]; omega) Hwf.out x (A.map (·.add i)) (c - i) ((hR.below HB.out).more HB.out.size) (by omega) (by omega) (by omega) (Htab.out.below HB.out)
        rw [hfd, hxl] at hfc
        have hx32 := rsum_lt x
        have hsm := fun w' B h => sum_calls (w := w') (B := B) (l := x) (A := A.map (·.add i)) (n := z) (c := c - i) hxl.symm h (by omega)
        obtain ⟨x1, hx1⟩ : ∃ x1, rsum x = x1 := ⟨_, rfl⟩
        rw [hx1] at hwk hx32 hsm
        obtain ⟨at', hat⟩ : ∃ at', j * z = at' := ⟨_, rfl⟩
        have hat2 : at' ≤ i := by rw [← hat, Hi.out]; exact Nat.mul_le_mul_right z hj
        have hrem : (at' : Int).tmod (z : Int) = 0 := by rw [← hat, Int.natCast_mul]; exact Int.mul_tmod_left _ _
        rw [hat] at hfc
        have g2 : decide ((i : Int) < (at' : Int)) = false := decide_eq_false (by omega)
        have Hfc := Lib.hid hfc
        have HR := Lib.hid hR
        have Hwk := Lib.hid hwk
        have Hsm := Lib.hid hsm
        clear hx hR hfd hwk hfc hsm hx1 hat hxl
        go_wp2_with (first
          | (go_at_call 20; refine Hfc.out.mono ?_; rintro e w5 ⟨rfl, hb5⟩; have HX5 := Lib.hid (HX.out.below hb5); have HB5 := Lib.hid (HB.out.trans (hb5.mono HB.out.size)); have hwc := weak_calls w5 g z L HX5.out x1 hx32; rw [Hwk.out] at hwc; have Hwc := Lib.hid hwc; clear hb5 hwc)
          | (go_at_call 22; refine (Hsm.out w5 _ (HR.out.below HB5.out)).mono ?_; rintro e w6 ⟨rfl, rfl⟩)
          | (go_at_call 17; refine Hwc.out.mono ?_; rintro e w7 ⟨rfl, rfl⟩))
        go_roundg (m - (k + 1))
        case rel => exact ⟨k + 1, i + z, by omega, rfl, by rw [Hi.out, Nat.add_mul, Nat.one_mul], rfl, HX5.out, HB5.out⟩
        case measure => have := Hq.out; omega
      · have hkm2 : k = m := by omega
        have t1 : decide (((i : Int) + (z : Int)) ≤ (b.length : Int)) = false := by
          rw [decide_eq_false_iff_not]
          have := Hmz2.out
          have h2 := Hi.out
          rw [hkm2] at h2
          omega
        have t2 : ¬ i + z ≤ b.length := by
          rw [decide_eq_false_iff_not] at t1
          omega
        go_wp2_with (go_at_call 9; refine (Hw.out _ (Htab.out.below HB.out)).mono ?_; rintro e w5 ⟨rfl, hb5⟩)
        go_ret
        exact ⟨rfl, HB.out.trans (hb5.mono HB.out.size)⟩
end Bk
end Go.Proofs.YtcbkhbnemhkheaaDoor
/- How a row's arguments are opened: bytes that came in, read as a list of bytes; how many there may be. -/
namespace Go.Proofs.YtcbkhbnemhkheaaDoor
namespace Rk
open Go.ChangeShapes Go.WideShapes Go.ChangeAt Go.RowKit Ba
set_option linter.unusedVariables false

theorem bd_i64 {n : Int} (h : (Lit.int .i64 n).wf = true) : -9223372036854775808 ≤ n ∧ n ≤ 9223372036854775807 := by
  simpa [Lit.wf, IntKind.min, IntKind.max, IntKind.signed, IntKind.bits] using h
theorem bd_u8 {n : Int} (h : (Lit.int .u8 n).wf = true) : 0 ≤ n ∧ n ≤ 255 := by
  simpa [Lit.wf, IntKind.min, IntKind.max, IntKind.signed, IntKind.bits] using h
theorem bd_u16 {n : Int} (h : (Lit.int .u16 n).wf = true) : 0 ≤ n ∧ n ≤ 65535 := by
  simpa [Lit.wf, IntKind.min, IntKind.max, IntKind.signed, IntKind.bits] using h
theorem bd_u32 {n : Int} (h : (Lit.int .u32 n).wf = true) : 0 ≤ n ∧ n ≤ 4294967295 := by
  simpa [Lit.wf, IntKind.min, IntKind.max, IntKind.signed, IntKind.bits] using h

theorem bytes_open {H : Type} {enc : TypeId × Value → H} {P : Program} {W : World} {base : Nat} {spare : Nat → Bool} {held : Bool} {t e : TypeId} {a : Option Addr} {len cap : Nat} {d : DataW H} {ps : List MemPlace}
    (hu : P.underlying t = some (.slice e)) (he : P.underlying e = some (.int .u8)) (hc : P.cellsOf e = 1) (h : DataW.Trod enc P W base spare held t (.slice a len cap) d ps) :
    ∃ l : List UInt8, len = l.length ∧ l.length ≤ cap ∧ cap ≤ 9223372036854775807 ∧ ReadB W W.heap.size a l := by
  obtain ⟨fuel, hf⟩ := h
  rcases open_ints hu he hc hf with ⟨hcs, _⟩ | ⟨x, l, c, zs, hcs, _, hl, hm, hz, hx, hcell, hwz⟩
  · simp [Value.cells] at hcs
    obtain ⟨rfl, rfl, rfl⟩ := hcs
    exact ⟨[], rfl, by simp, by omega, ReadB.nil⟩
  · simp [Value.cells] at hcs
    obtain ⟨rfl, rfl, rfl⟩ := hcs
    have hl2 : len ≤ zs.length := by
      rw [hz]
      split
      · exact hl
      · exact Nat.le_refl _
    have hb : ∀ k, k < zs.length → ((UInt8.ofNat (zs.getD k 0).toNat).toNat : Int) = zs.getD k 0 := fun k hk => by
      have hmem : zs.getD k 0 ∈ zs := by simp [List.getD, hk]
      have := bd_u8 (hwz _ hmem)
      rw [UInt8.toNat_ofNat']
      omega
    refine ⟨(zs.take len).map fun z => UInt8.ofNat z.toNat, by simp; omega, by simp; omega, by simpa [maxLen] using hm, ?_⟩
    intro hn
    have hn2 : 0 < len := by simp at hn; omega
    have h0 : W.cell? x = some (.int .u8 (zs.getD 0 0)) := by
      have := hcell 0 (by omega)
      rwa [add_zero_] at this
    have hs : x.spot = none := by
      unfold World.cell? at h0
      split at h0
      · split at h0
        · cases h0
        · rename_i hs; simpa using hs
      · cases h0
    have hblk := block_lt_of_cell h0
    obtain ⟨b, o, s⟩ := x
    simp only at hs
    subst hs
    refine ⟨b, o, rfl, hblk, fun k hk => ?_⟩
    have hk2 : k < len := by simp at hk; omega
    have := hcell k (by omega)
    rw [add_lit_] at this
    rw [this]
    have e : (((zs.take len).map fun z => UInt8.ofNat z.toNat).getD k 0) = UInt8.ofNat (zs.getD k 0).toNat := by
      simp [List.getD, hk2, show k < zs.length by omega]
    rw [e, hb k (by omega)]

theorem sized_ints {H : Type} {enc : TypeId × Value → H} {P : Program} {W : World} {base : Nat} {spare : Nat → Bool} {held : Bool} {t e : TypeId} {k : IntKind} {a : Option Addr} {len cap : Nat} {d : DataW H} {ps : List MemPlace} {ts : List TypeId} {ds : List (DataW H)} {j : Nat}
    (hsz : (DataW.weightsEach P ts ds).all (· ≤ reachBytes) = true) (ht : ts[j]? = some t) (hd : ds[j]? = some d) (hu : P.underlying t = some (.slice e)) (he : P.underlying e = some (.int k)) (hc : P.cellsOf e = 1) {B : Nat} (hB : P.bytesOf e = B)
    (h : DataW.Trod enc P W base spare held t (.slice a len cap) d ps) : len * B ≤ 140737488351232 := by
  obtain ⟨fuel, hf⟩ := h
  rcases open_ints hu he hc hf with ⟨hcs, _⟩ | ⟨x, l, c, zs, hcs, _, hl, _, hz, hx, _, _⟩
  · simp [Value.cells] at hcs
    obtain ⟨rfl, rfl, rfl⟩ := hcs
    simp
  · simp [Value.cells] at hcs
    obtain ⟨rfl, rfl, rfl⟩ := hcs
    obtain ⟨hx, _⟩ := Prod.mk.inj hx
    subst hx
    have z := sized_slice hsz ht hd hu
    rw [hB] at z
    have hl2 : len ≤ zs.length := by
      rw [hz]
      split
      · exact hl
      · exact Nat.le_refl _
    have h1 : (lits (H := H) k (zs.take len)).length + (lits (H := H) k (zs.drop len)).length = zs.length := by
      simp [lits]
      omega
    rw [h1] at z
    exact Nat.le_trans (Nat.mul_le_mul_right _ hl2) z
end Rk
end Go.Proofs.YtcbkhbnemhkheaaDoor
/- What the listed variable gives the walks: the round words lie in it; and the start's own heap meets the condition. -/
namespace Go.Proofs.YtcbkhbnemhkheaaDoor
namespace Ld
open Go.ChangeShapes Go.WideShapes Go.ChangeAt Go.RowKit Sm Ba
set_option linter.unusedVariables false
def laid1 : List (String × DataW Unit) := [("sumpter/sha.rounds", Rows.laid_sumpter_sha_rounds)]
theorem gN : Tryd.prog.globalNamed "sumpter/sha.rounds" = some 0 := by kernel_rfl
theorem gT : (Tryd.prog.globals[0]?).map (·.type) = some 100 := by kernel_rfl
def zs : List Int := rounds.map U
set_option maxRecDepth 100000 in
theorem datum_eq : (Rows.laid_sumpter_sha_rounds : DataW Unit) = Lib.tabData .u32 zs := by rfl
set_option maxRecDepth 100000 in
theorem door_met (os : Os) (args : Array Value) : laidMetH Tryd.prog laid1 ((World.doorLaid Tryd.prog 14 os).forCall (fun _ _ => 0) ⟨#[], args, []⟩).memory :=
  laidMetH_of_parts3 (fuel := 8) (laidMet_of_run' 8 (by kernel_rfl) (by kernel_rfl)) (by kernel_rfl) (by kernel_rfl)
set_option maxRecDepth 100000 in
theorem tab_of_laid {W : World} (h : laidMetH Tryd.prog laid1 W) : Tab W := by
  rw [MakeChecks.laidMetH_plain _ _ _ (by kernel_rfl)] at h
  unfold laid1 at h
  rw [datum_eq] at h
  have hT := Lib.tabIs_of_head gN gT Tryd.underlying100 Tryd.underlying33 (by kernel_rfl) (by kernel_rfl) h
  have hc : ∀ j, j < 64 → W.cell? ⟨0, j, none⟩ = some (.int .u32 (U (Sm.g rounds j))) := fun j hj => by
    have := hT.cell gN j hj
    rw [this]
    congr 2
    unfold zs Sm.g
    have hl : rounds.length = 64 := rfl
    simp only [List.getD_eq_getElem?_getD, List.getElem?_map]
    rw [List.getElem?_eq_getElem (by omega)]
    rfl
  refine ⟨block_lt_of_cell (hc 0 (by omega)), fun j v hv => ?_⟩
  have hj : j < 64 := by
    rcases Nat.lt_or_ge j 64 with h1 | h1
    · exact h1
    · rw [List.getElem?_eq_none (by rw [wvs_len]; exact h1)] at hv; cases hv
  rw [Nat.zero_add, hc j hj, ← hv]
  have hl : rounds.length = 64 := rfl
  unfold wvs Sm.g
  rw [List.getElem?_map, List.getElem?_eq_getElem (by omega), List.getD_eq_getElem?_getD, List.getElem?_eq_getElem (by omega)]
  rfl
end Ld
end Go.Proofs.YtcbkhbnemhkheaaDoor
