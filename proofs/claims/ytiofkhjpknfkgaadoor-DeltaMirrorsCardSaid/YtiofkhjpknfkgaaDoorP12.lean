/- The search, of the program. -/
import Derived.Test.YtiofkhjpknfkgaaDoorP01
import Derived.Test.YtiofkhjpknfkgaaDoorP02
import Derived.Test.YtiofkhjpknfkgaaDoorP03
import Derived.Test.YtiofkhjpknfkgaaDoorP04
import Derived.Test.YtiofkhjpknfkgaaDoorP05
import Derived.Test.YtiofkhjpknfkgaaDoorP06
import Derived.Test.YtiofkhjpknfkgaaDoorP07
import Derived.Test.YtiofkhjpknfkgaaDoorP08
import Derived.Test.YtiofkhjpknfkgaaDoorP09
import Derived.Test.YtiofkhjpknfkgaaDoorP10
import Derived.Test.YtiofkhjpknfkgaaDoorP11
import Derived.Deep.LoopGhost
import Derived.Test.YtiofkhjpknfkgaaDoorProg
import Derived.WalkKit
import Derived.KernelRfl
import Derived.RowKit3
import Derived.WalkSpells
import Derived.Lib.Hide
import Derived.Deep.RegionWith
import Derived.Deep.QuietTactic
import Derived.BigQuiet
namespace Go.Proofs.YtiofkhjpknfkgaaDoor
namespace Ms
open Go.RowKit Ba Tm Os_ Bk Ro Sm
set_option linter.unusedVariables false
theorem find_weak (z : Nat) (l : List Sg) (x : List UInt8) (hx : x.length = z) (h : hasWeak l (rsum x) = false) : (findB z l x).2 = false := by
  rw [find_grp z l x hx]
  have h2 := hasWeak_grp z l (rsum x)
  rw [h] at h2
  have h3 : grpK z l l.length (rsum x) = [] := by simpa using h2
  rw [h3]
  rfl
theorem find_bd (z : Nat) (l : List Sg) (x : List UInt8) (hz : z ≤ 4096) (hl : l.length ≤ 4096) : 0 ≤ (findB z l x).1 ∧ (findB z l x).1 ≤ 33554432 := by
  unfold findB
  split
  · cases hf : findIx l (sgOf x) with
    | none => simp [tellIx]
    | some k =>
      have hk : k < l.length := by
        unfold findIx at hf
        have := List.mem_of_find?_eq_some hf
        simpa using this
      have : k * z ≤ 4096 * 4096 := Nat.mul_le_mul (by omega) hz
      simp only [tellIx]
      omega
  · simp
theorem cut_cons (b : List UInt8) (j m : Nat) (h : j < m) (hm : m ≤ b.length) : cut b j m = b.getD j 0 :: cut b (j + 1) m := by
  unfold cut
  rw [List.drop_eq_getElem_cons (by omega), show m - j = (m - (j + 1)) + 1 by omega, List.take_succ_cons]
  congr 1
  simp [List.getD, show j < b.length by omega]
theorem cut_snoc (b : List UInt8) (j m : Nat) (h : j ≤ m) (hm : m < b.length) : cut b j (m + 1) = cut b j m ++ [b.getD m 0] := by
  unfold cut
  rw [show m + 1 - j = (m - j) + 1 by omega, List.take_succ_eq_append_getElem (by rw [List.length_drop]; omega)]
  congr 2
  rw [List.getElem_drop]
  simp [List.getD, hm, show j + (m - j) = m by omega]
theorem cut_roll (b : List UInt8) (j z : Nat) (hz : 1 ≤ z) (h : j + z < b.length) : cut b j (j + z) = b.getD j 0 :: cut b (j + 1) (j + z) ∧ cut b (j + 1) (j + z) ++ [b.getD (j + z) 0] = cut b (j + 1) (j + 1 + z) := by
  refine ⟨cut_cons b j (j + z) (by omega) (by omega), ?_⟩
  rw [show j + 1 + z = (j + z) + 1 by omega, cut_snoc b (j + 1) (j + z) (by omega) h]
theorem cut_end (b : List UInt8) (frm n : Nat) (hn : n = b.length) : cut b frm n = b.drop frm := by
  subst hn
  unfold cut
  rw [List.take_of_length_le (by rw [List.length_drop]; exact Nat.le_refl _)]
theorem fin_small (b : List UInt8) (out : List O) (frm : Nat) (h : out.length < 4096) : fin b (out, frm) = out ++ whole (b.drop frm) := by
  unfold fin
  have := whole_len (b.drop frm)
  rw [if_neg (by simp; omega)]
theorem IsF.cells {w : World} {base g : Nat} {A : Option Addr} {n c frm : Nat} {L : List Ow} (h : IsF w base g A n c frm L) : ∃ A2 N c2, w.cell? ⟨g, 2, none⟩ = some (.slice A2 N c2) ∧ N = L.length ∧ OwnO w base (.slice A2 N c2) L := by
  obtain ⟨_, u, hB, ho⟩ := h
  obtain ⟨A2, c2, e, -⟩ := ho.opens
  subst e
  exact ⟨A2, _, c2, by rw [Blk.cell hB]; rfl, rfl, ho⟩
theorem readB_cut {w : World} {B bb o i z : Nat} {b : List UInt8} (h : ReadB w B (some ⟨bb, o, none⟩) b) : ReadB w B (some ⟨bb, o + i, none⟩) (cut b i (i + z)) := (h.drop i).take _
theorem isF_new (w : World) (A : Option Addr) (n c : Nat) : IsF (w.alloc (.cells #[.slice A n c, .int .i64 0, .slice none 0 0] 64)) w.heap.size w.heap.size A n c 0 [] :=
  ⟨Nat.le_refl _, _, heap_alloc_new w _, OwnO.nil⟩
set_option maxRecDepth 100000 in
set_option maxHeartbeats 16000000 in
theorem search_calls (z : Nat) (l : List Sg) (gx : Nat) (b : List UInt8) (A : Option Addr) (n c : Nat) (w : World) (hX : IsX w gx z l) (hz : 1 ≤ z ∧ z ≤ 4096) (hl : l.length ≤ 4096) (hwf : ∀ s ∈ l, WfS s) (hr : ReadB w w.heap.size A b) (hn : n = b.length) (hc : n ≤ c) (hcm : c ≤ 9223372036854775807) (hbl : n ≤ 1500) (htab : Tab w) :
    Calls Tryd.prog 13 #[.pointer (some ⟨gx, 0, none⟩), .slice A n c] w fun e w' => ∃ v M, e = .returned v ∧ OwnO w' w.heap.size v M ∧ ops M = search (findB z l) z b ∧ Below w.heap.size w w' := by
  have hFw := fun x hx h => find_weak z l x hx h
  have hFb := fun x => find_bd z l x hz.2 hl
  have hFc : ∀ (w' : World) (x : List UInt8) (A' : Option Addr) (c' : Nat), x.length = z → IsX w' gx z l → ReadB w' w'.heap.size A' x → z ≤ c' → c' ≤ 9223372036854775807 → Tab w' → Calls Tryd.prog 34 #[.pointer (some ⟨gx, 0, none⟩), .slice A' z c'] w' fun e w'' => e = .returned (.tuple #[.int .i64 (findB z l x).1, .bool (findB z l x).2]) ∧ Below w'.heap.size w' w'' := by
    intro w' x A' c' hx hX' hr' h1 h2 ht
    have := find_calls w' gx z l hX' hz.2 hl hwf x A' c' hr' (by omega) h2 (by omega) ht
    rwa [hx] at this
  have hWc := fun w' h x hx => weak_calls w' gx z l h x hx
  obtain ⟨F, hF⟩ : ∃ F, F = findB z l := ⟨_, rfl⟩
  rw [← hF] at hFw hFb hFc ⊢
  obtain ⟨R, hR⟩ : ∃ R, R = srch F z b (b.length + 1) [] 0 0 := ⟨_, rfl⟩
  have hse : search F z b = fin b R := by rw [hR]; rfl
  obtain ⟨i0, hi0⟩ := isByte_of Cl.info5
  have HFw := Lib.hid hFw
  have HFb := Lib.hid hFb
  have HFc := Lib.hid hFc
  have HWc := Lib.hid hWc
  have HR := Lib.hid hR
  have Hse := Lib.hid hse
  have Hi0 := Lib.hid hi0
  have HX := Lib.hid hX
  have Hr := Lib.hid hr
  have Hn := Lib.hid hn
  have Htab := Lib.hid htab
  have HIF0 := Lib.hid (isF_new w A n c)
  have HX0 := Lib.hid (hX.below ((Below.refl w.heap.size w).alloc (Nat.le_refl _) (.cells #[.slice A n c, .int .i64 0, .slice none 0 0] 64)))
  have HB0 := Lib.hid ((Below.refl w.heap.size w).alloc (Nat.le_refl _) (.cells #[.slice A n c, .int .i64 0, .slice none 0 0] 64))
  clear hFw hFb hFc hWc hR hse hi0 hX hr hn htab hwf hF
  go_enter Tryd.func13, Tryd.ntmps13
  go_wp2_with fail
  go_step3
  go_wp2_with (go_at_call 30; refine (xsize_calls _ gx z l HX0.out).mono ?_; rintro e w1 ⟨rfl, rfl⟩)
  go_step3
  go_wp2_with fail
  go_loopg [7, 8, 9, 10] (n + 1) (fun q v7 v8 v9 v10 wr => ∃ (i frm : Nat) (L : List Ow), q = n + 1 - i ∧ v7 = .int .i64 (i : Int) ∧ frm ≤ i ∧ i ≤ n ∧ IsF wr w.heap.size w.heap.size A n c frm L ∧ Tm.rest F z b (ops L) frm i = R ∧ Small (ops L) frm ∧ L.length ≤ 2 * i ∧ Below w.heap.size w wr)
  case atStart => exact ⟨0, 0, [], by omega, rfl, Nat.le_refl _, by omega, HIF0.out, by rw [HR.out]; exact rest_zero F z b, fun x hx => absurd hx (by simp [ops]), by simp, HB0.out⟩
  case round =>
    obtain ⟨i, frm, L, hq, rfl, hfi, hin, hIF, hrest, hsm, hLl, hB⟩ := hrel
    have Hq := Lib.hid hq
    have HIF := Lib.hid hIF
    have Hrest := Lib.hid hrest
    have Hsm := Lib.hid hsm
    have HLl := Lib.hid hLl
    have HB := Lib.hid hB
    have Hfi := Lib.hid hfi
    clear hq hIF hrest hsm hLl hB hfi HIF0 HX0 HB0
    obtain ⟨wo, rfl⟩ : ∃ wo : World, wo = wr := ⟨_, rfl⟩
    by_cases hb : i + z ≤ n
    · have hlen : z = (cut b i (i + z)).length := by rw [cut_len b i (i + z) (by omega) (by have := Hn.out; omega)]; omega
      obtain ⟨bb, o, rfl, hbb, hcell⟩ := Hr.out (by have := Hn.out; omega)
      have hrd := Hr.out.below HB.out
      have hsl := fun w' => sl_lh (P := Tryd.prog) 22 5 i0 Tryd.underlying22 Hi0.out bb o n c (i : Int) ((i : Int) + (z : Int)) i z rfl rfl (by omega) (by omega) w'
      have hnew := Ro.new_calls (l := cut b i (i + z)) (A := some ⟨bb, o + i, none⟩) (n := z) (c := c - i) (w := wo) hlen (by rw [← hlen]; omega) ((readB_cut hrd).more HB.out.size) (by rw [← hlen]; omega)
      have Hnew := Lib.hid hnew
      have Hcell := Lib.hid hcell
      have Hbb := Lib.hid hbb
      clear hlen hrd hnew hcell hbb
      go_wp2_with fail
      refine Calls.mono Hnew.out ?_
      rintro e2 w2 ⟨gw, rfl, hW2, hb2⟩
      have HW2 := Lib.hid hW2
      have Hb2 := Lib.hid hb2
      clear hW2 hb2 hsl Hnew
      go_wp2_with fail
      go_loopg [7, 9, 10] (n + 1 - i) (fun q v7 v9 v10 wx => ∃ j : Nat, q = n + 1 - j ∧ v7 = .int .i64 (j : Int) ∧ i ≤ j ∧ j + z ≤ n ∧ IsW wx wo.heap.size gw (cut b j (j + z)) ∧ Tm.rest F z b (ops L) frm j = R ∧ Below wo.heap.size wo wx)
      case atStart => exact ⟨i, by omega, rfl, Nat.le_refl _, hb, HW2.out, Hrest.out, Hb2.out⟩
      case round =>
        obtain ⟨j, hq2, rfl, hij, hjz, hW, hrj, hBj⟩ := hrel
        obtain ⟨x, hx⟩ : ∃ x, x = cut b j (j + z) := ⟨_, rfl⟩
        rw [← hx] at hW
        have hxl : x.length = z := by rw [hx, cut_len b j (j + z) (by omega) (by have := Hn.out; omega)]; omega
        have hBw := HB.out.trans (hBj.mono HB.out.size)
        have hXj := HX.out.below hBw
        have hsum := wsum_calls hW
        obtain ⟨rs, hrs⟩ : ∃ rs, rs = rsum x := ⟨_, rfl⟩
        have hrl := rsum_lt x
        rw [← hrs] at hsum hrl
        have hwk := HWc.out wr hXj rs hrl
        obtain ⟨fo, hfo⟩ : ∃ fo, fo = hasWeak l rs := ⟨_, rfl⟩
        rw [← hfo] at hwk
        have hslj := fun w' => sl_lh (P := Tryd.prog) 22 5 i0 Tryd.underlying22 Hi0.out bb o n c (j : Int) ((j : Int) + (z : Int)) j z rfl rfl (by omega) (by omega) w'
        have hrdx : ReadB wr wr.heap.size (some ⟨bb, o + j, none⟩) x := by rw [hx]; exact ((readB_cut (Hr.out.below hBw)).more hBw.size)
        have hfc := HFc.out wr x (some ⟨bb, o + j, none⟩) (c - j) hxl hXj hrdx (by omega) (by omega) (Htab.out.below hBw)
        obtain ⟨fa, ff, hfx⟩ : ∃ fa ff, F x = (fa, ff) := ⟨_, _, rfl⟩
        have hfb := HFb.out x
        have hfw := HFw.out x hxl
        rw [← hrs, ← hfo] at hfw
        rw [hfx] at hfc hfb hfw
        simp only at hfb hfw hfc
        have hmiss : ff = false → j + z < n → Tm.rest F z b (ops L) frm (j + 1) = R := fun h1 h2 => by rw [← hrj]; exact (rest_miss F z b hz.1 (ops L) frm j (by have := Hn.out; omega) (by rw [← hx, hfx]; exact h1)).symm
        have hmissE : ff = false → ¬ j + z < n → R = (ops L, frm) := fun h1 h2 => by rw [← hrj, rest_miss F z b hz.1 (ops L) frm j (by have := Hn.out; omega) (by rw [← hx, hfx]; exact h1), rest_end F z b (ops L) frm (j + 1) (by have := Hn.out; omega)]
        have hhit : ff = true → Tm.rest F z b (Tm.put1 z b (ops L) frm j fa) (j + z) (j + z) = R := fun h1 => by
          have h2 := rest_hit F z b hz.1 (ops L) frm j (by have := Hn.out; omega) (by rw [← hx, hfx]; exact h1)
          rw [← hx, hfx, hrj] at h2
          exact h2.symm
        have HIFj := Lib.hid (HIF.out.below hBj)
        have Hq2 := Lib.hid hq2
        have HBw := Lib.hid hBw
        have HBj := Lib.hid hBj
        have Hsum := Lib.hid hsum
        have Hwk := Lib.hid hwk
        have Hfc := Lib.hid hfc
        have Hmiss := Lib.hid hmiss
        have HmissE := Lib.hid hmissE
        have Hhit := Lib.hid hhit
        have HWj := Lib.hid hW
        have Hfw := Lib.hid hfw
        have Hx := Lib.hid hx
        have Hij := Lib.hid hij
        clear hq2 hBw hBj hsum hwk hfc hmiss hmissE hhit hW hfw hx hfx hrs hfo hrj hrdx hXj hxl hrl HW2 Hb2 hij
        have ARMS : True := trivial
        cases fo with
        | false =>
          have HIq := HIFj
          have HBq := HBw
          have HWq := HWj
          have HBqj := HBj
          have hf0 := (show ff = false by first | exact Hfw.out rfl | exact Hfw.out trivial)
          by_cases hend : j + z < n
          · have hroll := cut_roll b j z hz.1 (by have := Hn.out; omega)
            have t2 : decide ((n : Int) ≤ (j : Int) + (z : Int)) = false := decide_eq_false (by omega)
            have t3 : decide (n ≤ j + z) = false := decide_eq_false (by omega)
            have t4 : ¬ (n : Int) ≤ (j : Int) + (z : Int) := by omega
            have t5 : ¬ n ≤ j + z := by omega
            have hwx := HWq.out
            rw [Hx.out, hroll.1] at hwx
            obtain ⟨y, hy⟩ : ∃ y, y = b.getD (j + z) 0 := ⟨_, rfl⟩
            have hrc := Ro.roll_calls hwx y (by have := congrArg List.length hroll.1; rw [List.length_cons, cut_len b j (j + z) (by omega) (by have := Hn.out; omega)] at this; omega)
            rw [hy, hroll.2] at hrc
            have hcy : wr.cell? ⟨bb, o + (j + z), none⟩ = some (.int .u8 (y.toNat : Int)) := by
              rw [hy]
              exact (HBq.out.cell (p := ⟨bb, o + (j + z), none⟩) Hbb.out).trans (Hcell.out (j + z) (by have := Hn.out; omega))
            rw [← hy] at hrc
            have Hrc := Lib.hid hrc
            have Hm := Lib.hid (show Tm.rest F z b (ops L) frm (j + 1) = R by first | exact Hmiss.out hf0 hend | exact Hmiss.out trivial hend)
            clear hroll hwx hy hrc
            go_wp2_with (first
              | (go_at_call 33; refine Hsum.out.mono ?_; rintro e3 w3 ⟨rfl, rfl⟩)
              | (go_at_call 32; refine Hwk.out.mono ?_; rintro e3 w3 ⟨rfl, rfl⟩))
            refine Calls.mono Hrc.out ?_
            rintro e5 w5 ⟨rfl, hW5, hb5⟩
            have HW5 := Lib.hid hW5
            have Hb5 := Lib.hid (HBqj.out.trans hb5)
            clear hW5 hb5 hcy
            go_wp2_with fail
            go_roundg (n + 1 - (j + 1))
            case rel => exact ⟨j + 1, rfl, by first | rfl | simp, by have := Hij.out; omega, by omega, HW5.out, Hm.out, Hb5.out⟩
            case measure => have := Hq2.out; omega
          · have t2 : decide ((n : Int) ≤ (j : Int) + (z : Int)) = true := decide_eq_true (by omega)
            have HRE := Lib.hid (show R = (ops L, frm) by first | exact HmissE.out hf0 hend | exact HmissE.out trivial hend)
            have HE := HIq
            have HBE := HBq
            have hlit := literal_calls HE.out b Hn.out (by omega) hcm (Hr.out.below HBE.out) (by omega) n (by have := Hfi.out; omega) (Nat.le_refl _) (by have := HLl.out; omega)
            have Hlit := Lib.hid hlit
            clear hlit
            go_wp2_with (first
              | (go_at_call 33; refine Hsum.out.mono ?_; rintro e3 w3 ⟨rfl, rfl⟩)
              | (go_at_call 32; refine Hwk.out.mono ?_; rintro e3 w3 ⟨rfl, rfl⟩))
            refine Calls.mono Hlit.out ?_
            rintro e9 w9 ⟨rfl, M, hI9, hM9, hb9⟩
            have hml : M.length ≤ 1 := by rw [← ops_len, hM9]; exact whole_len _
            obtain ⟨A9, N9, c9, hc9, hN9, ho9⟩ := hI9.cells
            have hN4 : N9 ≤ 4096 := by rw [hN9, List.length_append]; have := HLl.out; omega
            have HO9 := Lib.hid ho9
            have HB9 := Lib.hid (HBE.out.trans hb9)
            have Hfin : Hid (ops (L ++ M) = search F z b) := Lib.hid (by rw [Hse.out, HRE.out, fin_small b (ops L) frm (by rw [ops_len]; have := HLl.out; omega), ops_app, hM9, cut_end b frm n Hn.out])
            clear hI9 hM9 hb9 hml hN9 ho9
            have t9 : decide (4096 < (N9 : Int)) = false := decide_eq_false (by omega)
            go_wp2_with fail
            try rw [Exit.noGoto_ret]
            go_ret
            exact ⟨_, L ++ M, rfl, HO9.out, Hfin.out, HB9.out⟩
        | true =>
          go_wp2_with (first
            | (go_at_call 33; refine Hsum.out.mono ?_; rintro e3 w3 ⟨rfl, rfl⟩)
            | (go_at_call 32; refine Hwk.out.mono ?_; rintro e3 w3 ⟨rfl, rfl⟩))
          refine Calls.mono Hfc.out ?_
          rintro e4 w4 ⟨rfl, hb4⟩
          have hb4' := hb4
          have HIq := Lib.hid (HIFj.out.below hb4)
          have HBq := Lib.hid (HBw.out.trans (hb4.mono HBw.out.size))
          have HWq := Lib.hid (HWj.out.below hb4)
          have HBqj := Lib.hid (HBj.out.trans (hb4.mono HBj.out.size))
          clear hb4 hb4' hslj
          cases ff with
          | false =>
            have hf0 := (rfl : false = false)
            by_cases hend : j + z < n
            · have hroll := cut_roll b j z hz.1 (by have := Hn.out; omega)
              have t2 : decide ((n : Int) ≤ (j : Int) + (z : Int)) = false := decide_eq_false (by omega)
              have t3 : decide (n ≤ j + z) = false := decide_eq_false (by omega)
              have t4 : ¬ (n : Int) ≤ (j : Int) + (z : Int) := by omega
              have t5 : ¬ n ≤ j + z := by omega
              have hwx := HWq.out
              rw [Hx.out, hroll.1] at hwx
              obtain ⟨y, hy⟩ : ∃ y, y = b.getD (j + z) 0 := ⟨_, rfl⟩
              have hrc := Ro.roll_calls hwx y (by have := congrArg List.length hroll.1; rw [List.length_cons, cut_len b j (j + z) (by omega) (by have := Hn.out; omega)] at this; omega)
              rw [hy, hroll.2] at hrc
              have hcy : w4.cell? ⟨bb, o + (j + z), none⟩ = some (.int .u8 (y.toNat : Int)) := by
                rw [hy]
                exact (HBq.out.cell (p := ⟨bb, o + (j + z), none⟩) Hbb.out).trans (Hcell.out (j + z) (by have := Hn.out; omega))
              rw [← hy] at hrc
              have Hrc := Lib.hid hrc
              have Hm := Lib.hid (show Tm.rest F z b (ops L) frm (j + 1) = R by first | exact Hmiss.out hf0 hend | exact Hmiss.out trivial hend)
              clear hroll hwx hy hrc
              go_wp2_with fail
              refine Calls.mono Hrc.out ?_
              rintro e5 w5 ⟨rfl, hW5, hb5⟩
              have HW5 := Lib.hid hW5
              have Hb5 := Lib.hid (HBqj.out.trans hb5)
              clear hW5 hb5 hcy
              go_wp2_with fail
              go_roundg (n + 1 - (j + 1))
              case rel => exact ⟨j + 1, rfl, by first | rfl | simp, by have := Hij.out; omega, by omega, HW5.out, Hm.out, Hb5.out⟩
              case measure => have := Hq2.out; omega
            · have t2 : decide ((n : Int) ≤ (j : Int) + (z : Int)) = true := decide_eq_true (by omega)
              have HRE := Lib.hid (show R = (ops L, frm) by first | exact HmissE.out hf0 hend | exact HmissE.out trivial hend)
              have HE := HIq
              have HBE := HBq
              have hlit := literal_calls HE.out b Hn.out (by omega) hcm (Hr.out.below HBE.out) (by omega) n (by have := Hfi.out; omega) (Nat.le_refl _) (by have := HLl.out; omega)
              have Hlit := Lib.hid hlit
              clear hlit
              go_wp2_with fail
              refine Calls.mono Hlit.out ?_
              rintro e9 w9 ⟨rfl, M, hI9, hM9, hb9⟩
              have hml : M.length ≤ 1 := by rw [← ops_len, hM9]; exact whole_len _
              obtain ⟨A9, N9, c9, hc9, hN9, ho9⟩ := hI9.cells
              have hN4 : N9 ≤ 4096 := by rw [hN9, List.length_append]; have := HLl.out; omega
              have HO9 := Lib.hid ho9
              have HB9 := Lib.hid (HBE.out.trans hb9)
              have Hfin : Hid (ops (L ++ M) = search F z b) := Lib.hid (by rw [Hse.out, HRE.out, fin_small b (ops L) frm (by rw [ops_len]; have := HLl.out; omega), ops_app, hM9, cut_end b frm n Hn.out])
              clear hI9 hM9 hb9 hml hN9 ho9
              have t9 : decide (4096 < (N9 : Int)) = false := decide_eq_false (by omega)
              go_wp2_with fail
              try rw [Exit.noGoto_ret]
              go_ret
              exact ⟨_, L ++ M, rfl, HO9.out, Hfin.out, HB9.out⟩
          | true =>
            have hcp := copied_calls HIq.out b Hn.out (by omega) hcm (Hr.out.below HBq.out) (by omega) j z fa (by have := Hfi.out; have := Hij.out; omega) hjz (by have := HLl.out; omega) hfb Hsm.out
            have Hcp := Lib.hid hcp
            clear hcp
            go_wp2_with fail
            refine Calls.mono Hcp.out ?_
            rintro e5 w5 ⟨rfl, L5, hI5, hL5, hb5⟩
            have hs5 : Small (ops L5) (j + z) := by rw [hL5]; exact Hsm.out.put1 (by have := Hfi.out; have := Hij.out; omega) hfb
            have hl5 : L5.length ≤ 2 * (j + z) := by
              have h1 := put1_len (z := z) (b := b) (out := ops L) (frm := frm) (i := j) (a := fa)
              rw [← hL5, ops_len, ops_len] at h1
              have := HLl.out; have := Hij.out; omega
            have hr5 : Tm.rest F z b (ops L5) (j + z) (j + z) = R := by rw [hL5]; first | exact Hhit.out rfl | exact Hhit.out trivial
            have HI5 := Lib.hid hI5
            have Hs5 := Lib.hid hs5
            have Hl5 := Lib.hid hl5
            have Hr5 := Lib.hid hr5
            have HB5 := Lib.hid (HBq.out.trans hb5)
            clear hI5 hL5 hb5 hs5 hl5 hr5
            go_wp2_with fail
            go_roundg (n + 1 - (j + z))
            case rel => exact ⟨j + z, j + z, L5, rfl, by first | rfl | simp, Nat.le_refl _, hjz, HI5.out, Hr5.out, Hs5.out, Hl5.out, HB5.out⟩
            case measure => have := Hq.out; have := Hij.out; omega
    · have t1 : decide ((i : Int) + (z : Int) ≤ (n : Int)) = false := decide_eq_false (by omega)
      have HRE : Hid (R = (ops L, frm)) := Lib.hid (by rw [← Hrest.out]; exact rest_end F z b (ops L) frm i (by have := Hn.out; omega))
      have HE := HIF
      have HBE := HB
      have hlit := literal_calls HE.out b Hn.out (by omega) hcm (Hr.out.below HBE.out) (by omega) n (by have := Hfi.out; omega) (Nat.le_refl _) (by have := HLl.out; omega)
      have Hlit := Lib.hid hlit
      clear hlit
      go_wp2_with fail
      refine Calls.mono Hlit.out ?_
      rintro e9 w9 ⟨rfl, M, hI9, hM9, hb9⟩
      have hml : M.length ≤ 1 := by rw [← ops_len, hM9]; exact whole_len _
      obtain ⟨A9, N9, c9, hc9, hN9, ho9⟩ := hI9.cells
      have hN4 : N9 ≤ 4096 := by rw [hN9, List.length_append]; have := HLl.out; omega
      have HO9 := Lib.hid ho9
      have HB9 := Lib.hid (HBE.out.trans hb9)
      have Hfin : Hid (ops (L ++ M) = search F z b) := Lib.hid (by rw [Hse.out, HRE.out, fin_small b (ops L) frm (by rw [ops_len]; have := HLl.out; omega), ops_app, hM9, cut_end b frm n Hn.out])
      clear hI9 hM9 hb9 hml hN9 ho9
      have t9 : decide (4096 < (N9 : Int)) = false := decide_eq_false (by omega)
      go_wp2_with fail
      try rw [Exit.noGoto_ret]
      go_ret
      exact ⟨_, L ++ M, rfl, HO9.out, Hfin.out, HB9.out⟩
end Ms
end Go.Proofs.YtiofkhjpknfkgaaDoor
/- Operations, one by one, to the program and to the document: whether they may be, and what they make. -/
namespace Go.Proofs.YtiofkhjpknfkgaaDoor
namespace Dl
open Go.RowKit Ba Tm Dm Os_
set_option linter.unusedVariables false
/-- an operation by its cells -/
def opA (c : Bool) (p n : Int) (A : Option Addr) (m k : Nat) : Value := .agg #[.bool c, .int .i64 p, .int .i64 n, .slice A m k]
def mayv (c : Bool) (p n : Int) (m : Nat) (old : Int) : Bool := if c then decide (m = 0) && decide (0 ≤ p) && decide (1 ≤ n) && decide (p ≤ old) && decide (n ≤ old - p) else decide (0 < m) && decide (p = 0) && decide (n = 0)
theorem may_v (x : O) (old : Int) : may x old = mayv x.copy x.pos x.n x.data.length old := rfl
set_option maxHeartbeats 2000000 in
theorem may_calls (c : Bool) (p n : Int) (A : Option Addr) (m k : Nat) (old : Int) (hp : -9223372036854775808 ≤ p ∧ p ≤ 9223372036854775807) (hn : -9223372036854775808 ≤ n ∧ n ≤ 9223372036854775807) (ho : -9223372036854775808 ≤ old ∧ old ≤ 9223372036854775807) (hm : m ≤ 9223372036854775807) (w : World) :
    Calls Tryd.prog 74 #[.agg #[.bool c, .int .i64 p, .int .i64 n, .slice A m k], .int .i64 old] w fun e w' => e = .returned (.bool (mayv c p n m old)) ∧ Below w.heap.size w w' := by
  cases c
  · by_cases h0 : 0 < m
    · by_cases h1 : p = 0
      · by_cases h2 : n = 0
        · have hr : mayv false p n m old = true := by simp [mayv, h0, h1, h2]
          rw [hr]
          clear hr
          go_enter Tryd.func74, Tryd.ntmps74
          go_wp2
          go_ret
          exact ⟨by simp [h0, h1, h2], (Below.refl _ _).alloc (Nat.le_refl _) _⟩
        · have hr : mayv false p n m old = false := by simp [mayv, h0, h1, h2]
          rw [hr]
          clear hr
          go_enter Tryd.func74, Tryd.ntmps74
          go_wp2
          go_ret
          exact ⟨by simp [h0, h1, h2], (Below.refl _ _).alloc (Nat.le_refl _) _⟩
      · have hr : mayv false p n m old = false := by simp [mayv, h0, h1]
        rw [hr]
        clear hr
        go_enter Tryd.func74, Tryd.ntmps74
        go_wp2
        go_ret
        exact ⟨by simp [h0, h1], (Below.refl _ _).alloc (Nat.le_refl _) _⟩
    · have hr : mayv false p n m old = false := by simp [mayv, h0]
      rw [hr]
      clear hr
      go_enter Tryd.func74, Tryd.ntmps74
      go_wp2
      go_ret
      exact ⟨by simp [h0], (Below.refl _ _).alloc (Nat.le_refl _) _⟩
  · by_cases h0 : m = 0
    · by_cases h1 : 0 ≤ p
      · by_cases h2 : 1 ≤ n
        · by_cases h3 : p ≤ old
          · by_cases h4 : n ≤ old - p
            · have hr : mayv true p n m old = true := by simp [mayv, h0, h1, h2, h3, h4]
              rw [hr]
              clear hr
              go_enter Tryd.func74, Tryd.ntmps74
              go_wp2
              go_ret
              exact ⟨by simp [h0, h1, h2, h3, h4], (Below.refl _ _).alloc (Nat.le_refl _) _⟩
            · have hr : mayv true p n m old = false := by simp [mayv, h0, h1, h2, h3, h4]
              rw [hr]
              clear hr
              go_enter Tryd.func74, Tryd.ntmps74
              go_wp2
              go_ret
              exact ⟨by simp [h0, h1, h2, h3, h4], (Below.refl _ _).alloc (Nat.le_refl _) _⟩
          · have hr : mayv true p n m old = false := by simp [mayv, h0, h1, h2, h3]
            rw [hr]
            clear hr
            go_enter Tryd.func74, Tryd.ntmps74
            go_wp2
            go_ret
            exact ⟨by simp [h0, h1, h2, h3], (Below.refl _ _).alloc (Nat.le_refl _) _⟩
        · have hr : mayv true p n m old = false := by simp [mayv, h0, h1, h2]
          rw [hr]
          clear hr
          go_enter Tryd.func74, Tryd.ntmps74
          go_wp2
          go_ret
          exact ⟨by simp [h0, h1, h2], (Below.refl _ _).alloc (Nat.le_refl _) _⟩
      · have hr : mayv true p n m old = false := by simp [mayv, h0, h1]
        rw [hr]
        clear hr
        go_enter Tryd.func74, Tryd.ntmps74
        go_wp2
        go_ret
        exact ⟨by simp [h0, h1], (Below.refl _ _).alloc (Nat.le_refl _) _⟩
    · have hr : mayv true p n m old = false := by simp [mayv, h0]
      rw [hr]
      clear hr
      go_enter Tryd.func74, Tryd.ntmps74
      go_wp2
      go_ret
      exact ⟨by simp [h0], (Below.refl _ _).alloc (Nat.le_refl _) _⟩
set_option maxHeartbeats 400000 in
theorem makes_calls (c : Bool) (p n : Int) (A : Option Addr) (m k : Nat) (w : World) : Calls Tryd.prog 56 #[.agg #[.bool c, .int .i64 p, .int .i64 n, .slice A m k]] w fun e w' => e = .returned (.int .i64 (if c then n else m)) ∧ Below w.heap.size w w' := by
  cases c
  all_goals
    go_enter Tryd.func56, Tryd.ntmps56
    go_wp2
    go_ret
    exact ⟨rfl, (Below.refl _ _).alloc (Nat.le_refl _) _⟩
end Dl
end Go.Proofs.YtiofkhjpknfkgaaDoor
/- Whether operations may be, to the program. -/
namespace Go.Proofs.YtiofkhjpknfkgaaDoor
namespace Dm
open Tm
theorem check_long {l : List O} {old : Int} (h : 4096 < l.length) : check l old = 5 := if_pos h
theorem check_form {l : List O} {old : Int} (h : l.length ≤ 4096) {x : O} (hx : x ∈ l) (hm : may x old = false) : check l old = 4 := by
  unfold check
  rw [if_neg (by omega), if_pos]
  exact List.all_eq_false.2 ⟨x, hx, by rw [hm]; simp⟩
theorem check_room {l : List O} {old : Int} (h : l.length ≤ 4096) (hm : ∀ x ∈ l, may x old = true) : check l old = if room l 65536 = false then 5 else 0 := by
  unfold check
  rw [if_neg (by omega), if_neg (by rw [List.all_eq_true.2 hm]; simp)]
theorem room_at (l : List O) (k : Nat) (r : Int) (h : k < l.length) : room (l.drop k) r = if r - makes (at_ l k) < 0 then false else room (l.drop (k + 1)) (r - makes (at_ l k)) := by
  rw [drop_at l k h]
  rfl
theorem room_end (l : List O) (k : Nat) (r : Int) (h : l.length ≤ k) : room (l.drop k) r = true := by rw [List.drop_of_length_le h]; rfl
theorem check_ok {l : List O} {old : Int} (h : check l old = 0) : l.length ≤ 4096 ∧ (∀ x ∈ l, may x old = true) ∧ room l 65536 = true := by
  unfold check at h
  split at h
  · omega
  · split at h
    · omega
    · rename_i h2
      split at h
      · omega
      · rename_i h3
        exact ⟨by omega, List.all_eq_true.1 (by simpa using h2), by simpa using h3⟩
end Dm
namespace Dl
open Go.RowKit Ba Tm Dm Os_
set_option linter.unusedVariables false
theorem ops_at (L : List Ow) (k : Nat) (h : k < L.length) : at_ (ops L) k = (oat L k).1 := by simp [at_, ops, oat, List.getD, h]
theorem op_cells {w : World} {g : Nat} {t : TypeId} {c : Bool} {p n : Int} {A : Option Addr} {m k : Nat} (h : Blk w g t #[.bool c, .int .i64 p, .int .i64 n, .slice A m k]) :
    w.cell? ⟨g, 0, none⟩ = some (.bool c) ∧ w.cell? ⟨g, 1, none⟩ = some (.int .i64 p) ∧ w.cell? ⟨g, 2, none⟩ = some (.int .i64 n) ∧ w.cell? ⟨g, 3, none⟩ = some (.slice A m k) ∧ w.rangeAt g 0 [.bool c, .int .i64 p, .int .i64 n, .slice A m k] := by
  refine ⟨by rw [Blk.cell h]; rfl, by rw [Blk.cell h]; rfl, by rw [Blk.cell h]; rfl, by rw [Blk.cell h]; rfl, fun j v hv => ?_⟩
  rw [Blk.cell h, Nat.zero_add]
  simpa using hv
/-- one operation of a row, opened -/
theorem ReadO.op {w : World} {B : Nat} {A : Option Addr} {L : List Ow} (h : ReadO w B A L) {k : Nat} (hk : k < L.length) : ∃ b o c p n d D e, A = some ⟨b, o, none⟩ ∧ b < B ∧ oat L k = (⟨c, p, n, d⟩, D, e) ∧ w.rangeAt b (o + k * 4) [.bool c, .int .i64 p, .int .i64 n, .slice D d.length e] ∧ (-9223372036854775808 ≤ p ∧ p ≤ 9223372036854775807) ∧ (-9223372036854775808 ≤ n ∧ n ≤ 9223372036854775807) ∧ d.length ≤ e ∧ e ≤ 9223372036854775807 ∧ ReadB w B D d := by
  obtain ⟨b, o, e, hb, hc⟩ := h.1.at_ (oat_get hk)
  have hw := h.2 _ (oat_mem hk)
  generalize oat L k = x at hc hw ⊢
  obtain ⟨⟨c, p, n, d⟩, D, e2⟩ := x
  exact ⟨b, o, _, _, _, _, _, _, e, hb, rfl, hc, hw⟩
set_option maxRecDepth 100000 in
set_option maxHeartbeats 4000000 in
theorem check_calls (L : List Ow) (A : Option Addr) (n c : Nat) (old : Int) (hn : n = L.length) (hl : n ≤ 9223372036854775807) (ho : -9223372036854775808 ≤ old ∧ old ≤ 9223372036854775807) (w : World) (h : ReadO w w.heap.size A L) :
    Calls Tryd.prog 60 #[.slice A n c, .int .i64 old] w fun e w' => e = .returned (.int .i64 (check (ops L) old)) ∧ Below w.heap.size w w' := by
  have hol : (ops L).length = n := by rw [ops_len, hn]
  by_cases hlong : 4096 < n
  · have hr : check (ops L) old = 5 := check_long (by omega)
    rw [hr]
    clear hr
    go_enter Tryd.func60, Tryd.ntmps60
    go_wp2
    go_ret
    exact ⟨rfl, Below.refl _ _⟩
  · have Hh := Lib.hid h
    have Hol := Lib.hid hol
    have Hn := Lib.hid hn
    clear h hol hn
    go_enter Tryd.func60, Tryd.ntmps60
    go_wp2_with fail
    go_loopg [15] n (fun q v15 wr => ∃ k : Nat, k ≤ n ∧ q = n - k ∧ v15 = .int .i64 (k : Int) ∧ (∀ j, j < k → may (at_ (ops L) j) old = true) ∧ Below w.heap.size w wr)
    case atStart => exact ⟨0, by omega, rfl, rfl, by omega, Below.refl _ _⟩
    case round =>
      obtain ⟨k, hk, hq, rfl, hall, hb⟩ := hrel
      have Hq := Lib.hid hq
      have Hall := Lib.hid hall
      have HB := Lib.hid hb
      clear hq hall hb
      by_cases hkn : k < n
      · have hkl : k < L.length := by rw [← Hn.out]; exact hkn
        obtain ⟨b, o, x1, x2, x3, x4, D, e, rfl, hbB, hx, hc, w1, w2, w3, w4, w5⟩ := ReadO.op Hh.out hkl
        have hat := ops_at L k hkl
        rw [hx] at hat
        have HC : Hid (wr.rangeAt b (o + k * 4) [.bool x1, .int .i64 x2, .int .i64 x3, .slice D x4.length e]) := Lib.hid fun jj v hv => (HB.out.cell (p := ⟨b, o + k * 4 + jj, none⟩) hbB).trans (hc jj v hv)
        have hmay := fun w => may_calls x1 x2 x3 D x4.length e old w1 w2 ho (by omega) w
        have hmv : may (at_ (ops L) k) old = mayv x1 x2 x3 x4.length old := by rw [hat]; rfl
        have Hmv := Lib.hid hmv
        have Hm := Lib.hid hmay
        clear hx hc w5 hat hmay hmv
        go_wp2_with (refine wpList_load_mid rfl 40 (.tmp 17) rfl b (o + k * 4) rfl [.bool x1, .int .i64 x2, .int .i64 x3, .slice D x4.length e] _ HC.out Tryd.underlying40 rfl (by kernel_rfl) ?_)
        refine (Hm.out _).mono ?_
        rintro e1 w1' ⟨rfl, hb1⟩
        have HB1 := Lib.hid (HB.out.trans (((Below.refl _ _).alloc (Nat.le_refl _) _).trans (hb1.mono (by simp)) |>.mono HB.out.size))
        clear hb1 Hm HC
        by_cases hv : mayv x1 x2 x3 x4.length old = true
        · rw [hv]
          have Hv := Lib.hid hv
          clear hv
          go_wp2_with fail
          go_roundg (n - (k + 1))
          case rel => exact ⟨k + 1, by omega, rfl, rfl, fun j hj => by
            rcases Nat.lt_or_ge j k with h1 | h1
            · exact Hall.out j h1
            · rw [show j = k by omega, Hmv.out, Hv.out], HB1.out⟩
          case measure => have := Hq.out; omega
        · have hv2 : mayv x1 x2 x3 x4.length old = false := by simpa using hv
          have hr : check (ops L) old = 4 := check_form (by rw [Hol.out]; omega) (mem_at _ k (by rw [Hol.out]; exact hkn)) (by rw [Hmv.out, hv2])
          rw [hv2]
          have HR := Lib.hid hr
          clear hv hv2 hr
          go_wp2
          go_ret
          exact ⟨by rw [HR.out]; rfl, HB1.out⟩
      · have hke : k = n := by omega
        subst hke
        have hmm : ∀ x ∈ ops L, may x old = true := fun x hx => by
          obtain ⟨j, hj, e⟩ := List.getElem_of_mem hx
          have := Hall.out j (by rw [← Hol.out]; exact hj)
          rw [at_, List.getD_eq_getElem?_getD, List.getElem?_eq_getElem hj] at this
          rw [← e]
          exact this
        have hr := check_room (by rw [Hol.out]; omega) hmm
        have HR := Lib.hid hr
        have Hmm := Lib.hid hmm
        clear hr hkn hmm Hq Hall
        go_wp2_with fail
        go_loopg [7, 26] k (fun q v7 v26 wr => ∃ (j : Nat) (r : Int), j ≤ k ∧ q = k - j ∧ v26 = .int .i64 (j : Int) ∧ v7 = .int .i64 r ∧ 0 ≤ r ∧ r ≤ 65536 ∧ room ((ops L).drop j) r = room (ops L) 65536 ∧ Below w.heap.size w wr)
        case atStart => exact ⟨0, 65536, by omega, rfl, rfl, rfl, by omega, by omega, rfl, HB.out⟩
        case round =>
          obtain ⟨j, r, hj, hq, rfl, rfl, hr0, hr1, hrm, hb⟩ := hrel
          have Hq := Lib.hid hq
          have Hrm := Lib.hid hrm
          have HB := Lib.hid hb
          clear hq hrm hb
          by_cases hjk : j < k
          · have hkl : j < L.length := by rw [← Hn.out]; exact hjk
            obtain ⟨b, o, x1, x2, x3, x4, D, e, rfl, hbB, hx, hc, w1, w2, w3, w4, w5⟩ := ReadO.op Hh.out hkl
            have hat := ops_at L j hkl
            rw [hx] at hat
            have HC : Hid (wr.rangeAt b (o + j * 4) [.bool x1, .int .i64 x2, .int .i64 x3, .slice D x4.length e]) := Lib.hid fun jj v hv => (HB.out.cell (p := ⟨b, o + j * 4 + jj, none⟩) hbB).trans (hc jj v hv)
            have hmk := fun w => makes_calls x1 x2 x3 D x4.length e w
            have hmv : makes (at_ (ops L) j) = if x1 then x3 else (x4.length : Int) := by rw [hat]; rfl
            have hra := room_at (ops L) j r (by rw [Hol.out]; exact hjk)
            have hm1 := may_makes (Hmm.out _ (mem_at (ops L) j (by rw [Hol.out]; exact hjk)))
            have hm2 : makes (at_ (ops L) j) ≤ 9223372036854775807 := by rw [hmv]; split <;> omega
            rw [← hmv] at hmk
            generalize makes (at_ (ops L) j) = m at *
            have Hra := Lib.hid hra
            have Hmk := Lib.hid hmk
            clear hx hc w5 hat hmk hmv hra
            go_wp2_with (refine wpList_load_mid rfl 40 (.tmp 28) rfl b (o + j * 4) rfl [.bool x1, .int .i64 x2, .int .i64 x3, .slice D x4.length e] _ HC.out Tryd.underlying40 rfl (by kernel_rfl) ?_)
            refine (Hmk.out _).mono ?_
            rintro e1 w1' ⟨rfl, hb1⟩
            have HB1 := Lib.hid (HB.out.trans (((Below.refl _ _).alloc (Nat.le_refl _) _).trans (hb1.mono (by simp)) |>.mono HB.out.size))
            clear hb1 Hmk HC
            by_cases hv : r - m < 0
            · have h0 : room (ops L) 65536 = false := by rw [← Hrm.out, Hra.out, if_pos hv]
              have H0 := Lib.hid h0
              clear h0
              go_wp2
              go_ret
              exact ⟨by rw [HR.out, if_pos H0.out]; rfl, HB1.out⟩
            · have h0 : room ((ops L).drop (j + 1)) (r - m) = room (ops L) 65536 := by rw [← Hrm.out, Hra.out, if_neg hv]
              have H0 := Lib.hid h0
              clear h0
              go_wp2_with fail
              go_roundg (k - (j + 1))
              case rel => exact ⟨j + 1, r - m, by omega, rfl, rfl, by go_num, by omega, by omega, H0.out, HB1.out⟩
              case measure => have := Hq.out; omega
          · have hje : j = k := by omega
            have h0 : room (ops L) 65536 = true := by rw [← Hrm.out]; exact room_end _ _ _ (by rw [Hol.out]; omega)
            have H0 := Lib.hid h0
            clear h0
            go_wp2
            go_ret
            exact ⟨by rw [HR.out, if_neg (by rw [H0.out]; simp)]; rfl, HB.out⟩
end Dl
end Go.Proofs.YtiofkhjpknfkgaaDoor
/- What the program tells of a number of the wire: its width, and what bytes begin with. -/
namespace Go.Proofs.YtiofkhjpknfkgaaDoor
namespace Vi
open Go.RowKit Ba Vm
set_option linter.unusedVariables false

theorem widths_calls (w : World) : Calls Tryd.prog 91 #[] w fun e w' => e = .returned (.agg #[.int .i64 1, .int .i64 2, .int .i64 4, .int .i64 8]) ∧ Below w.heap.size w w' := by
  go_enter Tryd.func91, Tryd.ntmps91
  go_wp2
  exact bodyPost_ret (v := .agg #[.int .i64 1, .int .i64 2, .int .i64 4, .int .i64 8]) (by simp [results, Tryd.results91, go_sem]) rfl ⟨rfl, (Below.refl _ _).alloc (Nat.le_refl _) _⟩

theorem ret_bool {a b : Bool} (h : a = b) : Ending.returned (.bool a) = .returned (.bool b) := by rw [h]
theorem ret_int {k : IntKind} {a b : Int} (h : a = b) : Ending.returned (.int k a) = .returned (.int k b) := by rw [h]

theorem fits_yes (n : Int) (k : Nat) (hn : 0 ≤ n) (hk : W4 k) (h : n < lim k) (w : World) : Calls Tryd.prog 92 #[.int .i64 n, .int .i64 k] w fun e w' => e = .returned (.bool true) ∧ w = w' := by
  rcases hk with rfl | rfl | rfl | rfl
  all_goals
    simp only [lim] at h
    have hn2 : n ≤ 9223372036854775807 := by omega
    go_enter Tryd.func92, Tryd.ntmps92
    go_wp2
    go_ret
    exact ⟨ret_bool (by first | (simp; done) | (simp; omega)), rfl⟩
theorem fits_no (n : Int) (k : Nat) (hn2 : n ≤ 9223372036854775807) (hk : W4 k) (h : n < 0 ∨ lim k ≤ n) (w : World) : Calls Tryd.prog 92 #[.int .i64 n, .int .i64 k] w fun e w' => e = .returned (.bool false) ∧ w = w' := by
  rcases hk with rfl | rfl | rfl | rfl
  all_goals
    simp only [lim] at h
    rcases h with h | h
    · go_enter Tryd.func92, Tryd.ntmps92
      go_wp2
      go_ret
      exact ⟨rfl, rfl⟩
    · go_enter Tryd.func92, Tryd.ntmps92
      go_wp2
      go_ret
      exact ⟨ret_bool (by simp; omega), rfl⟩

set_option maxRecDepth 100000 in
set_option maxHeartbeats 400000 in
theorem len_calls (n : Int) (hn : n ≤ 9223372036854775807) (w : World) : Calls Tryd.prog 87 #[.int .i64 n] w fun e w' => e = .returned (.int .i64 (len n : Int)) ∧ Below w.heap.size w w' := by
  go_enter Tryd.func87, Tryd.ntmps87
  go_wp2_with (go_at_call 91; refine (widths_calls _).mono ?_; rintro e w1 ⟨rfl, hb1⟩)
  go_loop [6] (fun i => ∃ k : Nat, k ≤ 4 ∧ i = .int .i64 k ∧ (0 < k → n < 0 ∨ lim (2 ^ (k - 1)) ≤ n)) (fun i => 4 - (intOf i).toNat)
  case atStart => exact ⟨0, by omega, rfl, by omega⟩
  case round =>
    obtain ⟨k, hk, rfl, hp⟩ := hrel
    by_cases h4 : k = 4
    · subst h4
      go_wp2
      go_ret
      exact ⟨ret_int (by rw [len_none n (by have := hp (by omega); simpa [lim] using this)]; rfl), hb1⟩
    · have hw : W4 (2 ^ k) := by
        unfold W4
        have : k = 0 ∨ k = 1 ∨ k = 2 ∨ k = 3 := by omega
        rcases this with rfl | rfl | rfl | rfl <;> simp
      have hx : ∀ w : World, (Instr.index 147 (.agg #[.int .i64 1, .int .i64 2, .int .i64 4, .int .i64 8]) (.int .i64 (k : Int))).run Tryd.prog w = .ok (.int .i64 ((2 ^ k : Nat) : Int)) w := by
        have : k = 0 ∨ k = 1 ∨ k = 2 ∨ k = 3 := by omega
        rcases this with rfl | rfl | rfl | rfl <;> exact fun _ => by kernel_rfl
      by_cases hc : 0 ≤ n ∧ n < lim (2 ^ k)
      · go_wp2_with (go_at_call 92; refine (fits_yes n (2 ^ k) hc.1 hw hc.2 _).mono ?_; rintro e w' ⟨rfl, rfl⟩)
        go_ret
        exact ⟨ret_int (by rw [len_pow n k (by omega) hc.1 hc.2 hp]; rfl), hb1⟩
      · go_wp2_with (go_at_call 92; refine (fits_no n (2 ^ k) hn hw (by omega) _).mono ?_; rintro e w' ⟨rfl, rfl⟩)
        go_round
        case rel => exact ⟨k + 1, by omega, by go_num, fun _ => by simp; omega⟩
        case measure => simp [intOf]; omega

set_option maxRecDepth 100000 in
set_option maxHeartbeats 400000 in
theorem tell_calls (d : Int) (w : World) : Calls Tryd.prog 93 #[.int .i64 d] w fun e w' => e = .returned (.int .i64 (tell d)) ∧ Below w.heap.size w w' := by
  go_enter Tryd.func93, Tryd.ntmps93
  go_wp2_with (go_at_call 91; refine (widths_calls _).mono ?_; rintro e w1 ⟨rfl, hb1⟩)
  go_loop [6] (fun i => ∃ k : Nat, k ≤ 4 ∧ i = .int .i64 k ∧ (∀ j : Nat, j < k → d ≠ ((2 ^ j : Nat) : Int))) (fun i => 4 - (intOf i).toNat)
  case atStart => exact ⟨0, by omega, rfl, by omega⟩
  case round =>
    obtain ⟨k, hk, rfl, hp⟩ := hrel
    by_cases h4 : k = 4
    · subst h4
      have ht := Lib.hid (tell_none d hp)
      clear hp
      go_wp2
      go_ret
      exact ⟨ret_int (by rw [ht.out]), hb1⟩
    · have hx : ∀ w : World, (Instr.index 147 (.agg #[.int .i64 1, .int .i64 2, .int .i64 4, .int .i64 8]) (.int .i64 (k : Int))).run Tryd.prog w = .ok (.int .i64 ((2 ^ k : Nat) : Int)) w := by
        have : k = 0 ∨ k = 1 ∨ k = 2 ∨ k = 3 := by omega
        rcases this with rfl | rfl | rfl | rfl <;> exact fun _ => by kernel_rfl
      have Hp := Lib.hid hp
      clear hp
      by_cases hc : d = ((2 ^ k : Nat) : Int)
      · subst hc
        go_wp2
        go_ret
        exact ⟨ret_int (by have := tell_pow k (by omega); simpa using this.symm), hb1⟩
      · obtain ⟨x, hX⟩ : ∃ x : Int, x = ((2 ^ k : Nat) : Int) := ⟨_, rfl⟩
        rw [← hX] at hc hx
        have hcb : (x == d) = false := by rw [beq_eq_false_iff_ne]; exact fun h => hc h.symm
        have HX := Lib.hid hX
        clear hX
        go_wp2
        have hk1 : k + 1 ≤ 4 := by clear hcb; omega
        refine ⟨⟨k + 1, hk1, by go_num, fun j hj => ?_⟩, by simp [intOf]; clear hcb; omega⟩
        rcases Nat.lt_or_ge j k with h | h
        · exact Hp.out j h
        · have : j = k := by clear hcb; omega
          subst this; rw [← HX.out]; exact hc

set_option maxHeartbeats 400000 in
theorem get_calls (l : List UInt8) (A : Option Addr) (c B : Nat) (w : World) (h : ReadB w B A l) (hlc : l.length ≤ c) (hcm : c ≤ 9223372036854775807) :
    Calls Tryd.prog 90 #[.slice A l.length c] w fun e w' => e = .returned (.tuple #[.int .i64 (get l).1, .int .i64 (get l).2.1, .int .i64 (get l).2.2]) ∧ w = w' := by
  rcases l with _ | ⟨b, r⟩
  · go_enter Tryd.func90, Tryd.ntmps90
    go_wp2
    go_ret3
    exact ⟨rfl, rfl⟩
  · obtain ⟨ab, ao, rfl, hb, hc0⟩ := h.head (by simp)
    simp only [List.getD_cons_zero] at hc0
    have hb8 := u8_lt b
    have hn : r.length + 1 ≤ c := hlc
    have hq : (b.toNat : Int) / 64 = 0 ∨ (b.toNat : Int) / 64 = 1 ∨ (b.toNat : Int) / 64 = 2 ∨ (b.toNat : Int) / 64 = 3 := by omega
    have hw : w8 b = 2 ^ ((b.toNat : Int) / 64).toNat := by unfold w8; congr 1
    rcases hq with hq | hq | hq | hq
    all_goals
      rw [hq] at hw
      simp at hw
      by_cases hlt : (b :: r).length < w8 b
      · have hg := Lib.hid (get_lt b r hlt)
        rw [hw, List.length_cons] at hlt
        clear hw
        go_enter Tryd.func90, Tryd.ntmps90
        go_wp2
        all_goals
          go_ret3
          exact ⟨by rw [hg.out]; rfl, rfl⟩
      · have hg := Lib.hid (get_ge b r hlt)
        rw [hw, List.length_cons] at hlt
        go_enter Tryd.func90, Tryd.ntmps90
        by_cases hc1 : c = 1
        all_goals try (exfalso; omega)
        all_goals
          go_wp2
          go_loop [2, 29] (fun n i => ∃ k : Nat, k + 1 ≤ w8 b ∧ i = .int .i64 k ∧ n = .int .i64 (val (b.toNat % 64) (r.take k))) (fun _ i => 8 - (intOf i).toNat)
          case atStart => exact ⟨0, by omega, rfl, by simp [val]⟩
          case round =>
            obtain ⟨k, hk, rfl, rfl⟩ := hrel
            by_cases hkw : k + 1 < w8 b
            · have hce : w.cell? ⟨ab, ao + 1 + k, none⟩ = some (.int .u8 ((r.getD k 0).toNat : Int)) := by
                obtain ⟨_, _, e1, _, h2⟩ := h (by simp)
                injection e1 with e1
                injection e1 with e1 e2
                subst e1 e2
                have := h2 (1 + k) (by simp; omega)
                rw [← Nat.add_assoc, Nat.add_comm 1 k] at this
                exact this
              have hv := val_small b r k (by omega)
              have hvs := Lib.hid (val_snoc (b.toNat % 64) r k (by omega))
              have hc8 := u8_lt (r.getD k 0)
              generalize val (b.toNat % 64) (r.take k) = V at hv hvs
              generalize (r.getD k 0).toNat = Cc at hce hvs hc8
              go_wp2
              all_goals
                refine ⟨⟨k + 1, by omega, by go_num, ?_⟩, by simp [intOf]; omega⟩
                rw [hvs.out, or_byte V Cc hv hc8.1]
            · go_wp2
              all_goals
                go_ret3
                have hk1 : k = w8 b - 1 := by omega
                subst hk1
                exact ⟨by rw [hg.out, hw]; rfl, rfl⟩

end Vi
end Go.Proofs.YtiofkhjpknfkgaaDoor
/- What laying and reading a number of the wire does, of the program. -/
namespace Go.Proofs.YtiofkhjpknfkgaaDoor
namespace Vi
open Go.RowKit Ba Vm
set_option linter.unusedVariables false
theorem info5 : (Tryd.prog.info? 5).map (fun i => (i.zero, i.size, i.bytes)) = some (some (.int .u8 0), 1, 1) := by kernel_rfl
theorem ret2 {a b : Value} {x y : Value} (h : a = x) (h2 : b = y) : Ending.returned (.tuple #[a, b]) = .returned (.tuple #[x, y]) := by rw [h, h2]

set_option maxRecDepth 100000 in
set_option maxHeartbeats 400000 in
theorem putIn_calls (n d : Int) (hn : n ≤ 9223372036854775807) (w : World) : Calls Tryd.prog 88 #[.int .i64 n, .int .i64 d] w
    fun e w' => ∃ v, e = .returned (.tuple #[v, .int .i64 (putIn n d).2]) ∧ OwnB w' w.heap.size 5 v (putIn n d).1 ∧ Below w.heap.size w w' := by
  by_cases hd : d = 1 ∨ d = 2 ∨ d = 4 ∨ d = 8
  · obtain ⟨k, rfl, hk⟩ : ∃ k : Nat, d = (k : Int) ∧ W4 k := ⟨d.toNat, by omega, by unfold W4; omega⟩
    have ht : tell k = tag k := tell_tag k hk
    have ht3 : tag k ≤ 3 := by rcases hk with rfl | rfl | rfl | rfl <;> simp [tag]
    have hk8 : 1 ≤ k ∧ k ≤ 8 := by rcases hk with rfl | rfl | rfl | rfl <;> omega
    by_cases hf : n < 0 ∨ lim k ≤ n
    · have hp : putIn n k = ([], 13) := by unfold putIn; rw [if_neg (by rw [Classical.not_not]; exact hd), if_pos (by simpa using hf)]
      have Hp := Lib.hid hp
      have Ht := Lib.hid ht
      clear hp ht
      go_enter Tryd.func88, Tryd.ntmps88
      go_wp2_with (first
        | (go_at_call 93; refine (tell_calls _ _).mono ?_; rw [Ht.out]; rintro e w1 ⟨rfl, hb1⟩)
        | (go_at_call 92; refine (fits_no n k hn hk hf _).mono ?_; rintro e w2 ⟨rfl, rfl⟩))
      go_ret2
      exact ⟨.slice none 0 0, by rw [Hp.out]; rfl, by rw [Hp.out]; exact OwnB.nil, hb1⟩
    · have hp : putIn n k = (enc n.toNat k, 0) := putIn_ok n k hk (by omega) (by omega)
      have Hp := Lib.hid hp
      have Ht := Lib.hid ht
      clear hp ht
      obtain ⟨i0, hi0, hz0, hz1, hz2⟩ := info_parts info5
      obtain ⟨N, rfl⟩ : ∃ N : Nat, n = (N : Int) := ⟨n.toNat, by omega⟩
      go_enter Tryd.func88, Tryd.ntmps88
      go_wp2_with (first
        | (go_at_call 93; refine (tell_calls _ _).mono ?_; rw [Ht.out]; rintro e w1 ⟨rfl, hb1⟩)
        | (go_at_call 92; refine (fits_yes _ k (by omega) hk (by omega) _).mono ?_; rintro e w2 ⟨rfl, rfl⟩)
        | (at_make; go_loud (refine wpList_make_full _ rfl (.tmp 19) (.tmp 19) 22 rfl w.heap.size 5 i0 (.int .u8 0) 1 Tryd.underlying22 hi0 hz0 hz1 .i64 .i64 _ _ k rfl rfl rfl rfl (by rw [hz2]; omega) (by unfold maxLen; omega) hb1.size ?_); intro w3 hown3 hg3))
      obtain ⟨g, hgq⟩ : ∃ g, g = w1.heap.size := ⟨_, rfl⟩
      rw [← hgq] at hown3
      rw [← hgq]
      have hge : w.heap.size ≤ g := by rw [hgq]; exact hb1.size
      have hb3 : Below w.heap.size w w3 := hb1.grown hg3 hb1.size (by simp)
      have hrow : w3.ownsRow w.heap.size 5 1 (.slice (some ⟨g, 0, none⟩) k k) k (bvs (List.replicate k 0 ++ be 0 N)) := by
        have e : (madeCells (Value.int .u8 0).cells (k * 1)).toList = bvs (List.replicate k 0 ++ be 0 N) := by
          simp [Value.cells, toList_madeCells_one, be, bvs, bv]
        rw [← e]; exact hown3
      clear hown3 hg3 hgq hb1
      go_loopw [0, 8] (fun n i wr => ∃ j : Nat, j ≤ k ∧ i = .int .i64 ((j : Int) - 1) ∧ n = .int .i64 ((N / 256 ^ (k - j) : Nat) : Int) ∧ wr.ownsRow w.heap.size 5 1 (.slice (some ⟨g, 0, none⟩) k k) k (bvs (List.replicate j 0 ++ be (k - j) N)) ∧ Below w.heap.size w wr) (fun _ i _ => (intOf i + 1).toNat)
      case atStart => exact ⟨k, Nat.le_refl _, rfl, by simp, by simpa using hrow, hb3⟩
      case round =>
        obtain ⟨j, hj, rfl, rfl, hrj, hbj⟩ := hrel
        clear hrow hb3
        rcases j with _ | m
        · have hc0 := hrj.cellAt 0 (by omega)
          have hL : bvs (List.replicate 0 0 ++ be (k - 0) N) = bvs (be k N) := by simp
          rw [hL] at hc0 hrj
          clear hL
          have hb0 := bvs_get (be k N) 0 (by rw [be_length]; omega)
          rw [be_head N k (by omega), UInt8.toNat_ofNat'] at hb0
          rw [hb0] at hc0
          clear hb0
          obtain ⟨V, hV⟩ : ∃ V : Nat, V = N / 256 ^ (k - 1) % 256 := ⟨_, rfl⟩
          rw [show (256 : Nat) = 2 ^ 8 from rfl] at hV
          rw [← hV] at hc0
          have hV2 : V < 256 := by rw [hV]; exact Nat.mod_lt _ (by omega)
          have HV := Lib.hid hV
          clear hV
          have hf0 := hrj.frozenAt 0
          go_wp2
          go_ret2
          have hor := u8_or_nat V (tag k * 64) (by omega) (by omega)
          rw [show ((tag k : Int) * 64) = ((tag k * 64 : Nat) : Int) by omega, hor]
          have hor2 : V ||| tag k * 64 < 256 := Nat.or_lt_two_pow (n := 8) (by omega) (by omega)
          obtain ⟨hs1, hs2⟩ := hrj.stored 0 (.int .u8 ((V ||| tag k * 64 : Nat) : Int))
          rw [bvs_set _ _ _ hor2, HV.out, enc_of_be N k hk (by omega)] at hs1
          refine ⟨.slice (some ⟨g, 0, none⟩) k k, by rw [Hp.out]; rfl, ?_, ?_⟩
          · rw [Hp.out, HV.out]
            have e : (enc N k).length = k := enc_length N k
            show World.ownsRow _ _ _ _ _ (enc ((N : Int)).toNat k).length _
            rw [Int.toNat_natCast, e]
            exact hs1
          · exact hbj.setCell hge _
        · have hcm := hrj.cellAt m (by omega)
          have hfm := hrj.frozenAt m
          rw [show (((m + 1 : Nat) : Int) - 1) = (m : Int) from by omega]
          obtain ⟨V, hV⟩ : ∃ V : Nat, V = N / 256 ^ (k - (m + 1)) := ⟨_, rfl⟩
          rw [← hV]
          have HV := Lib.hid hV
          clear hV
          obtain ⟨uu, hu⟩ : ∃ u, (bvs (List.replicate (m + 1) 0 ++ be (k - (m + 1)) N))[m]? = some u := ⟨_, List.getElem?_eq_getElem (by rw [bvs_length]; simp; omega)⟩
          rw [hu] at hcm
          clear hu
          go_wp2
          obtain ⟨hs1, hs2⟩ := hrj.stored m (.int .u8 ((V % 256 : Nat) : Int))
          rw [bvs_set _ _ _ (by omega), HV.out, be_set N k m hj] at hs1
          refine ⟨⟨m, by omega, rfl, ?_, ?_, hbj.setCell hge _⟩, by simp [intOf]⟩
          · rw [HV.out]
            have e : k - m = (k - (m + 1)) + 1 := by omega
            rw [e, Nat.pow_succ, ← Nat.div_div_eq_div_mul]
            simp
          · rw [show ((V : Int) % 256) = ((V % 256 : Nat) : Int) by omega, HV.out]
            exact hs1
  · have ht : tell d = -1 := by unfold tell; simp only [not_or] at hd; simp [hd]
    have hp : putIn n d = ([], 2) := by unfold putIn; rw [if_pos hd]
    have Hp := Lib.hid hp
    have Ht := Lib.hid ht
    clear hp ht
    go_enter Tryd.func88, Tryd.ntmps88
    go_wp2_with (go_at_call 93; refine (tell_calls _ _).mono ?_; rw [Ht.out]; rintro e w1 ⟨rfl, hb1⟩)
    go_ret2
    exact ⟨.slice none 0 0, by rw [Hp.out]; rfl, by rw [Hp.out]; exact OwnB.nil, hb1⟩

set_option maxRecDepth 100000 in
set_option maxHeartbeats 400000 in
theorem put_calls (n : Int) (hn : n ≤ 9223372036854775807) (w : World) : Calls Tryd.prog 76 #[.int .i64 n] w
    fun e w' => ∃ v, e = .returned (.tuple #[v, .int .i64 (put n).2]) ∧ OwnB w' w.heap.size 5 v (put n).1 ∧ Below w.heap.size w w' := by
  have Hp := Lib.hid (put_eq n)
  rcases Nat.eq_zero_or_pos (len n) with h0 | h0
  · have H0 := Lib.hid h0
    clear h0
    go_enter Tryd.func76, Tryd.ntmps76
    go_wp2_with (go_at_call 87; refine (len_calls _ hn _).mono ?_; rw [H0.out]; rintro e w1 ⟨rfl, hb1⟩)
    go_ret2
    exact ⟨.slice none 0 0, by rw [Hp.out, if_pos H0.out]; rfl, by rw [Hp.out, if_pos H0.out]; exact OwnB.nil, hb1⟩
  · go_enter Tryd.func76, Tryd.ntmps76
    go_wp2_with (first
      | (go_at_call 87; refine (len_calls _ hn _).mono ?_; rintro e w1 ⟨rfl, hb1⟩)
      | (go_at_call 88; refine (putIn_calls _ _ hn _).mono ?_; rintro e w2 ⟨v, rfl, ho, hb2⟩))
    go_ret2
    have hz : ¬ len n = 0 := by omega
    exact ⟨v, by rw [Hp.out, if_neg hz]; rfl, by rw [Hp.out, if_neg hz]; exact ho.weak hb1.size, hb1.trans (hb2.mono hb1.size)⟩

set_option maxRecDepth 100000 in
set_option maxHeartbeats 400000 in
theorem shortest_calls (l : List UInt8) (A : Option Addr) (c B : Nat) (w : World) (h : ReadB w B A l) (hlc : l.length ≤ c) (hcm : c ≤ 9223372036854775807) :
    Calls Tryd.prog 85 #[.slice A l.length c] w fun e w' => e = .returned (.tuple #[.int .i64 (shortest l).1, .int .i64 (shortest l).2.1, .int .i64 (shortest l).2.2]) ∧ Below w.heap.size w w' := by
  have hbd := get_bound l
  have hg : ∃ n u e, get l = (n, u, e) := ⟨_, _, _, rfl⟩
  obtain ⟨n, u, e0, hg⟩ := hg
  rw [hg] at hbd
  simp only at hbd
  obtain ⟨h1, h2, h3⟩ := hbd
  have Hg := Lib.hid hg
  clear hg
  have hsh : shortest l = if e0 ≠ 0 then (0, 0, e0) else if len n < u then (0, 0, 4) else (n, u, e0) := by
    have e := Hg.out
    unfold shortest
    rw [e]
  have Hs := Lib.hid hsh
  clear hsh
  rcases h3 with rfl | rfl
  · obtain ⟨hu, hul⟩ := h2 rfl
    clear h2
    by_cases hlt : len n < u
    · have hlt' : decide ((len n : Int) < (u : Int)) = true := by simpa using hlt
      go_enter Tryd.func85, Tryd.ntmps85
      go_wp2_with (first
        | (go_at_call 90; refine (get_calls l A c B _ h hlc hcm).mono ?_; rw [Hg.out]; rintro e w1 ⟨rfl, rfl⟩)
        | (go_at_call 87; refine (len_calls _ (by omega) _).mono ?_; rintro e w1 ⟨rfl, hb1⟩))
      go_ret3
      exact ⟨by rw [Hs.out, if_neg (by simp), if_pos hlt]; rfl, hb1⟩
    · have hlt' : decide ((len n : Int) < (u : Int)) = false := by simpa using hlt
      go_enter Tryd.func85, Tryd.ntmps85
      go_wp2_with (first
        | (go_at_call 90; refine (get_calls l A c B _ h hlc hcm).mono ?_; rw [Hg.out]; rintro e w1 ⟨rfl, rfl⟩)
        | (go_at_call 87; refine (len_calls _ (by omega) _).mono ?_; rintro e w1 ⟨rfl, hb1⟩))
      go_ret3
      exact ⟨by rw [Hs.out, if_neg (by simp), if_neg hlt]; rfl, hb1⟩
  · go_enter Tryd.func85, Tryd.ntmps85
    go_wp2_with (go_at_call 90; refine (get_calls l A c B _ h hlc hcm).mono ?_; rw [Hg.out]; rintro e w1 ⟨rfl, rfl⟩)
    go_ret3
    have e := get_err l (by rw [Hg.out]; simp)
    rw [Hg.out] at e
    simp only [Prod.mk.injEq, and_true] at e
    exact ⟨by rw [Hs.out, if_pos (by simp), e.1, e.2]; rfl, Below.refl _ _⟩
end Vi
end Go.Proofs.YtiofkhjpknfkgaaDoor
