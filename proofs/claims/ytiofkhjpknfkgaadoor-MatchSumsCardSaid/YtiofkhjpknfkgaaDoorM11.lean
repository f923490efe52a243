/- The search, of the program. -/
import Derived.Test.YtiofkhjpknfkgaaDoorM01
import Derived.Test.YtiofkhjpknfkgaaDoorM02
import Derived.Test.YtiofkhjpknfkgaaDoorM03
import Derived.Test.YtiofkhjpknfkgaaDoorM04
import Derived.Test.YtiofkhjpknfkgaaDoorM05
import Derived.Test.YtiofkhjpknfkgaaDoorM06
import Derived.Test.YtiofkhjpknfkgaaDoorM07
import Derived.Test.YtiofkhjpknfkgaaDoorM08
import Derived.Test.YtiofkhjpknfkgaaDoorM09
import Derived.Test.YtiofkhjpknfkgaaDoorM10
import Derived.Deep.LoopGhost
namespace Go.Proofs.YtiofkhjpknfkgaaDoor
namespace Ms
open Go.RowKit Ba Tm Os_ Bk Ro Sm
set_option linter.unusedVariables false
theorem find_weak (z : Nat) (l : List Sg) (x : List UInt8) (hx : x.length = z) (h : hasWeak l (rsum x) = false) : (findB z l x).2 = false := by
  rw [find_grp z l x hx]
  have h2 := hasWeak_grp z l (rsum x)
  rw [h] at h2
  have h3 : grpK z l l.length (rsum x) = [] := by simpa using h2
  rw [h3]
  rfl
theorem find_bd (z : Nat) (l : List Sg) (x : List UInt8) (hz : z ≤ 4096) (hl : l.length ≤ 4096) : 0 ≤ (findB z l x).1 ∧ (findB z l x).1 ≤ 33554432 := by
  unfold findB
  split
  · cases hf : findIx l (sgOf x) with
    | none => simp [tellIx]
    | some k =>
      have hk : k < l.length := by
        unfold findIx at hf
        have := List.mem_of_find?_eq_some hf
        simpa using this
      have : k * z ≤ 4096 * 4096 := Nat.mul_le_mul (by omega) hz
      simp only [tellIx]
      omega
  · simp
theorem cut_cons (b : List UInt8) (j m : Nat) (h : j < m) (hm : m ≤ b.length) : cut b j m = b.getD j 0 :: cut b (j + 1) m := by
  unfold cut
  rw [List.drop_eq_getElem_cons (by omega), show m - j = (m - (j + 1)) + 1 by omega, List.take_succ_cons]
  congr 1
  simp [List.getD, show j < b.length by omega]
theorem cut_snoc (b : List UInt8) (j m : Nat) (h : j ≤ m) (hm : m < b.length) : cut b j (m + 1) = cut b j m ++ [b.getD m 0] := by
  unfold cut
  rw [show m + 1 - j = (m - j) + 1 by omega, List.take_succ_eq_append_getElem (by rw [List.length_drop]; omega)]
  congr 2
  rw [List.getElem_drop]
  simp [List.getD, hm, show j + (m - j) = m by omega]
theorem cut_roll (b : List UInt8) (j z : Nat) (hz : 1 ≤ z) (h : j + z < b.length) : cut b j (j + z) = b.getD j 0 :: cut b (j + 1) (j + z) ∧ cut b (j + 1) (j + z) ++ [b.getD (j + z) 0] = cut b (j + 1) (j + 1 + z) := by
  refine ⟨cut_cons b j (j + z) (by omega) (by omega), ?_⟩
  rw [show j + 1 + z = (j + z) + 1 by omega, cut_snoc b (j + 1) (j + z) (by omega) h]
theorem cut_end (b : List UInt8) (frm n : Nat) (hn : n = b.length) : cut b frm n = b.drop frm := by
  subst hn
  unfold cut
  rw [List.take_of_length_le (by rw [List.length_drop]; exact Nat.le_refl _)]
theorem fin_small (b : List UInt8) (out : List O) (frm : Nat) (h : out.length < 4096) : fin b (out, frm) = out ++ whole (b.drop frm) := by
  unfold fin
  have := whole_len (b.drop frm)
  rw [if_neg (by simp; omega)]
theorem IsF.cells {w : World} {base g : Nat} {A : Option Addr} {n c frm : Nat} {L : List Ow} (h : IsF w base g A n c frm L) : ∃ A2 N c2, w.cell? ⟨g, 2, none⟩ = some (.slice A2 N c2) ∧ N = L.length ∧ OwnO w base (.slice A2 N c2) L := by
  obtain ⟨_, u, hB, ho⟩ := h
  obtain ⟨A2, c2, e, -⟩ := ho.opens
  subst e
  exact ⟨A2, _, c2, by rw [Blk.cell hB]; rfl, rfl, ho⟩
theorem readB_cut {w : World} {B bb o i z : Nat} {b : List UInt8} (h : ReadB w B (some ⟨bb, o, none⟩) b) : ReadB w B (some ⟨bb, o + i, none⟩) (cut b i (i + z)) := (h.drop i).take _
theorem isF_new (w : World) (A : Option Addr) (n c : Nat) : IsF (w.alloc (.cells #[.slice A n c, .int .i64 0, .slice none 0 0] 64)) w.heap.size w.heap.size A n c 0 [] :=
  ⟨Nat.le_refl _, _, heap_alloc_new w _, OwnO.nil⟩
set_option maxRecDepth 100000 in
set_option maxHeartbeats 16000000 in
theorem search_calls (z : Nat) (l : List Sg) (gx : Nat) (b : List UInt8) (A : Option Addr) (n c : Nat) (w : World) (hX : IsX w gx z l) (hz : 1 ≤ z ∧ z ≤ 4096) (hl : l.length ≤ 4096) (hwf : ∀ s ∈ l, WfS s) (hr : ReadB w w.heap.size A b) (hn : n = b.length) (hc : n ≤ c) (hcm : c ≤ 9223372036854775807) (hbl : n ≤ 1500) (htab : Tab w) :
    Calls Tryd.prog 13 #[.pointer (some ⟨gx, 0, none⟩), .slice A n c] w fun e w' => ∃ v M, e = .returned v ∧ OwnO w' w.heap.size v M ∧ ops M = search (findB z l) z b ∧ Below w.heap.size w w' := by
  have hFw := fun x hx h => find_weak z l x hx h
  have hFb := fun x => find_bd z l x hz.2 hl
  have hFc : ∀ (w' : World) (x : List UInt8) (A' : Option Addr) (c' : Nat), x.length = z → IsX w' gx z l → ReadB w' w'.heap.size A' x → z ≤ c' → c' ≤ 9223372036854775807 → Tab w' → Calls Tryd.prog 34 #[.pointer (some ⟨gx, 0, none⟩), .slice A' z c'] w' fun e w'' => e = .returned (.tuple #[.int .i64 (findB z l x).1, .bool (findB z l x).2]) ∧ Below w'.heap.size w' w'' := by
    intro w' x A' c' hx hX' hr' h1 h2 ht
    have := find_calls w' gx z l hX' hz.2 hl hwf x A' c' hr' (by omega) h2 (by omega) ht
    rwa [hx] at this
  have hWc := fun w' h x hx => weak_calls w' gx z l h x hx
  obtain ⟨F, hF⟩ : ∃ F, F = findB z l := ⟨_, rfl⟩
  rw [← hF] at hFw hFb hFc ⊢
  obtain ⟨R, hR⟩ : ∃ R, R = srch F z b (b.length + 1) [] 0 0 := ⟨_, rfl⟩
  have hse : search F z b = fin b R := by rw [hR]; rfl
  obtain ⟨i0, hi0⟩ := isByte_of Cl.info5
  have HFw := Lib.hid hFw
  have HFb := Lib.hid hFb
  have HFc := Lib.hid hFc
  have HWc := Lib.hid hWc
  have HR := Lib.hid hR
  have Hse := Lib.hid hse
  have Hi0 := Lib.hid hi0
  have HX := Lib.hid hX
  have Hr := Lib.hid hr
  have Hn := Lib.hid hn
  have Htab := Lib.hid htab
  have HIF0 := Lib.hid (isF_new w A n c)
  have HX0 := Lib.hid (hX.below ((Below.refl w.heap.size w).alloc (Nat.le_refl _) (.cells #[.slice A n c, .int .i64 0, .slice none 0 0] 64)))
  have HB0 := Lib.hid ((Below.refl w.heap.size w).alloc (Nat.le_refl _) (.cells #[.slice A n c, .int .i64 0, .slice none 0 0] 64))
  clear hFw hFb hFc hWc hR hse hi0 hX hr hn htab hwf hF
  go_enter Tryd.func13, Tryd.ntmps13
  go_wp2_with fail
  go_step3
  go_wp2_with (go_at_call 30; refine (xsize_calls _ gx z l HX0.out).mono ?_; rintro e w1 ⟨rfl, rfl⟩)
  go_step3
  go_wp2_with fail
  go_loopg [7, 8, 9, 10] (n + 1) (fun q v7 v8 v9 v10 wr => ∃ (i frm : Nat) (L : List Ow), q = n + 1 - i ∧ v7 = .int .i64 (i : Int) ∧ frm ≤ i ∧ i ≤ n ∧ IsF wr w.heap.size w.heap.size A n c frm L ∧ Tm.rest F z b (ops L) frm i = R ∧ Small (ops L) frm ∧ L.length ≤ 2 * i ∧ Below w.heap.size w wr)
  case atStart => exact ⟨0, 0, [], by omega, rfl, Nat.le_refl _, by omega, HIF0.out, by rw [HR.out]; exact rest_zero F z b, fun x hx => absurd hx (by simp [ops]), by simp, HB0.out⟩
  case round =>
    obtain ⟨i, frm, L, hq, rfl, hfi, hin, hIF, hrest, hsm, hLl, hB⟩ := hrel
    have Hq := Lib.hid hq
    have HIF := Lib.hid hIF
    have Hrest := Lib.hid hrest
    have Hsm := Lib.hid hsm
    have HLl := Lib.hid hLl
    have HB := Lib.hid hB
    have Hfi := Lib.hid hfi
    clear hq hIF hrest hsm hLl hB hfi HIF0 HX0 HB0
    obtain ⟨wo, rfl⟩ : ∃ wo : World, wo = wr := ⟨_, rfl⟩
    by_cases hb : i + z ≤ n
    · have hlen : z = (cut b i (i + z)).length := by rw [cut_len b i (i + z) (by omega) (by have := Hn.out; omega)]; omega
      obtain ⟨bb, o, rfl, hbb, hcell⟩ := Hr.out (by have := Hn.out; omega)
      have hrd := Hr.out.below HB.out
      have hsl := fun w' => sl_lh (P := Tryd.prog) 22 5 i0 Tryd.underlying22 Hi0.out bb o n c (i : Int) ((i : Int) + (z : Int)) i z rfl rfl (by omega) (by omega) w'
      have hnew := Ro.new_calls (l := cut b i (i + z)) (A := some ⟨bb, o + i, none⟩) (n := z) (c := c - i) (w := wo) hlen (by rw [← hlen]; omega) ((readB_cut hrd).more HB.out.size) (by rw [← hlen]; omega)
      have Hnew := Lib.hid hnew
      have Hcell := Lib.hid hcell
      have Hbb := Lib.hid hbb
      clear hlen hrd hnew hcell hbb
      go_wp2_with fail
      refine Calls.mono Hnew.out ?_
      rintro e2 w2 ⟨gw, rfl, hW2, hb2⟩
      have HW2 := Lib.hid hW2
      have Hb2 := Lib.hid hb2
      clear hW2 hb2 hsl Hnew
      go_wp2_with fail
      go_loopg [7, 9, 10] (n + 1 - i) (fun q v7 v9 v10 wx => ∃ j : Nat, q = n + 1 - j ∧ v7 = .int .i64 (j : Int) ∧ i ≤ j ∧ j + z ≤ n ∧ IsW wx wo.heap.size gw (cut b j (j + z)) ∧ Tm.rest F z b (ops L) frm j = R ∧ Below wo.heap.size wo wx)
      case atStart => exact ⟨i, by omega, rfl, Nat.le_refl _, hb, HW2.out, Hrest.out, Hb2.out⟩
      case round =>
        obtain ⟨j, hq2, rfl, hij, hjz, hW, hrj, hBj⟩ := hrel
        obtain ⟨x, hx⟩ : ∃ x, x = cut b j (j + z) := ⟨_, rfl⟩
        rw [← hx] at hW
        have hxl : x.length = z := by rw [hx, cut_len b j (j + z) (by omega) (by have := Hn.out; omega)]; omega
        have hBw := HB.out.trans (hBj.mono HB.out.size)
        have hXj := HX.out.below hBw
        have hsum := wsum_calls hW
        obtain ⟨rs, hrs⟩ : ∃ rs, rs = rsum x := ⟨_, rfl⟩
        have hrl := rsum_lt x
        rw [← hrs] at hsum hrl
        have hwk := HWc.out wr hXj rs hrl
        obtain ⟨fo, hfo⟩ : ∃ fo, fo = hasWeak l rs := ⟨_, rfl⟩
        rw [← hfo] at hwk
        have hslj := fun w' => sl_lh (P := Tryd.prog) 22 5 i0 Tryd.underlying22 Hi0.out bb o n c (j : Int) ((j : Int) + (z : Int)) j z rfl rfl (by omega) (by omega) w'
        have hrdx : ReadB wr wr.heap.size (some ⟨bb, o + j, none⟩) x := by rw [hx]; exact ((readB_cut (Hr.out.below hBw)).more hBw.size)
        have hfc := HFc.out wr x (some ⟨bb, o + j, none⟩) (c - j) hxl hXj hrdx (by omega) (by omega) (Htab.out.below hBw)
        obtain ⟨fa, ff, hfx⟩ : ∃ fa ff, F x = (fa, ff) := ⟨_, _, rfl⟩
        have hfb := HFb.out x
        have hfw := HFw.out x hxl
        rw [← hrs, ← hfo] at hfw
        rw [hfx] at hfc hfb hfw
        simp only at hfb hfw hfc
        have hmiss : ff = false → j + z < n → Tm.rest F z b (ops L) frm (j + 1) = R := fun h1 h2 => by rw [← hrj]; exact (rest_miss F z b hz.1 (ops L) frm j (by have := Hn.out; omega) (by rw [← hx, hfx]; exact h1)).symm
        have hmissE : ff = false → ¬ j + z < n → R = (ops L, frm) := fun h1 h2 => by rw [← hrj, rest_miss F z b hz.1 (ops L) frm j (by have := Hn.out; omega) (by rw [← hx, hfx]; exact h1), rest_end F z b (ops L) frm (j + 1) (by have := Hn.out; omega)]
        have hhit : ff = true → Tm.rest F z b (Tm.put1 z b (ops L) frm j fa) (j + z) (j + z) = R := fun h1 => by
          have h2 := rest_hit F z b hz.1 (ops L) frm j (by have := Hn.out; omega) (by rw [← hx, hfx]; exact h1)
          rw [← hx, hfx, hrj] at h2
          exact h2.symm
        have HIFj := Lib.hid (HIF.out.below hBj)
        have Hq2 := Lib.hid hq2
        have HBw := Lib.hid hBw
        have HBj := Lib.hid hBj
        have Hsum := Lib.hid hsum
        have Hwk := Lib.hid hwk
        have Hfc := Lib.hid hfc
        have Hmiss := Lib.hid hmiss
        have HmissE := Lib.hid hmissE
        have Hhit := Lib.hid hhit
        have HWj := Lib.hid hW
        have Hfw := Lib.hid hfw
        have Hx := Lib.hid hx
        have Hij := Lib.hid hij
        clear hq2 hBw hBj hsum hwk hfc hmiss hmissE hhit hW hfw hx hfx hrs hfo hrj hrdx hXj hxl hrl HW2 Hb2 hij
        have ARMS : True := trivial
        cases fo with
        | false =>
          have HIq := HIFj
          have HBq := HBw
          have HWq := HWj
          have HBqj := HBj
          have hf0 := (show ff = false by first | exact Hfw.out rfl | exact Hfw.out trivial)
          by_cases hend : j + z < n
          · have hroll := cut_roll b j z hz.1 (by have := Hn.out; omega)
            have t2 : decide ((n : Int) ≤ (j : Int) + (z : Int)) = false := decide_eq_false (by omega)
            have t3 : decide (n ≤ j + z) = false := decide_eq_false (by omega)
            have t4 : ¬ (n : Int) ≤ (j : Int) + (z : Int) := by omega
            have t5 : ¬ n ≤ j + z := by omega
            have hwx := HWq.out
            rw [Hx.out, hroll.1] at hwx
            obtain ⟨y, hy⟩ : ∃ y, y = b.getD (j + z) 0 := ⟨_, rfl⟩
            have hrc := Ro.roll_calls hwx y (by have := congrArg List.length hroll.1; rw [List.length_cons, cut_len b j (j + z) (by omega) (by have := Hn.out; omega)] at this; omega)
            rw [hy, hroll.2] at hrc
            have hcy : wr.cell? ⟨bb, o + (j + z), none⟩ = some (.int .u8 (y.toNat : Int)) := by
              rw [hy]
              exact (HBq.out.cell (p := ⟨bb, o + (j + z), none⟩) Hbb.out).trans (Hcell.out (j + z) (by have := Hn.out; omega))
            rw [← hy] at hrc
            have Hrc := Lib.hid hrc
            have Hm := Lib.hid (show Tm.rest F z b (ops L) frm (j + 1) = R by first | exact Hmiss.out hf0 hend | exact Hmiss.out trivial hend)
            clear hroll hwx hy hrc
            go_wp2_with (first
              | (go_at_call 33; refine Hsum.out.mono ?_; rintro e3 w3 ⟨rfl, rfl⟩)
              | (go_at_call 32; refine Hwk.out.mono ?_; rintro e3 w3 ⟨rfl, rfl⟩))
            refine Calls.mono Hrc.out ?_
            rintro e5 w5 ⟨rfl, hW5, hb5⟩
            have HW5 := Lib.hid hW5
            have Hb5 := Lib.hid (HBqj.out.trans hb5)
            clear hW5 hb5 hcy
            go_wp2_with fail
            go_roundg (n + 1 - (j + 1))
            case rel => exact ⟨j + 1, rfl, by first | rfl | simp, by have := Hij.out; omega, by omega, HW5.out, Hm.out, Hb5.out⟩
            case measure => have := Hq2.out; omega
          · have t2 : decide ((n : Int) ≤ (j : Int) + (z : Int)) = true := decide_eq_true (by omega)
            have HRE := Lib.hid (show R = (ops L, frm) by first | exact HmissE.out hf0 hend | exact HmissE.out trivial hend)
            have HE := HIq
            have HBE := HBq
            have hlit := literal_calls HE.out b Hn.out (by omega) hcm (Hr.out.below HBE.out) (by omega) n (by have := Hfi.out; omega) (Nat.le_refl _) (by have := HLl.out; omega)
            have Hlit := Lib.hid hlit
            clear hlit
            go_wp2_with (first
              | (go_at_call 33; refine Hsum.out.mono ?_; rintro e3 w3 ⟨rfl, rfl⟩)
              | (go_at_call 32; refine Hwk.out.mono ?_; rintro e3 w3 ⟨rfl, rfl⟩))
            refine Calls.mono Hlit.out ?_
            rintro e9 w9 ⟨rfl, M, hI9, hM9, hb9⟩
            have hml : M.length ≤ 1 := by rw [← ops_len, hM9]; exact whole_len _
            obtain ⟨A9, N9, c9, hc9, hN9, ho9⟩ := hI9.cells
            have hN4 : N9 ≤ 4096 := by rw [hN9, List.length_append]; have := HLl.out; omega
            have HO9 := Lib.hid ho9
            have HB9 := Lib.hid (HBE.out.trans hb9)
            have Hfin : Hid (ops (L ++ M) = search F z b) := Lib.hid (by rw [Hse.out, HRE.out, fin_small b (ops L) frm (by rw [ops_len]; have := HLl.out; omega), ops_app, hM9, cut_end b frm n Hn.out])
            clear hI9 hM9 hb9 hml hN9 ho9
            have t9 : decide (4096 < (N9 : Int)) = false := decide_eq_false (by omega)
            go_wp2_with fail
            try rw [Exit.noGoto_ret]
            go_ret
            exact ⟨_, L ++ M, rfl, HO9.out, Hfin.out, HB9.out⟩
        | true =>
          go_wp2_with (first
            | (go_at_call 33; refine Hsum.out.mono ?_; rintro e3 w3 ⟨rfl, rfl⟩)
            | (go_at_call 32; refine Hwk.out.mono ?_; rintro e3 w3 ⟨rfl, rfl⟩))
          refine Calls.mono Hfc.out ?_
          rintro e4 w4 ⟨rfl, hb4⟩
          have hb4' := hb4
          have HIq := Lib.hid (HIFj.out.below hb4)
          have HBq := Lib.hid (HBw.out.trans (hb4.mono HBw.out.size))
          have HWq := Lib.hid (HWj.out.below hb4)
          have HBqj := Lib.hid (HBj.out.trans (hb4.mono HBj.out.size))
          clear hb4 hb4' hslj
          cases ff with
          | false =>
            have hf0 := (rfl : false = false)
            by_cases hend : j + z < n
            · have hroll := cut_roll b j z hz.1 (by have := Hn.out; omega)
              have t2 : decide ((n : Int) ≤ (j : Int) + (z : Int)) = false := decide_eq_false (by omega)
              have t3 : decide (n ≤ j + z) = false := decide_eq_false (by omega)
              have t4 : ¬ (n : Int) ≤ (j : Int) + (z : Int) := by omega
              have t5 : ¬ n ≤ j + z := by omega
              have hwx := HWq.out
              rw [Hx.out, hroll.1] at hwx
              obtain ⟨y, hy⟩ : ∃ y, y = b.getD (j + z) 0 := ⟨_, rfl⟩
              have hrc := Ro.roll_calls hwx y (by have := congrArg List.length hroll.1; rw [List.length_cons, cut_len b j (j + z) (by omega) (by have := Hn.out; omega)] at this; omega)
              rw [hy, hroll.2] at hrc
              have hcy : w4.cell? ⟨bb, o + (j + z), none⟩ = some (.int .u8 (y.toNat : Int)) := by
                rw [hy]
                exact (HBq.out.cell (p := ⟨bb, o + (j + z), none⟩) Hbb.out).trans (Hcell.out (j + z) (by have := Hn.out; omega))
              rw [← hy] at hrc
              have Hrc := Lib.hid hrc
              have Hm := Lib.hid (show Tm.rest F z b (ops L) frm (j + 1) = R by first | exact Hmiss.out hf0 hend | exact Hmiss.out trivial hend)
              clear hroll hwx hy hrc
              go_wp2_with fail
              refine Calls.mono Hrc.out ?_
              rintro e5 w5 ⟨rfl, hW5, hb5⟩
              have HW5 := Lib.hid hW5
              have Hb5 := Lib.hid (HBqj.out.trans hb5)
              clear hW5 hb5 hcy
              go_wp2_with fail
              go_roundg (n + 1 - (j + 1))
              case rel => exact ⟨j + 1, rfl, by first | rfl | simp, by have := Hij.out; omega, by omega, HW5.out, Hm.out, Hb5.out⟩
              case measure => have := Hq2.out; omega
            · have t2 : decide ((n : Int) ≤ (j : Int) + (z : Int)) = true := decide_eq_true (by omega)
              have HRE := Lib.hid (show R = (ops L, frm) by first | exact HmissE.out hf0 hend | exact HmissE.out trivial hend)
              have HE := HIq
              have HBE := HBq
              have hlit := literal_calls HE.out b Hn.out (by omega) hcm (Hr.out.below HBE.out) (by omega) n (by have := Hfi.out; omega) (Nat.le_refl _) (by have := HLl.out; omega)
              have Hlit := Lib.hid hlit
              clear hlit
              go_wp2_with fail
              refine Calls.mono Hlit.out ?_
              rintro e9 w9 ⟨rfl, M, hI9, hM9, hb9⟩
              have hml : M.length ≤ 1 := by rw [← ops_len, hM9]; exact whole_len _
              obtain ⟨A9, N9, c9, hc9, hN9, ho9⟩ := hI9.cells
              have hN4 : N9 ≤ 4096 := by rw [hN9, List.length_append]; have := HLl.out; omega
              have HO9 := Lib.hid ho9
              have HB9 := Lib.hid (HBE.out.trans hb9)
              have Hfin : Hid (ops (L ++ M) = search F z b) := Lib.hid (by rw [Hse.out, HRE.out, fin_small b (ops L) frm (by rw [ops_len]; have := HLl.out; omega), ops_app, hM9, cut_end b frm n Hn.out])
              clear hI9 hM9 hb9 hml hN9 ho9
              have t9 : decide (4096 < (N9 : Int)) = false := decide_eq_false (by omega)
              go_wp2_with fail
              try rw [Exit.noGoto_ret]
              go_ret
              exact ⟨_, L ++ M, rfl, HO9.out, Hfin.out, HB9.out⟩
          | true =>
            have hcp := copied_calls HIq.out b Hn.out (by omega) hcm (Hr.out.below HBq.out) (by omega) j z fa (by have := Hfi.out; have := Hij.out; omega) hjz (by have := HLl.out; omega) hfb Hsm.out
            have Hcp := Lib.hid hcp
            clear hcp
            go_wp2_with fail
            refine Calls.mono Hcp.out ?_
            rintro e5 w5 ⟨rfl, L5, hI5, hL5, hb5⟩
            have hs5 : Small (ops L5) (j + z) := by rw [hL5]; exact Hsm.out.put1 (by have := Hfi.out; have := Hij.out; omega) hfb
            have hl5 : L5.length ≤ 2 * (j + z) := by
              have h1 := put1_len (z := z) (b := b) (out := ops L) (frm := frm) (i := j) (a := fa)
              rw [← hL5, ops_len, ops_len] at h1
              have := HLl.out; have := Hij.out; omega
            have hr5 : Tm.rest F z b (ops L5) (j + z) (j + z) = R := by rw [hL5]; first | exact Hhit.out rfl | exact Hhit.out trivial
            have HI5 := Lib.hid hI5
            have Hs5 := Lib.hid hs5
            have Hl5 := Lib.hid hl5
            have Hr5 := Lib.hid hr5
            have HB5 := Lib.hid (HBq.out.trans hb5)
            clear hI5 hL5 hb5 hs5 hl5 hr5
            go_wp2_with fail
            go_roundg (n + 1 - (j + z))
            case rel => exact ⟨j + z, j + z, L5, rfl, by first | rfl | simp, Nat.le_refl _, hjz, HI5.out, Hr5.out, Hs5.out, Hl5.out, HB5.out⟩
            case measure => have := Hq.out; have := Hij.out; omega
    · have t1 : decide ((i : Int) + (z : Int) ≤ (n : Int)) = false := decide_eq_false (by omega)
      have HRE : Hid (R = (ops L, frm)) := Lib.hid (by rw [← Hrest.out]; exact rest_end F z b (ops L) frm i (by have := Hn.out; omega))
      have HE := HIF
      have HBE := HB
      have hlit := literal_calls HE.out b Hn.out (by omega) hcm (Hr.out.below HBE.out) (by omega) n (by have := Hfi.out; omega) (Nat.le_refl _) (by have := HLl.out; omega)
      have Hlit := Lib.hid hlit
      clear hlit
      go_wp2_with fail
      refine Calls.mono Hlit.out ?_
      rintro e9 w9 ⟨rfl, M, hI9, hM9, hb9⟩
      have hml : M.length ≤ 1 := by rw [← ops_len, hM9]; exact whole_len _
      obtain ⟨A9, N9, c9, hc9, hN9, ho9⟩ := hI9.cells
      have hN4 : N9 ≤ 4096 := by rw [hN9, List.length_append]; have := HLl.out; omega
      have HO9 := Lib.hid ho9
      have HB9 := Lib.hid (HBE.out.trans hb9)
      have Hfin : Hid (ops (L ++ M) = search F z b) := Lib.hid (by rw [Hse.out, HRE.out, fin_small b (ops L) frm (by rw [ops_len]; have := HLl.out; omega), ops_app, hM9, cut_end b frm n Hn.out])
      clear hI9 hM9 hb9 hml hN9 ho9
      have t9 : decide (4096 < (N9 : Int)) = false := decide_eq_false (by omega)
      go_wp2_with fail
      try rw [Exit.noGoto_ret]
      go_ret
      exact ⟨_, L ++ M, rfl, HO9.out, Hfin.out, HB9.out⟩
end Ms
end Go.Proofs.YtiofkhjpknfkgaaDoor
/- The first state and the round words, of the document's answer. -/
namespace Go.Proofs.YtiofkhjpknfkgaaDoor
namespace Sm
open Go.RowKit Ba
set_option linter.unusedVariables false
attribute [local go_sem] U_add U_add' U_xor U_and U_or U_of_u8 U_shr3 U_shr10 U_shl8 U_shl16 U_shl24 U_not U_not'
set_option maxRecDepth 100000 in
set_option maxHeartbeats 1000000 in
theorem rfirst_calls (w : World) : Calls Tryd.prog 62 #[] w fun e w' => e = .returned (.agg (wvs first).toArray) ∧ Below w.heap.size w w' := by
  go_enter Tryd.func62, Tryd.ntmps62
  go_wp2_with (refine wpList_storeW rfl 105 (.tmp 0) (.tmp 1) rfl w.heap.size 105 (List.replicate 8 0) first rfl rfl (BlkW.new_ _ _ _ _ _ (by rfl) (by rfl)) (by rfl) (by kernel_rfl) ?_; intro w2 hW2 hg2)
  refine bodyPost_ret (results_cell_row (p := 0) (ty := 105) (by kernel_rfl) _ w2 w.heap.size 105 (wvs first).toArray (0, 0) _ rfl hW2 Tryd.underlying105 rfl (by kernel_rfl)) rfl ⟨rfl, ?_⟩
  exact only_after ((Below.refl _ _).alloc (Nat.le_refl _) _) hg2 (Nat.le_refl _)
set_option maxRecDepth 100000 in
set_option maxHeartbeats 1000000 in
theorem rwords_calls (w : World) : Calls Tryd.prog 63 #[] w fun e w' => e = .returned (.agg (wvs rounds).toArray) ∧ Below w.heap.size w w' := by
  go_enter Tryd.func63, Tryd.ntmps63
  go_wp2_with (refine wpList_storeW rfl 108 (.tmp 0) (.tmp 1) rfl w.heap.size 108 (List.replicate 64 0) rounds rfl rfl (BlkW.new_ _ _ _ _ _ (by rfl) (by rfl)) (by rfl) (by kernel_rfl) ?_; intro w2 hW2 hg2)
  refine bodyPost_ret (results_cell_row (p := 0) (ty := 108) (by kernel_rfl) _ w2 w.heap.size 108 (wvs rounds).toArray (0, 0) _ rfl hW2 Tryd.underlying108 rfl (by kernel_rfl)) rfl ⟨rfl, ?_⟩
  exact only_after ((Below.refl _ _).alloc (Nat.le_refl _) _) hg2 (Nat.le_refl _)
end Sm
end Go.Proofs.YtiofkhjpknfkgaaDoor
/- A block of 64 bytes is worked into the state, of the document's answer. -/
namespace Go.Proofs.YtiofkhjpknfkgaaDoor
namespace Sm
open Go.RowKit Ba
set_option linter.unusedVariables false
attribute [local go_sem] U_add U_add' U_xor U_and U_or U_of_u8 U_shr3 U_shr10 U_shl8 U_shl16 U_shl24 U_not U_not'
set_option maxRecDepth 100000 in
set_option maxHeartbeats 2000000 in
theorem rblock_calls (s : List UInt32) (hs : s.length = 8) (b : List UInt8) (hb : b.length = 64) (A : Option Addr) (c : Nat) (w : World) (hr : ReadB w w.heap.size A b) :
    Calls Tryd.prog 64 #[.agg (wvs s).toArray, .slice A 64 c, .agg (wvs rounds).toArray] w
    fun e w' => e = .returned (.agg (wvs (block s b)).toArray) ∧ Below w.heap.size w w' := by
  obtain ⟨ab, ao, rfl, hab, hcell⟩ := hr (by omega)
  have Hcell := Lib.hid hcell
  have Hs := Lib.hid hs
  obtain ⟨RA, hRA⟩ : ∃ RA, RA = (wvs rounds).toArray := ⟨_, rfl⟩
  obtain ⟨SA, hSA⟩ : ∃ SA, SA = (wvs s).toArray := ⟨_, rfl⟩
  have HRA := Lib.hid hRA
  have HSA := Lib.hid hSA
  rw [← hRA, ← hSA]
  clear hcell hr hs hRA hSA
  go_enter Tryd.func64, Tryd.ntmps64
  go_wp2_with fail
  obtain ⟨n0, hn0⟩ : ∃ n0, n0 = w.heap.size := ⟨_, rfl⟩
  rw [← hn0]
  have Hn0 := Lib.hid hn0
  clear hn0
  generalize hg7 : n0 + 1 + 1 + 1 = g7
  generalize hg6 : n0 + 1 + 1 = g6
  generalize hg5 : n0 + 1 = g5
  have Hg : Hid (g5 = n0 + 1 ∧ g6 = n0 + 2 ∧ g7 = n0 + 3) := Lib.hid ⟨hg5.symm, hg6.symm, hg7.symm⟩
  clear hg5 hg6 hg7
  go_loopw [8, 9, 10] (fun i _ _ wr => ∃ k : Nat, k ≤ 64 ∧ i = .int .i64 k ∧ BlkW wr g7 108 (xp b k) ∧ BlkW wr n0 105 s ∧ BlkW wr g5 108 rounds ∧ BlkW wr g6 105 (List.replicate 8 0) ∧ Below n0 w wr) (fun i _ _ _ => 64 - (intOf i).toNat)
  case atStart =>
    obtain ⟨e5, e6, e7⟩ := Hg.out
    rw [HRA.out, HSA.out, e5, e6, e7]
    refine ⟨0, Nat.zero_le _, rfl, BlkW.new_ _ _ _ _ _ (by simp [Hn0.out]) (by rfl), ?_, ?_, ?_, ?_⟩
    · exact BlkW.alloc (BlkW.alloc (BlkW.alloc (BlkW.new_ _ _ _ _ _ Hn0.out rfl) _) _) _
    · exact BlkW.alloc (BlkW.alloc (BlkW.new_ _ _ _ _ _ (by simp [Hn0.out]) rfl) _) _
    · exact BlkW.alloc (BlkW.new_ _ _ _ _ _ (by simp [Hn0.out]) (by rfl)) _
    · exact (((((Below.refl _ _).alloc (by rw [Hn0.out]; exact Nat.le_refl _) _).alloc (by simp [Hn0.out]) _).alloc (by simp [Hn0.out]; omega) _).alloc (by simp [Hn0.out]; omega) _)
  case round =>
    obtain ⟨k, hk, rfl, hX, hB3, hB5, hB6, hbel⟩ := hrel
    have HX := Lib.hid hX
    have HB3 := Lib.hid hB3
    have HB5 := Lib.hid hB5
    have HB6 := Lib.hid hB6
    have Hbel := Lib.hid hbel
    have hfk := hX.frozen k
    clear hX hB3 hB5 hB6 hbel
    by_cases hkl : k < 64
    · have hck := HX.out.cell k (by rw [xp_len b k hk]; exact hkl)
      by_cases h16 : k < 16
      · have y0 := (Hbel.out.cell (p := ⟨ab, ao + (4 * k), none⟩) (by rw [Hn0.out]; exact hab)).trans (Hcell.out (4 * k) (by omega))
        have y1 := (Hbel.out.cell (p := ⟨ab, ao + (4 * k + 1), none⟩) (by rw [Hn0.out]; exact hab)).trans (Hcell.out (4 * k + 1) (by omega))
        have y2 := (Hbel.out.cell (p := ⟨ab, ao + (4 * k + 2), none⟩) (by rw [Hn0.out]; exact hab)).trans (Hcell.out (4 * k + 2) (by omega))
        have y3 := (Hbel.out.cell (p := ⟨ab, ao + (4 * k + 3), none⟩) (by rw [Hn0.out]; exact hab)).trans (Hcell.out (4 * k + 3) (by omega))
        obtain ⟨z0, hz0⟩ : ∃ z, z = b.getD (4 * k) 0 := ⟨_, rfl⟩
        obtain ⟨z1, hz1⟩ : ∃ z, z = b.getD (4 * k + 1) 0 := ⟨_, rfl⟩
        obtain ⟨z2, hz2⟩ : ∃ z, z = b.getD (4 * k + 2) 0 := ⟨_, rfl⟩
        obtain ⟨z3, hz3⟩ : ∃ z, z = b.getD (4 * k + 3) 0 := ⟨_, rfl⟩
        rw [← hz0] at y0
        rw [← hz1] at y1
        rw [← hz2] at y2
        rw [← hz3] at y3
        have Hz := Lib.hid (And.intro hz0 (And.intro hz1 (And.intro hz2 hz3)))
        clear hz0 hz1 hz2 hz3
        go_wp2_with fail
        go_region
        go_wp2
        go_roundw
        case rel =>
          obtain ⟨e5, e6, e7⟩ := Hg.out
          refine ⟨k + 1, by omega, by go_num, ?_, (HB3.out.far (by simp; omega) _).drew, (HB5.out.far (by simp; omega) _).drew, (HB6.out.far (by simp; omega) _).drew, (Hbel.out.setCell (by simp; omega) _).drew⟩
          obtain ⟨rfl, rfl, rfl, rfl⟩ := Hz.out
          have := HX.out.set_ k (be b (4 * k))
          rw [xp_lo_set b k h16] at this
          exact this
        case measure => simp [intOf]; omega
      · have h16' : 16 ≤ k := by omega
        have hc15 := HX.out.cell (k - 15) (by rw [xp_len b k hk]; omega)
        have hc2 := HX.out.cell (k - 2) (by rw [xp_len b k hk]; omega)
        have hc16 := HX.out.cell (k - 16) (by rw [xp_len b k hk]; omega)
        have hc7 := HX.out.cell (k - 7) (by rw [xp_len b k hk]; omega)
        rw [xp_at b k _ h16' (by omega)] at hc15 hc2 hc16 hc7
        obtain ⟨ww, hww⟩ : ∃ ww, ww = wl b k := ⟨_, rfl⟩
        rw [← hww] at hc15 hc2 hc16 hc7
        have Hww := Lib.hid hww
        clear hww
        go_wp2_with fail
        go_quiet (fail)
        go_wp2_with fail
        have a1 : ((k : Int) - 16).toNat = k - 16 := by omega
        have a2 : ((k : Int) - 7).toNat = k - 7 := by omega
        have a3 : (0 : Int) ≤ (k : Int) - 16 := by omega
        have a4 : (0 : Int) ≤ (k : Int) - 7 := by omega
        have a5 : (k : Int) - 16 < 64 := by omega
        have a6 : (k : Int) - 7 < 64 := by omega
        have a7 : IntKind.i64.wrap ((k : Int) - 16) = (k : Int) - 16 := IntWalk.i64_in _ (by omega)
        have a8 : IntKind.i64.wrap ((k : Int) - 7) = (k : Int) - 7 := IntWalk.i64_in _ (by omega)
        have a9 : (7 : Int) ≤ (k : Int) := by clear a7 a8; omega
        have a10 : (k : Int) < 71 := by clear a7 a8; omega
        refine CanL.region (fun w' => w'.cell? ⟨g7, k - 16, none⟩ = some (.int .u32 (U (Sm.g ww (k - 16)))) ∧ w'.cell? ⟨g7, k - 7, none⟩ = some (.int .u32 (U (Sm.g ww (k - 7))))) 29 [(0, 2), (1, 2), (2, 2), (3, 2), (4, 1), (5, 2), (7, 2), (10, 2), (11, 2), (14, 2), (15, 2), (16, 2), (17, 1), (19, 2), (21, 2), (24, 2), (25, 2), (6, 0), (8, 0), (9, 2), (12, 2), (13, 2), (18, 2), (20, 0), (22, 0), (23, 2), (26, 2), (27, 2), (28, 2), (29, 0)] (by kernel_rfl) (by kernel_rfl) ⟨hc16, hc7⟩ ?_
        repeat (first | (refine CanL.skip rfl ?_ (fun K hK => ?_); (focus (go_simp; done)); go_simp; refine hK _ ?_; clear hK K) | (refine CanL.pur rfl ?_ ?_; (focus (go_simp; done)); refine ⟨?_, ?_, ?_⟩; rotate_left; (focus (intro w'; go_simp; rfl)); (focus (intro K hK; go_simp; refine hK _ ?_; clear hK K))) | (refine CanL.held rfl ?_ ?_; (focus (go_simp; done)); refine ⟨?_, ?_, ?_⟩; rotate_left; (focus (intro w' hS'; (try dsimp only at hS'); go_simp; rfl)); (focus (intro K hK; go_simp; refine hK _ ?_; clear hK K))) | (refine CanL.last rfl (fun K hK => ?_); go_simp; refine hK.out _ _ ?_; clear hK K) | (refine CanL.imp rfl (fun K hK => ?_); go_simp; (first | (go_at_call 77; refine (turn_any _ _ (by decide) _).mono ?_; rintro e w4 ⟨rfl, k4, rfl⟩)); go_simp; refine hK.out _ _ (⟨hc16, hc7⟩) ?_; clear hK K))
        refine CanL.done ?_
        clear a1 a2 a3 a4 a5 a6 a7 a8 a9 a10
        go_wp2
        go_roundw
        case rel =>
          obtain ⟨e5, e6, e7⟩ := Hg.out
          refine ⟨k + 1, by omega, by go_num, ?_, ((HB3.out.drewN _).far (by simp; omega) _), ((HB5.out.drewN _).far (by simp; omega) _), ((HB6.out.drewN _).far (by simp; omega) _), ((below_drewN Hbel.out _).setCell (by simp; omega) _)⟩
          have key : ∀ N, BlkW ((wr.drewN N).setCell ⟨g7, k, none⟩ (.int .u32 (U (nextW ww k)))) g7 108 (xp b (k + 1)) := by
            intro N
            have := (HX.out.drewN N).set_ k (nextW (wl b k) k)
            rw [xp_hi_set b k h16' hkl, ← Hww.out] at this
            exact this
          exact key _
        case measure => simp [intOf]; omega
    · have hk64 : k = 64 := by omega
      have hX := HX.out
      rw [hk64, xp_64] at hX
      obtain ⟨ws, hws⟩ : ∃ ws, ws = sched b := ⟨_, rfl⟩
      rw [← hws] at hX
      have hwl : ws.length = 64 := by rw [hws, ← spart64]; exact spart_len b 64 (by omega) (by omega)
      have Hws := Lib.hid hws
      have HX := Lib.hid hX
      have Hwl := Lib.hid hwl
      clear hX hws hwl hk64 hfk hk
      go_wp2_with (first
        | (refine wpList_loadW rfl 105 (.tmp 3) rfl n0 105 s rfl HB3.out _ Tryd.underlying105 rfl (by rw [Hs.out]; kernel_rfl) ?_)
        | (refine wpList_storeW rfl 105 (.tmp 11) (.tmp 96) rfl wr.heap.size 105 (List.replicate 8 0) s rfl rfl (BlkW.new_ _ _ _ _ _ (by rfl) (by rfl)) (by rw [Hs.out]; rfl) (by rw [Hs.out]; kernel_rfl) ?_; intro w3 hV3 hg3))
      have hgl : ∀ g, g < wr.heap.size → some g ≠ some wr.heap.size := fun g h => by simp; omega
      have q3 := BlkW.grown (BlkW.alloc HB3.out _) hg3 (hgl _ HB3.out.lt)
      have q5 := BlkW.grown (BlkW.alloc HB5.out _) hg3 (hgl _ HB5.out.lt)
      have q6 := BlkW.grown (BlkW.alloc HB6.out _) hg3 (hgl _ HB6.out.lt)
      have q7 := BlkW.grown (BlkW.alloc HX.out _) hg3 (hgl _ HX.out.lt)
      have hns : n0 ≤ wr.heap.size := by have := Hbel.out.size; rw [← Hn0.out] at this; exact this
      have qb : Below n0 w w3 := (Hbel.out.alloc hns _).trans (below_of_only hg3 hns (by simp; omega))
      have hlt7 : g7 < wr.heap.size := HX.out.lt
      obtain ⟨g11, hg11⟩ : ∃ g11, g11 = wr.heap.size := ⟨_, rfl⟩
      rw [← hg11] at hV3 hlt7 ⊢
      have Hlt7 := Lib.hid hlt7
      have HV3 := Lib.hid hV3
      have Hq3 := Lib.hid q3
      have Hq5 := Lib.hid q5
      have Hq6 := Lib.hid q6
      have Hq7 := Lib.hid q7
      have Hqb := Lib.hid qb
      clear hg11 hV3 q3 q5 q6 q7 qb hgl hns hlt7 hg3 HX HB3 HB5 HB6 Hbel
      obtain ⟨rt, hrt⟩ : ∃ rt, rt = rounds := ⟨_, rfl⟩
      have Hrt := Lib.hid hrt
      rw [← hrt] at Hq5
      have hrl : rt.length = 64 := by rw [hrt]; rfl
      have Hrl := Lib.hid hrl
      clear hrt hrl
      go_loopw [12, 13, 14, 15, 16] (fun i _ _ _ _ wx => ∃ k : Nat, k ≤ 64 ∧ i = .int .i64 k ∧ BlkW wx g11 105 (runK s ws k) ∧ BlkW wx g7 108 ws ∧ BlkW wx n0 105 s ∧ BlkW wx g5 108 rt ∧ BlkW wx g6 105 (List.replicate 8 0) ∧ Below n0 w wx) (fun i _ _ _ _ _ => 64 - (intOf i).toNat)
      case atStart => exact ⟨0, Nat.zero_le _, rfl, HV3.out, Hq7.out, Hq3.out, Hq5.out, Hq6.out, Hqb.out⟩
      case round =>
        obtain ⟨k, hk, rfl, hV, hX, hB3, hB5, hB6, hbel⟩ := hrel
        obtain ⟨v, hv⟩ : ∃ v, v = runK s ws k := ⟨_, rfl⟩
        have hvl : (runK s ws k).length = 8 := runK_len s ws k Hs.out
        rw [← hv] at hV hvl
        have Hv := Lib.hid hv
        have Hvl := Lib.hid hvl
        have HV := Lib.hid hV
        have HX := Lib.hid hX
        have HB3 := Lib.hid hB3
        have HB5 := Lib.hid hB5
        have HB6 := Lib.hid hB6
        have Hbel := Lib.hid hbel
        clear hv hV hX hB3 hB5 hB6 hbel
        by_cases hkl : k < 64
        · have hv0 := HV.out.cell 0 (by omega)
          have hv1 := HV.out.cell 1 (by omega)
          have hv2 := HV.out.cell 2 (by omega)
          have hv3 := HV.out.cell 3 (by omega)
          have hv4 := HV.out.cell 4 (by omega)
          have hv5 := HV.out.cell 5 (by omega)
          have hv6 := HV.out.cell 6 (by omega)
          have hv7 := HV.out.cell 7 (by omega)
          have hwk := HX.out.cell k (by rw [Hwl.out]; exact hkl)
          have hrk := HB5.out.cell k (by rw [Hrl.out]; exact hkl)
          have j1 : (0 : Int) ≤ (k : Int) := by omega
          have j2 : (k : Int) < 64 := by omega
          clear hvl
          go_wp2_with fail
          go_quiet (fail)
          go_wp2_with fail
          refine CanL.region (fun w' => w'.cell? ⟨g11, 7, none⟩ = some (.int .u32 (U (Sm.g v 7))) ∧ w'.cell? ⟨g11, 5, none⟩ = some (.int .u32 (U (Sm.g v 5))) ∧ w'.cell? ⟨g11, 6, none⟩ = some (.int .u32 (U (Sm.g v 6))) ∧ w'.cell? ⟨g7, k, none⟩ = some (.int .u32 (U (Sm.g ws k))) ∧ w'.cell? ⟨g5, k, none⟩ = some (.int .u32 (U (Sm.g rt k)))) 1000 [(0, 2), (1, 1), (2, 2), (4, 2), (7, 2), (11, 2), (12, 2), (13, 1), (14, 2), (15, 2), (16, 2), (17, 2), (18, 1), (19, 2), (20, 2), (22, 2), (23, 2), (24, 1), (26, 2), (27, 2), (28, 1), (3, 0), (5, 0), (6, 2), (8, 0), (9, 2), (10, 2), (21, 2), (25, 2), (29, 2), (30, 2)] (by kernel_rfl) (by kernel_rfl) ⟨hv7, hv5, hv6, hwk, hrk⟩ ?_
          repeat (first | (refine CanL.skip rfl ?_ (fun K hK => ?_); (focus (go_simp; done)); go_simp; refine hK _ ?_; clear hK K) | (refine CanL.pur rfl ?_ ?_; (focus (go_simp; done)); refine ⟨?_, ?_, ?_⟩; rotate_left; (focus (intro w'; go_simp; rfl)); (focus (intro K hK; go_simp; refine hK _ ?_; clear hK K))) | (refine CanL.held rfl ?_ ?_; (focus (go_simp; done)); refine ⟨?_, ?_, ?_⟩; rotate_left; (focus (intro w' hS'; (try dsimp only at hS'); go_simp; rfl)); (focus (intro K hK; go_simp; refine hK _ ?_; clear hK K))) | (refine CanL.last rfl (fun K hK => ?_); go_simp; refine hK.out _ _ ?_; clear hK K) | (refine CanL.imp rfl (fun K hK => ?_); go_simp; (first | (go_at_call 77; refine (turn_any _ _ (by decide) _).mono ?_; rintro e w4 ⟨rfl, k4, rfl⟩)); go_simp; refine hK.out _ _ (⟨hv7, hv5, hv6, hwk, hrk⟩) ?_; clear hK K))
          refine CanL.done ?_
          go_wp2_with fail
          refine CanL.region (fun w' => w'.cell? ⟨g11, 1, none⟩ = some (.int .u32 (U (Sm.g v 1))) ∧ w'.cell? ⟨g11, 2, none⟩ = some (.int .u32 (U (Sm.g v 2)))) 1000 [(0, 2), (2, 2), (5, 2), (8, 2), (9, 2), (10, 1), (11, 2), (12, 2), (13, 2), (14, 1), (15, 2), (16, 2), (17, 2), (18, 1), (19, 2), (20, 1), (21, 2), (22, 2), (1, 0), (3, 0), (4, 2), (6, 0), (7, 2), (23, 2), (24, 2)] (by kernel_rfl) (by kernel_rfl) ⟨hv1, hv2⟩ ?_
          repeat (first | (refine CanL.skip rfl ?_ (fun K hK => ?_); (focus (go_simp; done)); go_simp; refine hK _ ?_; clear hK K) | (refine CanL.pur rfl ?_ ?_; (focus (go_simp; done)); refine ⟨?_, ?_, ?_⟩; rotate_left; (focus (intro w'; go_simp; rfl)); (focus (intro K hK; go_simp; refine hK _ ?_; clear hK K))) | (refine CanL.held rfl ?_ ?_; (focus (go_simp; done)); refine ⟨?_, ?_, ?_⟩; rotate_left; (focus (intro w' hS'; (try dsimp only at hS'); go_simp; rfl)); (focus (intro K hK; go_simp; refine hK _ ?_; clear hK K))) | (refine CanL.last rfl (fun K hK => ?_); go_simp; refine hK.out _ _ ?_; clear hK K) | (refine CanL.imp rfl (fun K hK => ?_); go_simp; (first | (go_at_call 77; refine (turn_any _ _ (by decide) _).mono ?_; rintro e w4 ⟨rfl, k4, rfl⟩)); go_simp; refine hK.out _ _ (⟨hv1, hv2⟩) ?_; clear hK K))
          refine CanL.done ?_
          go_wp2_with (refine wpList_storeW rfl 105 (.tmp 11) (.tmp 178) rfl g11 105 v (roundR v (Sm.g rt k) (Sm.g ws k)) rfl rfl (HV.out.drewN _) (by rw [Hvl.out]; rfl) (by kernel_rfl) ?_; intro w5 hV5 hg5)
          go_roundw
          case rel =>
            have hg5 := undrewN hg5
            obtain ⟨e5, e6, e7⟩ := Hg.out
            have h7 := Hlt7.out
            refine ⟨k + 1, by omega, by go_num, ?_, HX.out.grown hg5 (by simp; omega), HB3.out.grown hg5 (by simp; omega), HB5.out.grown hg5 (by simp; omega), HB6.out.grown hg5 (by simp; omega), Hbel.out.trans (below_of_only hg5 (by omega) (by rw [Hn0.out]; exact Hbel.out.size))⟩
            rw [runK_succ s ws k Hwl.out hkl, ← Hv.out, ← Hrt.out, ← roundR_eq]
            exact hV5
          case measure => simp [intOf]; omega
        · have hk64 : k = 64 := by omega
          have hv := Hv.out
          rw [hk64, runK_all s ws Hwl.out, Hws.out] at hv
          have Hv2 := Lib.hid hv
          clear hk64 hv hk hvl
          go_wp2
          go_loopw [17] (fun i wx => ∃ k : Nat, k ≤ 8 ∧ i = .int .i64 k ∧ BlkW wx g11 105 v ∧ BlkW wx n0 105 (upd s v k) ∧ BlkW wx g6 105 (List.replicate 8 0) ∧ Below n0 w wx) (fun i _ => 8 - (intOf i).toNat)
          case atStart => exact ⟨0, Nat.zero_le _, rfl, HV.out, by rw [upd_0 s v Hs.out]; exact HB3.out, HB6.out, Hbel.out⟩
          case round =>
            obtain ⟨i, hi, rfl, hV, hB3, hB6, hbel⟩ := hrel
            by_cases hil : i < 8
            · have hvi := hV.cell i (by rw [Hvl.out]; exact hil)
              have hsi := hB3.cell i (by rw [upd_len]; exact hil)
              rw [upd_at s v i i hil, if_neg (by omega)] at hsi
              have hfi := hB3.frozen i
              have HV := Lib.hid hV
              have HB3 := Lib.hid hB3
              have HB6 := Lib.hid hB6
              have Hbel := Lib.hid hbel
              clear hV hB3 hB6 hbel
              go_wp2_with fail
              go_region
              go_wp2
              go_roundw
              case rel =>
                obtain ⟨e5, e6, e7⟩ := Hg.out
                have h7 := Hlt7.out
                refine ⟨i + 1, by omega, by go_num, (HV.out.far (by simp; omega) _).drew, ?_, (HB6.out.far (by simp; omega) _).drew, (Hbel.out.setCell (by simp) _).drew⟩
                have := HB3.out.set_ i (Sm.g s i + Sm.g v i)
                rw [upd_set s v i hil] at this
                exact this
              case measure => simp [intOf]; omega
            · have hi8 : i = 8 := by omega
              rw [hi8, Hv2.out, upd_8] at hB3
              obtain ⟨bl, hbl⟩ : ∃ bl, bl = block s b := ⟨_, rfl⟩
              have hbll : bl.length = 8 := by rw [hbl]; exact block_len s b
              rw [← hbl] at hB3
              have Hbl := Lib.hid hbl
              have Hbll := Lib.hid hbll
              have HB3 := Lib.hid hB3
              have HB6 := Lib.hid hB6
              have Hbel := Lib.hid hbel
              clear hV hB3 hB6 hbel hi8 hi hbl hbll
              go_wp2_with (first
                | (refine wpList_loadW rfl 105 (.tmp 3) rfl n0 105 bl rfl HB3.out _ Tryd.underlying105 rfl (by rw [Hbll.out]; kernel_rfl) ?_)
                | (refine wpList_storeW rfl 105 (.tmp 6) (.tmp 191) rfl g6 105 (List.replicate 8 0) bl rfl rfl HB6.out (by rw [Hbll.out]; rfl) (by rw [Hbll.out]; kernel_rfl) ?_; intro w9 hR9 hg9))
              refine bodyPost_ret (results_cell_row (p := 6) (ty := 105) (by kernel_rfl) _ w9 g6 105 (wvs bl).toArray (0, 0) _ rfl hR9 Tryd.underlying105 rfl (by rw [List.size_toArray, wvs_len, Hbll.out]; kernel_rfl)) rfl ⟨by rw [Hbl.out], ?_⟩
              obtain ⟨e5, e6, e7⟩ := Hg.out
              have hbel2 := Hbel.out.trans (below_of_only hg9 (by omega) (by rw [Hn0.out]; exact Hbel.out.size))
              rw [Hn0.out] at hbel2
              exact hbel2
end Sm
end Go.Proofs.YtiofkhjpknfkgaaDoor
/- A whole array is read in a region that draws its order. -/
namespace Go.Proofs.YtiofkhjpknfkgaaDoor
namespace CanL
open Go.RowKit Ba Sm
set_option linter.unusedVariables false
theorem heldW {P : Program} {ops : Array Oper} {Q : Exit → Act → World → Prop} {F : World → Prop} {k i : Nat} {rest : List (Nat × Nat)} {o : Oper} {a : Act} {w : World} (hi : ops[i]? = some o) (hg : Region.wanted o (yielded ops a.tmps) = true)
    (ty : TypeId) (x : Operand) (ho : o.op = .load ty x) (g : Nat) (t : TypeId) (l : List UInt32) (hx : a.eval x = .pointer (some ⟨g, 0, none⟩)) (hF : ∀ w', F w' → BlkW w' g t l) (d : TypeDesc) (hu : P.underlying ty = some d) (hd : d.isRow = true)
    (hs : (P.info? ty).map (·.size) = some l.length) (h : ∀ K : Act → Prop, (∀ a, wpCan P ops Q F k rest a w → K a) → K (a.put o.dst (.agg (wvs l).toArray))) : wpCan P ops Q F k ((i, 1) :: rest) a w := by
  refine held hi hg ⟨.agg (wvs l).toArray, fun w' hF' => ?_, h⟩
  have hb := hF w' hF'
  have hr : w'.rangeAt g 0 (wvs l) := Blk.range [] (wvs l) [] (by unfold BlkW at hb; simpa using hb)
  unfold execOp
  simp only [ho, hx, Instr.loadAt, Instr.sureAddr, Sem.run_bind, Sem.run_pure, Result.andThen_ok, run_loadVar_mid w' g 0 ty (wvs l) d hr hu hd (by rw [wvs_len]; exact hs)]
theorem lastW {P : Program} {ops : Array Oper} {Q : Exit → Act → World → Prop} {F : World → Prop} {k : Nat} {rest : List (Nat × Nat)} {o : Oper} {a : Act} {w : World} (hi : ops[k]? = some o) (hg : Region.wanted o (yielded ops a.tmps) = true)
    (ty : TypeId) (x y : Operand) (ho : o.op = .store ty x y) (g : Nat) (t : TypeId) (l0 l : List UInt32) (hx : a.eval x = .pointer (some ⟨g, 0, none⟩)) (hy : a.eval y = .agg (wvs l).toArray) (hb : BlkW w g t l0) (hl : l0.length = l.length)
    (hs : (P.info? ty).map (·.size) = some l.length) (h : ∀ w', BlkW w' g t l → w.grownBy w' (some g) → wpCan P ops Q F k rest (a.put o.dst undef) w') : wpCan P ops Q F k ((k, 0) :: rest) a w := by
  refine last hi (fun K hK => ?_)
  rw [if_pos hg]
  have hb' : Blk w g t ([] ++ (wvs l0 ++ [])).toArray := by unfold BlkW at hb; simpa using hb
  refine wp_store_mid ty x y ho g 0 (wvs l).toArray hx hy ?_ (by rw [List.size_toArray, wvs_len]; exact hs) (all_oneCell_toArray (wvs_one l)) (hK.out _ _ (h _ ?_ (only_setCells _ _ _ _)))
  · refine Blk.there hb' 0 _ ?_
    simp [wvs_len, hl]
  · have := Blk.setCells (wvs l) [] (wvs l0) [] hb' (by rw [wvs_len, wvs_len]; exact hl)
    unfold BlkW
    simpa using this
end CanL
end Go.Proofs.YtiofkhjpknfkgaaDoor
