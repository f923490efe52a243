/- Bytes are fed to a decoder, by the program. -/
import Derived.Test.YtiofkhjpknfkgaaDoorP01
import Derived.Test.YtiofkhjpknfkgaaDoorP02
import Derived.Test.YtiofkhjpknfkgaaDoorP03
import Derived.Test.YtiofkhjpknfkgaaDoorP04
import Derived.Test.YtiofkhjpknfkgaaDoorP05
import Derived.Test.YtiofkhjpknfkgaaDoorP06
import Derived.Test.YtiofkhjpknfkgaaDoorP07
import Derived.Test.YtiofkhjpknfkgaaDoorP08
import Derived.Test.YtiofkhjpknfkgaaDoorP09
import Derived.Test.YtiofkhjpknfkgaaDoorP10
import Derived.Test.YtiofkhjpknfkgaaDoorP11
import Derived.Test.YtiofkhjpknfkgaaDoorP12
import Derived.Test.YtiofkhjpknfkgaaDoorP13
import Derived.Test.YtiofkhjpknfkgaaDoorP14
import Derived.Test.YtiofkhjpknfkgaaDoorP15
import Derived.Test.YtiofkhjpknfkgaaDoorP16
namespace Go.Proofs.YtiofkhjpknfkgaaDoor
namespace Dl
open Go.RowKit Ba Tm Dm Os_
set_option linter.unusedVariables false
theorem IsD.cells {w : World} {g : Nat} {old made : Int} {b : List UInt8} {e : Int} (h : IsD w g old made b e) : w.cell? ⟨g, 0, none⟩ = some (.int .i64 old) ∧ w.cell? ⟨g, 1, none⟩ = some (.int .i64 made) ∧ w.cell? ⟨g, 3, none⟩ = some (.int .i64 e) ∧ (∀ i, w.frozen? ⟨g, i, none⟩ = false) ∧ ∃ A c, w.cell? ⟨g, 2, none⟩ = some (.slice A b.length c) ∧ b.length ≤ c ∧ c ≤ 9223372036854775807 ∧ RT w A b ∧ Blk w g 95 #[.int .i64 old, .int .i64 made, .slice A b.length c, .int .i64 e] := by
  obtain ⟨A, c, h1, h2, h3, h4⟩ := h
  exact ⟨by rw [Blk.cell h1]; rfl, by rw [Blk.cell h1]; rfl, by rw [Blk.cell h1]; rfl, Blk.frozen h1, A, c, by rw [Blk.cell h1]; rfl, h2, h3, h4, h1⟩
/-- what feeding does -/
def FeedPost (w : World) (g : Nat) (old : Int) (d : D) (x : List UInt8) (r : Ending) (w' : World) : Prop :=
  ∃ (v : Value) (M : List Ow), r = .returned (.tuple #[v, .int .i64 (feed old d x).2.2]) ∧ OwnO w' w.heap.size v M ∧ ops M = (feed old d x).2.1 ∧ IsD w' g old (feed old d x).1.made (feed old d x).1.b (feed old d x).1.e ∧ w.grownBy w' (some g)
theorem feed_err (old : Int) (d : D) (x : List UInt8) (h : d.e ≠ 0) : feed old d x = (d, [], d.e) := if_pos h
theorem feed_ok (old : Int) (m : Int) (b x : List UInt8) {out : List O} {m2 : Int} {r : List UInt8} {e : Int} (h : loop old ((b ++ x).length + 1) [] m (b ++ x) = (out, m2, r, e)) : feed old ⟨m, b, 0⟩ x = if e ≠ 0 then (⟨m, b, e⟩, [], e) else (⟨m2, r, 0⟩, out, 0) := by
  unfold feed
  simp only
  rw [if_neg (by simp), h]
set_option maxRecDepth 100000 in
set_option maxHeartbeats 16000000 in
theorem feed_calls (g : Nat) (old m0 : Int) (b : List UInt8) (e0 : Int) (x : List UInt8) (A : Option Addr) (n c : Nat) (hn : n = x.length) (hlc : n ≤ c) (hcm : c ≤ 9223372036854775807) (ho : -9223372036854775808 ≤ old ∧ old ≤ 9223372036854775807) (hm0 : 0 ≤ m0 ∧ m0 ≤ 65536) (hbx : b.length + n ≤ 1099511627776) (w : World) (hd : IsD w g old m0 b e0) (hx : ReadB w w.heap.size A x) :
    Calls Tryd.prog 24 #[.pointer (some ⟨g, 0, none⟩), .slice A n c] w fun r w' => FeedPost w g old ⟨m0, b, e0⟩ x r w' := by
  obtain ⟨d0, d1, d3, z, A0, cc0, d2, h2, h3, h4, hB⟩ := hd.cells
  by_cases he : e0 = 0
  · subst he
    obtain ⟨i0, hi0⟩ := isByte_of Vi.info5
    obtain ⟨iO, hiO⟩ := isOp
    have Hi0 := Lib.hid hi0
    have Hi := Lib.hid hiO
    have hcl := Cl.cloneN (c := cc0) (A := A0) (n := b.length) (w := w) (l := b) rfl h2 (by omega) h4.readB
    obtain ⟨Tt, hT⟩ : ∃ Tt, Tt = b ++ x := ⟨_, rfl⟩
    have hTl : Tt.length = b.length + n := by rw [hT, List.length_append, hn]
    obtain ⟨o2, m2, r2, e2, hlp⟩ : ∃ o2 m2 r2 e2, loop old (Tt.length + 1) [] m0 Tt = (o2, m2, r2, e2) := ⟨_, _, _, _, rfl⟩
    have hfe := feed_ok (out := o2) (m2 := m2) (r := r2) (e := e2) old m0 b x (by rw [← hT]; exact hlp)
    have HB := Lib.hid hB
    have HD := Lib.hid hd
    have Hx := Lib.hid hx
    have Hn := Lib.hid hn
    have Hcl := Lib.hid hcl
    have HT := Lib.hid hT
    have HTl := Lib.hid hTl
    have Hlp := Lib.hid hlp
    have Hfe := Lib.hid hfe
    have Hz := Lib.hid z
    have Hl : Hid (b.length + n ≤ 1099511627776) := Lib.hid hbx
    have hrb := Lib.hid h4
    clear hB hd hx hn hcl hT hTl hlp hfe hi0 hiO h4 hbx
    go_enter Tryd.func24, Tryd.ntmps24
    go_wp2_with fail
    refine Calls.mono Hcl.out ?_
    rintro e1 w1 ⟨v1, rfl, ho1, hb1⟩
    have HO1 := Lib.hid ho1
    have HB1 := Lib.hid hb1
    have HX1 := Lib.hid (Hx.out.below hb1)
    have k1 := (hb1.cell (p := ⟨g, 1, none⟩) HB.out.lt).trans d1
    have k1 : w1.cell? ⟨g, 1, none⟩ = some (.int .i64 m0) := k1
    clear ho1 hb1 d0 d1 d2 d3 z
    go_wp2_with (at_builtin; go_loud (refine wpList_appB _ rfl (.tmp 28) (.tmp 29) 22 rfl w.heap.size 5 i0 Tryd.underlying22 Hi0.out v1 b rfl HO1.out w.heap.size A _ c x rfl Hn.out HX1.out (by have := Hn.out; have := Hl.out; omega) HB1.out.size ?_); intro v2 w2 ho2 hg2 _ hb2; have k2 : w2.cell? ⟨g, 1, none⟩ = some (.int .i64 m0) := (hb2.cell (p := ⟨g, 1, none⟩) HB.out.lt).trans k1)
    rw [← HT.out] at ho2
    have hbw2 := HB1.out.trans hb2
    obtain ⟨A2, c2, rfl, hp2, hm2, -, -⟩ := ho2.opens
    have HRt2 := Lib.hid (RT.of_own ho2)
    have HW2 := Lib.hid hbw2
    clear ho2 hg2 hb2 hbw2 k1 k2 HO1 HB1 HX1 Hcl
    go_loopg [6, 7, 8] (b.length + n) (fun q v6 v7 v8 wr => ∃ (r : List UInt8) (A' : Option Addr) (c' : Nat) (m : Int) (M : List Ow) (f : Nat), q = r.length ∧ v6 = .slice A' r.length c' ∧ r.length ≤ c' ∧ c' ≤ 9223372036854775807 ∧ RT wr A' r ∧ v7 = .int .i64 m ∧ 0 ≤ m ∧ m ≤ 65536 ∧ OwnO wr w.heap.size v8 M ∧ M.length + r.length ≤ 1099511627776 ∧ r.length < f ∧ loop old f (ops M) m r = (o2, m2, r2, e2) ∧ Below w.heap.size w wr)
    case atStart => exact ⟨Tt, A2, c2, m0, [], Tt.length + 1, HTl.out.symm, rfl, hp2, hm2, HRt2.out, rfl, hm0.1, hm0.2, OwnO.nil, by simp; rw [HTl.out]; exact Hl.out, by omega, Hlp.out, HW2.out⟩
    case round =>
      obtain ⟨r, A', c', m, M, f, hq, rfl, hrc, hcc, hrt, rfl, hm1, hm2', ho8, hML, hrf, hlp, hbw⟩ := hrel
      obtain ⟨f, rfl⟩ : ∃ f', f = f' + 1 := ⟨f - 1, by omega⟩
      have htk := take_calls r A' r.length c' old (65536 - m) rfl hrc hcc ho (by omega) wr hrt
      have Hq := Lib.hid hq
      have HRt := Lib.hid hrt
      have HO := Lib.hid ho8
      have HML := Lib.hid hML
      have Hrf := Lib.hid hrf
      have Hlp2 := Lib.hid hlp
      have HW := Lib.hid hbw
      have Htk := Lib.hid htk
      obtain ⟨rl, hrl⟩ : ∃ rl, rl = r.length := ⟨_, rfl⟩
      have Hrl := Lib.hid hrl
      rw [← hrl] at Htk hrc ⊢
      have k0 : wr.cell? ⟨g, 0, none⟩ = some (.int .i64 old) := by rw [Blk.cell (HB.out.below hbw HB.out.lt)]; rfl
      clear hq hrt ho8 hML hrf hlp hbw htk hrl HRt2 HW2
      go_wp2_with fail
      refine Calls.mono Htk.out ?_
      rintro e1 w3 ⟨hb3, hno, hyes⟩
      have HW3 := Lib.hid (HW.out.trans (hb3.mono HW.out.size))
      have HO3 := Lib.hid (HO.out.keptB hb3)
      have HRt3 := Lib.hid (HRt.out.below hb3)
      have Hbt := Lib.hid hb3
      clear hb3 HO HRt k0 Htk
      by_cases hk : takeOk r old (65536 - m)
      · obtain ⟨Dd, kk, A'', he1, hwf, hrt', hun⟩ := hyes hk
        have hgo := loop_go old f (ops M) m r hk
        rw [Hlp2.out] at hgo
        have hmk0 := one_makes r old hk.2.1
        have hmkle := hk.2.2
        have hu0 := hk.2.1
        obtain ⟨u, hu⟩ : ∃ u, u = (one r old).2.1 := ⟨_, rfl⟩
        rw [← hu] at hgo he1 hrt' hun hu0
        generalize (one r old).1 = X at *
        obtain ⟨X1, X2, X3, X4⟩ := X
        have hmv : makes ⟨X1, X2, X3, X4⟩ = if X1 then X3 else (X4.length : Int) := rfl
        have hmm := fun w => makes_calls X1 X2 X3 Dd X4.length kk w
        rw [← hmv] at hmm
        generalize hy : makes ⟨X1, X2, X3, X4⟩ = y at *
        have hops : (opv (⟨X1, X2, X3, X4⟩, Dd, kk)).toArray = #[.bool X1, .int .i64 X2, .int .i64 X3, .slice Dd X4.length kk] := rfl
        rw [hops] at he1
        subst he1
        have Hgo := Lib.hid hgo
        have Hwf := Lib.hid hwf
        have Hrt' := Lib.hid (hrt'.below ((Below.refl wr.heap.size wr)))
        have Hmm := Lib.hid hmm
        have Hun := Lib.hid hun
        have Hu0 := Lib.hid hu0
        clear hno hyes hgo hwf hrt' hmm hmv hops hu hy hun hu0 hk
        have HD4 : Hid ((w3.alloc (.cells #[.bool X1, .int .i64 X2, .int .i64 X3, .slice Dd X4.length kk] 40)).rangeAt w3.heap.size 0 [.bool X1, .int .i64 X2, .int .i64 X3, .slice Dd X4.length kk]) := Lib.hid (op_cells (heap_alloc_new w3 _)).2.2.2.2
        have hW4 : Below w.heap.size w (w3.alloc (.cells #[.bool X1, .int .i64 X2, .int .i64 X3, .slice Dd X4.length kk] 40)) := HW3.out.alloc HW3.out.size _
        have HW4 := Lib.hid hW4
        clear hW4
        go_wp2_with (refine wpList_load_mid rfl 40 (.tmp 9) rfl w3.heap.size 0 rfl [.bool X1, .int .i64 X2, .int .i64 X3, .slice Dd X4.length kk] _ HD4.out Tryd.underlying40 rfl (by kernel_rfl) ?_)
        refine Calls.mono (Hmm.out _) ?_
        rintro e5 w5 ⟨rfl, hb5⟩
        have HW5 := Lib.hid (HW4.out.trans (hb5.mono HW4.out.size))
        have HD5 : Hid (w5.rangeAt w3.heap.size 0 [.bool X1, .int .i64 X2, .int .i64 X3, .slice Dd X4.length kk]) := Lib.hid fun jj v hv => (hb5.cell (p := ⟨w3.heap.size, 0 + jj, none⟩) (by simp)).trans (HD4.out jj v hv)
        have HO5 := Lib.hid ((HO3.out.alloc (.cells #[.bool X1, .int .i64 X2, .int .i64 X3, .slice Dd X4.length kk] 40)).keptB hb5)
        have Hw5 := Lib.hid ((Hwf.out.below ((Below.refl _ _).alloc (Nat.le_refl _) (.cells #[.bool X1, .int .i64 X2, .int .i64 X3, .slice Dd X4.length kk] 40))).below hb5)
        have Hr5 := Lib.hid (((Hrt'.out.below Hbt.out).below ((Below.refl _ _).alloc (Nat.le_refl _) (.cells #[.bool X1, .int .i64 X2, .int .i64 X3, .slice Dd X4.length kk] 40))).below hb5)
        clear hb5 HD4 HW4 HO3 HRt3
        go_wp2_with (first
          | (refine wpList_load_mid rfl 40 (.tmp 9) rfl w3.heap.size 0 rfl [.bool X1, .int .i64 X2, .int .i64 X3, .slice Dd X4.length kk] _ HD5.out Tryd.underlying40 rfl (by kernel_rfl) ?_)
          | (refine wpList_bslice _ rfl 31 40 1 _ rfl Tryd.underlying31 iO 4 48 Hi.out (by omega) (by omega) [(0, .agg #[.bool X1, .int .i64 X2, .int .i64 X3, .slice Dd X4.length kk])] rfl [.bool X1, .int .i64 X2, .int .i64 X3, .slice Dd X4.length kk] (fun Z hZ => fill_one 4 (.agg #[.bool X1, .int .i64 X2, .int .i64 X3, .slice Dd X4.length kk]) rfl Z hZ) ?_)
          | (at_builtin; go_loud (refine wpList_appR _ rfl (.tmp 62) (.tmp 64) 31 rfl w.heap.size 40 iO 48 Tryd.underlying31 Hi.out (by omega) _ _ rfl (HO5.out.alloc _).1 (w5.heap.size + 1) (some ⟨w5.heap.size, 0, none⟩) 1 1 [(⟨X1, X2, X3, X4⟩, Dd, kk)] rfl rfl (lit_op _ _ _ _ _ _) (by have := HML.out; simp; omega) (by have := HML.out; simp; omega) (Nat.le_trans HW5.out.size (by simp)) ?_); intro v9 w9 ho9 hg9 _ hb9))
        have HO9 := Lib.hid ((HO5.out.alloc _).app ho9 hg9 (fun yy hy => by simp at hy; subst hy; exact WfT.below Hw5.out ((Below.refl _ _).alloc (Nat.le_refl _) _)))
        have HB9 := Lib.hid ((HW5.out.alloc HW5.out.size (.cells #[.bool X1, .int .i64 X2, .int .i64 X3, .slice Dd X4.length kk] 40)).trans hb9)
        have HR9 : Hid (RT w9 A'' (r.drop u)) := Lib.hid ((Hr5.out.below ((Below.refl _ _).alloc (Nat.le_refl _) _)).row hg9 (fun g' hg' => by obtain ⟨cs, hcs⟩ := own_blk (HO5.out.alloc _).1 g' hg'; exact ⟨_, cs, hcs, op_ne⟩))
        clear ho9 hg9 hb9 HO5 Hr5 HD5
        go_wp2_with fail
        go_roundg (rl - u)
        case rel => exact ⟨r.drop u, A'', c' - u, m + y, M ++ [(⟨X1, X2, X3, X4⟩, Dd, kk)], f, by rw [List.length_drop, Hrl.out], by rw [List.length_drop, Hrl.out], by rw [List.length_drop, ← Hrl.out]; omega, by omega, HR9.out, by go_num, by omega, by omega, HO9.out, by have := HML.out; have := Hu0.out; have := Hun.out; have := Hrl.out; rw [List.length_drop]; simp; omega, by rw [List.length_drop]; have := Hrf.out; have := Hu0.out; have := Hun.out; have := Hrl.out; omega, by rw [Hgo.out]; simp [ops], HB9.out⟩
        case measure => have := Hq.out; have := Hu0.out; have := Hun.out; have := Hrl.out; omega
      · have hE := hno hk
        have hst := loop_stop old f (ops M) m r hk
        rw [Hlp2.out] at hst
        obtain ⟨E, hEE⟩ : ∃ E, E = takeE r old (65536 - m) := ⟨_, rfl⟩
        rw [← hEE] at hE hst
        subst hE
        clear hno hyes hEE
        unfold GaveUp
        by_cases hE0 : E = 0
        · subst hE0
          rw [if_neg (by simp)] at hst
          injection hst with h1 hst
          injection hst with h2 hst
          injection hst with h3 h4
          subst h1 h2 h3 h4
          have hfe := Hfe.out
          rw [if_neg (show ¬ ((0 : Int) ≠ 0) by simp)] at hfe
          have Hf2 := Lib.hid hfe
          have hcl3 := Cl.cloneN (c := c') (A := A') (n := rl) (w := w3.alloc (.cells #[.bool false, .int .i64 0, .int .i64 0, .slice none 0 0] 40)) (l := r2) Hrl.out (by rw [← Hrl.out]; exact hrc) (by have := HML.out; omega) ((HRt3.out.readB.alloc (Nat.le_refl _) _).more (by simp))
          have Hcl3 := Lib.hid hcl3
          clear hfe hcl3 Hlp2
          go_wp2_with fail
          refine Calls.mono Hcl3.out ?_
          rintro e5 w5 ⟨v5, rfl, ho5, hb5⟩
          obtain ⟨A5, c5, rfl, hp5, hm5, -, -⟩ := ho5.opens
          have hrt5 := RT.of_own ho5
          have hW5 : Below w.heap.size w w5 := (HW3.out.alloc HW3.out.size _).trans (hb5.mono (by have := HW3.out.size; simp; omega))
          have hO5 : OwnO w5 w.heap.size _ M := (HO3.out.alloc (.cells #[.bool false, .int .i64 0, .int .i64 0, .slice none 0 0] 40)).keptB hb5
          have hB5 := HB.out.below hW5 HB.out.lt
          have k1 : w5.cell? ⟨g, 1, none⟩ = some (.int .i64 m0) := by rw [Blk.cell hB5]; rfl
          have k2 : w5.cell? ⟨g, 2, none⟩ = some (.slice A0 b.length cc0) := by rw [Blk.cell hB5]; rfl
          have kz := Blk.frozen hB5
          have hB6 : Blk ((w5.setCell ⟨g, 1, none⟩ (.int .i64 m2)).setCell ⟨g, 2, none⟩ (.slice A5 r2.length c5)) g 95 #[.int .i64 old, .int .i64 m2, .slice A5 r2.length c5, .int .i64 0] := Blk.set_ (Blk.set_ hB5 1 _) 2 _
          have hg6 : w5.grownBy ((w5.setCell ⟨g, 1, none⟩ (.int .i64 m2)).setCell ⟨g, 2, none⟩ (.slice A5 r2.length c5)) (some g) := only_trans (only_set w5 g 1 _) (only_set _ g 2 _)
          have hneg : u8.ownBlock = none ∨ u8.ownBlock ≠ some g := .inr fun hh => by have := (hO5.1.ge g hh).1; have := HB.out.lt; omega
          have hO6 : OwnO ((w5.setCell ⟨g, 1, none⟩ (.int .i64 m2)).setCell ⟨g, 2, none⟩ (.slice A5 r2.length c5)) w.heap.size u8 M := hO5.grown hg6 hneg (fun g' hg' => by injection hg' with hg'; subst hg'; exact ⟨_, _, hB5, dec_ne⟩)
          have hrt6 : RT ((w5.setCell ⟨g, 1, none⟩ (.int .i64 m2)).setCell ⟨g, 2, none⟩ (.slice A5 r2.length c5)) A5 r2 := hrt5.row hg6 (fun g' hg' => by injection hg' with hg'; subst hg'; exact ⟨_, _, hB5, dec_ne⟩)
          have hG := only_trans (only_of_below hW5 (some g)) hg6
          have HB6 := Lib.hid hB6
          have HO6 := Lib.hid hO6
          have HR6 := Lib.hid hrt6
          have HG := Lib.hid hG
          have Hp5 := Lib.hid hp5
          have Hm5 := Lib.hid hm5
          rw [← Hrl.out] at HB6 HO6 HR6 HG
          clear ho5 hb5 hrt5 hW5 hO5 hB5 hB6 hg6 hneg hO6 hrt6 hG hp5 hm5 HB HO3 HRt3 HW3 Hcl3
          rw [← Hrl.out]
          go_wp2_with fail
          go_ret2
          refine ⟨_, M, by rw [Hf2.out]; rfl, HO6.out, by rw [Hf2.out], ?_, HG.out⟩
          rw [Hf2.out]
          exact ⟨A5, c5, by rw [← Hrl.out]; exact HB6.out, Hp5.out, Hm5.out, HR6.out⟩
        · rw [if_pos hE0] at hst
          injection hst with h1 hst
          injection hst with h2 hst
          injection hst with h3 h4
          subst h1 h2 h3 h4
          have hfe := Hfe.out
          rw [if_pos hE0] at hfe
          have Hf2 := Lib.hid hfe
          have t1 : (e2 == 0) = false := by simpa using hE0
          have hB3 := HB.out.below HW3.out HB.out.lt
          have hW4 : Below w.heap.size w (w3.alloc (.cells #[.bool false, .int .i64 0, .int .i64 0, .slice none 0 0] 40)) := HW3.out.alloc HW3.out.size _
          have hB4 := hB3.alloc (.cells #[.bool false, .int .i64 0, .int .i64 0, .slice none 0 0] 40)
          have k3 : (w3.alloc (.cells #[.bool false, .int .i64 0, .int .i64 0, .slice none 0 0] 40)).cell? ⟨g, 3, none⟩ = some (.int .i64 0) := by rw [Blk.cell hB4]; rfl
          have kz := Blk.frozen hB4
          have HD4 := Lib.hid (HD.out.below hW4)
          have hB6 : Blk ((w3.alloc (.cells #[.bool false, .int .i64 0, .int .i64 0, .slice none 0 0] 40)).setCell ⟨g, 3, none⟩ (.int .i64 e2)) g 95 #[.int .i64 old, .int .i64 m0, .slice A0 b.length cc0, .int .i64 e2] := Blk.set_ hB4 3 _
          have hg6 := only_set (w3.alloc (.cells #[.bool false, .int .i64 0, .int .i64 0, .slice none 0 0] 40)) g 3 (.int .i64 e2)
          have hrt6 : RT ((w3.alloc (.cells #[.bool false, .int .i64 0, .int .i64 0, .slice none 0 0] 40)).setCell ⟨g, 3, none⟩ (.int .i64 e2)) A0 b := (hrb.out.below hW4).row hg6 (fun g' hg' => by injection hg' with hg'; subst hg'; exact ⟨_, _, hB4, dec_ne⟩)
          have hG := only_trans (only_of_below hW4 (some g)) hg6
          have HB6 := Lib.hid hB6
          have HR6 := Lib.hid hrt6
          have HG := Lib.hid hG
          clear hfe hB3 hB4 hW4 hB6 hg6 hrt6 hG HB HO3 HRt3 HW3 Hlp2 HD4
          go_wp2_with fail
          go_ret2
          refine ⟨_, [], by rw [Hf2.out]; rfl, OwnO.nil, by rw [Hf2.out]; rfl, ?_, HG.out⟩
          rw [Hf2.out]
          exact ⟨A0, cc0, HB6.out, h2, h3, HR6.out⟩
  · have t1 : (e0 == 0) = false := by simpa using he
    have hr := feed_err old ⟨m0, b, e0⟩ x he
    have HR := Lib.hid hr
    have HD := Lib.hid hd
    clear hr h2 h3 h4 hB hd d2 hx hn
    go_enter Tryd.func24, Tryd.ntmps24
    go_wp2_with fail
    refine CanT.region (fun W => W.cell? ⟨g, 3, none⟩ = some (.int .i64 e0)) 1000 (.op 0 2 (.op 1 2 (.op 2 2 (.op 3 1 (.op 4 2 (.op 5 2 (.nil))))))) (by kernel_rfl) (by kernel_rfl) d3 ?_
    repeat (first | (refine CanT.skip rfl ?_ (fun K hK => ?_); (focus (go_simp; done)); go_simp; refine hK _ ?_; clear hK K) | (refine CanT.pur rfl ?_ ?_; (focus (go_simp; done)); refine ⟨?_, ?_, ?_⟩; rotate_left; (focus (intro w'; go_simp; rfl)); (focus (intro K hK; go_simp; refine hK _ ?_; clear hK K))) | (refine CanT.cellG rfl ?_ (.int .i64 e0) (.int .i64 e0) ⟨g, 3, none⟩ (fun w1 h => h) ?_ (fun K hK => ?_); (focus (go_simp; done)); (focus (intro w' hc'; go_simp; (try rfl))); go_simp; refine hK _ ?_; clear hK K))
    refine CanT.done ?_
    go_wp2_with fail
    go_ret2
    refine ⟨.slice none 0 0, [], by rw [HR.out]; rfl, OwnO.nil, by rw [HR.out]; rfl, ?_, Sm.grown_drew (World.grownBy.refl _ _)⟩
    rw [HR.out]
    exact HD.out.below (Below.refl _ _).drew
end Dl
end Go.Proofs.YtiofkhjpknfkgaaDoor
/- Two operations; what the program makes of them. -/
namespace Go.Proofs.YtiofkhjpknfkgaaDoor
namespace Dl
open Go.RowKit Ba Tm Dm Os_
set_option linter.unusedVariables false
theorem mkB_lit (w : World) (E : TypeId) (vs : List Value) (l : List UInt8) (g : Nat) (hg : g = w.heap.size) (h : vs = bvs l) :
    ReadB (Li.mkB (w.alloc (.cells vs.toArray E)) g) (Li.mkB (w.alloc (.cells vs.toArray E)) g).heap.size (some ⟨g, 0, none⟩) l ∧ Below w.heap.size w (Li.mkB (w.alloc (.cells vs.toArray E)) g) := by
  subst hg
  refine ⟨?_, Li.mkB_below ((Below.refl _ _).alloc (Nat.le_refl _) _) (Nat.le_refl _) (by simp)⟩
  have h1 := ReadB.litN w E vs l w.heap.size rfl h
  rw [Li.mkB_size]
  intro hn
  obtain ⟨b, o, e, hb, hc⟩ := h1 hn
  exact ⟨b, o, e, by simpa using hb, fun k hk => by rw [Li.mkB_cell]; exact hc k hk⟩
theorem lit_row (w : World) (L : List Ow) (E : TypeId) : ReadRow opv 4 (w.alloc (.cells (rows opv L).toArray E)) (w.heap.size + 1) (some ⟨w.heap.size, 0, none⟩) L := by
  refine ⟨fun x _ => ⟨rfl, opv_one x⟩, fun _ => ⟨w.heap.size, 0, rfl, by omega, fun j u hu => ?_⟩⟩
  rw [Nat.zero_add, cell_of_row _ w.heap.size j (rows opv L).toArray E (0, 0) (heap_alloc_new w _)]
  simpa using hu
def twoR (p n : Int) (g : Nat) : List Ow := [(⟨true, p, n, []⟩, none, 0), (lit [120, 121], some ⟨g, 0, none⟩, 2)]
theorem two_row (w : World) (p n : Int) (hp : -9223372036854775808 ≤ p ∧ p ≤ 9223372036854775807) (hn : -9223372036854775808 ≤ n ∧ n ≤ 9223372036854775807) :
    ReadO ((Li.mkB (w.alloc (.cells (bvs [120, 121]).toArray 5)) w.heap.size).alloc (.cells (rows opv (twoR p n w.heap.size)).toArray 40)) ((Li.mkB (w.alloc (.cells (bvs [120, 121]).toArray 5)) w.heap.size).alloc (.cells (rows opv (twoR p n w.heap.size)).toArray 40)).heap.size (some ⟨w.heap.size + 1, 0, none⟩) (twoR p n w.heap.size) ∧
      Below w.heap.size w ((Li.mkB (w.alloc (.cells (bvs [120, 121]).toArray 5)) w.heap.size).alloc (.cells (rows opv (twoR p n w.heap.size)).toArray 40)) := by
  obtain ⟨h1, h2⟩ := mkB_lit w 5 (bvs [120, 121]) [120, 121] w.heap.size rfl rfl
  have hws : (Li.mkB (w.alloc (.cells (bvs [120, 121]).toArray 5)) w.heap.size).heap.size = w.heap.size + 1 := by rw [Li.mkB_size]; simp
  generalize Li.mkB (w.alloc (.cells (bvs [120, 121]).toArray 5)) w.heap.size = W at *
  have hrow := lit_row W (twoR p n w.heap.size) 40
  have hal := (Below.refl W.heap.size W).alloc (Nat.le_refl _) (.cells (rows opv (twoR p n w.heap.size)).toArray 40)
  have hrd := (h1.below hal).more (B' := (W.alloc (.cells (rows opv (twoR p n w.heap.size)).toArray 40)).heap.size) (by simp)
  have hrow2 := hrow.more (B' := (W.alloc (.cells (rows opv (twoR p n w.heap.size)).toArray 40)).heap.size) (by simp)
  rw [hws] at hrow2
  refine ⟨⟨hrow2, fun x hx => ?_⟩, h2.trans (hal.mono h2.size)⟩
  simp only [twoR, List.mem_cons, List.not_mem_nil, or_false] at hx
  rcases hx with rfl | rfl
  · exact ⟨hp, hn, by simp, by simp, ReadB.nil⟩
  · exact ⟨by simp [lit], by simp [lit], by simp [lit], by simp, hrd⟩
def twoL : List O := [cp 0 6, lit [120, 121]]
set_option maxHeartbeats 2000000 in
theorem two_calls (w : World) : Calls Tryd.prog 49 #[] w fun e w' => ∃ (A : Option Addr) (L : List Ow), e = .returned (.slice A 2 2) ∧ ReadO w' w'.heap.size A L ∧ ops L = twoL ∧ L.length = 2 ∧ Below w.heap.size w w' := by
  have hcv := fun (g n c : Nat) (w' : World) => Li.conv_run (P := Tryd.prog) 22 5 Tryd.underlying22 Tryd.underlying5 g n c w'
  have hms := Li.mkB_size
  obtain ⟨iO, hiO⟩ := isOp
  have Hi := Lib.hid hiO
  have h1 := two_row w 0 6 (by omega) (by omega)
  have H1 := Lib.hid h1
  clear hiO h1
  go_enter Tryd.func49, Tryd.ntmps49
  go_wp2_with (refine wpList_bslice _ rfl 31 40 2 _ rfl Tryd.underlying31 iO 4 48 Hi.out (by omega) (by omega) [(0, .agg #[.bool true, .int .i64 0, .int .i64 6, .slice none 0 0]), (1, .agg #[.bool false, .int .i64 0, .int .i64 0, .slice (some ⟨w.heap.size, 0, none⟩) 2 2])] rfl [.bool true, .int .i64 0, .int .i64 6, .slice none 0 0, .bool false, .int .i64 0, .int .i64 0, .slice (some ⟨w.heap.size, 0, none⟩) 2 2] (fun Z hZ => fill_two 4 (.agg #[.bool true, .int .i64 0, .int .i64 6, .slice none 0 0]) (.agg #[.bool false, .int .i64 0, .int .i64 0, .slice (some ⟨w.heap.size, 0, none⟩) 2 2]) rfl rfl Z hZ) ?_)
  go_ret
  exact ⟨some ⟨w.heap.size + 1, 0, none⟩, twoR 0 6 w.heap.size, rfl, H1.out.1, rfl, rfl, H1.out.2⟩
end Dl
end Go.Proofs.YtiofkhjpknfkgaaDoor
/- The closed case of operations: what every right program makes of two. -/
namespace Go.Proofs.YtiofkhjpknfkgaaDoor
namespace Dl
open Go.RowKit Ba Tm Dm Os_
set_option linter.unusedVariables false
def abc6 : List UInt8 := [97, 98, 99, 100, 101, 102]
def abc8 : List UInt8 := [97, 98, 99, 100, 101, 102, 120, 121]
def bytes7 : List UInt8 := [1, 0, 6, 0, 2, 120, 121]
theorem aw1 : apply abc6 twoL = (abc8, 0) := by kernel_rfl
theorem aw2 : put twoL = bytes7 := by kernel_rfl
theorem aw3 : feed 6 ⟨0, [], 0⟩ bytes7 = (⟨8, [], 0⟩, twoL, 0) := by kernel_rfl
theorem aw4 (g : Nat) : from_ twoL 4 = ops (twoR 4 2 g) := by kernel_rfl
theorem aw5 : ∀ x ∈ twoL, 0 ≤ makes x ∧ x.data.length ≤ 65536 ∧ x.pos ≤ 4611686018427387904 := by
  intro x hx
  simp only [twoL, List.mem_cons, List.not_mem_nil, or_false] at hx
  rcases hx with rfl | rfl <;> simp [makes, cp, lit]
theorem aw6 : ∀ x ∈ twoL, x.data.length ≤ 65536 := fun x hx => (aw5 x hx).2.1
set_option maxRecDepth 100000 in
set_option maxHeartbeats 8000000 in
theorem awake_calls (w : World) : Calls Tryd.prog 21 #[] w fun e w' => e = .returned (.bool true) ∧ Below w.heap.size w w' := by
  have hcv := fun (g n c : Nat) (w' : World) => Li.conv_run (P := Tryd.prog) 22 5 Tryd.underlying22 Tryd.underlying5 g n c w'
  have hms := Li.mkB_size
  obtain ⟨iO, hiO⟩ := isOp
  have Hi := Lib.hid hiO
  have h1 := mkB_lit w 5 (bvs abc6) abc6 w.heap.size rfl rfl
  have H1 := Lib.hid h1
  clear hiO h1
  go_enter Tryd.func21, Tryd.ntmps21
  go_wp2_with fail
  refine (two_calls _).mono ?_
  rintro e2 w2 ⟨A2, L2, rfl, hL2, hop2, hl2, hb2⟩
  have hap := apply_calls abc6 (some ⟨w.heap.size, 0, none⟩) 6 6 rfl (by omega) (by omega) L2 A2 2 2 hl2.symm (by omega) w2 ((H1.out.1.below hb2).more hb2.size) hL2
  rw [hop2, aw1] at hap
  have Hap := Lib.hid hap
  have HB2 := Lib.hid (H1.out.2.trans (hb2.mono H1.out.2.size))
  clear hap hL2 hop2 hl2 hb2
  go_wp2_with fail
  refine Calls.mono Hap.out ?_
  rintro e3 w3 ⟨v3, rfl, ho3, hb3⟩
  obtain ⟨A3, c3, hv3, -, -, -, -⟩ := ho3.opens
  subst hv3
  have HR3 := Lib.hid (RT.of_own ho3)
  have HB3 := Lib.hid (HB2.out.trans (hb3.mono HB2.out.size))
  clear ho3 hb3 Hap
  go_wp2_with fail
  refine (new_calls 6 _).mono ?_
  rintro e4 w4 ⟨g, rfl, hg4, hD4, hb4⟩
  have HR4 := Lib.hid (HR3.out.below hb4)
  have HD4 := Lib.hid hD4
  have HB4 := Lib.hid (HB3.out.trans (hb4.mono HB3.out.size))
  have Hg : Hid (w.heap.size ≤ g) := Lib.hid (Nat.le_trans HB3.out.size hg4)
  clear hD4 hb4 hg4 HR3
  go_wp2_with fail
  refine (two_calls _).mono ?_
  rintro e5 w5 ⟨A5, L5, rfl, hL5, hop5, hl5, hb5⟩
  have hpt := put_calls L5 A5 2 2 hl5.symm (by omega) (by rw [hop5]; exact aw6) w5 hL5
  rw [hop5, aw2] at hpt
  have Hpt := Lib.hid hpt
  have HR5 := Lib.hid (HR4.out.below hb5)
  have HD5 := Lib.hid (HD4.out.below hb5)
  have HB5 := Lib.hid (HB4.out.trans (hb5.mono HB4.out.size))
  clear hpt hL5 hop5 hl5 hb5 HR4 HD4
  go_wp2_with fail
  refine Calls.mono Hpt.out ?_
  rintro e6 w6 ⟨v6, rfl, ho6, hb6⟩
  obtain ⟨A6, c6, hv6, hp6, hm6, hr6, -⟩ := ho6.opens
  subst hv6
  have hfd := feed_calls g 6 0 [] 0 bytes7 A6 7 c6 rfl hp6 hm6 (by omega) (by omega) (by simp) w6 (HD5.out.below hb6) hr6
  have Hfd := Lib.hid hfd
  have HR6 := Lib.hid (HR5.out.below hb6)
  have HD6 := Lib.hid (HD5.out.below hb6)
  have HB6 := Lib.hid (HB5.out.trans (hb6.mono HB5.out.size))
  clear hfd ho6 hb6 hp6 hm6 hr6 HR5 HD5 Hpt
  go_wp2_with fail
  refine Calls.mono Hfd.out ?_
  rintro e7 w7 ⟨v7, M7, rfl, hO7, hop7, hD7, hg7⟩
  rw [aw3] at hop7 hD7 ⊢
  have hneg : ∀ g', some g = some g' → ∃ t cs, Blk w6 g' t cs ∧ 5 ≠ t := fun g' hg' => by injection hg' with hg'; subst hg'; obtain ⟨_, _, hB, _⟩ := HD6.out; exact ⟨_, _, hB, dec_ne⟩
  have hr7 := HR6.out.row hg7 hneg
  have HB7 : Hid (Below w.heap.size w w7) := Lib.hid (HB6.out.trans (below_of_only hg7 Hg.out HB6.out.size))
  have hst1 := strof_dl w7 _ A3 c3 abc8 hr7.readB
  have hS1 : S abc8 = { data := #[97, 98, 99, 100, 101, 102, 120, 121] } := rfl
  have hS2 : S bytes7 = { data := #[1, 0, 6, 0, 2, 120, 121] } := rfl
  have HO7 := Lib.hid hO7
  have HD7 := Lib.hid hD7
  have Hop7 := Lib.hid hop7
  clear hneg hr7 hO7 hD7 hop7 hg7 HR6 HD6 Hfd
  rw [hS1] at hst1
  go_wp2_with fail
  refine (two_calls _).mono ?_
  rintro e8 w8 ⟨A8, L8, rfl, hL8, hop8, hl8, hb8⟩
  have hpt := put_calls L8 A8 2 2 hl8.symm (by omega) (by rw [hop8]; exact aw6) w8 hL8
  rw [hop8, aw2] at hpt
  have Hpt := Lib.hid hpt
  have HO8 := Lib.hid (HO7.out.keptB (hb8.mono (Nat.le_refl _)))
  have HD8 := Lib.hid (HD7.out.below hb8)
  have HB8 := Lib.hid (HB7.out.trans (hb8.mono HB7.out.size))
  clear hst1 hpt hL8 hop8 hl8 hb8 HO7 HD7
  go_wp2_with fail
  refine Calls.mono Hpt.out ?_
  rintro e9 w9 ⟨v9, rfl, ho9, hb9⟩
  obtain ⟨A9, c9, hv9, hp9, hm9, hr9, -⟩ := ho9.opens
  subst hv9
  have hst2 := strof_dl w9 _ A9 c9 bytes7 hr9
  rw [hS2] at hst2
  have HO9 := Lib.hid (HO8.out.keptB hb9)
  have HD9 := Lib.hid (HD8.out.below hb9)
  have HB9 := Lib.hid (HB8.out.trans (hb9.mono HB8.out.size))
  clear ho9 hp9 hm9 hr9 hb9 HO8 HD8 Hpt
  go_wp2_with fail
  refine (two_calls _).mono ?_
  rintro e10 w10 ⟨A10, L10, rfl, hL10, hop10, hl10, hb10⟩
  obtain ⟨A7, c7, hv7, -, -, hL7, -⟩ := (HO9.out.keptB hb10).opens
  have hM7 : M7.length = 2 := by rw [← ops_len, Hop7.out]; rfl
  rw [hM7] at hv7
  subst hv7
  have hsm := same_calls M7 L10 A7 2 c7 A10 2 2 hM7.symm hl10.symm (by omega) (by omega) w10 hL7 hL10
  rw [Hop7.out, hop10, same_refl] at hsm
  have Hsm := Lib.hid hsm
  have HD10 := Lib.hid (HD9.out.below hb10)
  have HB10 := Lib.hid (HB9.out.trans (hb10.mono HB9.out.size))
  clear hst2 hsm hL10 hop10 hl10 hb10 HO9 HD9 hL7 hM7
  go_wp2_with fail
  refine Calls.mono Hsm.out ?_
  rintro e11 w11 ⟨rfl, hb11⟩
  have hD11 := HD10.out.below hb11
  have HD11 := Lib.hid hD11
  have HB11 := Lib.hid (HB10.out.trans (hb11.mono HB10.out.size))
  clear hb11 hD11 HD10 Hsm
  go_wp2_with (first
    | (go_at_call 50; refine (made_calls HD11.out).mono ?_; rintro e12 w12 ⟨rfl, rfl⟩)
    | (go_at_call 51; refine (rest_calls HD11.out).mono ?_; rintro e12 w12 ⟨rfl, rfl⟩))
  refine (two_calls _).mono ?_
  rintro e12 w12 ⟨A12, L12, rfl, hL12, hop12, hl12, hb12⟩
  have hfr := from_calls L12 A12 2 2 4 hl12.symm (by omega) (by omega) (by rw [hop12]; exact aw5) w12 hL12
  rw [hop12] at hfr
  have Hfr := Lib.hid hfr
  have HB12 := Lib.hid (HB11.out.trans (hb12.mono HB11.out.size))
  clear hfr hL12 hop12 hl12 hb12 HD11
  go_wp2_with fail
  refine Calls.mono Hfr.out ?_
  rintro e13 w13 ⟨v13, M13, rfl, hO13, hop13, hb13⟩
  have h14 := two_row w13 4 2 (by omega) (by omega)
  have hM13 : M13.length = 2 := by rw [← ops_len, hop13, aw4 0]; rfl
  obtain ⟨A13, c13, hv13, -, -, hL13, -⟩ := (hO13.keptB h14.2).opens
  rw [hM13] at hv13
  subst hv13
  have hsm := same_calls M13 (twoR 4 2 w13.heap.size) A13 2 c13 (some ⟨w13.heap.size + 1, 0, none⟩) 2 2 hM13.symm rfl (by omega) (by omega) _ hL13 h14.1
  rw [hop13, aw4 w13.heap.size, same_refl] at hsm
  have Hsm := Lib.hid hsm
  have HB14 := Lib.hid ((HB12.out.trans (hb13.mono HB12.out.size)).trans (h14.2.mono (HB12.out.trans (hb13.mono HB12.out.size)).size))
  clear hsm hL13 hop13 hM13 hO13 hb13 h14 Hfr
  go_wp2_with (refine wpList_bslice _ rfl 31 40 2 _ rfl Tryd.underlying31 iO 4 48 Hi.out (by omega) (by omega) [(0, .agg #[.bool true, .int .i64 4, .int .i64 2, .slice none 0 0]), (1, .agg #[.bool false, .int .i64 0, .int .i64 0, .slice (some ⟨w13.heap.size, 0, none⟩) 2 2])] rfl [.bool true, .int .i64 4, .int .i64 2, .slice none 0 0, .bool false, .int .i64 0, .int .i64 0, .slice (some ⟨w13.heap.size, 0, none⟩) 2 2] (fun Z hZ => fill_two 4 (.agg #[.bool true, .int .i64 4, .int .i64 2, .slice none 0 0]) (.agg #[.bool false, .int .i64 0, .int .i64 0, .slice (some ⟨w13.heap.size, 0, none⟩) 2 2]) rfl rfl Z hZ) ?_)
  refine Calls.mono Hsm.out ?_
  rintro e15 w15 ⟨rfl, hb15⟩
  have HB15 := Lib.hid (HB14.out.trans (hb15.mono HB14.out.size))
  clear hb15 Hsm
  go_wp2_with fail
  go_ret
  exact ⟨rfl, HB15.out⟩
end Dl
end Go.Proofs.YtiofkhjpknfkgaaDoor
