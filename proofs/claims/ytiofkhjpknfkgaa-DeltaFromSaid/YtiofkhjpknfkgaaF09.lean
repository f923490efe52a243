/- Bytes are fed to a decoder, by the program. -/
import Derived.Test.YtiofkhjpknfkgaaF01
import Derived.Test.YtiofkhjpknfkgaaF02
import Derived.Test.YtiofkhjpknfkgaaF03
import Derived.Test.YtiofkhjpknfkgaaF04
import Derived.Test.YtiofkhjpknfkgaaF05
import Derived.Test.YtiofkhjpknfkgaaF06
import Derived.Test.YtiofkhjpknfkgaaF07
import Derived.Test.YtiofkhjpknfkgaaF08
import Derived.ProofKit
import Derived.OpenShut
import Derived.ShutString
import Derived.ChangeOld
import Derived.SizedLaws
import Derived.ChangeSlices
import Derived.Deep.Slices
import Derived.Test.YtiofkhjpknfkgaaProg
namespace Go.Proofs.Ytiofkhjpknfkgaa
namespace Dl
open Go.RowKit Ba Tm Dm Os_
set_option linter.unusedVariables false
theorem IsD.cells {w : World} {g : Nat} {old made : Int} {b : List UInt8} {e : Int} (h : IsD w g old made b e) : w.cell? ⟨g, 0, none⟩ = some (.int .i64 old) ∧ w.cell? ⟨g, 1, none⟩ = some (.int .i64 made) ∧ w.cell? ⟨g, 3, none⟩ = some (.int .i64 e) ∧ (∀ i, w.frozen? ⟨g, i, none⟩ = false) ∧ ∃ A c, w.cell? ⟨g, 2, none⟩ = some (.slice A b.length c) ∧ b.length ≤ c ∧ c ≤ 9223372036854775807 ∧ RT w A b ∧ Blk w g 60 #[.int .i64 old, .int .i64 made, .slice A b.length c, .int .i64 e] := by
  obtain ⟨A, c, h1, h2, h3, h4⟩ := h
  exact ⟨by rw [Blk.cell h1]; rfl, by rw [Blk.cell h1]; rfl, by rw [Blk.cell h1]; rfl, Blk.frozen h1, A, c, by rw [Blk.cell h1]; rfl, h2, h3, h4, h1⟩
/-- what feeding does -/
def FeedPost (w : World) (g : Nat) (old : Int) (d : D) (x : List UInt8) (r : Ending) (w' : World) : Prop :=
  ∃ (v : Value) (M : List Ow), r = .returned (.tuple #[v, .int .i64 (feed old d x).2.2]) ∧ OwnO w' w.heap.size v M ∧ ops M = (feed old d x).2.1 ∧ IsD w' g old (feed old d x).1.made (feed old d x).1.b (feed old d x).1.e ∧ w.grownBy w' (some g)
theorem feed_err (old : Int) (d : D) (x : List UInt8) (h : d.e ≠ 0) : feed old d x = (d, [], d.e) := if_pos h
theorem feed_ok (old : Int) (m : Int) (b x : List UInt8) {out : List O} {m2 : Int} {r : List UInt8} {e : Int} (h : loop old ((b ++ x).length + 1) [] m (b ++ x) = (out, m2, r, e)) : feed old ⟨m, b, 0⟩ x = if e ≠ 0 then (⟨m, b, e⟩, [], e) else (⟨m2, r, 0⟩, out, 0) := by
  unfold feed
  simp only
  rw [if_neg (by simp), h]
set_option maxRecDepth 100000 in
set_option maxHeartbeats 16000000 in
theorem feed_calls (g : Nat) (old m0 : Int) (b : List UInt8) (e0 : Int) (x : List UInt8) (A : Option Addr) (n c : Nat) (hn : n = x.length) (hlc : n ≤ c) (hcm : c ≤ 9223372036854775807) (ho : -9223372036854775808 ≤ old ∧ old ≤ 9223372036854775807) (hm0 : 0 ≤ m0 ∧ m0 ≤ 65536) (hbx : b.length + n ≤ 1099511627776) (w : World) (hd : IsD w g old m0 b e0) (hx : ReadB w w.heap.size A x) :
    Calls Try.prog 14 #[.pointer (some ⟨g, 0, none⟩), .slice A n c] w fun r w' => FeedPost w g old ⟨m0, b, e0⟩ x r w' := by
  obtain ⟨d0, d1, d3, z, A0, cc0, d2, h2, h3, h4, hB⟩ := hd.cells
  by_cases he : e0 = 0
  · subst he
    obtain ⟨i0, hi0⟩ := isByte_of Vi.info5
    obtain ⟨iO, hiO⟩ := isOp
    have Hi0 := Lib.hid hi0
    have Hi := Lib.hid hiO
    have hcl := Cl.cloneN (c := cc0) (A := A0) (n := b.length) (w := w) (l := b) rfl h2 (by omega) h4.readB
    obtain ⟨Tt, hT⟩ : ∃ Tt, Tt = b ++ x := ⟨_, rfl⟩
    have hTl : Tt.length = b.length + n := by rw [hT, List.length_append, hn]
    obtain ⟨o2, m2, r2, e2, hlp⟩ : ∃ o2 m2 r2 e2, loop old (Tt.length + 1) [] m0 Tt = (o2, m2, r2, e2) := ⟨_, _, _, _, rfl⟩
    have hfe := feed_ok (out := o2) (m2 := m2) (r := r2) (e := e2) old m0 b x (by rw [← hT]; exact hlp)
    have HB := Lib.hid hB
    have HD := Lib.hid hd
    have Hx := Lib.hid hx
    have Hn := Lib.hid hn
    have Hcl := Lib.hid hcl
    have HT := Lib.hid hT
    have HTl := Lib.hid hTl
    have Hlp := Lib.hid hlp
    have Hfe := Lib.hid hfe
    have Hz := Lib.hid z
    have Hl : Hid (b.length + n ≤ 1099511627776) := Lib.hid hbx
    have hrb := Lib.hid h4
    clear hB hd hx hn hcl hT hTl hlp hfe hi0 hiO h4 hbx
    go_enter Try.func14, Try.ntmps14
    go_wp2_with fail
    refine Calls.mono Hcl.out ?_
    rintro e1 w1 ⟨v1, rfl, ho1, hb1⟩
    have HO1 := Lib.hid ho1
    have HB1 := Lib.hid hb1
    have HX1 := Lib.hid (Hx.out.below hb1)
    have k1 := (hb1.cell (p := ⟨g, 1, none⟩) HB.out.lt).trans d1
    have k1 : w1.cell? ⟨g, 1, none⟩ = some (.int .i64 m0) := k1
    clear ho1 hb1 d0 d1 d2 d3 z
    go_wp2_with (at_builtin; go_loud (refine wpList_appB _ rfl (.tmp 28) (.tmp 29) 22 rfl w.heap.size 5 i0 Try.underlying22 Hi0.out v1 b rfl HO1.out w.heap.size A _ c x rfl Hn.out HX1.out (by have := Hn.out; have := Hl.out; omega) HB1.out.size ?_); intro v2 w2 ho2 hg2 _ hb2; have k2 : w2.cell? ⟨g, 1, none⟩ = some (.int .i64 m0) := (hb2.cell (p := ⟨g, 1, none⟩) HB.out.lt).trans k1)
    rw [← HT.out] at ho2
    have hbw2 := HB1.out.trans hb2
    obtain ⟨A2, c2, rfl, hp2, hm2, -, -⟩ := ho2.opens
    have HRt2 := Lib.hid (RT.of_own ho2)
    have HW2 := Lib.hid hbw2
    clear ho2 hg2 hb2 hbw2 k1 k2 HO1 HB1 HX1 Hcl
    go_loopg [6, 7, 8] (b.length + n) (fun q v6 v7 v8 wr => ∃ (r : List UInt8) (A' : Option Addr) (c' : Nat) (m : Int) (M : List Ow) (f : Nat), q = r.length ∧ v6 = .slice A' r.length c' ∧ r.length ≤ c' ∧ c' ≤ 9223372036854775807 ∧ RT wr A' r ∧ v7 = .int .i64 m ∧ 0 ≤ m ∧ m ≤ 65536 ∧ OwnO wr w.heap.size v8 M ∧ M.length + r.length ≤ 1099511627776 ∧ r.length < f ∧ loop old f (ops M) m r = (o2, m2, r2, e2) ∧ Below w.heap.size w wr)
    case atStart => exact ⟨Tt, A2, c2, m0, [], Tt.length + 1, HTl.out.symm, rfl, hp2, hm2, HRt2.out, rfl, hm0.1, hm0.2, OwnO.nil, by simp; rw [HTl.out]; exact Hl.out, by omega, Hlp.out, HW2.out⟩
    case round =>
      obtain ⟨r, A', c', m, M, f, hq, rfl, hrc, hcc, hrt, rfl, hm1, hm2', ho8, hML, hrf, hlp, hbw⟩ := hrel
      obtain ⟨f, rfl⟩ : ∃ f', f = f' + 1 := ⟨f - 1, by omega⟩
      have htk := take_calls r A' r.length c' old (65536 - m) rfl hrc hcc ho (by omega) wr hrt
      have Hq := Lib.hid hq
      have HRt := Lib.hid hrt
      have HO := Lib.hid ho8
      have HML := Lib.hid hML
      have Hrf := Lib.hid hrf
      have Hlp2 := Lib.hid hlp
      have HW := Lib.hid hbw
      have Htk := Lib.hid htk
      obtain ⟨rl, hrl⟩ : ∃ rl, rl = r.length := ⟨_, rfl⟩
      have Hrl := Lib.hid hrl
      rw [← hrl] at Htk hrc ⊢
      have k0 : wr.cell? ⟨g, 0, none⟩ = some (.int .i64 old) := by rw [Blk.cell (HB.out.below hbw HB.out.lt)]; rfl
      clear hq hrt ho8 hML hrf hlp hbw htk hrl HRt2 HW2
      go_wp2_with fail
      refine Calls.mono Htk.out ?_
      rintro e1 w3 ⟨hb3, hno, hyes⟩
      have HW3 := Lib.hid (HW.out.trans (hb3.mono HW.out.size))
      have HO3 := Lib.hid (HO.out.keptB hb3)
      have HRt3 := Lib.hid (HRt.out.below hb3)
      have Hbt := Lib.hid hb3
      clear hb3 HO HRt k0 Htk
      by_cases hk : takeOk r old (65536 - m)
      · obtain ⟨Dd, kk, A'', he1, hwf, hrt', hun⟩ := hyes hk
        have hgo := loop_go old f (ops M) m r hk
        rw [Hlp2.out] at hgo
        have hmk0 := one_makes r old hk.2.1
        have hmkle := hk.2.2
        have hu0 := hk.2.1
        obtain ⟨u, hu⟩ : ∃ u, u = (one r old).2.1 := ⟨_, rfl⟩
        rw [← hu] at hgo he1 hrt' hun hu0
        generalize (one r old).1 = X at *
        obtain ⟨X1, X2, X3, X4⟩ := X
        have hmv : makes ⟨X1, X2, X3, X4⟩ = if X1 then X3 else (X4.length : Int) := rfl
        have hmm := fun w => makes_calls X1 X2 X3 Dd X4.length kk w
        rw [← hmv] at hmm
        generalize hy : makes ⟨X1, X2, X3, X4⟩ = y at *
        have hops : (opv (⟨X1, X2, X3, X4⟩, Dd, kk)).toArray = #[.bool X1, .int .i64 X2, .int .i64 X3, .slice Dd X4.length kk] := rfl
        rw [hops] at he1
        subst he1
        have Hgo := Lib.hid hgo
        have Hwf := Lib.hid hwf
        have Hrt' := Lib.hid (hrt'.below ((Below.refl wr.heap.size wr)))
        have Hmm := Lib.hid hmm
        have Hun := Lib.hid hun
        have Hu0 := Lib.hid hu0
        clear hno hyes hgo hwf hrt' hmm hmv hops hu hy hun hu0 hk
        have HD4 : Hid ((w3.alloc (.cells #[.bool X1, .int .i64 X2, .int .i64 X3, .slice Dd X4.length kk] 54)).rangeAt w3.heap.size 0 [.bool X1, .int .i64 X2, .int .i64 X3, .slice Dd X4.length kk]) := Lib.hid (op_cells (heap_alloc_new w3 _)).2.2.2.2
        have hW4 : Below w.heap.size w (w3.alloc (.cells #[.bool X1, .int .i64 X2, .int .i64 X3, .slice Dd X4.length kk] 54)) := HW3.out.alloc HW3.out.size _
        have HW4 := Lib.hid hW4
        clear hW4
        go_wp2_with (refine wpList_load_mid rfl 54 (.tmp 9) rfl w3.heap.size 0 rfl [.bool X1, .int .i64 X2, .int .i64 X3, .slice Dd X4.length kk] _ HD4.out Try.underlying54 rfl (by kernel_rfl) ?_)
        refine Calls.mono (Hmm.out _) ?_
        rintro e5 w5 ⟨rfl, hb5⟩
        have HW5 := Lib.hid (HW4.out.trans (hb5.mono HW4.out.size))
        have HD5 : Hid (w5.rangeAt w3.heap.size 0 [.bool X1, .int .i64 X2, .int .i64 X3, .slice Dd X4.length kk]) := Lib.hid fun jj v hv => (hb5.cell (p := ⟨w3.heap.size, 0 + jj, none⟩) (by simp)).trans (HD4.out jj v hv)
        have HO5 := Lib.hid ((HO3.out.alloc (.cells #[.bool X1, .int .i64 X2, .int .i64 X3, .slice Dd X4.length kk] 54)).keptB hb5)
        have Hw5 := Lib.hid ((Hwf.out.below ((Below.refl _ _).alloc (Nat.le_refl _) (.cells #[.bool X1, .int .i64 X2, .int .i64 X3, .slice Dd X4.length kk] 54))).below hb5)
        have Hr5 := Lib.hid (((Hrt'.out.below Hbt.out).below ((Below.refl _ _).alloc (Nat.le_refl _) (.cells #[.bool X1, .int .i64 X2, .int .i64 X3, .slice Dd X4.length kk] 54))).below hb5)
        clear hb5 HD4 HW4 HO3 HRt3
        go_wp2_with (first
          | (refine wpList_load_mid rfl 54 (.tmp 9) rfl w3.heap.size 0 rfl [.bool X1, .int .i64 X2, .int .i64 X3, .slice Dd X4.length kk] _ HD5.out Try.underlying54 rfl (by kernel_rfl) ?_)
          | (refine wpList_bslice _ rfl 23 54 1 _ rfl Try.underlying23 iO 4 48 Hi.out (by omega) (by omega) [(0, .agg #[.bool X1, .int .i64 X2, .int .i64 X3, .slice Dd X4.length kk])] rfl [.bool X1, .int .i64 X2, .int .i64 X3, .slice Dd X4.length kk] (fun Z hZ => fill_one 4 (.agg #[.bool X1, .int .i64 X2, .int .i64 X3, .slice Dd X4.length kk]) rfl Z hZ) ?_)
          | (at_builtin; go_loud (refine wpList_appR _ rfl (.tmp 62) (.tmp 64) 23 rfl w.heap.size 54 iO 48 Try.underlying23 Hi.out (by omega) _ _ rfl (HO5.out.alloc _).1 (w5.heap.size + 1) (some ⟨w5.heap.size, 0, none⟩) 1 1 [(⟨X1, X2, X3, X4⟩, Dd, kk)] rfl rfl (lit_op _ _ _ _ _ _) (by have := HML.out; simp; omega) (by have := HML.out; simp; omega) (Nat.le_trans HW5.out.size (by simp)) ?_); intro v9 w9 ho9 hg9 _ hb9))
        have HO9 := Lib.hid ((HO5.out.alloc _).app ho9 hg9 (fun yy hy => by simp at hy; subst hy; exact WfT.below Hw5.out ((Below.refl _ _).alloc (Nat.le_refl _) _)))
        have HB9 := Lib.hid ((HW5.out.alloc HW5.out.size (.cells #[.bool X1, .int .i64 X2, .int .i64 X3, .slice Dd X4.length kk] 54)).trans hb9)
        have HR9 : Hid (RT w9 A'' (r.drop u)) := Lib.hid ((Hr5.out.below ((Below.refl _ _).alloc (Nat.le_refl _) _)).row hg9 (fun g' hg' => by obtain ⟨cs, hcs⟩ := own_blk (HO5.out.alloc _).1 g' hg'; exact ⟨_, cs, hcs, op_ne⟩))
        clear ho9 hg9 hb9 HO5 Hr5 HD5
        go_wp2_with fail
        go_roundg (rl - u)
        case rel => exact ⟨r.drop u, A'', c' - u, m + y, M ++ [(⟨X1, X2, X3, X4⟩, Dd, kk)], f, by rw [List.length_drop, Hrl.out], by rw [List.length_drop, Hrl.out], by rw [List.length_drop, ← Hrl.out]; omega, by omega, HR9.out, by go_num, by omega, by omega, HO9.out, by have := HML.out; have := Hu0.out; have := Hun.out; have := Hrl.out; rw [List.length_drop]; simp; omega, by rw [List.length_drop]; have := Hrf.out; have := Hu0.out; have := Hun.out; have := Hrl.out; omega, by rw [Hgo.out]; simp [ops], HB9.out⟩
        case measure => have := Hq.out; have := Hu0.out; have := Hun.out; have := Hrl.out; omega
      · have hE := hno hk
        have hst := loop_stop old f (ops M) m r hk
        rw [Hlp2.out] at hst
        obtain ⟨E, hEE⟩ : ∃ E, E = takeE r old (65536 - m) := ⟨_, rfl⟩
        rw [← hEE] at hE hst
        subst hE
        clear hno hyes hEE
        unfold GaveUp
        by_cases hE0 : E = 0
        · subst hE0
          rw [if_neg (by simp)] at hst
          injection hst with h1 hst
          injection hst with h2 hst
          injection hst with h3 h4
          subst h1 h2 h3 h4
          have hfe := Hfe.out
          rw [if_neg (show ¬ ((0 : Int) ≠ 0) by simp)] at hfe
          have Hf2 := Lib.hid hfe
          have hcl3 := Cl.cloneN (c := c') (A := A') (n := rl) (w := w3.alloc (.cells #[.bool false, .int .i64 0, .int .i64 0, .slice none 0 0] 54)) (l := r2) Hrl.out (by rw [← Hrl.out]; exact hrc) (by have := HML.out; omega) ((HRt3.out.readB.alloc (Nat.le_refl _) _).more (by simp))
          have Hcl3 := Lib.hid hcl3
          clear hfe hcl3 Hlp2
          go_wp2_with fail
          refine Calls.mono Hcl3.out ?_
          rintro e5 w5 ⟨v5, rfl, ho5, hb5⟩
          obtain ⟨A5, c5, rfl, hp5, hm5, -, -⟩ := ho5.opens
          have hrt5 := RT.of_own ho5
          have hW5 : Below w.heap.size w w5 := (HW3.out.alloc HW3.out.size _).trans (hb5.mono (by have := HW3.out.size; simp; omega))
          have hO5 : OwnO w5 w.heap.size _ M := (HO3.out.alloc (.cells #[.bool false, .int .i64 0, .int .i64 0, .slice none 0 0] 54)).keptB hb5
          have hB5 := HB.out.below hW5 HB.out.lt
          have k1 : w5.cell? ⟨g, 1, none⟩ = some (.int .i64 m0) := by rw [Blk.cell hB5]; rfl
          have k2 : w5.cell? ⟨g, 2, none⟩ = some (.slice A0 b.length cc0) := by rw [Blk.cell hB5]; rfl
          have kz := Blk.frozen hB5
          have hB6 : Blk ((w5.setCell ⟨g, 1, none⟩ (.int .i64 m2)).setCell ⟨g, 2, none⟩ (.slice A5 r2.length c5)) g 60 #[.int .i64 old, .int .i64 m2, .slice A5 r2.length c5, .int .i64 0] := Blk.set_ (Blk.set_ hB5 1 _) 2 _
          have hg6 : w5.grownBy ((w5.setCell ⟨g, 1, none⟩ (.int .i64 m2)).setCell ⟨g, 2, none⟩ (.slice A5 r2.length c5)) (some g) := only_trans (only_set w5 g 1 _) (only_set _ g 2 _)
          have hneg : u8.ownBlock = none ∨ u8.ownBlock ≠ some g := .inr fun hh => by have := (hO5.1.ge g hh).1; have := HB.out.lt; omega
          have hO6 : OwnO ((w5.setCell ⟨g, 1, none⟩ (.int .i64 m2)).setCell ⟨g, 2, none⟩ (.slice A5 r2.length c5)) w.heap.size u8 M := hO5.grown hg6 hneg (fun g' hg' => by injection hg' with hg'; subst hg'; exact ⟨_, _, hB5, dec_ne⟩)
          have hrt6 : RT ((w5.setCell ⟨g, 1, none⟩ (.int .i64 m2)).setCell ⟨g, 2, none⟩ (.slice A5 r2.length c5)) A5 r2 := hrt5.row hg6 (fun g' hg' => by injection hg' with hg'; subst hg'; exact ⟨_, _, hB5, dec_ne⟩)
          have hG := only_trans (only_of_below hW5 (some g)) hg6
          have HB6 := Lib.hid hB6
          have HO6 := Lib.hid hO6
          have HR6 := Lib.hid hrt6
          have HG := Lib.hid hG
          have Hp5 := Lib.hid hp5
          have Hm5 := Lib.hid hm5
          rw [← Hrl.out] at HB6 HO6 HR6 HG
          clear ho5 hb5 hrt5 hW5 hO5 hB5 hB6 hg6 hneg hO6 hrt6 hG hp5 hm5 HB HO3 HRt3 HW3 Hcl3
          rw [← Hrl.out]
          go_wp2_with fail
          go_ret2
          refine ⟨_, M, by rw [Hf2.out]; rfl, HO6.out, by rw [Hf2.out], ?_, HG.out⟩
          rw [Hf2.out]
          exact ⟨A5, c5, by rw [← Hrl.out]; exact HB6.out, Hp5.out, Hm5.out, HR6.out⟩
        · rw [if_pos hE0] at hst
          injection hst with h1 hst
          injection hst with h2 hst
          injection hst with h3 h4
          subst h1 h2 h3 h4
          have hfe := Hfe.out
          rw [if_pos hE0] at hfe
          have Hf2 := Lib.hid hfe
          have t1 : (e2 == 0) = false := by simpa using hE0
          have hB3 := HB.out.below HW3.out HB.out.lt
          have hW4 : Below w.heap.size w (w3.alloc (.cells #[.bool false, .int .i64 0, .int .i64 0, .slice none 0 0] 54)) := HW3.out.alloc HW3.out.size _
          have hB4 := hB3.alloc (.cells #[.bool false, .int .i64 0, .int .i64 0, .slice none 0 0] 54)
          have k3 : (w3.alloc (.cells #[.bool false, .int .i64 0, .int .i64 0, .slice none 0 0] 54)).cell? ⟨g, 3, none⟩ = some (.int .i64 0) := by rw [Blk.cell hB4]; rfl
          have kz := Blk.frozen hB4
          have HD4 := Lib.hid (HD.out.below hW4)
          have hB6 : Blk ((w3.alloc (.cells #[.bool false, .int .i64 0, .int .i64 0, .slice none 0 0] 54)).setCell ⟨g, 3, none⟩ (.int .i64 e2)) g 60 #[.int .i64 old, .int .i64 m0, .slice A0 b.length cc0, .int .i64 e2] := Blk.set_ hB4 3 _
          have hg6 := only_set (w3.alloc (.cells #[.bool false, .int .i64 0, .int .i64 0, .slice none 0 0] 54)) g 3 (.int .i64 e2)
          have hrt6 : RT ((w3.alloc (.cells #[.bool false, .int .i64 0, .int .i64 0, .slice none 0 0] 54)).setCell ⟨g, 3, none⟩ (.int .i64 e2)) A0 b := (hrb.out.below hW4).row hg6 (fun g' hg' => by injection hg' with hg'; subst hg'; exact ⟨_, _, hB4, dec_ne⟩)
          have hG := only_trans (only_of_below hW4 (some g)) hg6
          have HB6 := Lib.hid hB6
          have HR6 := Lib.hid hrt6
          have HG := Lib.hid hG
          clear hfe hB3 hB4 hW4 hB6 hg6 hrt6 hG HB HO3 HRt3 HW3 Hlp2 HD4
          go_wp2_with fail
          go_ret2
          refine ⟨_, [], by rw [Hf2.out]; rfl, OwnO.nil, by rw [Hf2.out]; rfl, ?_, HG.out⟩
          rw [Hf2.out]
          exact ⟨A0, cc0, HB6.out, h2, h3, HR6.out⟩
  · have t1 : (e0 == 0) = false := by simpa using he
    have hr := feed_err old ⟨m0, b, e0⟩ x he
    have HR := Lib.hid hr
    have HD := Lib.hid hd
    clear hr h2 h3 h4 hB hd d2 hx hn
    go_enter Try.func14, Try.ntmps14
    go_wp2_with fail
    refine CanT.region (fun W => W.cell? ⟨g, 3, none⟩ = some (.int .i64 e0)) 1000 (.op 0 2 (.op 1 2 (.op 2 2 (.op 3 1 (.op 4 2 (.op 5 2 (.nil))))))) (by kernel_rfl) (by kernel_rfl) d3 ?_
    repeat (first | (refine CanT.skip rfl ?_ (fun K hK => ?_); (focus (go_simp; done)); go_simp; refine hK _ ?_; clear hK K) | (refine CanT.pur rfl ?_ ?_; (focus (go_simp; done)); refine ⟨?_, ?_, ?_⟩; rotate_left; (focus (intro w'; go_simp; rfl)); (focus (intro K hK; go_simp; refine hK _ ?_; clear hK K))) | (refine CanT.cellG rfl ?_ (.int .i64 e0) (.int .i64 e0) ⟨g, 3, none⟩ (fun w1 h => h) ?_ (fun K hK => ?_); (focus (go_simp; done)); (focus (intro w' hc'; go_simp; (try rfl))); go_simp; refine hK _ ?_; clear hK K))
    refine CanT.done ?_
    go_wp2_with fail
    go_ret2
    refine ⟨.slice none 0 0, [], by rw [HR.out]; rfl, OwnO.nil, by rw [HR.out]; rfl, ?_, Sm.grown_drew (World.grownBy.refl _ _)⟩
    rw [HR.out]
    exact HD.out.below (Below.refl _ _).drew
end Dl
end Go.Proofs.Ytiofkhjpknfkgaa
/- Two operations; what the program makes of them. -/
namespace Go.Proofs.Ytiofkhjpknfkgaa
namespace Dl
open Go.RowKit Ba Tm Dm Os_
set_option linter.unusedVariables false
theorem mkB_lit (w : World) (E : TypeId) (vs : List Value) (l : List UInt8) (g : Nat) (hg : g = w.heap.size) (h : vs = bvs l) :
    ReadB (Li.mkB (w.alloc (.cells vs.toArray E)) g) (Li.mkB (w.alloc (.cells vs.toArray E)) g).heap.size (some ⟨g, 0, none⟩) l ∧ Below w.heap.size w (Li.mkB (w.alloc (.cells vs.toArray E)) g) := by
  subst hg
  refine ⟨?_, Li.mkB_below ((Below.refl _ _).alloc (Nat.le_refl _) _) (Nat.le_refl _) (by simp)⟩
  have h1 := ReadB.litN w E vs l w.heap.size rfl h
  rw [Li.mkB_size]
  intro hn
  obtain ⟨b, o, e, hb, hc⟩ := h1 hn
  exact ⟨b, o, e, by simpa using hb, fun k hk => by rw [Li.mkB_cell]; exact hc k hk⟩
theorem lit_row (w : World) (L : List Ow) (E : TypeId) : ReadRow opv 4 (w.alloc (.cells (rows opv L).toArray E)) (w.heap.size + 1) (some ⟨w.heap.size, 0, none⟩) L := by
  refine ⟨fun x _ => ⟨rfl, opv_one x⟩, fun _ => ⟨w.heap.size, 0, rfl, by omega, fun j u hu => ?_⟩⟩
  rw [Nat.zero_add, cell_of_row _ w.heap.size j (rows opv L).toArray E (0, 0) (heap_alloc_new w _)]
  simpa using hu
def twoR (p n : Int) (g : Nat) : List Ow := [(⟨true, p, n, []⟩, none, 0), (lit [120, 121], some ⟨g, 0, none⟩, 2)]
theorem two_row (w : World) (p n : Int) (hp : -9223372036854775808 ≤ p ∧ p ≤ 9223372036854775807) (hn : -9223372036854775808 ≤ n ∧ n ≤ 9223372036854775807) :
    ReadO ((Li.mkB (w.alloc (.cells (bvs [120, 121]).toArray 5)) w.heap.size).alloc (.cells (rows opv (twoR p n w.heap.size)).toArray 54)) ((Li.mkB (w.alloc (.cells (bvs [120, 121]).toArray 5)) w.heap.size).alloc (.cells (rows opv (twoR p n w.heap.size)).toArray 54)).heap.size (some ⟨w.heap.size + 1, 0, none⟩) (twoR p n w.heap.size) ∧
      Below w.heap.size w ((Li.mkB (w.alloc (.cells (bvs [120, 121]).toArray 5)) w.heap.size).alloc (.cells (rows opv (twoR p n w.heap.size)).toArray 54)) := by
  obtain ⟨h1, h2⟩ := mkB_lit w 5 (bvs [120, 121]) [120, 121] w.heap.size rfl rfl
  have hws : (Li.mkB (w.alloc (.cells (bvs [120, 121]).toArray 5)) w.heap.size).heap.size = w.heap.size + 1 := by rw [Li.mkB_size]; simp
  generalize Li.mkB (w.alloc (.cells (bvs [120, 121]).toArray 5)) w.heap.size = W at *
  have hrow := lit_row W (twoR p n w.heap.size) 54
  have hal := (Below.refl W.heap.size W).alloc (Nat.le_refl _) (.cells (rows opv (twoR p n w.heap.size)).toArray 54)
  have hrd := (h1.below hal).more (B' := (W.alloc (.cells (rows opv (twoR p n w.heap.size)).toArray 54)).heap.size) (by simp)
  have hrow2 := hrow.more (B' := (W.alloc (.cells (rows opv (twoR p n w.heap.size)).toArray 54)).heap.size) (by simp)
  rw [hws] at hrow2
  refine ⟨⟨hrow2, fun x hx => ?_⟩, h2.trans (hal.mono h2.size)⟩
  simp only [twoR, List.mem_cons, List.not_mem_nil, or_false] at hx
  rcases hx with rfl | rfl
  · exact ⟨hp, hn, by simp, by simp, ReadB.nil⟩
  · exact ⟨by simp [lit], by simp [lit], by simp [lit], by simp, hrd⟩
def twoL : List O := [cp 0 6, lit [120, 121]]
set_option maxHeartbeats 2000000 in
theorem two_calls (w : World) : Calls Try.prog 25 #[] w fun e w' => ∃ (A : Option Addr) (L : List Ow), e = .returned (.slice A 2 2) ∧ ReadO w' w'.heap.size A L ∧ ops L = twoL ∧ L.length = 2 ∧ Below w.heap.size w w' := by
  have hcv := fun (g n c : Nat) (w' : World) => Li.conv_run (P := Try.prog) 22 5 Try.underlying22 Try.underlying5 g n c w'
  have hms := Li.mkB_size
  obtain ⟨iO, hiO⟩ := isOp
  have Hi := Lib.hid hiO
  have h1 := two_row w 0 6 (by omega) (by omega)
  have H1 := Lib.hid h1
  clear hiO h1
  go_enter Try.func25, Try.ntmps25
  go_wp2_with (refine wpList_bslice _ rfl 23 54 2 _ rfl Try.underlying23 iO 4 48 Hi.out (by omega) (by omega) [(0, .agg #[.bool true, .int .i64 0, .int .i64 6, .slice none 0 0]), (1, .agg #[.bool false, .int .i64 0, .int .i64 0, .slice (some ⟨w.heap.size, 0, none⟩) 2 2])] rfl [.bool true, .int .i64 0, .int .i64 6, .slice none 0 0, .bool false, .int .i64 0, .int .i64 0, .slice (some ⟨w.heap.size, 0, none⟩) 2 2] (fun Z hZ => fill_two 4 (.agg #[.bool true, .int .i64 0, .int .i64 6, .slice none 0 0]) (.agg #[.bool false, .int .i64 0, .int .i64 0, .slice (some ⟨w.heap.size, 0, none⟩) 2 2]) rfl rfl Z hZ) ?_)
  go_ret
  exact ⟨some ⟨w.heap.size + 1, 0, none⟩, twoR 0 6 w.heap.size, rfl, H1.out.1, rfl, rfl, H1.out.2⟩
end Dl
end Go.Proofs.Ytiofkhjpknfkgaa
/- The closed case of operations: what every right program makes of two. -/
namespace Go.Proofs.Ytiofkhjpknfkgaa
namespace Dl
open Go.RowKit Ba Tm Dm Os_
set_option linter.unusedVariables false
def abc6 : List UInt8 := [97, 98, 99, 100, 101, 102]
def abc8 : List UInt8 := [97, 98, 99, 100, 101, 102, 120, 121]
def bytes7 : List UInt8 := [1, 0, 6, 0, 2, 120, 121]
theorem aw1 : apply abc6 twoL = (abc8, 0) := by kernel_rfl
theorem aw2 : put twoL = bytes7 := by kernel_rfl
theorem aw3 : feed 6 ⟨0, [], 0⟩ bytes7 = (⟨8, [], 0⟩, twoL, 0) := by kernel_rfl
theorem aw4 (g : Nat) : from_ twoL 4 = ops (twoR 4 2 g) := by kernel_rfl
theorem aw5 : ∀ x ∈ twoL, 0 ≤ makes x ∧ x.data.length ≤ 65536 ∧ x.pos ≤ 4611686018427387904 := by
  intro x hx
  simp only [twoL, List.mem_cons, List.not_mem_nil, or_false] at hx
  rcases hx with rfl | rfl <;> simp [makes, cp, lit]
theorem aw6 : ∀ x ∈ twoL, x.data.length ≤ 65536 := fun x hx => (aw5 x hx).2.1
set_option maxRecDepth 100000 in
set_option maxHeartbeats 8000000 in
theorem awake_calls (w : World) : Calls Try.prog 9 #[] w fun e w' => e = .returned (.bool true) ∧ Below w.heap.size w w' := by
  have hcv := fun (g n c : Nat) (w' : World) => Li.conv_run (P := Try.prog) 22 5 Try.underlying22 Try.underlying5 g n c w'
  have hms := Li.mkB_size
  obtain ⟨iO, hiO⟩ := isOp
  have Hi := Lib.hid hiO
  have h1 := mkB_lit w 5 (bvs abc6) abc6 w.heap.size rfl rfl
  have H1 := Lib.hid h1
  clear hiO h1
  go_enter Try.func9, Try.ntmps9
  go_wp2_with fail
  refine (two_calls _).mono ?_
  rintro e2 w2 ⟨A2, L2, rfl, hL2, hop2, hl2, hb2⟩
  have hap := apply_calls abc6 (some ⟨w.heap.size, 0, none⟩) 6 6 rfl (by omega) (by omega) L2 A2 2 2 hl2.symm (by omega) w2 ((H1.out.1.below hb2).more hb2.size) hL2
  rw [hop2, aw1] at hap
  have Hap := Lib.hid hap
  have HB2 := Lib.hid (H1.out.2.trans (hb2.mono H1.out.2.size))
  clear hap hL2 hop2 hl2 hb2
  go_wp2_with fail
  refine Calls.mono Hap.out ?_
  rintro e3 w3 ⟨v3, rfl, ho3, hb3⟩
  obtain ⟨A3, c3, hv3, -, -, -, -⟩ := ho3.opens
  subst hv3
  have HR3 := Lib.hid (RT.of_own ho3)
  have HB3 := Lib.hid (HB2.out.trans (hb3.mono HB2.out.size))
  clear ho3 hb3 Hap
  go_wp2_with fail
  refine (new_calls 6 _).mono ?_
  rintro e4 w4 ⟨g, rfl, hg4, hD4, hb4⟩
  have HR4 := Lib.hid (HR3.out.below hb4)
  have HD4 := Lib.hid hD4
  have HB4 := Lib.hid (HB3.out.trans (hb4.mono HB3.out.size))
  have Hg : Hid (w.heap.size ≤ g) := Lib.hid (Nat.le_trans HB3.out.size hg4)
  clear hD4 hb4 hg4 HR3
  go_wp2_with fail
  refine (two_calls _).mono ?_
  rintro e5 w5 ⟨A5, L5, rfl, hL5, hop5, hl5, hb5⟩
  have hpt := put_calls L5 A5 2 2 hl5.symm (by omega) (by rw [hop5]; exact aw6) w5 hL5
  rw [hop5, aw2] at hpt
  have Hpt := Lib.hid hpt
  have HR5 := Lib.hid (HR4.out.below hb5)
  have HD5 := Lib.hid (HD4.out.below hb5)
  have HB5 := Lib.hid (HB4.out.trans (hb5.mono HB4.out.size))
  clear hpt hL5 hop5 hl5 hb5 HR4 HD4
  go_wp2_with fail
  refine Calls.mono Hpt.out ?_
  rintro e6 w6 ⟨v6, rfl, ho6, hb6⟩
  obtain ⟨A6, c6, hv6, hp6, hm6, hr6, -⟩ := ho6.opens
  subst hv6
  have hfd := feed_calls g 6 0 [] 0 bytes7 A6 7 c6 rfl hp6 hm6 (by omega) (by omega) (by simp) w6 (HD5.out.below hb6) hr6
  have Hfd := Lib.hid hfd
  have HR6 := Lib.hid (HR5.out.below hb6)
  have HD6 := Lib.hid (HD5.out.below hb6)
  have HB6 := Lib.hid (HB5.out.trans (hb6.mono HB5.out.size))
  clear hfd ho6 hb6 hp6 hm6 hr6 HR5 HD5 Hpt
  go_wp2_with fail
  refine Calls.mono Hfd.out ?_
  rintro e7 w7 ⟨v7, M7, rfl, hO7, hop7, hD7, hg7⟩
  rw [aw3] at hop7 hD7 ⊢
  have hneg : ∀ g', some g = some g' → ∃ t cs, Blk w6 g' t cs ∧ 5 ≠ t := fun g' hg' => by injection hg' with hg'; subst hg'; obtain ⟨_, _, hB, _⟩ := HD6.out; exact ⟨_, _, hB, dec_ne⟩
  have hr7 := HR6.out.row hg7 hneg
  have HB7 : Hid (Below w.heap.size w w7) := Lib.hid (HB6.out.trans (below_of_only hg7 Hg.out HB6.out.size))
  have hst1 := strof_dl w7 _ A3 c3 abc8 hr7.readB
  have hS1 : S abc8 = { data := #[97, 98, 99, 100, 101, 102, 120, 121] } := rfl
  have hS2 : S bytes7 = { data := #[1, 0, 6, 0, 2, 120, 121] } := rfl
  have HO7 := Lib.hid hO7
  have HD7 := Lib.hid hD7
  have Hop7 := Lib.hid hop7
  clear hneg hr7 hO7 hD7 hop7 hg7 HR6 HD6 Hfd
  rw [hS1] at hst1
  go_wp2_with fail
  refine (two_calls _).mono ?_
  rintro e8 w8 ⟨A8, L8, rfl, hL8, hop8, hl8, hb8⟩
  have hpt := put_calls L8 A8 2 2 hl8.symm (by omega) (by rw [hop8]; exact aw6) w8 hL8
  rw [hop8, aw2] at hpt
  have Hpt := Lib.hid hpt
  have HO8 := Lib.hid (HO7.out.keptB (hb8.mono (Nat.le_refl _)))
  have HD8 := Lib.hid (HD7.out.below hb8)
  have HB8 := Lib.hid (HB7.out.trans (hb8.mono HB7.out.size))
  clear hst1 hpt hL8 hop8 hl8 hb8 HO7 HD7
  go_wp2_with fail
  refine Calls.mono Hpt.out ?_
  rintro e9 w9 ⟨v9, rfl, ho9, hb9⟩
  obtain ⟨A9, c9, hv9, hp9, hm9, hr9, -⟩ := ho9.opens
  subst hv9
  have hst2 := strof_dl w9 _ A9 c9 bytes7 hr9
  rw [hS2] at hst2
  have HO9 := Lib.hid (HO8.out.keptB hb9)
  have HD9 := Lib.hid (HD8.out.below hb9)
  have HB9 := Lib.hid (HB8.out.trans (hb9.mono HB8.out.size))
  clear ho9 hp9 hm9 hr9 hb9 HO8 HD8 Hpt
  go_wp2_with fail
  refine (two_calls _).mono ?_
  rintro e10 w10 ⟨A10, L10, rfl, hL10, hop10, hl10, hb10⟩
  obtain ⟨A7, c7, hv7, -, -, hL7, -⟩ := (HO9.out.keptB hb10).opens
  have hM7 : M7.length = 2 := by rw [← ops_len, Hop7.out]; rfl
  rw [hM7] at hv7
  subst hv7
  have hsm := same_calls M7 L10 A7 2 c7 A10 2 2 hM7.symm hl10.symm (by omega) (by omega) w10 hL7 hL10
  rw [Hop7.out, hop10, same_refl] at hsm
  have Hsm := Lib.hid hsm
  have HD10 := Lib.hid (HD9.out.below hb10)
  have HB10 := Lib.hid (HB9.out.trans (hb10.mono HB9.out.size))
  clear hst2 hsm hL10 hop10 hl10 hb10 HO9 HD9 hL7 hM7
  go_wp2_with fail
  refine Calls.mono Hsm.out ?_
  rintro e11 w11 ⟨rfl, hb11⟩
  have hD11 := HD10.out.below hb11
  have HD11 := Lib.hid hD11
  have HB11 := Lib.hid (HB10.out.trans (hb11.mono HB10.out.size))
  clear hb11 hD11 HD10 Hsm
  go_wp2_with (first
    | (go_at_call 17; refine (made_calls HD11.out).mono ?_; rintro e12 w12 ⟨rfl, rfl⟩)
    | (go_at_call 18; refine (rest_calls HD11.out).mono ?_; rintro e12 w12 ⟨rfl, rfl⟩))
  refine (two_calls _).mono ?_
  rintro e12 w12 ⟨A12, L12, rfl, hL12, hop12, hl12, hb12⟩
  have hfr := from_calls L12 A12 2 2 4 hl12.symm (by omega) (by omega) (by rw [hop12]; exact aw5) w12 hL12
  rw [hop12] at hfr
  have Hfr := Lib.hid hfr
  have HB12 := Lib.hid (HB11.out.trans (hb12.mono HB11.out.size))
  clear hfr hL12 hop12 hl12 hb12 HD11
  go_wp2_with fail
  refine Calls.mono Hfr.out ?_
  rintro e13 w13 ⟨v13, M13, rfl, hO13, hop13, hb13⟩
  have h14 := two_row w13 4 2 (by omega) (by omega)
  have hM13 : M13.length = 2 := by rw [← ops_len, hop13, aw4 0]; rfl
  obtain ⟨A13, c13, hv13, -, -, hL13, -⟩ := (hO13.keptB h14.2).opens
  rw [hM13] at hv13
  subst hv13
  have hsm := same_calls M13 (twoR 4 2 w13.heap.size) A13 2 c13 (some ⟨w13.heap.size + 1, 0, none⟩) 2 2 hM13.symm rfl (by omega) (by omega) _ hL13 h14.1
  rw [hop13, aw4 w13.heap.size, same_refl] at hsm
  have Hsm := Lib.hid hsm
  have HB14 := Lib.hid ((HB12.out.trans (hb13.mono HB12.out.size)).trans (h14.2.mono (HB12.out.trans (hb13.mono HB12.out.size)).size))
  clear hsm hL13 hop13 hM13 hO13 hb13 h14 Hfr
  go_wp2_with (refine wpList_bslice _ rfl 23 54 2 _ rfl Try.underlying23 iO 4 48 Hi.out (by omega) (by omega) [(0, .agg #[.bool true, .int .i64 4, .int .i64 2, .slice none 0 0]), (1, .agg #[.bool false, .int .i64 0, .int .i64 0, .slice (some ⟨w13.heap.size, 0, none⟩) 2 2])] rfl [.bool true, .int .i64 4, .int .i64 2, .slice none 0 0, .bool false, .int .i64 0, .int .i64 0, .slice (some ⟨w13.heap.size, 0, none⟩) 2 2] (fun Z hZ => fill_two 4 (.agg #[.bool true, .int .i64 4, .int .i64 2, .slice none 0 0]) (.agg #[.bool false, .int .i64 0, .int .i64 0, .slice (some ⟨w13.heap.size, 0, none⟩) 2 2]) rfl rfl Z hZ) ?_)
  refine Calls.mono Hsm.out ?_
  rintro e15 w15 ⟨rfl, hb15⟩
  have HB15 := Lib.hid (HB14.out.trans (hb15.mono HB14.out.size))
  clear hb15 Hsm
  go_wp2_with fail
  go_ret
  exact ⟨rfl, HB15.out⟩
end Dl
end Go.Proofs.Ytiofkhjpknfkgaa
/- What is left of operations makes what is left of what they make: the walk of the statement. -/
namespace Go.Proofs.Ytiofkhjpknfkgaa
namespace Dl
open Go.RowKit Ba Tm Dm Os_
set_option linter.unusedVariables false
theorem light_wf {l : List O} {old : Int} {most size : Nat} (hl : light l most size = true) (hs : size ≤ 65536) (ho : old ≤ 4611686018427387904) (hm : ∀ x ∈ l, may x old = true) : ∀ x ∈ l, 0 ≤ makes x ∧ x.data.length ≤ 65536 ∧ x.pos ≤ 4611686018427387904 := fun x hx => by
  have h1 := hm x hx
  have h2 := may_makes h1
  have h3 := (light_facts hl).2.2 x hx
  refine ⟨by omega, by omega, ?_⟩
  by_cases hc : x.copy = true
  · have := may_copy hc h1; omega
  · have := may_lit (by simpa using hc) h1; omega
set_option maxRecDepth 100000 in
set_option maxHeartbeats 8000000 in
theorem fromlaw_calls (O : List UInt8) (A : Option Addr) (c : Nat) (L : List Ow) (A2 : Option Addr) (c2 : Nat) (a : Int) (hOc : O.length ≤ c) (hcm : c ≤ 9223372036854775807) (hlm : L.length ≤ 9223372036854775807) (ha : 0 ≤ a ∧ a ≤ 65535) (w : World) (hO : ReadB w w.heap.size A O) (hL : ReadO w w.heap.size A2 L) :
    Calls Try.prog 5 #[.slice A O.length c, .slice A2 L.length c2, .int .u16 a] w fun e w' => e = .returned (.bool true) ∧ Below w.heap.size w w' := by
  obtain ⟨m, hm⟩ : ∃ m, m = O.length := ⟨_, rfl⟩
  obtain ⟨n, hn⟩ : ∃ n, n = L.length := ⟨_, rfl⟩
  have hap := fun w h1 h2 => apply_calls O A m c hm (by omega) hcm L A2 n c2 hn (by omega) w h1 h2
  have hlt := light_calls L A2 n c2 60 3000 hn (by omega) (by omega) (by omega) w hL
  rw [← hm, ← hn]
  have HO := Lib.hid hO
  have HL := Lib.hid hL
  have Hm := Lib.hid hm
  have Hn := Lib.hid hn
  have Hap := Lib.hid hap
  have Hlt := Lib.hid hlt
  have hmc : m ≤ c := by omega
  have hnl : n ≤ 9223372036854775807 := by omega
  have haw := fun w => awake_calls w
  have Haw := Lib.hid haw
  clear hO hL hm hn hap hlt hOc hlm haw
  by_cases h1 : 3000 < m
  · go_enter Try.func5, Try.ntmps5
    go_wp2_with fail
    refine Calls.mono (Haw.out _) ?_
    rintro e9 w9 ⟨rfl, hb9⟩
    go_wp2_with fail
    go_ret
    exact ⟨rfl, hb9⟩
  by_cases h2 : light (ops L) 60 3000 = true
  case neg =>
    have h2' : light (ops L) 60 3000 = false := by simpa using h2
    rw [h2'] at Hlt
    clear h2 h2'
    go_enter Try.func5, Try.ntmps5
    go_wp2_with fail
    refine Calls.mono Hlt.out ?_
    rintro e9 w9 ⟨rfl, rfl⟩
    go_wp2_with fail
    refine Calls.mono (Haw.out _) ?_
    rintro e9 w9 ⟨rfl, hb9⟩
    go_wp2_with fail
    go_ret
    exact ⟨rfl, hb9⟩
  rw [h2] at Hlt
  have H2 := Lib.hid h2
  clear h2
  by_cases h3 : check (ops L) (O.length : Int) = 0
  case neg =>
    have hq := apply_no h3
    have hap := Hap.out w HO.out HL.out
    rw [hq] at hap
    simp only at hap
    have t1 : (check (ops L) (O.length : Int) == 0) = false := by simpa using h3
    generalize check (ops L) (O.length : Int) = q at *
    have Hap2 := Lib.hid hap
    clear hap hq h3
    go_enter Try.func5, Try.ntmps5
    go_wp2_with fail
    refine Calls.mono Hlt.out ?_
    rintro e9 w9 ⟨rfl, rfl⟩
    go_wp2_with fail
    refine Calls.mono Hap2.out ?_
    rintro e3 w3 ⟨v3, rfl, ho3, hb3⟩
    obtain ⟨A3, c3, hv3, -, -, -, -⟩ := ho3.opens
    subst hv3
    have HB3 := Lib.hid hb3
    clear ho3 hb3
    go_wp2_with fail
    refine Calls.mono (Haw.out _) ?_
    rintro e9 w9 ⟨rfl, hb9⟩
    have HB9 := Lib.hid (HB3.out.trans (hb9.mono HB3.out.size))
    clear hb9
    go_wp2_with fail
    go_ret
    exact ⟨rfl, HB9.out⟩
  have hq := apply_ok h3
  have hap := Hap.out w HO.out HL.out
  rw [hq] at hap
  simp only at hap
  obtain ⟨c4a, c4b, c4c⟩ := check_ok h3
  have hwf := light_wf H2.out (by omega) (by rw [← Hm.out]; omega) c4b
  have hlf := (light_facts H2.out).1
  rw [ops_len, ← Hn.out] at hlf
  obtain ⟨R, hR⟩ : ∃ R, R = made O (ops L) := ⟨_, rfl⟩
  have hRl := made_len O (ops L) 65536 (by omega) c4b c4c
  rw [← hR] at hap hRl
  obtain ⟨k, hk⟩ : ∃ k : Nat, a.tmod ((R.length : Int) + 2) = (k : Int) := ⟨(a.tmod ((R.length : Int) + 2)).toNat, by have := Int.tmod_nonneg ((R.length : Int) + 2) ha.1; omega⟩
  have hk2 : k < R.length + 2 := by have := Int.tmod_lt_of_pos a (show (0 : Int) < (R.length : Int) + 2 by omega); omega
  have hfr := fun w h => from_calls L A2 n c2 (k : Int) Hn.out (by omega) (by omega) hwf w h
  have hla := from_law O (ops L) (k : Int) h3
  rw [← hR, show ((k : Int).toNat) = k by omega] at hla
  obtain ⟨z, hz⟩ : ∃ z, z = R.length := ⟨_, rfl⟩
  rw [← hz] at hk hk2 hRl
  have h0 : ((z : Int) + 2 == 0) = false := by
    have : ¬ (z : Int) + 2 = 0 := by omega
    simpa using this
  have h0' : ¬ (z : Int) + 2 = 0 := by omega
  have Hap2 := Lib.hid hap
  have Hfr := Lib.hid hfr
  have Hla := Lib.hid hla
  have Hz := Lib.hid hz
  clear hap hfr hla hq hwf c4a c4b c4c hR hz h3 H2
  go_enter Try.func5, Try.ntmps5
  go_wp2_with fail
  refine Calls.mono Hlt.out ?_
  rintro e9 w9 ⟨rfl, rfl⟩
  go_wp2_with fail
  refine Calls.mono Hap2.out ?_
  rintro e3 w3 ⟨v3, rfl, ho3, hb3⟩
  obtain ⟨A3, c3, hv3, hp3, hm3, -, -⟩ := ho3.opens
  subst hv3
  have HR3 := Lib.hid (RT.of_own ho3)
  rw [← Hz.out] at hp3 ⊢
  have HB3 := Lib.hid hb3
  have hL3 := HL.out.below hb3
  have hfr3 := Hfr.out w3 (hL3.more hb3.size)
  have Hfr3 := Lib.hid hfr3
  clear ho3 hb3 hL3 hfr3 Hap2
  go_wp2_with fail
  refine Calls.mono Hfr3.out ?_
  rintro e5 w5 ⟨v5, M5, rfl, hO5, hop5, hb5⟩
  obtain ⟨A5, c5, hv5, hp5, hm5, hL5, -⟩ := hO5.opens
  subst hv5
  have hOw5 := HO.out.below (HB3.out.trans (hb5.mono HB3.out.size))
  have hap5 := apply_calls O A m c Hm.out hmc hcm M5 A5 M5.length c5 rfl (by omega) w5 (hOw5.more (HB3.out.trans (hb5.mono HB3.out.size)).size) hL5
  rw [hop5, Hla.out] at hap5
  simp only at hap5
  have Hap5 := Lib.hid hap5
  have HR5 := Lib.hid (HR3.out.below hb5)
  have HB5 := Lib.hid (HB3.out.trans (hb5.mono HB3.out.size))
  obtain ⟨l5, hl5⟩ : ∃ l5, l5 = M5.length := ⟨_, rfl⟩
  rw [← hl5] at Hap5 ⊢
  clear hO5 hop5 hp5 hm5 hL5 hb5 hOw5 hap5 hl5 HR3 Hfr3
  go_wp2_with fail
  refine Calls.mono Hap5.out ?_
  rintro e4 w4 ⟨v4, rfl, ho4, hb4⟩
  obtain ⟨A4, c4, hv4, -, -, hr4, -⟩ := ho4.opens
  subst hv4
  obtain ⟨T, hT⟩ : ∃ T, T = R.drop k := ⟨_, rfl⟩
  rw [← hT] at hr4 ⊢
  have HR4 := Lib.hid (HR5.out.below hb4)
  have HB4 := Lib.hid (HB5.out.trans (hb4.mono HB5.out.size))
  obtain ⟨i0, hi0⟩ := isByte_of Vi.info5
  obtain ⟨p, hp⟩ : ∃ p, p = min k z := ⟨_, rfl⟩
  have hTp : R.drop p = T := by
    rw [hT, hp]
    by_cases h : k ≤ z
    · rw [Nat.min_eq_left h]
    · rw [Nat.min_eq_right (by omega), List.drop_of_length_le (by rw [← Hz.out]; exact Nat.le_refl _), List.drop_of_length_le (by rw [← Hz.out]; omega)]
  have hsl := fun w' => sl_l (P := Try.prog) 22 5 i0 Try.underlying22 hi0 A3 z c3 (p : Int) p rfl (by omega) w'
  have hr6 := rt_cut (k := p) (cap := c3) HR4.out (by rw [← Hz.out]; exact hp3)
  rw [hTp] at hr6
  obtain ⟨A6, hA6⟩ : ∃ A6, A6 = if c3 = p then A3 else A3.map (·.add p) := ⟨_, rfl⟩
  obtain ⟨n6, hn6⟩ : ∃ n6, n6 = z - p := ⟨_, rfl⟩
  obtain ⟨c6, hc6⟩ : ∃ c6, c6 = c3 - p := ⟨_, rfl⟩
  rw [← hA6, ← hn6, ← hc6] at hsl
  rw [← hA6] at hr6
  obtain ⟨t4, ht4⟩ : ∃ t4, t4 = T.length := ⟨_, rfl⟩
  have Hn4 := Lib.hid ht4
  have hn6' : n6 = T.length := by rw [hn6, ← hTp, List.length_drop, ← Hz.out]
  have Hn6 := Lib.hid hn6'
  rw [← ht4]
  have Hr4 : Hid (ReadB w4.drew w4.drew.heap.size A4 T) := Lib.hid hr4.drew
  have Hr6 : Hid (ReadB w4.drew w4.drew.heap.size A6 T) := Lib.hid (ReadB.drew hr6.readB)
  have HBs : Hid (Below w.heap.size w w4.drew) := Lib.hid HB4.out.drew
  have Hp := Lib.hid hp
  clear hp ho4 hb4 hr4 hr6 hT hTp hA6 hn6 hn6' hc6 ht4 hi0 HR4 HR5 HB4 hp3 Hap5
  go_wp2_with fail
  by_cases hkz : k ≤ z
  · have hpk : p = k := by have := Hp.out; omega
    subst hpk
    clear Hp
    have hmn : ¬ z < p := by omega
    refine CanB.region 1000 (.op 0 2 (.op 1 2 (.op 2 2 (.op 3 2 (.op 4 1 (.op 5 2 (.op 6 2 (.op 7 2 (.op 8 2 (.op 9 0 (.op 10 2 (.op 11 1 (.op 12 2 (.op 13 2 (.op 14 2 (.op 15 0 (.op 16 2 (.op 17 2 (.nil))))))))))))))))))) (by kernel_rfl) (by kernel_rfl) ?_
    have hWd : Below w4.drew.heap.size w4.drew w4.drew := Below.refl _ _
    generalize w4.drew = ws at *
    repeat (first | (refine CanT.skip rfl ?_ (fun K hK => ?_); (focus (go_simp; done)); go_simp; refine hK _ ?_; clear hK K) | (refine CanT.pur rfl ?_ ?_; (focus (go_simp; done)); refine ⟨?_, ?_, ?_⟩; rotate_left; (focus (intro w'; go_simp; rfl)); (focus (intro K hK; go_simp; refine hK _ ?_; clear hK K))) | (refine CanB.str rfl ?_ 22 9 5 _ rfl Try.underlying22 Try.underlying5 Try.underlying9 A4 _ c4 (T) rfl (Hn4.out) Hr4.out (fun K hK => ?_); (focus (go_simp; done)); go_simp; refine hK _ ?_; clear hK K))
    refine CanT.imp rfl (fun K hK => ?_)
    go_simp
    refine hK.out _ _ hWd ?_
    clear hK K
    repeat (first | (refine CanT.skip rfl ?_ (fun K hK => ?_); (focus (go_simp; done)); go_simp; refine hK _ ?_; clear hK K) | (refine CanT.pur rfl ?_ ?_; (focus (go_simp; done)); refine ⟨?_, ?_, ?_⟩; rotate_left; (focus (intro w'; go_simp; rfl)); (focus (intro K hK; go_simp; refine hK _ ?_; clear hK K))) | (refine CanB.str rfl ?_ 22 9 5 _ rfl Try.underlying22 Try.underlying5 Try.underlying9 A6 _ c6 (T) rfl (Hn6.out) Hr6.out (fun K hK => ?_); (focus (go_simp; done)); go_simp; refine hK _ ?_; clear hK K))
    refine CanT.imp rfl (fun K hK => ?_)
    go_simp
    refine Calls.mono (awake_calls _) ?_
    rintro e9 w9 ⟨rfl, hb9⟩
    have HB9 := Lib.hid (HBs.out.trans (hb9.mono HBs.out.size))
    (try go_simp)
    refine hK.out _ _ hb9 ?_
    clear hK K hb9
    repeat (first | (refine CanT.skip rfl ?_ (fun K hK => ?_); (focus (go_simp; done)); go_simp; refine hK _ ?_; clear hK K) | (refine CanT.pur rfl ?_ ?_; (focus (go_simp; done)); refine ⟨?_, ?_, ?_⟩; rotate_left; (focus (intro w'; go_simp; rfl)); (focus (intro K hK; go_simp; refine hK _ ?_; clear hK K))))
    refine CanT.done ?_
    go_wp2_with fail
    go_ret
    exact ⟨rfl, HB9.out⟩
  · have hpz : p = z := by have := Hp.out; omega
    subst hpz
    clear Hp
    have hmn : p < k := by omega
    refine CanB.region 1000 (.op 0 2 (.op 1 2 (.op 2 2 (.op 3 2 (.op 4 1 (.op 5 2 (.op 6 2 (.op 7 2 (.op 8 2 (.op 9 0 (.op 10 2 (.op 11 1 (.op 12 2 (.op 13 2 (.op 14 2 (.op 15 0 (.op 16 2 (.op 17 2 (.nil))))))))))))))))))) (by kernel_rfl) (by kernel_rfl) ?_
    have hWd : Below w4.drew.heap.size w4.drew w4.drew := Below.refl _ _
    generalize w4.drew = ws at *
    repeat (first | (refine CanT.skip rfl ?_ (fun K hK => ?_); (focus (go_simp; done)); go_simp; refine hK _ ?_; clear hK K) | (refine CanT.pur rfl ?_ ?_; (focus (go_simp; done)); refine ⟨?_, ?_, ?_⟩; rotate_left; (focus (intro w'; go_simp; rfl)); (focus (intro K hK; go_simp; refine hK _ ?_; clear hK K))) | (refine CanB.str rfl ?_ 22 9 5 _ rfl Try.underlying22 Try.underlying5 Try.underlying9 A4 _ c4 (T) rfl (Hn4.out) Hr4.out (fun K hK => ?_); (focus (go_simp; done)); go_simp; refine hK _ ?_; clear hK K))
    refine CanT.imp rfl (fun K hK => ?_)
    go_simp
    refine hK.out _ _ hWd ?_
    clear hK K
    repeat (first | (refine CanT.skip rfl ?_ (fun K hK => ?_); (focus (go_simp; done)); go_simp; refine hK _ ?_; clear hK K) | (refine CanT.pur rfl ?_ ?_; (focus (go_simp; done)); refine ⟨?_, ?_, ?_⟩; rotate_left; (focus (intro w'; go_simp; rfl)); (focus (intro K hK; go_simp; refine hK _ ?_; clear hK K))) | (refine CanB.str rfl ?_ 22 9 5 _ rfl Try.underlying22 Try.underlying5 Try.underlying9 A6 _ c6 (T) rfl (Hn6.out) Hr6.out (fun K hK => ?_); (focus (go_simp; done)); go_simp; refine hK _ ?_; clear hK K))
    refine CanT.imp rfl (fun K hK => ?_)
    go_simp
    refine Calls.mono (awake_calls _) ?_
    rintro e9 w9 ⟨rfl, hb9⟩
    have HB9 := Lib.hid (HBs.out.trans (hb9.mono HBs.out.size))
    (try go_simp)
    refine hK.out _ _ hb9 ?_
    clear hK K hb9
    repeat (first | (refine CanT.skip rfl ?_ (fun K hK => ?_); (focus (go_simp; done)); go_simp; refine hK _ ?_; clear hK K) | (refine CanT.pur rfl ?_ ?_; (focus (go_simp; done)); refine ⟨?_, ?_, ?_⟩; rotate_left; (focus (intro w'; go_simp; rfl)); (focus (intro K hK; go_simp; refine hK _ ?_; clear hK K))))
    refine CanT.done ?_
    go_wp2_with fail
    go_ret
    exact ⟨rfl, HB9.out⟩
end Dl
end Go.Proofs.Ytiofkhjpknfkgaa
/- How a row's arguments are opened: bytes that came in, read as a list of bytes; how many there may be. -/
namespace Go.Proofs.Ytiofkhjpknfkgaa
namespace Rk
open Go.ChangeShapes Go.WideShapes Go.ChangeAt Go.RowKit Ba
set_option linter.unusedVariables false

theorem bd_i64 {n : Int} (h : (Lit.int .i64 n).wf = true) : -9223372036854775808 ≤ n ∧ n ≤ 9223372036854775807 := by
  simpa [Lit.wf, IntKind.min, IntKind.max, IntKind.signed, IntKind.bits] using h
theorem bd_u8 {n : Int} (h : (Lit.int .u8 n).wf = true) : 0 ≤ n ∧ n ≤ 255 := by
  simpa [Lit.wf, IntKind.min, IntKind.max, IntKind.signed, IntKind.bits] using h
theorem bd_u16 {n : Int} (h : (Lit.int .u16 n).wf = true) : 0 ≤ n ∧ n ≤ 65535 := by
  simpa [Lit.wf, IntKind.min, IntKind.max, IntKind.signed, IntKind.bits] using h
theorem bd_u32 {n : Int} (h : (Lit.int .u32 n).wf = true) : 0 ≤ n ∧ n ≤ 4294967295 := by
  simpa [Lit.wf, IntKind.min, IntKind.max, IntKind.signed, IntKind.bits] using h

theorem bytes_open {H : Type} {enc : TypeId × Value → H} {P : Program} {W : World} {base : Nat} {spare : Nat → Bool} {held : Bool} {t e : TypeId} {a : Option Addr} {len cap : Nat} {d : DataW H} {ps : List MemPlace}
    (hu : P.underlying t = some (.slice e)) (he : P.underlying e = some (.int .u8)) (hc : P.cellsOf e = 1) (h : DataW.Trod enc P W base spare held t (.slice a len cap) d ps) :
    ∃ l : List UInt8, len = l.length ∧ l.length ≤ cap ∧ cap ≤ 9223372036854775807 ∧ ReadB W W.heap.size a l := by
  obtain ⟨fuel, hf⟩ := h
  rcases open_ints hu he hc hf with ⟨hcs, _⟩ | ⟨x, l, c, zs, hcs, _, hl, hm, hz, hx, hcell, hwz⟩
  · simp [Value.cells] at hcs
    obtain ⟨rfl, rfl, rfl⟩ := hcs
    exact ⟨[], rfl, by simp, by omega, ReadB.nil⟩
  · simp [Value.cells] at hcs
    obtain ⟨rfl, rfl, rfl⟩ := hcs
    have hl2 : len ≤ zs.length := by
      rw [hz]
      split
      · exact hl
      · exact Nat.le_refl _
    have hb : ∀ k, k < zs.length → ((UInt8.ofNat (zs.getD k 0).toNat).toNat : Int) = zs.getD k 0 := fun k hk => by
      have hmem : zs.getD k 0 ∈ zs := by simp [List.getD, hk]
      have := bd_u8 (hwz _ hmem)
      rw [UInt8.toNat_ofNat']
      omega
    refine ⟨(zs.take len).map fun z => UInt8.ofNat z.toNat, by simp; omega, by simp; omega, by simpa [maxLen] using hm, ?_⟩
    intro hn
    have hn2 : 0 < len := by simp at hn; omega
    have h0 : W.cell? x = some (.int .u8 (zs.getD 0 0)) := by
      have := hcell 0 (by omega)
      rwa [add_zero_] at this
    have hs : x.spot = none := by
      unfold World.cell? at h0
      split at h0
      · split at h0
        · cases h0
        · rename_i hs; simpa using hs
      · cases h0
    have hblk := block_lt_of_cell h0
    obtain ⟨b, o, s⟩ := x
    simp only at hs
    subst hs
    refine ⟨b, o, rfl, hblk, fun k hk => ?_⟩
    have hk2 : k < len := by simp at hk; omega
    have := hcell k (by omega)
    rw [add_lit_] at this
    rw [this]
    have e : (((zs.take len).map fun z => UInt8.ofNat z.toNat).getD k 0) = UInt8.ofNat (zs.getD k 0).toNat := by
      simp [List.getD, hk2, show k < zs.length by omega]
    rw [e, hb k (by omega)]

theorem sized_ints {H : Type} {enc : TypeId × Value → H} {P : Program} {W : World} {base : Nat} {spare : Nat → Bool} {held : Bool} {t e : TypeId} {k : IntKind} {a : Option Addr} {len cap : Nat} {d : DataW H} {ps : List MemPlace} {ts : List TypeId} {ds : List (DataW H)} {j : Nat}
    (hsz : (DataW.weightsEach P ts ds).all (· ≤ reachBytes) = true) (ht : ts[j]? = some t) (hd : ds[j]? = some d) (hu : P.underlying t = some (.slice e)) (he : P.underlying e = some (.int k)) (hc : P.cellsOf e = 1) {B : Nat} (hB : P.bytesOf e = B)
    (h : DataW.Trod enc P W base spare held t (.slice a len cap) d ps) : len * B ≤ 140737488351232 := by
  obtain ⟨fuel, hf⟩ := h
  rcases open_ints hu he hc hf with ⟨hcs, _⟩ | ⟨x, l, c, zs, hcs, _, hl, _, hz, hx, _, _⟩
  · simp [Value.cells] at hcs
    obtain ⟨rfl, rfl, rfl⟩ := hcs
    simp
  · simp [Value.cells] at hcs
    obtain ⟨rfl, rfl, rfl⟩ := hcs
    obtain ⟨hx, _⟩ := Prod.mk.inj hx
    subst hx
    have z := sized_slice hsz ht hd hu
    rw [hB] at z
    have hl2 : len ≤ zs.length := by
      rw [hz]
      split
      · exact hl
      · exact Nat.le_refl _
    have h1 : (lits (H := H) k (zs.take len)).length + (lits (H := H) k (zs.drop len)).length = zs.length := by
      simp [lits]
      omega
    rw [h1] at z
    exact Nat.le_trans (Nat.mul_le_mul_right _ hl2) z
end Rk
end Go.Proofs.Ytiofkhjpknfkgaa
/- Arguments: slices of records, structs, arrays of bytes: opened from what they read as, cell by cell. -/
namespace Go.Proofs.Ytiofkhjpknfkgaa
namespace Rk
open Go.ChangeShapes Go.WideShapes Go.ChangeAt Go.RowKit Ba
set_option linter.unusedVariables false
section
variable {H : Type} {enc : TypeId × Value → H} {P : Program} {W : World} {base : Nat} {spare : Nat → Bool} {held : Bool}
theorem cells_plain {x : Addr} {v : Value} (h0 : W.cell? x = some v) : ∃ b o, x = ⟨b, o, none⟩ ∧ b < W.heap.size := by
  have hs : x.spot = none := by
    unfold World.cell? at h0
    split at h0
    · split at h0
      · cases h0
      · rename_i hs; simpa using hs
    · cases h0
  have hblk := block_lt_of_cell h0
  obtain ⟨b, o, s⟩ := x
  simp only at hs
  subst hs
  exact ⟨b, o, rfl, hblk⟩
/-- a slice of records -/
theorem open_rows {α : Type} {f : α → List Value} {sz : Nat} (Wf : α → Prop) {t e : TypeId} {fuel : Nat} {cs : List Value} {x : DataW H × List MemPlace} (hu : P.underlying t = some (.slice e)) (ce : P.cellsOf e = sz) (hsz : 0 < sz)
    (hel : ∀ fuel cs x, DataW.trod enc P W base spare held fuel e cs = some x → ∃ y, cs = f y ∧ Wf y) (h1 : ∀ y, Wf y → ∀ u ∈ f y, u.oneCell' = true) (hln : ∀ y, Wf y → (f y).length = sz)
    (h : DataW.trod enc P W base spare held fuel t cs = some x) :
    ∃ (A : Option Addr) (l : List α) (c : Nat), cs = [.slice A l.length c] ∧ l.length ≤ c ∧ c ≤ 9223372036854775807 ∧ ReadRow f sz W W.heap.size A l ∧ ∀ y ∈ l, Wf y := by
  rcases Deep.open_slice hu h with ⟨hcs, _⟩ | ⟨a, len, cap, m, n, D, Pl, hcs, _, hl, hm, hmm, hx0, hcell⟩
  · exact ⟨none, [], 0, hcs, by simp, by omega, ReadRow.nil, by simp⟩
  · have hl2 : len ≤ m := by rw [hmm]; split <;> omega
    have key : ∀ i, i < len → ∃ y, Wf y ∧ ∀ j u, (f y)[j]? = some u → W.cell? (a.add (i * sz + j)) = some u := fun i hi => by
      obtain ⟨cs', q1, q2⟩ := hcell i (by omega)
      obtain ⟨y, rfl, hy⟩ := hel _ _ _ q2
      obtain ⟨_, q3, q4⟩ := World.cells?_some q1
      rw [ce] at q3 q4
      refine ⟨y, hy, fun j u hj => ?_⟩
      have hjs : j < sz := by
        rcases Nat.lt_or_ge j sz with h | h
        · exact h
        · rw [List.getElem?_eq_none (by omega)] at hj; cases hj
      rw [← add_of_add, q4 j hjs]
      exact hj
    have hex : ∃ l : List α, l.length = len ∧ ∀ i y, l[i]? = some y → Wf y ∧ ∀ j u, (f y)[j]? = some u → W.cell? (a.add (i * sz + j)) = some u := by
      clear hcs hl hm hmm hcell hl2 hx0
      induction len with
      | zero => exact ⟨[], rfl, by simp⟩
      | succ k ih =>
        obtain ⟨l, h1, h2⟩ := ih (fun i hi => key i (by omega))
        obtain ⟨y, h3, h4⟩ := key k (by omega)
        refine ⟨l ++ [y], by simp [h1], fun i z hz => ?_⟩
        rcases Nat.lt_or_ge i l.length with h | h
        · rw [List.getElem?_append_left h] at hz
          exact h2 i z hz
        · rw [List.getElem?_append_right h] at hz
          have h0 : i - l.length = 0 := by
            rcases Nat.eq_zero_or_pos (i - l.length) with h | h
            · exact h
            · rw [List.getElem?_eq_none (by simp; omega)] at hz; cases hz
          rw [h0] at hz
          simp at hz
          subst hz
          have : i = k := by omega
          subst this
          exact ⟨h3, h4⟩
    obtain ⟨l, hl3, hl4⟩ := hex
    have hwf : ∀ y ∈ l, Wf y := fun y hy => by
      obtain ⟨i, hi⟩ := List.getElem?_of_mem hy
      exact (hl4 i y hi).1
    have hR : RWf f sz l := fun y hy => ⟨hln y (hwf y hy), h1 y (hwf y hy)⟩
    subst hl3
    refine ⟨some a, l, cap, hcs, hl, by simpa [maxLen] using hm, ⟨hR, fun hn => ?_⟩, hwf⟩
    have hc0 : ∀ j u, (rows f l)[j]? = some u → W.cell? (a.add j) = some u := fun j u hu => by
      have hj : j < l.length * sz := by
        rcases Nat.lt_or_ge j (l.length * sz) with h | h
        · exact h
        · rw [List.getElem?_eq_none (by rw [rows_len hR]; exact h)] at hu; cases hu
      have hd : j / sz < l.length := Nat.div_lt_of_lt_mul (by rw [Nat.mul_comm]; exact hj)
      have e : j = j / sz * sz + j % sz := by rw [Nat.mul_comm]; exact (Nat.div_add_mod j sz).symm
      have hg := rows_get hR (List.getElem?_eq_getElem hd) (j % sz) (Nat.mod_lt _ hsz)
      rw [← e, hu] at hg
      have := (hl4 _ _ (List.getElem?_eq_getElem hd)).2 (j % sz) u hg.symm
      rwa [← e] at this
    obtain ⟨u0, hu0⟩ : ∃ u, (rows f l)[0]? = some u := by
      have : 0 < (rows f l).length := by rw [rows_len hR]; exact Nat.mul_pos hn hsz
      exact ⟨_, List.getElem?_eq_getElem this⟩
    have h00 := hc0 0 u0 hu0
    rw [add_zero_] at h00
    obtain ⟨b, o, rfl, hb⟩ := cells_plain h00
    exact ⟨b, o, rfl, hb, fun j u hu => by rw [← add_lit_]; exact hc0 j u hu⟩
/-- an array of bytes -/
theorem open_arr {t e : TypeId} {n fuel : Nat} {cs : List Value} {x : DataW H × List MemPlace} (hu : P.underlying t = some (.array n e)) (he : P.underlying e = some (.int .u8)) (ce : P.cellsOf e = 1) (ct : P.cellsOf t = n)
    (h : DataW.trod enc P W base spare held fuel t cs = some x) : ∃ l : List UInt8, cs = bvs l ∧ l.length = n := by
  obtain ⟨xs, m, rfl, _, hl, hxs, hi⟩ := DataW.trod_array hu h
  have hcl : cs.length = n := by omega
  have key : ∀ i, i < n → ∃ b : UInt8, cs[i]? = some (bv b) := fun i hin => by
    have h1 := hi i hin
    rw [ce, Nat.mul_one, List.getElem?_eq_getElem (show i < xs.length by omega)] at h1
    obtain ⟨z, e0, _, w0⟩ := DataW.trod_int he h1
    have hb := bd_u8 w0
    have hil : i < cs.length := by omega
    have e1 : (cs.drop i).take 1 = [cs[i]] := by
      rw [List.drop_eq_getElem_cons hil]; rfl
    rw [e1] at e0
    injection e0 with e0
    refine ⟨UInt8.ofNat z.toNat, ?_⟩
    rw [List.getElem?_eq_getElem hil, e0]
    unfold bv
    rw [UInt8.toNat_ofNat']
    congr 2
    omega
  refine ⟨(List.range n).map fun i => if hin : i < n then (key i hin).choose else 0, ?_, by simp⟩
  refine List.ext_getElem? fun i => ?_
  by_cases hin : i < n
  · rw [(key i hin).choose_spec]
    simp [bvs, hin]
  · rw [List.getElem?_eq_none (by omega), List.getElem?_eq_none (by simp [bvs]; omega)]
/-- a struct's field -/
theorem open_field {t : TypeId} {fs : Array Field} {fuel : Nat} {cs : List Value} {x : DataW H × List MemPlace} (ht : P.underlying t = some (.struct fs)) (h : DataW.trod enc P W base spare held fuel t cs = some x) :
    cs.length = P.cellsOf t ∧ ∀ (i : Nat) (f : Field), fs[i]? = some f → ∃ m y, DataW.trod enc P W base spare held m f.type ((cs.drop f.offset).take (P.cellsOf f.type)) = some y := by
  obtain ⟨xs, m, rfl, _, hl, hxs, hi⟩ := DataW.trod_struct ht h
  refine ⟨hl, fun i f hf => ?_⟩
  have hil : i < xs.length := by
    rw [hxs]
    exact (Array.getElem?_eq_some_iff.1 hf).1
  have := hi i f hf
  rw [List.getElem?_eq_getElem hil] at this
  exact ⟨m, _, this⟩
/-- a struct by value has its cells -/
theorem agg_of {b2 : Nat} {t : TypeId} {fs : Array Field} {v : Value} (ht : P.underlying t = some (.struct fs)) (hv : Value.okWide P W .any b2 t v) : ∃ cs, v = .agg cs := by
  unfold Value.okWide at hv
  simp only [ht] at hv
  obtain ⟨cs, h1, _⟩ := hv
  exact ⟨cs, h1⟩
end
end Rk
end Go.Proofs.Ytiofkhjpknfkgaa
/- Arguments: operations; several pieces of bytes. -/
namespace Go.Proofs.Ytiofkhjpknfkgaa
namespace Rk
open Go.ChangeShapes Go.WideShapes Go.ChangeAt Go.RowKit Ba Os_
set_option linter.unusedVariables false
theorem opF : (Try.prog.fieldsOf 54).toList.map (fun f => (f.type, f.offset)) = [(4, 0), (3, 1), (3, 2), (22, 3)] := by kernel_rfl
theorem fields_at2 {P : Program} {t : TypeId} {l : List (TypeId × Nat)} (h : (P.fieldsOf t).toList.map (fun f => (f.type, f.offset)) = l) (i : Nat) (a : TypeId) (o : Nat) (hi : l[i]? = some (a, o)) : ∃ f, (P.fieldsOf t)[i]? = some f ∧ f.type = a ∧ f.offset = o := by
  subst h
  rw [List.getElem?_map] at hi
  obtain ⟨f, hf, e⟩ := Option.map_eq_some_iff.1 hi
  simp only [Prod.mk.injEq] at e
  exact ⟨f, by rw [← Array.getElem?_toList]; exact hf, e.1, e.2⟩
section
variable {H : Type} {enc : TypeId × Value → H} {P : Program} {W : World} {base : Nat} {spare : Nat → Bool} {held : Bool}
/-- bytes that came in, by their one cell -/
theorem bytes_cells {t e : TypeId} {fuel : Nat} {cs : List Value} {x : DataW H × List MemPlace} (hu : P.underlying t = some (.slice e)) (he : P.underlying e = some (.int .u8)) (hc : P.cellsOf e = 1) (h : DataW.trod enc P W base spare held fuel t cs = some x) :
    ∃ (A : Option Addr) (l : List UInt8) (c : Nat), cs = [.slice A l.length c] ∧ l.length ≤ c ∧ c ≤ 9223372036854775807 ∧ ReadB W W.heap.size A l := by
  rcases Deep.open_slice hu h with ⟨rfl, _⟩ | ⟨a, len, cap, m, n, D, Pl, rfl, _⟩
  · exact ⟨none, [], 0, rfl, by simp, by omega, ReadB.nil⟩
  · obtain ⟨l, rfl, h1, h2, h3⟩ := bytes_open (d := x.1) (ps := x.2) hu he hc ⟨fuel, h⟩
    exact ⟨_, l, cap, rfl, h1, h2, h3⟩
end
section
variable {H : Type} {enc : TypeId × Value → H} {W : World} {base : Nat} {spare : Nat → Bool} {held : Bool}
theorem open_op {fuel : Nat} {cs : List Value} {x : DataW H × List MemPlace} (h : DataW.trod enc Try.prog W base spare held fuel 54 cs = some x) : ∃ y : Ow, cs = opv y ∧ WfO W W.heap.size y := by
  obtain ⟨hl, hf⟩ := open_field (t := 54) (fs := Try.prog.fieldsOf 54) (by kernel_rfl) h
  obtain ⟨f0, g0, t0, o0⟩ := fields_at2 opF 0 4 0 rfl
  obtain ⟨f1, g1, t1, o1⟩ := fields_at2 opF 1 3 1 rfl
  obtain ⟨f2, g2, t2, o2⟩ := fields_at2 opF 2 3 2 rfl
  obtain ⟨f3, g3, t3, o3⟩ := fields_at2 opF 3 22 3 rfl
  obtain ⟨m0, y0, h0⟩ := hf 0 f0 g0
  obtain ⟨m1, y1, h1⟩ := hf 1 f1 g1
  obtain ⟨m2, y2, h2⟩ := hf 2 f2 g2
  obtain ⟨m3, y3, h3⟩ := hf 3 f3 g3
  rw [t0, o0, show Try.prog.cellsOf 4 = 1 by kernel_rfl] at h0
  rw [t1, o1, show Try.prog.cellsOf 3 = 1 by kernel_rfl] at h1
  rw [t2, o2, show Try.prog.cellsOf 3 = 1 by kernel_rfl] at h2
  rw [t3, o3, show Try.prog.cellsOf 22 = 1 by kernel_rfl] at h3
  rw [show Try.prog.cellsOf 54 = 4 by kernel_rfl] at hl
  obtain ⟨z0, e0, _⟩ := DataW.trod_bool Try.underlying4 h0
  obtain ⟨z1, e1, _, w1⟩ := DataW.trod_int Try.underlying3 h1
  obtain ⟨z2, e2, _, w2⟩ := DataW.trod_int Try.underlying3 h2
  obtain ⟨A, l, c, e3, q1, q2, q3⟩ := bytes_cells Try.underlying22 Try.underlying5 (by kernel_rfl) h3
  refine ⟨(⟨z0, z1, z2, l⟩, A, c), ?_, bd_i64 w1, bd_i64 w2, q1, q2, q3⟩
  unfold opv
  match cs, hl with
  | [x, y, z, u], _ =>
    simp at e0 e1 e2 e3
    rw [e0, e1, e2, e3]
/-- an argument of operations -/
theorem ops_open {a : Option Addr} {len cap : Nat} {d : DataW H} {ps : List MemPlace} (h : DataW.Trod enc Try.prog W base spare held 23 (.slice a len cap) d ps) :
    ∃ L : List Ow, len = L.length ∧ L.length ≤ cap ∧ cap ≤ 9223372036854775807 ∧ ReadO W W.heap.size a L := by
  obtain ⟨fuel, hf⟩ := h
  obtain ⟨A, l, c, e, q1, q2, q3, q4⟩ := open_rows (f := opv) (sz := 4) (WfO W W.heap.size) Try.underlying23 (by kernel_rfl) (by omega) (fun fuel cs x hx => open_op hx) (fun y _ => opv_one y) (fun y _ => opv_len y) hf
  simp [Value.cells] at e
  obtain ⟨rfl, rfl, rfl⟩ := e
  exact ⟨l, rfl, q1, q2, q3, q4⟩
end
end Rk
end Go.Proofs.Ytiofkhjpknfkgaa
