/- Bytes are fed to a decoder, by the program. -/
import Derived.Test.YtiofkhjpknfkgaaA01
import Derived.Test.YtiofkhjpknfkgaaA02
import Derived.Test.YtiofkhjpknfkgaaA03
import Derived.Test.YtiofkhjpknfkgaaA04
import Derived.Test.YtiofkhjpknfkgaaA05
import Derived.Test.YtiofkhjpknfkgaaA06
import Derived.Test.YtiofkhjpknfkgaaA07
import Derived.Test.YtiofkhjpknfkgaaA08
import Derived.ProofKit
import Derived.OpenShut
import Derived.ShutString
import Derived.ChangeOld
import Derived.SizedLaws
import Derived.ChangeSlices
namespace Go.Proofs.Ytiofkhjpknfkgaa
namespace Dl
open Go.RowKit Ba Tm Dm Os_
set_option linter.unusedVariables false
theorem IsD.cells {w : World} {g : Nat} {old made : Int} {b : List UInt8} {e : Int} (h : IsD w g old made b e) : w.cell? ⟨g, 0, none⟩ = some (.int .i64 old) ∧ w.cell? ⟨g, 1, none⟩ = some (.int .i64 made) ∧ w.cell? ⟨g, 3, none⟩ = some (.int .i64 e) ∧ (∀ i, w.frozen? ⟨g, i, none⟩ = false) ∧ ∃ A c, w.cell? ⟨g, 2, none⟩ = some (.slice A b.length c) ∧ b.length ≤ c ∧ c ≤ 9223372036854775807 ∧ RT w A b ∧ Blk w g 60 #[.int .i64 old, .int .i64 made, .slice A b.length c, .int .i64 e] := by
  obtain ⟨A, c, h1, h2, h3, h4⟩ := h
  exact ⟨by rw [Blk.cell h1]; rfl, by rw [Blk.cell h1]; rfl, by rw [Blk.cell h1]; rfl, Blk.frozen h1, A, c, by rw [Blk.cell h1]; rfl, h2, h3, h4, h1⟩
/-- what feeding does -/
def FeedPost (w : World) (g : Nat) (old : Int) (d : D) (x : List UInt8) (r : Ending) (w' : World) : Prop :=
  ∃ (v : Value) (M : List Ow), r = .returned (.tuple #[v, .int .i64 (feed old d x).2.2]) ∧ OwnO w' w.heap.size v M ∧ ops M = (feed old d x).2.1 ∧ IsD w' g old (feed old d x).1.made (feed old d x).1.b (feed old d x).1.e ∧ w.grownBy w' (some g)
theorem feed_err (old : Int) (d : D) (x : List UInt8) (h : d.e ≠ 0) : feed old d x = (d, [], d.e) := if_pos h
theorem feed_ok (old : Int) (m : Int) (b x : List UInt8) {out : List O} {m2 : Int} {r : List UInt8} {e : Int} (h : loop old ((b ++ x).length + 1) [] m (b ++ x) = (out, m2, r, e)) : feed old ⟨m, b, 0⟩ x = if e ≠ 0 then (⟨m, b, e⟩, [], e) else (⟨m2, r, 0⟩, out, 0) := by
  unfold feed
  simp only
  rw [if_neg (by simp), h]
set_option maxRecDepth 100000 in
set_option maxHeartbeats 16000000 in
theorem feed_calls (g : Nat) (old m0 : Int) (b : List UInt8) (e0 : Int) (x : List UInt8) (A : Option Addr) (n c : Nat) (hn : n = x.length) (hlc : n ≤ c) (hcm : c ≤ 9223372036854775807) (ho : -9223372036854775808 ≤ old ∧ old ≤ 9223372036854775807) (hm0 : 0 ≤ m0 ∧ m0 ≤ 65536) (hbx : b.length + n ≤ 1099511627776) (w : World) (hd : IsD w g old m0 b e0) (hx : ReadB w w.heap.size A x) :
    Calls Try.prog 14 #[.pointer (some ⟨g, 0, none⟩), .slice A n c] w fun r w' => FeedPost w g old ⟨m0, b, e0⟩ x r w' := by
  obtain ⟨d0, d1, d3, z, A0, cc0, d2, h2, h3, h4, hB⟩ := hd.cells
  by_cases he : e0 = 0
  · subst he
    obtain ⟨i0, hi0⟩ := isByte_of Vi.info5
    obtain ⟨iO, hiO⟩ := isOp
    have Hi0 := Lib.hid hi0
    have Hi := Lib.hid hiO
    have hcl := Cl.cloneN (c := cc0) (A := A0) (n := b.length) (w := w) (l := b) rfl h2 (by omega) h4.readB
    obtain ⟨Tt, hT⟩ : ∃ Tt, Tt = b ++ x := ⟨_, rfl⟩
    have hTl : Tt.length = b.length + n := by rw [hT, List.length_append, hn]
    obtain ⟨o2, m2, r2, e2, hlp⟩ : ∃ o2 m2 r2 e2, loop old (Tt.length + 1) [] m0 Tt = (o2, m2, r2, e2) := ⟨_, _, _, _, rfl⟩
    have hfe := feed_ok (out := o2) (m2 := m2) (r := r2) (e := e2) old m0 b x (by rw [← hT]; exact hlp)
    have HB := Lib.hid hB
    have HD := Lib.hid hd
    have Hx := Lib.hid hx
    have Hn := Lib.hid hn
    have Hcl := Lib.hid hcl
    have HT := Lib.hid hT
    have HTl := Lib.hid hTl
    have Hlp := Lib.hid hlp
    have Hfe := Lib.hid hfe
    have Hz := Lib.hid z
    have Hl : Hid (b.length + n ≤ 1099511627776) := Lib.hid hbx
    have hrb := Lib.hid h4
    clear hB hd hx hn hcl hT hTl hlp hfe hi0 hiO h4 hbx
    go_enter Try.func14, Try.ntmps14
    go_wp2_with fail
    refine Calls.mono Hcl.out ?_
    rintro e1 w1 ⟨v1, rfl, ho1, hb1⟩
    have HO1 := Lib.hid ho1
    have HB1 := Lib.hid hb1
    have HX1 := Lib.hid (Hx.out.below hb1)
    have k1 := (hb1.cell (p := ⟨g, 1, none⟩) HB.out.lt).trans d1
    have k1 : w1.cell? ⟨g, 1, none⟩ = some (.int .i64 m0) := k1
    clear ho1 hb1 d0 d1 d2 d3 z
    go_wp2_with (at_builtin; go_loud (refine wpList_appB _ rfl (.tmp 28) (.tmp 29) 22 rfl w.heap.size 5 i0 Try.underlying22 Hi0.out v1 b rfl HO1.out w.heap.size A _ c x rfl Hn.out HX1.out (by have := Hn.out; have := Hl.out; omega) HB1.out.size ?_); intro v2 w2 ho2 hg2 _ hb2; have k2 : w2.cell? ⟨g, 1, none⟩ = some (.int .i64 m0) := (hb2.cell (p := ⟨g, 1, none⟩) HB.out.lt).trans k1)
    rw [← HT.out] at ho2
    have hbw2 := HB1.out.trans hb2
    obtain ⟨A2, c2, rfl, hp2, hm2, -, -⟩ := ho2.opens
    have HRt2 := Lib.hid (RT.of_own ho2)
    have HW2 := Lib.hid hbw2
    clear ho2 hg2 hb2 hbw2 k1 k2 HO1 HB1 HX1 Hcl
    go_loopg [6, 7, 8] (b.length + n) (fun q v6 v7 v8 wr => ∃ (r : List UInt8) (A' : Option Addr) (c' : Nat) (m : Int) (M : List Ow) (f : Nat), q = r.length ∧ v6 = .slice A' r.length c' ∧ r.length ≤ c' ∧ c' ≤ 9223372036854775807 ∧ RT wr A' r ∧ v7 = .int .i64 m ∧ 0 ≤ m ∧ m ≤ 65536 ∧ OwnO wr w.heap.size v8 M ∧ M.length + r.length ≤ 1099511627776 ∧ r.length < f ∧ loop old f (ops M) m r = (o2, m2, r2, e2) ∧ Below w.heap.size w wr)
    case atStart => exact ⟨Tt, A2, c2, m0, [], Tt.length + 1, HTl.out.symm, rfl, hp2, hm2, HRt2.out, rfl, hm0.1, hm0.2, OwnO.nil, by simp; rw [HTl.out]; exact Hl.out, by omega, Hlp.out, HW2.out⟩
    case round =>
      obtain ⟨r, A', c', m, M, f, hq, rfl, hrc, hcc, hrt, rfl, hm1, hm2', ho8, hML, hrf, hlp, hbw⟩ := hrel
      obtain ⟨f, rfl⟩ : ∃ f', f = f' + 1 := ⟨f - 1, by omega⟩
      have htk := take_calls r A' r.length c' old (65536 - m) rfl hrc hcc ho (by omega) wr hrt
      have Hq := Lib.hid hq
      have HRt := Lib.hid hrt
      have HO := Lib.hid ho8
      have HML := Lib.hid hML
      have Hrf := Lib.hid hrf
      have Hlp2 := Lib.hid hlp
      have HW := Lib.hid hbw
      have Htk := Lib.hid htk
      obtain ⟨rl, hrl⟩ : ∃ rl, rl = r.length := ⟨_, rfl⟩
      have Hrl := Lib.hid hrl
      rw [← hrl] at Htk hrc ⊢
      have k0 : wr.cell? ⟨g, 0, none⟩ = some (.int .i64 old) := by rw [Blk.cell (HB.out.below hbw HB.out.lt)]; rfl
      clear hq hrt ho8 hML hrf hlp hbw htk hrl HRt2 HW2
      go_wp2_with fail
      refine Calls.mono Htk.out ?_
      rintro e1 w3 ⟨hb3, hno, hyes⟩
      have HW3 := Lib.hid (HW.out.trans (hb3.mono HW.out.size))
      have HO3 := Lib.hid (HO.out.keptB hb3)
      have HRt3 := Lib.hid (HRt.out.below hb3)
      have Hbt := Lib.hid hb3
      clear hb3 HO HRt k0 Htk
      by_cases hk : takeOk r old (65536 - m)
      · obtain ⟨Dd, kk, A'', he1, hwf, hrt', hun⟩ := hyes hk
        have hgo := loop_go old f (ops M) m r hk
        rw [Hlp2.out] at hgo
        have hmk0 := one_makes r old hk.2.1
        have hmkle := hk.2.2
        have hu0 := hk.2.1
        obtain ⟨u, hu⟩ : ∃ u, u = (one r old).2.1 := ⟨_, rfl⟩
        rw [← hu] at hgo he1 hrt' hun hu0
        generalize (one r old).1 = X at *
        obtain ⟨X1, X2, X3, X4⟩ := X
        have hmv : makes ⟨X1, X2, X3, X4⟩ = if X1 then X3 else (X4.length : Int) := rfl
        have hmm := fun w => makes_calls X1 X2 X3 Dd X4.length kk w
        rw [← hmv] at hmm
        generalize hy : makes ⟨X1, X2, X3, X4⟩ = y at *
        have hops : (opv (⟨X1, X2, X3, X4⟩, Dd, kk)).toArray = #[.bool X1, .int .i64 X2, .int .i64 X3, .slice Dd X4.length kk] := rfl
        rw [hops] at he1
        subst he1
        have Hgo := Lib.hid hgo
        have Hwf := Lib.hid hwf
        have Hrt' := Lib.hid (hrt'.below ((Below.refl wr.heap.size wr)))
        have Hmm := Lib.hid hmm
        have Hun := Lib.hid hun
        have Hu0 := Lib.hid hu0
        clear hno hyes hgo hwf hrt' hmm hmv hops hu hy hun hu0 hk
        have HD4 : Hid ((w3.alloc (.cells #[.bool X1, .int .i64 X2, .int .i64 X3, .slice Dd X4.length kk] 54)).rangeAt w3.heap.size 0 [.bool X1, .int .i64 X2, .int .i64 X3, .slice Dd X4.length kk]) := Lib.hid (op_cells (heap_alloc_new w3 _)).2.2.2.2
        have hW4 : Below w.heap.size w (w3.alloc (.cells #[.bool X1, .int .i64 X2, .int .i64 X3, .slice Dd X4.length kk] 54)) := HW3.out.alloc HW3.out.size _
        have HW4 := Lib.hid hW4
        clear hW4
        go_wp2_with (refine wpList_load_mid rfl 54 (.tmp 9) rfl w3.heap.size 0 rfl [.bool X1, .int .i64 X2, .int .i64 X3, .slice Dd X4.length kk] _ HD4.out Try.underlying54 rfl (by kernel_rfl) ?_)
        refine Calls.mono (Hmm.out _) ?_
        rintro e5 w5 ⟨rfl, hb5⟩
        have HW5 := Lib.hid (HW4.out.trans (hb5.mono HW4.out.size))
        have HD5 : Hid (w5.rangeAt w3.heap.size 0 [.bool X1, .int .i64 X2, .int .i64 X3, .slice Dd X4.length kk]) := Lib.hid fun jj v hv => (hb5.cell (p := ⟨w3.heap.size, 0 + jj, none⟩) (by simp)).trans (HD4.out jj v hv)
        have HO5 := Lib.hid ((HO3.out.alloc (.cells #[.bool X1, .int .i64 X2, .int .i64 X3, .slice Dd X4.length kk] 54)).keptB hb5)
        have Hw5 := Lib.hid ((Hwf.out.below ((Below.refl _ _).alloc (Nat.le_refl _) (.cells #[.bool X1, .int .i64 X2, .int .i64 X3, .slice Dd X4.length kk] 54))).below hb5)
        have Hr5 := Lib.hid (((Hrt'.out.below Hbt.out).below ((Below.refl _ _).alloc (Nat.le_refl _) (.cells #[.bool X1, .int .i64 X2, .int .i64 X3, .slice Dd X4.length kk] 54))).below hb5)
        clear hb5 HD4 HW4 HO3 HRt3
        go_wp2_with (first
          | (refine wpList_load_mid rfl 54 (.tmp 9) rfl w3.heap.size 0 rfl [.bool X1, .int .i64 X2, .int .i64 X3, .slice Dd X4.length kk] _ HD5.out Try.underlying54 rfl (by kernel_rfl) ?_)
          | (refine wpList_bslice _ rfl 23 54 1 _ rfl Try.underlying23 iO 4 48 Hi.out (by omega) (by omega) [(0, .agg #[.bool X1, .int .i64 X2, .int .i64 X3, .slice Dd X4.length kk])] rfl [.bool X1, .int .i64 X2, .int .i64 X3, .slice Dd X4.length kk] (fun Z hZ => fill_one 4 (.agg #[.bool X1, .int .i64 X2, .int .i64 X3, .slice Dd X4.length kk]) rfl Z hZ) ?_)
          | (at_builtin; go_loud (refine wpList_appR _ rfl (.tmp 62) (.tmp 64) 23 rfl w.heap.size 54 iO 48 Try.underlying23 Hi.out (by omega) _ _ rfl (HO5.out.alloc _).1 (w5.heap.size + 1) (some ⟨w5.heap.size, 0, none⟩) 1 1 [(⟨X1, X2, X3, X4⟩, Dd, kk)] rfl rfl (lit_op _ _ _ _ _ _) (by have := HML.out; simp; omega) (by have := HML.out; simp; omega) (Nat.le_trans HW5.out.size (by simp)) ?_); intro v9 w9 ho9 hg9 _ hb9))
        have HO9 := Lib.hid ((HO5.out.alloc _).app ho9 hg9 (fun yy hy => by simp at hy; subst hy; exact WfT.below Hw5.out ((Below.refl _ _).alloc (Nat.le_refl _) _)))
        have HB9 := Lib.hid ((HW5.out.alloc HW5.out.size (.cells #[.bool X1, .int .i64 X2, .int .i64 X3, .slice Dd X4.length kk] 54)).trans hb9)
        have HR9 : Hid (RT w9 A'' (r.drop u)) := Lib.hid ((Hr5.out.below ((Below.refl _ _).alloc (Nat.le_refl _) _)).row hg9 (fun g' hg' => by obtain ⟨cs, hcs⟩ := own_blk (HO5.out.alloc _).1 g' hg'; exact ⟨_, cs, hcs, op_ne⟩))
        clear ho9 hg9 hb9 HO5 Hr5 HD5
        go_wp2_with fail
        go_roundg (rl - u)
        case rel => exact ⟨r.drop u, A'', c' - u, m + y, M ++ [(⟨X1, X2, X3, X4⟩, Dd, kk)], f, by rw [List.length_drop, Hrl.out], by rw [List.length_drop, Hrl.out], by rw [List.length_drop, ← Hrl.out]; omega, by omega, HR9.out, by go_num, by omega, by omega, HO9.out, by have := HML.out; have := Hu0.out; have := Hun.out; have := Hrl.out; rw [List.length_drop]; simp; omega, by rw [List.length_drop]; have := Hrf.out; have := Hu0.out; have := Hun.out; have := Hrl.out; omega, by rw [Hgo.out]; simp [ops], HB9.out⟩
        case measure => have := Hq.out; have := Hu0.out; have := Hun.out; have := Hrl.out; omega
      · have hE := hno hk
        have hst := loop_stop old f (ops M) m r hk
        rw [Hlp2.out] at hst
        obtain ⟨E, hEE⟩ : ∃ E, E = takeE r old (65536 - m) := ⟨_, rfl⟩
        rw [← hEE] at hE hst
        subst hE
        clear hno hyes hEE
        unfold GaveUp
        by_cases hE0 : E = 0
        · subst hE0
          rw [if_neg (by simp)] at hst
          injection hst with h1 hst
          injection hst with h2 hst
          injection hst with h3 h4
          subst h1 h2 h3 h4
          have hfe := Hfe.out
          rw [if_neg (show ¬ ((0 : Int) ≠ 0) by simp)] at hfe
          have Hf2 := Lib.hid hfe
          have hcl3 := Cl.cloneN (c := c') (A := A') (n := rl) (w := w3.alloc (.cells #[.bool false, .int .i64 0, .int .i64 0, .slice none 0 0] 54)) (l := r2) Hrl.out (by rw [← Hrl.out]; exact hrc) (by have := HML.out; omega) ((HRt3.out.readB.alloc (Nat.le_refl _) _).more (by simp))
          have Hcl3 := Lib.hid hcl3
          clear hfe hcl3 Hlp2
          go_wp2_with fail
          refine Calls.mono Hcl3.out ?_
          rintro e5 w5 ⟨v5, rfl, ho5, hb5⟩
          obtain ⟨A5, c5, rfl, hp5, hm5, -, -⟩ := ho5.opens
          have hrt5 := RT.of_own ho5
          have hW5 : Below w.heap.size w w5 := (HW3.out.alloc HW3.out.size _).trans (hb5.mono (by have := HW3.out.size; simp; omega))
          have hO5 : OwnO w5 w.heap.size _ M := (HO3.out.alloc (.cells #[.bool false, .int .i64 0, .int .i64 0, .slice none 0 0] 54)).keptB hb5
          have hB5 := HB.out.below hW5 HB.out.lt
          have k1 : w5.cell? ⟨g, 1, none⟩ = some (.int .i64 m0) := by rw [Blk.cell hB5]; rfl
          have k2 : w5.cell? ⟨g, 2, none⟩ = some (.slice A0 b.length cc0) := by rw [Blk.cell hB5]; rfl
          have kz := Blk.frozen hB5
          have hB6 : Blk ((w5.setCell ⟨g, 1, none⟩ (.int .i64 m2)).setCell ⟨g, 2, none⟩ (.slice A5 r2.length c5)) g 60 #[.int .i64 old, .int .i64 m2, .slice A5 r2.length c5, .int .i64 0] := Blk.set_ (Blk.set_ hB5 1 _) 2 _
          have hg6 : w5.grownBy ((w5.setCell ⟨g, 1, none⟩ (.int .i64 m2)).setCell ⟨g, 2, none⟩ (.slice A5 r2.length c5)) (some g) := only_trans (only_set w5 g 1 _) (only_set _ g 2 _)
          have hneg : u8.ownBlock = none ∨ u8.ownBlock ≠ some g := .inr fun hh => by have := (hO5.1.ge g hh).1; have := HB.out.lt; omega
          have hO6 : OwnO ((w5.setCell ⟨g, 1, none⟩ (.int .i64 m2)).setCell ⟨g, 2, none⟩ (.slice A5 r2.length c5)) w.heap.size u8 M := hO5.grown hg6 hneg (fun g' hg' => by injection hg' with hg'; subst hg'; exact ⟨_, _, hB5, dec_ne⟩)
          have hrt6 : RT ((w5.setCell ⟨g, 1, none⟩ (.int .i64 m2)).setCell ⟨g, 2, none⟩ (.slice A5 r2.length c5)) A5 r2 := hrt5.row hg6 (fun g' hg' => by injection hg' with hg'; subst hg'; exact ⟨_, _, hB5, dec_ne⟩)
          have hG := only_trans (only_of_below hW5 (some g)) hg6
          have HB6 := Lib.hid hB6
          have HO6 := Lib.hid hO6
          have HR6 := Lib.hid hrt6
          have HG := Lib.hid hG
          have Hp5 := Lib.hid hp5
          have Hm5 := Lib.hid hm5
          rw [← Hrl.out] at HB6 HO6 HR6 HG
          clear ho5 hb5 hrt5 hW5 hO5 hB5 hB6 hg6 hneg hO6 hrt6 hG hp5 hm5 HB HO3 HRt3 HW3 Hcl3
          rw [← Hrl.out]
          go_wp2_with fail
          go_ret2
          refine ⟨_, M, by rw [Hf2.out]; rfl, HO6.out, by rw [Hf2.out], ?_, HG.out⟩
          rw [Hf2.out]
          exact ⟨A5, c5, by rw [← Hrl.out]; exact HB6.out, Hp5.out, Hm5.out, HR6.out⟩
        · rw [if_pos hE0] at hst
          injection hst with h1 hst
          injection hst with h2 hst
          injection hst with h3 h4
          subst h1 h2 h3 h4
          have hfe := Hfe.out
          rw [if_pos hE0] at hfe
          have Hf2 := Lib.hid hfe
          have t1 : (e2 == 0) = false := by simpa using hE0
          have hB3 := HB.out.below HW3.out HB.out.lt
          have hW4 : Below w.heap.size w (w3.alloc (.cells #[.bool false, .int .i64 0, .int .i64 0, .slice none 0 0] 54)) := HW3.out.alloc HW3.out.size _
          have hB4 := hB3.alloc (.cells #[.bool false, .int .i64 0, .int .i64 0, .slice none 0 0] 54)
          have k3 : (w3.alloc (.cells #[.bool false, .int .i64 0, .int .i64 0, .slice none 0 0] 54)).cell? ⟨g, 3, none⟩ = some (.int .i64 0) := by rw [Blk.cell hB4]; rfl
          have kz := Blk.frozen hB4
          have HD4 := Lib.hid (HD.out.below hW4)
          have hB6 : Blk ((w3.alloc (.cells #[.bool false, .int .i64 0, .int .i64 0, .slice none 0 0] 54)).setCell ⟨g, 3, none⟩ (.int .i64 e2)) g 60 #[.int .i64 old, .int .i64 m0, .slice A0 b.length cc0, .int .i64 e2] := Blk.set_ hB4 3 _
          have hg6 := only_set (w3.alloc (.cells #[.bool false, .int .i64 0, .int .i64 0, .slice none 0 0] 54)) g 3 (.int .i64 e2)
          have hrt6 : RT ((w3.alloc (.cells #[.bool false, .int .i64 0, .int .i64 0, .slice none 0 0] 54)).setCell ⟨g, 3, none⟩ (.int .i64 e2)) A0 b := (hrb.out.below hW4).row hg6 (fun g' hg' => by injection hg' with hg'; subst hg'; exact ⟨_, _, hB4, dec_ne⟩)
          have hG := only_trans (only_of_below hW4 (some g)) hg6
          have HB6 := Lib.hid hB6
          have HR6 := Lib.hid hrt6
          have HG := Lib.hid hG
          clear hfe hB3 hB4 hW4 hB6 hg6 hrt6 hG HB HO3 HRt3 HW3 Hlp2 HD4
          go_wp2_with fail
          go_ret2
          refine ⟨_, [], by rw [Hf2.out]; rfl, OwnO.nil, by rw [Hf2.out]; rfl, ?_, HG.out⟩
          rw [Hf2.out]
          exact ⟨A0, cc0, HB6.out, h2, h3, HR6.out⟩
  · have t1 : (e0 == 0) = false := by simpa using he
    have hr := feed_err old ⟨m0, b, e0⟩ x he
    have HR := Lib.hid hr
    have HD := Lib.hid hd
    clear hr h2 h3 h4 hB hd d2 hx hn
    go_enter Try.func14, Try.ntmps14
    go_wp2_with fail
    refine CanT.region (fun W => W.cell? ⟨g, 3, none⟩ = some (.int .i64 e0)) 1000 (.op 0 2 (.op 1 2 (.op 2 2 (.op 3 1 (.op 4 2 (.op 5 2 (.nil))))))) (by kernel_rfl) (by kernel_rfl) d3 ?_
    repeat (first | (refine CanT.skip rfl ?_ (fun K hK => ?_); (focus (go_simp; done)); go_simp; refine hK _ ?_; clear hK K) | (refine CanT.pur rfl ?_ ?_; (focus (go_simp; done)); refine ⟨?_, ?_, ?_⟩; rotate_left; (focus (intro w'; go_simp; rfl)); (focus (intro K hK; go_simp; refine hK _ ?_; clear hK K))) | (refine CanT.cellG rfl ?_ (.int .i64 e0) (.int .i64 e0) ⟨g, 3, none⟩ (fun w1 h => h) ?_ (fun K hK => ?_); (focus (go_simp; done)); (focus (intro w' hc'; go_simp; (try rfl))); go_simp; refine hK _ ?_; clear hK K))
    refine CanT.done ?_
    go_wp2_with fail
    go_ret2
    refine ⟨.slice none 0 0, [], by rw [HR.out]; rfl, OwnO.nil, by rw [HR.out]; rfl, ?_, Sm.grown_drew (World.grownBy.refl _ _)⟩
    rw [HR.out]
    exact HD.out.below (Below.refl _ _).drew
end Dl
end Go.Proofs.Ytiofkhjpknfkgaa
/- Two operations; what the program makes of them. -/
namespace Go.Proofs.Ytiofkhjpknfkgaa
namespace Dl
open Go.RowKit Ba Tm Dm Os_
set_option linter.unusedVariables false
theorem mkB_lit (w : World) (E : TypeId) (vs : List Value) (l : List UInt8) (g : Nat) (hg : g = w.heap.size) (h : vs = bvs l) :
    ReadB (Li.mkB (w.alloc (.cells vs.toArray E)) g) (Li.mkB (w.alloc (.cells vs.toArray E)) g).heap.size (some ⟨g, 0, none⟩) l ∧ Below w.heap.size w (Li.mkB (w.alloc (.cells vs.toArray E)) g) := by
  subst hg
  refine ⟨?_, Li.mkB_below ((Below.refl _ _).alloc (Nat.le_refl _) _) (Nat.le_refl _) (by simp)⟩
  have h1 := ReadB.litN w E vs l w.heap.size rfl h
  rw [Li.mkB_size]
  intro hn
  obtain ⟨b, o, e, hb, hc⟩ := h1 hn
  exact ⟨b, o, e, by simpa using hb, fun k hk => by rw [Li.mkB_cell]; exact hc k hk⟩
theorem lit_row (w : World) (L : List Ow) (E : TypeId) : ReadRow opv 4 (w.alloc (.cells (rows opv L).toArray E)) (w.heap.size + 1) (some ⟨w.heap.size, 0, none⟩) L := by
  refine ⟨fun x _ => ⟨rfl, opv_one x⟩, fun _ => ⟨w.heap.size, 0, rfl, by omega, fun j u hu => ?_⟩⟩
  rw [Nat.zero_add, cell_of_row _ w.heap.size j (rows opv L).toArray E (0, 0) (heap_alloc_new w _)]
  simpa using hu
def twoR (p n : Int) (g : Nat) : List Ow := [(⟨true, p, n, []⟩, none, 0), (lit [120, 121], some ⟨g, 0, none⟩, 2)]
theorem two_row (w : World) (p n : Int) (hp : -9223372036854775808 ≤ p ∧ p ≤ 9223372036854775807) (hn : -9223372036854775808 ≤ n ∧ n ≤ 9223372036854775807) :
    ReadO ((Li.mkB (w.alloc (.cells (bvs [120, 121]).toArray 5)) w.heap.size).alloc (.cells (rows opv (twoR p n w.heap.size)).toArray 54)) ((Li.mkB (w.alloc (.cells (bvs [120, 121]).toArray 5)) w.heap.size).alloc (.cells (rows opv (twoR p n w.heap.size)).toArray 54)).heap.size (some ⟨w.heap.size + 1, 0, none⟩) (twoR p n w.heap.size) ∧
      Below w.heap.size w ((Li.mkB (w.alloc (.cells (bvs [120, 121]).toArray 5)) w.heap.size).alloc (.cells (rows opv (twoR p n w.heap.size)).toArray 54)) := by
  obtain ⟨h1, h2⟩ := mkB_lit w 5 (bvs [120, 121]) [120, 121] w.heap.size rfl rfl
  have hws : (Li.mkB (w.alloc (.cells (bvs [120, 121]).toArray 5)) w.heap.size).heap.size = w.heap.size + 1 := by rw [Li.mkB_size]; simp
  generalize Li.mkB (w.alloc (.cells (bvs [120, 121]).toArray 5)) w.heap.size = W at *
  have hrow := lit_row W (twoR p n w.heap.size) 54
  have hal := (Below.refl W.heap.size W).alloc (Nat.le_refl _) (.cells (rows opv (twoR p n w.heap.size)).toArray 54)
  have hrd := (h1.below hal).more (B' := (W.alloc (.cells (rows opv (twoR p n w.heap.size)).toArray 54)).heap.size) (by simp)
  have hrow2 := hrow.more (B' := (W.alloc (.cells (rows opv (twoR p n w.heap.size)).toArray 54)).heap.size) (by simp)
  rw [hws] at hrow2
  refine ⟨⟨hrow2, fun x hx => ?_⟩, h2.trans (hal.mono h2.size)⟩
  simp only [twoR, List.mem_cons, List.not_mem_nil, or_false] at hx
  rcases hx with rfl | rfl
  · exact ⟨hp, hn, by simp, by simp, ReadB.nil⟩
  · exact ⟨by simp [lit], by simp [lit], by simp [lit], by simp, hrd⟩
def twoL : List O := [cp 0 6, lit [120, 121]]
set_option maxHeartbeats 2000000 in
theorem two_calls (w : World) : Calls Try.prog 25 #[] w fun e w' => ∃ (A : Option Addr) (L : List Ow), e = .returned (.slice A 2 2) ∧ ReadO w' w'.heap.size A L ∧ ops L = twoL ∧ L.length = 2 ∧ Below w.heap.size w w' := by
  have hcv := fun (g n c : Nat) (w' : World) => Li.conv_run (P := Try.prog) 22 5 Try.underlying22 Try.underlying5 g n c w'
  have hms := Li.mkB_size
  obtain ⟨iO, hiO⟩ := isOp
  have Hi := Lib.hid hiO
  have h1 := two_row w 0 6 (by omega) (by omega)
  have H1 := Lib.hid h1
  clear hiO h1
  go_enter Try.func25, Try.ntmps25
  go_wp2_with (refine wpList_bslice _ rfl 23 54 2 _ rfl Try.underlying23 iO 4 48 Hi.out (by omega) (by omega) [(0, .agg #[.bool true, .int .i64 0, .int .i64 6, .slice none 0 0]), (1, .agg #[.bool false, .int .i64 0, .int .i64 0, .slice (some ⟨w.heap.size, 0, none⟩) 2 2])] rfl [.bool true, .int .i64 0, .int .i64 6, .slice none 0 0, .bool false, .int .i64 0, .int .i64 0, .slice (some ⟨w.heap.size, 0, none⟩) 2 2] (fun Z hZ => fill_two 4 (.agg #[.bool true, .int .i64 0, .int .i64 6, .slice none 0 0]) (.agg #[.bool false, .int .i64 0, .int .i64 0, .slice (some ⟨w.heap.size, 0, none⟩) 2 2]) rfl rfl Z hZ) ?_)
  go_ret
  exact ⟨some ⟨w.heap.size + 1, 0, none⟩, twoR 0 6 w.heap.size, rfl, H1.out.1, rfl, rfl, H1.out.2⟩
end Dl
end Go.Proofs.Ytiofkhjpknfkgaa
/- The closed case of operations: what every right program makes of two. -/
namespace Go.Proofs.Ytiofkhjpknfkgaa
namespace Dl
open Go.RowKit Ba Tm Dm Os_
set_option linter.unusedVariables false
def abc6 : List UInt8 := [97, 98, 99, 100, 101, 102]
def abc8 : List UInt8 := [97, 98, 99, 100, 101, 102, 120, 121]
def bytes7 : List UInt8 := [1, 0, 6, 0, 2, 120, 121]
theorem aw1 : apply abc6 twoL = (abc8, 0) := by kernel_rfl
theorem aw2 : put twoL = bytes7 := by kernel_rfl
theorem aw3 : feed 6 ⟨0, [], 0⟩ bytes7 = (⟨8, [], 0⟩, twoL, 0) := by kernel_rfl
theorem aw4 (g : Nat) : from_ twoL 4 = ops (twoR 4 2 g) := by kernel_rfl
theorem aw5 : ∀ x ∈ twoL, 0 ≤ makes x ∧ x.data.length ≤ 65536 ∧ x.pos ≤ 4611686018427387904 := by
  intro x hx
  simp only [twoL, List.mem_cons, List.not_mem_nil, or_false] at hx
  rcases hx with rfl | rfl <;> simp [makes, cp, lit]
theorem aw6 : ∀ x ∈ twoL, x.data.length ≤ 65536 := fun x hx => (aw5 x hx).2.1
set_option maxRecDepth 100000 in
set_option maxHeartbeats 8000000 in
theorem awake_calls (w : World) : Calls Try.prog 9 #[] w fun e w' => e = .returned (.bool true) ∧ Below w.heap.size w w' := by
  have hcv := fun (g n c : Nat) (w' : World) => Li.conv_run (P := Try.prog) 22 5 Try.underlying22 Try.underlying5 g n c w'
  have hms := Li.mkB_size
  obtain ⟨iO, hiO⟩ := isOp
  have Hi := Lib.hid hiO
  have h1 := mkB_lit w 5 (bvs abc6) abc6 w.heap.size rfl rfl
  have H1 := Lib.hid h1
  clear hiO h1
  go_enter Try.func9, Try.ntmps9
  go_wp2_with fail
  refine (two_calls _).mono ?_
  rintro e2 w2 ⟨A2, L2, rfl, hL2, hop2, hl2, hb2⟩
  have hap := apply_calls abc6 (some ⟨w.heap.size, 0, none⟩) 6 6 rfl (by omega) (by omega) L2 A2 2 2 hl2.symm (by omega) w2 ((H1.out.1.below hb2).more hb2.size) hL2
  rw [hop2, aw1] at hap
  have Hap := Lib.hid hap
  have HB2 := Lib.hid (H1.out.2.trans (hb2.mono H1.out.2.size))
  clear hap hL2 hop2 hl2 hb2
  go_wp2_with fail
  refine Calls.mono Hap.out ?_
  rintro e3 w3 ⟨v3, rfl, ho3, hb3⟩
  obtain ⟨A3, c3, hv3, -, -, -, -⟩ := ho3.opens
  subst hv3
  have HR3 := Lib.hid (RT.of_own ho3)
  have HB3 := Lib.hid (HB2.out.trans (hb3.mono HB2.out.size))
  clear ho3 hb3 Hap
  go_wp2_with fail
  refine (new_calls 6 _).mono ?_
  rintro e4 w4 ⟨g, rfl, hg4, hD4, hb4⟩
  have HR4 := Lib.hid (HR3.out.below hb4)
  have HD4 := Lib.hid hD4
  have HB4 := Lib.hid (HB3.out.trans (hb4.mono HB3.out.size))
  have Hg : Hid (w.heap.size ≤ g) := Lib.hid (Nat.le_trans HB3.out.size hg4)
  clear hD4 hb4 hg4 HR3
  go_wp2_with fail
  refine (two_calls _).mono ?_
  rintro e5 w5 ⟨A5, L5, rfl, hL5, hop5, hl5, hb5⟩
  have hpt := put_calls L5 A5 2 2 hl5.symm (by omega) (by rw [hop5]; exact aw6) w5 hL5
  rw [hop5, aw2] at hpt
  have Hpt := Lib.hid hpt
  have HR5 := Lib.hid (HR4.out.below hb5)
  have HD5 := Lib.hid (HD4.out.below hb5)
  have HB5 := Lib.hid (HB4.out.trans (hb5.mono HB4.out.size))
  clear hpt hL5 hop5 hl5 hb5 HR4 HD4
  go_wp2_with fail
  refine Calls.mono Hpt.out ?_
  rintro e6 w6 ⟨v6, rfl, ho6, hb6⟩
  obtain ⟨A6, c6, hv6, hp6, hm6, hr6, -⟩ := ho6.opens
  subst hv6
  have hfd := feed_calls g 6 0 [] 0 bytes7 A6 7 c6 rfl hp6 hm6 (by omega) (by omega) (by simp) w6 (HD5.out.below hb6) hr6
  have Hfd := Lib.hid hfd
  have HR6 := Lib.hid (HR5.out.below hb6)
  have HD6 := Lib.hid (HD5.out.below hb6)
  have HB6 := Lib.hid (HB5.out.trans (hb6.mono HB5.out.size))
  clear hfd ho6 hb6 hp6 hm6 hr6 HR5 HD5 Hpt
  go_wp2_with fail
  refine Calls.mono Hfd.out ?_
  rintro e7 w7 ⟨v7, M7, rfl, hO7, hop7, hD7, hg7⟩
  rw [aw3] at hop7 hD7 ⊢
  have hneg : ∀ g', some g = some g' → ∃ t cs, Blk w6 g' t cs ∧ 5 ≠ t := fun g' hg' => by injection hg' with hg'; subst hg'; obtain ⟨_, _, hB, _⟩ := HD6.out; exact ⟨_, _, hB, dec_ne⟩
  have hr7 := HR6.out.row hg7 hneg
  have HB7 : Hid (Below w.heap.size w w7) := Lib.hid (HB6.out.trans (below_of_only hg7 Hg.out HB6.out.size))
  have hst1 := strof_dl w7 _ A3 c3 abc8 hr7.readB
  have hS1 : S abc8 = { data := #[97, 98, 99, 100, 101, 102, 120, 121] } := rfl
  have hS2 : S bytes7 = { data := #[1, 0, 6, 0, 2, 120, 121] } := rfl
  have HO7 := Lib.hid hO7
  have HD7 := Lib.hid hD7
  have Hop7 := Lib.hid hop7
  clear hneg hr7 hO7 hD7 hop7 hg7 HR6 HD6 Hfd
  rw [hS1] at hst1
  go_wp2_with fail
  refine (two_calls _).mono ?_
  rintro e8 w8 ⟨A8, L8, rfl, hL8, hop8, hl8, hb8⟩
  have hpt := put_calls L8 A8 2 2 hl8.symm (by omega) (by rw [hop8]; exact aw6) w8 hL8
  rw [hop8, aw2] at hpt
  have Hpt := Lib.hid hpt
  have HO8 := Lib.hid (HO7.out.keptB (hb8.mono (Nat.le_refl _)))
  have HD8 := Lib.hid (HD7.out.below hb8)
  have HB8 := Lib.hid (HB7.out.trans (hb8.mono HB7.out.size))
  clear hst1 hpt hL8 hop8 hl8 hb8 HO7 HD7
  go_wp2_with fail
  refine Calls.mono Hpt.out ?_
  rintro e9 w9 ⟨v9, rfl, ho9, hb9⟩
  obtain ⟨A9, c9, hv9, hp9, hm9, hr9, -⟩ := ho9.opens
  subst hv9
  have hst2 := strof_dl w9 _ A9 c9 bytes7 hr9
  rw [hS2] at hst2
  have HO9 := Lib.hid (HO8.out.keptB hb9)
  have HD9 := Lib.hid (HD8.out.below hb9)
  have HB9 := Lib.hid (HB8.out.trans (hb9.mono HB8.out.size))
  clear ho9 hp9 hm9 hr9 hb9 HO8 HD8 Hpt
  go_wp2_with fail
  refine (two_calls _).mono ?_
  rintro e10 w10 ⟨A10, L10, rfl, hL10, hop10, hl10, hb10⟩
  obtain ⟨A7, c7, hv7, -, -, hL7, -⟩ := (HO9.out.keptB hb10).opens
  have hM7 : M7.length = 2 := by rw [← ops_len, Hop7.out]; rfl
  rw [hM7] at hv7
  subst hv7
  have hsm := same_calls M7 L10 A7 2 c7 A10 2 2 hM7.symm hl10.symm (by omega) (by omega) w10 hL7 hL10
  rw [Hop7.out, hop10, same_refl] at hsm
  have Hsm := Lib.hid hsm
  have HD10 := Lib.hid (HD9.out.below hb10)
  have HB10 := Lib.hid (HB9.out.trans (hb10.mono HB9.out.size))
  clear hst2 hsm hL10 hop10 hl10 hb10 HO9 HD9 hL7 hM7
  go_wp2_with fail
  refine Calls.mono Hsm.out ?_
  rintro e11 w11 ⟨rfl, hb11⟩
  have hD11 := HD10.out.below hb11
  have HD11 := Lib.hid hD11
  have HB11 := Lib.hid (HB10.out.trans (hb11.mono HB10.out.size))
  clear hb11 hD11 HD10 Hsm
  go_wp2_with (first
    | (go_at_call 17; refine (made_calls HD11.out).mono ?_; rintro e12 w12 ⟨rfl, rfl⟩)
    | (go_at_call 18; refine (rest_calls HD11.out).mono ?_; rintro e12 w12 ⟨rfl, rfl⟩))
  refine (two_calls _).mono ?_
  rintro e12 w12 ⟨A12, L12, rfl, hL12, hop12, hl12, hb12⟩
  have hfr := from_calls L12 A12 2 2 4 hl12.symm (by omega) (by omega) (by rw [hop12]; exact aw5) w12 hL12
  rw [hop12] at hfr
  have Hfr := Lib.hid hfr
  have HB12 := Lib.hid (HB11.out.trans (hb12.mono HB11.out.size))
  clear hfr hL12 hop12 hl12 hb12 HD11
  go_wp2_with fail
  refine Calls.mono Hfr.out ?_
  rintro e13 w13 ⟨v13, M13, rfl, hO13, hop13, hb13⟩
  have h14 := two_row w13 4 2 (by omega) (by omega)
  have hM13 : M13.length = 2 := by rw [← ops_len, hop13, aw4 0]; rfl
  obtain ⟨A13, c13, hv13, -, -, hL13, -⟩ := (hO13.keptB h14.2).opens
  rw [hM13] at hv13
  subst hv13
  have hsm := same_calls M13 (twoR 4 2 w13.heap.size) A13 2 c13 (some ⟨w13.heap.size + 1, 0, none⟩) 2 2 hM13.symm rfl (by omega) (by omega) _ hL13 h14.1
  rw [hop13, aw4 w13.heap.size, same_refl] at hsm
  have Hsm := Lib.hid hsm
  have HB14 := Lib.hid ((HB12.out.trans (hb13.mono HB12.out.size)).trans (h14.2.mono (HB12.out.trans (hb13.mono HB12.out.size)).size))
  clear hsm hL13 hop13 hM13 hO13 hb13 h14 Hfr
  go_wp2_with (refine wpList_bslice _ rfl 23 54 2 _ rfl Try.underlying23 iO 4 48 Hi.out (by omega) (by omega) [(0, .agg #[.bool true, .int .i64 4, .int .i64 2, .slice none 0 0]), (1, .agg #[.bool false, .int .i64 0, .int .i64 0, .slice (some ⟨w13.heap.size, 0, none⟩) 2 2])] rfl [.bool true, .int .i64 4, .int .i64 2, .slice none 0 0, .bool false, .int .i64 0, .int .i64 0, .slice (some ⟨w13.heap.size, 0, none⟩) 2 2] (fun Z hZ => fill_two 4 (.agg #[.bool true, .int .i64 4, .int .i64 2, .slice none 0 0]) (.agg #[.bool false, .int .i64 0, .int .i64 0, .slice (some ⟨w13.heap.size, 0, none⟩) 2 2]) rfl rfl Z hZ) ?_)
  refine Calls.mono Hsm.out ?_
  rintro e15 w15 ⟨rfl, hb15⟩
  have HB15 := Lib.hid (HB14.out.trans (hb15.mono HB14.out.size))
  clear hb15 Hsm
  go_wp2_with fail
  go_ret
  exact ⟨rfl, HB15.out⟩
end Dl
end Go.Proofs.Ytiofkhjpknfkgaa
/- Whether operations may be, and what they make, to the document. -/
namespace Go.Proofs.Ytiofkhjpknfkgaa
namespace Dl
open Go.RowKit Ba Tm Dm Os_
set_option linter.unusedVariables false
set_option maxRecDepth 100000 in
set_option maxHeartbeats 4000000 in
theorem rcheck_calls (L : List Ow) (A : Option Addr) (n c : Nat) (old : Int) (hn : n = L.length) (hl : n ≤ 9223372036854775807) (ho : -9223372036854775808 ≤ old ∧ old ≤ 9223372036854775807) (w : World) (h : ReadO w w.heap.size A L) :
    Calls Try.prog 26 #[.slice A n c, .int .i64 old] w fun e w' => e = .returned (.int .i64 (check (ops L) old)) ∧ Below w.heap.size w w' := by
  have hol : (ops L).length = n := by rw [ops_len, hn]
  by_cases hlong : 4096 < n
  · have hr : check (ops L) old = 5 := check_long (by omega)
    rw [hr]
    clear hr hol hn h
    go_enter Try.func26, Try.ntmps26
    go_wp2
    go_ret
    exact ⟨rfl, Below.refl _ _⟩
  · have Hh := Lib.hid h
    have Hol := Lib.hid hol
    have Hn := Lib.hid hn
    clear h hol hn
    go_enter Try.func26, Try.ntmps26
    go_wp2_with fail
    go_loopg [5] n (fun q v5 wr => ∃ k : Nat, k ≤ n ∧ q = n - k ∧ v5 = .int .i64 (k : Int) ∧ (∀ j, j < k → may (at_ (ops L) j) old = true) ∧ Below w.heap.size w wr)
    case atStart => exact ⟨0, by omega, rfl, rfl, by omega, Below.refl _ _⟩
    case round =>
      obtain ⟨k, hk, hq, rfl, hall, hb⟩ := hrel
      have Hq := Lib.hid hq
      have Hall := Lib.hid hall
      have HB := Lib.hid hb
      clear hq hall hb
      by_cases hkn : k < n
      · have hkl : k < L.length := by rw [← Hn.out]; exact hkn
        obtain ⟨b, o, x1, x2, x3, x4, D, e, rfl, hbB, hx, hc, w1, w2, w3, w4, w5⟩ := ReadO.op Hh.out hkl
        have hat := ops_at L k hkl
        rw [hx] at hat
        have HC : Hid (wr.rangeAt b (o + k * 4) [.bool x1, .int .i64 x2, .int .i64 x3, .slice D x4.length e]) := Lib.hid fun jj v hv => (HB.out.cell (p := ⟨b, o + k * 4 + jj, none⟩) hbB).trans (hc jj v hv)
        have hmay := fun w => rmay_calls x1 x2 x3 D x4.length e old w1 w2 ho (by omega) w
        have hmv : may (at_ (ops L) k) old = mayv x1 x2 x3 x4.length old := by rw [hat]; rfl
        have Hmv := Lib.hid hmv
        have Hm := Lib.hid hmay
        clear hx hc w5 hat hmay hmv
        go_wp2_with (refine wpList_load_mid rfl 54 (.tmp 19) rfl b (o + k * 4) rfl [.bool x1, .int .i64 x2, .int .i64 x3, .slice D x4.length e] _ HC.out Try.underlying54 rfl (by kernel_rfl) ?_)
        refine (Hm.out _).mono ?_
        rintro e1 w1' ⟨rfl, hb1⟩
        have HB1 := Lib.hid (HB.out.trans (hb1.mono HB.out.size))
        clear hb1 Hm HC
        by_cases hv : mayv x1 x2 x3 x4.length old = true
        · rw [hv]
          have Hv := Lib.hid hv
          clear hv
          go_wp2_with fail
          go_roundg (n - (k + 1))
          case rel => exact ⟨k + 1, by omega, rfl, rfl, fun j hj => by
            rcases Nat.lt_or_ge j k with h1 | h1
            · exact Hall.out j h1
            · rw [show j = k by omega, Hmv.out, Hv.out], HB1.out⟩
          case measure => have := Hq.out; omega
        · have hv2 : mayv x1 x2 x3 x4.length old = false := by simpa using hv
          have hr : check (ops L) old = 4 := check_form (by rw [Hol.out]; omega) (mem_at _ k (by rw [Hol.out]; exact hkn)) (by rw [Hmv.out, hv2])
          rw [hv2]
          have HR := Lib.hid hr
          clear hv hv2 hr
          go_wp2
          go_ret
          exact ⟨by rw [HR.out]; rfl, HB1.out⟩
      · have hke : k = n := by omega
        subst hke
        have hmm : ∀ x ∈ ops L, may x old = true := fun x hx => by
          obtain ⟨j, hj, e⟩ := List.getElem_of_mem hx
          have := Hall.out j (by rw [← Hol.out]; exact hj)
          rw [at_, List.getD_eq_getElem?_getD, List.getElem?_eq_getElem hj] at this
          rw [← e]
          exact this
        have hr := check_room (by rw [Hol.out]; omega) hmm
        have HR := Lib.hid hr
        have Hmm := Lib.hid hmm
        clear hr hkn hmm Hq Hall
        go_wp2_with fail
        go_loopg [6, 7] k (fun q v6 v7 wr => ∃ (j : Nat) (r : Int), j ≤ k ∧ q = k - j ∧ v7 = .int .i64 (j : Int) ∧ v6 = .int .i64 r ∧ 0 ≤ r ∧ r ≤ 65536 ∧ room ((ops L).drop j) r = room (ops L) 65536 ∧ Below w.heap.size w wr)
        case atStart => exact ⟨0, 65536, by omega, rfl, rfl, rfl, by omega, by omega, rfl, HB.out⟩
        case round =>
          obtain ⟨j, r, hj, hq, rfl, rfl, hr0, hr1, hrm, hb⟩ := hrel
          have Hq := Lib.hid hq
          have Hrm := Lib.hid hrm
          have HB := Lib.hid hb
          clear hq hrm hb
          by_cases hjk : j < k
          · have hkl : j < L.length := by rw [← Hn.out]; exact hjk
            obtain ⟨b, o, x1, x2, x3, x4, D, e, rfl, hbB, hx, hc, w1, w2, w3, w4, w5⟩ := ReadO.op Hh.out hkl
            have hat := ops_at L j hkl
            rw [hx] at hat
            have HC : Hid (wr.rangeAt b (o + j * 4) [.bool x1, .int .i64 x2, .int .i64 x3, .slice D x4.length e]) := Lib.hid fun jj v hv => (HB.out.cell (p := ⟨b, o + j * 4 + jj, none⟩) hbB).trans (hc jj v hv)
            have hmk := fun w => rmakes_calls x1 x2 x3 D x4.length e w
            have hmv : makes (at_ (ops L) j) = if x1 then x3 else (x4.length : Int) := by rw [hat]; rfl
            have hra := room_at (ops L) j r (by rw [Hol.out]; exact hjk)
            have hm1 := may_makes (Hmm.out _ (mem_at (ops L) j (by rw [Hol.out]; exact hjk)))
            have hm2 : makes (at_ (ops L) j) ≤ 9223372036854775807 := by rw [hmv]; split <;> omega
            rw [← hmv] at hmk
            generalize makes (at_ (ops L) j) = m at *
            have Hra := Lib.hid hra
            have Hmk := Lib.hid hmk
            clear hx hc w5 hat hmk hmv hra
            go_wp2_with (refine wpList_load_mid rfl 54 (.tmp 32) rfl b (o + j * 4) rfl [.bool x1, .int .i64 x2, .int .i64 x3, .slice D x4.length e] _ HC.out Try.underlying54 rfl (by kernel_rfl) ?_)
            refine (Hmk.out _).mono ?_
            rintro e1 w1' ⟨rfl, hb1⟩
            have HB1 := Lib.hid (HB.out.trans (hb1.mono HB.out.size))
            have HC1 : Hid (w1'.rangeAt b (o + j * 4) [.bool x1, .int .i64 x2, .int .i64 x3, .slice D x4.length e]) := Lib.hid fun jj v hv => (hb1.cell (p := ⟨b, o + j * 4 + jj, none⟩) (Nat.lt_of_lt_of_le hbB HB.out.size)).trans (HC.out jj v hv)
            clear hb1 HC
            by_cases hv : r < m
            · have h0 : room (ops L) 65536 = false := by rw [← Hrm.out, Hra.out, if_pos (by omega)]
              have H0 := Lib.hid h0
              clear h0
              go_wp2
              go_ret
              exact ⟨by rw [HR.out, if_pos H0.out]; rfl, HB1.out⟩
            · have h0 : room ((ops L).drop (j + 1)) (r - m) = room (ops L) 65536 := by rw [← Hrm.out, Hra.out, if_neg (by omega)]
              have H0 := Lib.hid h0
              clear h0
              go_wp2_with (refine wpList_load_mid rfl 54 (.tmp 40) rfl b (o + j * 4) rfl [.bool x1, .int .i64 x2, .int .i64 x3, .slice D x4.length e] _ HC1.out Try.underlying54 rfl (by kernel_rfl) ?_)
              refine (Hmk.out _).mono ?_
              rintro e2 w2' ⟨rfl, hb2⟩
              have HB2 := Lib.hid (HB1.out.trans (hb2.mono HB1.out.size))
              clear hb2 HC1 Hmk
              go_wp2_with fail
              go_roundg (k - (j + 1))
              case rel => exact ⟨j + 1, r - m, by omega, rfl, rfl, by go_num, by omega, by omega, H0.out, HB2.out⟩
              case measure => have := Hq.out; omega
          · have hje : j = k := by omega
            have h0 : room (ops L) 65536 = true := by rw [← Hrm.out]; exact room_end _ _ _ (by rw [Hol.out]; omega)
            have H0 := Lib.hid h0
            clear h0
            go_wp2
            go_ret
            exact ⟨by rw [HR.out, if_neg (by rw [H0.out]; simp)]; rfl, HB.out⟩

end Dl
end Go.Proofs.Ytiofkhjpknfkgaa
/- What operations make, to the document. -/
namespace Go.Proofs.Ytiofkhjpknfkgaa
namespace Dl
open Go.RowKit Ba Tm Dm Os_
set_option linter.unusedVariables false
set_option maxRecDepth 100000 in
set_option maxHeartbeats 4000000 in
theorem rapply_calls (O : List UInt8) (Q : Option Addr) (m d : Nat) (hm : m = O.length) (hmd : m ≤ d) (hd : d ≤ 9223372036854775807) (L : List Ow) (A : Option Addr) (n c : Nat) (hn : n = L.length) (hl : n ≤ 9223372036854775807) (w : World) (hO : ReadB w w.heap.size Q O) (h : ReadO w w.heap.size A L) :
    Calls Try.prog 11 #[.slice Q m d, .slice A n c] w fun e w' => ∃ v, e = .returned (.tuple #[v, .int .i64 (apply O (ops L)).2]) ∧ OwnB w' w.heap.size 5 v (apply O (ops L)).1 ∧ Below w.heap.size w w' := by
  have hc := fun w h => rcheck_calls L A n c (m : Int) hn hl (by omega) w h
  have hol : (ops L).length = n := by rw [ops_len, hn]
  by_cases hq : check (ops L) O.length = 0
  · rw [apply_ok hq]
    simp only
    rw [hm, hq] at hc
    have hml := fun k => made_le hq k
    have hmt := fun k => made_take O (ops L) k
    obtain ⟨h4, hmay, -⟩ := check_ok hq
    obtain ⟨i0, hi0⟩ := isByte_of Vi.info5
    have Hi := Lib.hid hi0
    have Hh := Lib.hid h
    have HO := Lib.hid hO
    have Hol := Lib.hid hol
    have Hn := Lib.hid hn
    have Hc := Lib.hid hc
    have Hml := Lib.hid hml
    have Hmt := Lib.hid hmt
    have Hmay := Lib.hid hmay
    have Hm := Lib.hid hm
    rw [← hm] at Hc Hmay
    have hn4 : n ≤ 4096 := by omega
    clear h hol hn hc hml hmt hmay hi0 hO hq hm h4
    go_enter Try.func11, Try.ntmps11
    go_wp2_with fail
    refine (Hc.out _ Hh.out).mono ?_
    rintro e w1 ⟨rfl, hb1⟩
    have HB1 := Lib.hid hb1
    clear hb1
    go_wp2_with fail
    go_loopg [7, 8] n (fun q v7 vi wr => ∃ k : Nat, k ≤ n ∧ q = n - k ∧ vi = .int .i64 (k : Int) ∧ OwnB wr w.heap.size 5 v7 (made O ((ops L).take k)) ∧ Below w.heap.size w wr)
    case atStart => exact ⟨0, by omega, rfl, rfl, by rw [List.take_zero]; exact OwnB.nil, HB1.out⟩
    case round =>
      obtain ⟨k, hk, hq, rfl, ho, hb⟩ := hrel
      have Hq := Lib.hid hq
      have Ho := Lib.hid ho
      have HB := Lib.hid hb
      clear hq ho hb HB1
      by_cases hkn : k < n
      · have hkl : k < L.length := by rw [← Hn.out]; exact hkn
        obtain ⟨b, o, x1, x2, x3, x4, D, e, rfl, hbB, hx, hc, w1, w2, w3, w4, w5⟩ := ReadO.op Hh.out hkl
        have hat := ops_at L k hkl
        rw [hx] at hat
        have HC : Hid (wr.rangeAt b (o + k * 4) [.bool x1, .int .i64 x2, .int .i64 x3, .slice D x4.length e]) := Lib.hid fun jj v hv => (HB.out.cell (p := ⟨b, o + k * 4 + jj, none⟩) hbB).trans (hc jj v hv)
        have hko : k < (ops L).length := by rw [Hol.out]; exact hkn
        have hmy := Hmay.out _ (mem_at (ops L) k hko)
        have hs := Hmt.out k hko
        have hmx := Hml.out (k + 1)
        rw [hs, List.length_append] at hmx
        rw [hat] at hmy hs hmx
        obtain ⟨q, hqq⟩ : ∃ q, q = made O ((ops L).take k) := ⟨_, rfl⟩
        rw [← hqq] at Ho hs hmx
        cases x1 with
        | true =>
          obtain ⟨m1, m2, m3, m4⟩ := may_copy (x := ⟨true, x2, x3, x4⟩) rfl hmy
          simp only at m1 m2 m3 m4
          obtain ⟨p, rfl⟩ : ∃ p : Nat, x2 = (p : Int) := ⟨x2.toNat, by omega⟩
          obtain ⟨z, rfl⟩ : ∃ z : Nat, x3 = (z : Int) := ⟨x3.toNat, by omega⟩
          have hpc : piece O ⟨true, (p : Int), (z : Int), x4⟩ = (O.drop p).take z := by simp [piece]
          rw [hpc] at hs hmx
          obtain ⟨b2, o2, hQ, -, -⟩ := HO.out (by rw [← Hm.out]; omega)
          subst hQ
          have hpl : ((O.drop p).take z).length = z := by rw [List.length_take, List.length_drop, ← Hm.out]; omega
          have HR : Hid (ReadB wr w.heap.size (some ⟨b2, o2 + p, none⟩) ((O.drop p).take z)) := Lib.hid ((HO.out.below HB.out).drop p |>.take z)
          obtain ⟨P, hP⟩ : ∃ P, P = (O.drop p).take z := ⟨_, rfl⟩
          rw [← hP] at hs hmx hpl HR
          have Hs := Lib.hid hs
          have Hpl := Lib.hid hpl
          have Hql := Lib.hid hmx
          have i4 : (p : Int) + (z : Int) ≤ 9223372036854775807 := by omega
          have hsl := fun w' => sl_lh (P := Try.prog) 22 5 i0 Try.underlying22 Hi.out b2 o2 m d (p : Int) ((p : Int) + (z : Int)) p z rfl rfl (by omega) (by omega) w'
          clear hx hc w5 hat hs hmx hpl hP hqq hmy m1 m2 m3 m4 hpc hko
          have hw : IntKind.i64.wrap ((p : Int) + (z : Int)) = (p : Int) + (z : Int) := by rw [IntKind.wrap_i64]; omega
          have hsw := hsl
          rw [← hw] at hsw
          have F0 : wr.drew.cell? ⟨b, o + k * 4 + 1, none⟩ = some (.int .i64 (p : Int)) ∧ wr.drew.cell? ⟨b, o + k * 4 + 2, none⟩ = some (.int .i64 (z : Int)) := ⟨HC.out 1 _ rfl, HC.out 2 _ rfl⟩
          have f0 : wr.cell? ⟨b, o + k * 4, none⟩ = some (.bool true) := HC.out 0 _ rfl
          go_wp2_with fail
          refine CanT.region (fun W => W.cell? ⟨b, o + k * 4 + 1, none⟩ = some (.int .i64 (p : Int)) ∧ W.cell? ⟨b, o + k * 4 + 2, none⟩ = some (.int .i64 (z : Int))) 1000 (.op 0 2 (.op 1 2 (.op 2 2 (.op 3 2 (.op 4 2 (.op 5 2 (.op 6 1 (.op 7 2 (.op 8 2 (.op 9 2 (.op 10 2 (.op 11 1 (.op 12 2 (.op 13 2 (.op 14 2 (.op 15 2 (.op 16 1 (.op 17 2 (.op 18 2 (.op 19 0 (.op 20 2 (.nil)))))))))))))))))))))) (by kernel_rfl) (by kernel_rfl) F0 ?_
          have Hod : Hid (OwnB wr.drew w.heap.size 5 u7 q) := Ho
          have HRd : Hid (ReadB wr.drew w.heap.size (some ⟨b2, o2 + p, none⟩) P) := HR
          have HBd := Lib.hid HB.out.drew
          have HbB := Lib.hid hbB
          have HF0 := Lib.hid F0
          clear f0 HC F0 Ho HR HB
          generalize wr.drew = wd at *
          repeat (first | (refine CanT.skip rfl ?_ (fun K hK => ?_); (focus (go_simp; done)); go_simp; refine hK _ ?_; clear hK K) | (refine CanT.pur rfl ?_ ?_; (focus (go_simp; done)); refine ⟨?_, ?_, ?_⟩; rotate_left; (focus (intro w'; go_simp; rfl)); (focus (intro K hK; go_simp; refine hK _ ?_; clear hK K))) | (refine CanT.cellG rfl ?_ (.int .i64 (p : Int)) (.int .i64 (p : Int)) ⟨b, o + k * 4 + 1, none⟩ (fun w1 h => h.1) ?_ (fun K hK => ?_); (focus (go_simp; done)); (focus (intro w' hc'; go_simp; (try rfl))); go_simp; refine hK _ ?_; clear hK K) | (refine CanT.cellG rfl ?_ (.int .i64 (z : Int)) (.int .i64 (z : Int)) ⟨b, o + k * 4 + 2, none⟩ (fun w1 h => h.2) ?_ (fun K hK => ?_); (focus (go_simp; done)); (focus (intro w' hc'; go_simp; (try rfl))); go_simp; refine hK _ ?_; clear hK K))
          refine CanT.imp rfl (fun K hK => ?_)
          refine CanF.step_appBg _ ?_ (.tmp 27) (.tmp 45) 22 rfl w.heap.size 5 i0 Try.underlying22 Hi.out _ _ rfl Hod.out w.heap.size (some ⟨b2, o2 + p, none⟩) z (d - p) P rfl Hpl.out.symm HRd.out (by have := Hql.out; omega) HBd.out.size ?_
          focus (go_simp; done)
          intro v5 w5 ho5 hg5 _ hb5
          have hf5 : w5.cell? ⟨b, o + k * 4 + 1, none⟩ = some (.int .i64 (p : Int)) ∧ w5.cell? ⟨b, o + k * 4 + 2, none⟩ = some (.int .i64 (z : Int)) := ⟨(hb5.cell (p := ⟨b, o + k * 4 + 1, none⟩) HbB.out).trans HF0.out.1, (hb5.cell (p := ⟨b, o + k * 4 + 2, none⟩) HbB.out).trans HF0.out.2⟩
          have Ho5 := Lib.hid ho5
          have HB5 := Lib.hid (HBd.out.trans hb5)
          (try go_simp)
          refine hK.out _ _ hf5 ?_
          clear hK K hf5 ho5 hg5 hb5
          repeat (first | (refine CanT.skip rfl ?_ (fun K hK => ?_); (focus (go_simp; done)); go_simp; refine hK _ ?_; clear hK K) | (refine CanT.pur rfl ?_ ?_; (focus (go_simp; done)); refine ⟨?_, ?_, ?_⟩; rotate_left; (focus (intro w'; go_simp; rfl)); (focus (intro K hK; go_simp; refine hK _ ?_; clear hK K))))
          refine CanT.done ?_
          go_wp2_with fail
          go_roundg (n - (k + 1))
          case rel => exact ⟨k + 1, by omega, rfl, rfl, by rw [Hs.out]; exact Ho5.out, HB5.out⟩
          case measure => have := Hq.out; omega
        | false =>
          have hpc : piece O ⟨false, x2, x3, x4⟩ = x4 := by simp [piece]
          rw [hpc] at hs hmx
          have Hs := Lib.hid hs
          have Hql := Lib.hid hmx
          have HR : Hid (ReadB wr w.heap.size D x4) := Lib.hid (w5.below HB.out)
          clear hx hc w5 hat hs hmx hqq hmy hpc hko
          have f0 : wr.cell? ⟨b, o + k * 4, none⟩ = some (.bool false) := HC.out 0 _ rfl
          have f3 : wr.cell? ⟨b, o + k * 4 + 3, none⟩ = some (.slice D x4.length e) := HC.out 3 _ rfl
          clear HC
          go_wp2_with (at_builtin; go_loud (refine wpList_appB _ rfl (.tmp 47) (.tmp 52) 22 rfl w.heap.size 5 i0 Try.underlying22 Hi.out _ _ rfl Ho.out w.heap.size D x4.length e x4 rfl rfl HR.out (by have := Hql.out; omega) HB.out.size ?_); intro v5 w5 ho5 hg5 _ hb5)
          have Ho5 := Lib.hid ho5
          have HB5 := Lib.hid (HB.out.trans hb5)
          clear ho5 hg5 hb5
          go_wp2_with fail
          go_roundg (n - (k + 1))
          case rel => exact ⟨k + 1, by omega, rfl, rfl, by rw [Hs.out]; exact Ho5.out, HB5.out⟩
          case measure => have := Hq.out; omega
      · have hke : k = n := by omega
        go_wp2_with fail
        go_ret2
        refine ⟨_, rfl, ?_, HB.out⟩
        have ho := Ho.out
        rw [List.take_of_length_le (by rw [Hol.out]; omega)] at ho
        exact ho
  · rw [apply_no hq]
    simp only
    rw [hm] at hc
    have Hc := Lib.hid hc
    have Hq := Lib.hid hq
    rw [← hm] at Hc Hq
    have Hh := Lib.hid h
    clear hc hq
    rw [← hm]
    generalize check (ops L) (m : Int) = q at *
    clear hm hn hol h hO hl
    go_enter Try.func11, Try.ntmps11
    go_wp2_with fail
    refine (Hc.out _ Hh.out).mono ?_
    rintro e w1 ⟨rfl, hb1⟩
    have HB1 := Lib.hid hb1
    have t1 : (q == 0) = false := by simpa using Hq.out
    clear hb1
    go_wp2_with fail
    go_ret2
    exact ⟨_, rfl, OwnB.nil, HB1.out⟩
end Dl
end Go.Proofs.Ytiofkhjpknfkgaa
/- Any operations make what the document says: the walk of the statement. -/
namespace Go.Proofs.Ytiofkhjpknfkgaa
namespace Dl
open Go.RowKit Ba Tm Dm Os_
set_option linter.unusedVariables false
set_option maxRecDepth 100000 in
set_option maxHeartbeats 8000000 in
theorem applies_calls (O : List UInt8) (A : Option Addr) (c : Nat) (L : List Ow) (A2 : Option Addr) (c2 : Nat) (hOc : O.length ≤ c) (hcm : c ≤ 9223372036854775807) (hlm : L.length ≤ 9223372036854775807) (w : World) (hO : ReadB w w.heap.size A O) (hL : ReadO w w.heap.size A2 L) :
    Calls Try.prog 3 #[.slice A O.length c, .slice A2 L.length c2] w fun e w' => e = .returned (.bool true) ∧ Below w.heap.size w w' := by
  obtain ⟨m, hm⟩ : ∃ m, m = O.length := ⟨_, rfl⟩
  obtain ⟨n, hn⟩ : ∃ n, n = L.length := ⟨_, rfl⟩
  have hap := apply_calls O A m c hm (by omega) hcm L A2 n c2 hn (by omega) w hO hL
  have hrap := fun w h1 h2 => rapply_calls O A m c hm (by omega) hcm L A2 n c2 hn (by omega) w h1 h2
  have hck := fun w h => check_calls L A2 n c2 (m : Int) hn (by omega) (by omega) w h
  have hlt := light_calls L A2 n c2 300 20000 hn (by omega) (by omega) (by omega) w hL
  have hst := strof_dl w w.heap.size A c O hO
  rw [← hm] at hst
  rw [← hm, ← hn]
  have HO := Lib.hid hO
  have HL := Lib.hid hL
  have Hm := Lib.hid hm
  have Hn := Lib.hid hn
  have Hap := Lib.hid hap
  have Hrap := Lib.hid hrap
  have Hck := Lib.hid hck
  have Hlt := Lib.hid hlt
  have hmc : m ≤ c := by omega
  have hnl : n ≤ 9223372036854775807 := by omega
  have Haw := Lib.hid (fun w => awake_calls w)
  have hce : (apply O (ops L)).2 = check (ops L) (m : Int) := by
    rw [hm]
    by_cases h : check (ops L) (O.length : Int) = 0
    · rw [apply_ok h, h]
    · rw [apply_no h]
  clear hO hL hm hn hap hrap hck hlt hOc hlm
  by_cases h1 : 20000 < m
  · go_enter Try.func3, Try.ntmps3
    go_wp2_with fail
    refine Calls.mono (Haw.out _) ?_
    rintro e9 w9 ⟨rfl, hb9⟩
    go_wp2_with fail
    go_ret
    exact ⟨rfl, hb9⟩
  by_cases h2 : light (ops L) 300 20000 = true
  case neg =>
    have h2' : light (ops L) 300 20000 = false := by simpa using h2
    rw [h2'] at Hlt
    clear h2 h2'
    go_enter Try.func3, Try.ntmps3
    go_wp2_with fail
    refine Calls.mono Hlt.out ?_
    rintro e9 w9 ⟨rfl, rfl⟩
    go_wp2_with fail
    refine Calls.mono (Haw.out _) ?_
    rintro e9 w9 ⟨rfl, hb9⟩
    go_wp2_with fail
    go_ret
    exact ⟨rfl, hb9⟩
  rw [h2] at Hlt
  clear h2
  rw [hce] at Hap Hrap
  obtain ⟨R, hR⟩ : ∃ R, R = (apply O (ops L)).1 := ⟨_, rfl⟩
  rw [← hR] at Hap Hrap
  generalize check (ops L) (m : Int) = q at *
  obtain ⟨z, hz⟩ : ∃ z, z = R.length := ⟨_, rfl⟩
  have Hz := Lib.hid hz
  clear hce hR hz
  go_enter Try.func3, Try.ntmps3
  go_wp2_with fail
  refine Calls.mono Hlt.out ?_
  rintro e9 w9 ⟨rfl, rfl⟩
  go_wp2_with fail
  refine Calls.mono Hap.out ?_
  rintro e3 w3 ⟨v3, rfl, ho3, hb3⟩
  obtain ⟨A3, c3, hv3, hp3, hm3, -, -⟩ := ho3.opens
  subst hv3
  have HO3 := Lib.hid ho3
  have HB3 := Lib.hid hb3
  have hrap3 := Hrap.out w3 ((HO.out.below hb3).more hb3.size) ((HL.out.below hb3).more hb3.size)
  have Hrap3 := Lib.hid hrap3
  rw [← Hz.out] at hp3 ⊢
  have Hp3 := Lib.hid hp3
  have hzb : z ≤ 9223372036854775807 := by omega
  clear ho3 hb3 hrap3 hst hp3 Hrap Hap
  go_wp2_with fail
  refine Calls.mono Hrap3.out ?_
  rintro e4 w4 ⟨v4, rfl, ho4, hb4⟩
  obtain ⟨A4, c4, hv4, -, -, hr4, -⟩ := ho4.opens
  subst hv4
  have ho34 := HO3.out.keptB hb4
  have hst1 := strof_dl w4 _ A3 c3 R (ReadB.of_own ho34)
  have hst2 := strof_dl w4 _ A4 c4 R hr4
  rw [← Hz.out] at hst1 hst2 ⊢
  have HO4 := Lib.hid ho34
  have HB4 := Lib.hid (HB3.out.trans (hb4.mono HB3.out.size))
  have hck4 := Hck.out w4 ((HL.out.below HB4.out).more HB4.out.size)
  have Hck4 := Lib.hid hck4
  clear ho4 hb4 hr4 ho34 hck4 HO3 Hrap3 Hck
  go_wp2_with fail
  refine Calls.mono Hck4.out ?_
  rintro e5 w5 ⟨rfl, hb5⟩
  have HO5 := Lib.hid (HO4.out.keptB hb5)
  have HB5 := Lib.hid (HB4.out.trans (hb5.mono HB4.out.size))
  clear hb5 hst1 hst2 Hck4 HO4
  go_wp2_with fail
  go_loopg [11] z (fun y v11 wr => ∃ (k : Nat) (l : List UInt8), k ≤ z ∧ y = z - k ∧ v11 = .int .i64 (k : Int) ∧ z = l.length ∧ OwnB wr w.heap.size 5 (.slice A3 z c3) l ∧ Below w.heap.size w wr)
  case atStart => exact ⟨0, R, by omega, rfl, rfl, Hz.out, by rw [Hz.out]; exact HO5.out, HB5.out⟩
  case round =>
    obtain ⟨k, l, hk, hq, rfl, hzl, ho, hb⟩ := hrel
    have Hq := Lib.hid hq
    have Hzl := Lib.hid hzl
    have Ho := Lib.hid ho
    have HB := Lib.hid hb
    clear hq hzl ho hb HO5 HB5
    by_cases hkz : k < z
    · have ho := Ho.out
      rw [Hzl.out] at ho
      obtain ⟨g, c9, hv9, hg9, hg10, -, -⟩ := ho.row (by rw [← Hzl.out]; omega)
      injection hv9 with hA _ hC
      subst hA hC
      have hcl := OwnB.cell ho (k := k) (by rw [← Hzl.out]; exact hkz)
      have hfz := OwnB.frz ho k
      have hput := OwnB.put ho k (((l.getD k 0).toNat + 1) % 256) (by omega)
      have hx := (l.getD k 0).toNat_lt
      obtain ⟨x, hxx⟩ : ∃ x, x = (l.getD k 0).toNat := ⟨_, rfl⟩
      rw [← hxx] at hcl hput hx
      have hwr : IntKind.u8.wrap ((x : Int) + 1) = (((x + 1) % 256 : Nat) : Int) := by simp [IntKind.wrap, IntKind.bits, IntKind.signed]
      have hbw : Below w.heap.size w (wr.setCell ⟨g, k, none⟩ (.int .u8 (((x + 1) % 256 : Nat) : Int))) := HB.out.setCell hg9 _
      have Hput := Lib.hid hput
      have Hbw := Lib.hid hbw
      have Hg9 := Lib.hid hg9
      clear ho hput hbw hxx hg9 hg10 Ho
      go_wp2_with fail
      go_roundg (z - (k + 1))
      case rel => exact ⟨k + 1, l.set k (UInt8.ofNat ((x + 1) % 256)), by omega, rfl, rfl, by rw [List.length_set]; exact Hzl.out, by have h5 := Hput.out; rw [← Hzl.out] at h5; exact h5, Hbw.out⟩
      case measure => have := Hq.out; omega
    · have hst3 := strof_dl wr w.heap.size A c O (HO.out.below HB.out)
      rw [← Hm.out] at hst3
      go_wp2_with fail
      refine Calls.mono (Haw.out _) ?_
      rintro e9 w9 ⟨rfl, hb9⟩
      have HB9 := Lib.hid (HB.out.trans (hb9.mono HB.out.size))
      clear hb9
      go_wp2_with fail
      go_ret
      exact ⟨rfl, HB9.out⟩
end Dl
end Go.Proofs.Ytiofkhjpknfkgaa
/- How a row's arguments are opened: bytes that came in, read as a list of bytes; how many there may be. -/
namespace Go.Proofs.Ytiofkhjpknfkgaa
namespace Rk
open Go.ChangeShapes Go.WideShapes Go.ChangeAt Go.RowKit Ba
set_option linter.unusedVariables false

theorem bd_i64 {n : Int} (h : (Lit.int .i64 n).wf = true) : -9223372036854775808 ≤ n ∧ n ≤ 9223372036854775807 := by
  simpa [Lit.wf, IntKind.min, IntKind.max, IntKind.signed, IntKind.bits] using h
theorem bd_u8 {n : Int} (h : (Lit.int .u8 n).wf = true) : 0 ≤ n ∧ n ≤ 255 := by
  simpa [Lit.wf, IntKind.min, IntKind.max, IntKind.signed, IntKind.bits] using h
theorem bd_u16 {n : Int} (h : (Lit.int .u16 n).wf = true) : 0 ≤ n ∧ n ≤ 65535 := by
  simpa [Lit.wf, IntKind.min, IntKind.max, IntKind.signed, IntKind.bits] using h
theorem bd_u32 {n : Int} (h : (Lit.int .u32 n).wf = true) : 0 ≤ n ∧ n ≤ 4294967295 := by
  simpa [Lit.wf, IntKind.min, IntKind.max, IntKind.signed, IntKind.bits] using h

theorem bytes_open {H : Type} {enc : TypeId × Value → H} {P : Program} {W : World} {base : Nat} {spare : Nat → Bool} {held : Bool} {t e : TypeId} {a : Option Addr} {len cap : Nat} {d : DataW H} {ps : List MemPlace}
    (hu : P.underlying t = some (.slice e)) (he : P.underlying e = some (.int .u8)) (hc : P.cellsOf e = 1) (h : DataW.Trod enc P W base spare held t (.slice a len cap) d ps) :
    ∃ l : List UInt8, len = l.length ∧ l.length ≤ cap ∧ cap ≤ 9223372036854775807 ∧ ReadB W W.heap.size a l := by
  obtain ⟨fuel, hf⟩ := h
  rcases open_ints hu he hc hf with ⟨hcs, _⟩ | ⟨x, l, c, zs, hcs, _, hl, hm, hz, hx, hcell, hwz⟩
  · simp [Value.cells] at hcs
    obtain ⟨rfl, rfl, rfl⟩ := hcs
    exact ⟨[], rfl, by simp, by omega, ReadB.nil⟩
  · simp [Value.cells] at hcs
    obtain ⟨rfl, rfl, rfl⟩ := hcs
    have hl2 : len ≤ zs.length := by
      rw [hz]
      split
      · exact hl
      · exact Nat.le_refl _
    have hb : ∀ k, k < zs.length → ((UInt8.ofNat (zs.getD k 0).toNat).toNat : Int) = zs.getD k 0 := fun k hk => by
      have hmem : zs.getD k 0 ∈ zs := by simp [List.getD, hk]
      have := bd_u8 (hwz _ hmem)
      rw [UInt8.toNat_ofNat']
      omega
    refine ⟨(zs.take len).map fun z => UInt8.ofNat z.toNat, by simp; omega, by simp; omega, by simpa [maxLen] using hm, ?_⟩
    intro hn
    have hn2 : 0 < len := by simp at hn; omega
    have h0 : W.cell? x = some (.int .u8 (zs.getD 0 0)) := by
      have := hcell 0 (by omega)
      rwa [add_zero_] at this
    have hs : x.spot = none := by
      unfold World.cell? at h0
      split at h0
      · split at h0
        · cases h0
        · rename_i hs; simpa using hs
      · cases h0
    have hblk := block_lt_of_cell h0
    obtain ⟨b, o, s⟩ := x
    simp only at hs
    subst hs
    refine ⟨b, o, rfl, hblk, fun k hk => ?_⟩
    have hk2 : k < len := by simp at hk; omega
    have := hcell k (by omega)
    rw [add_lit_] at this
    rw [this]
    have e : (((zs.take len).map fun z => UInt8.ofNat z.toNat).getD k 0) = UInt8.ofNat (zs.getD k 0).toNat := by
      simp [List.getD, hk2, show k < zs.length by omega]
    rw [e, hb k (by omega)]

theorem sized_ints {H : Type} {enc : TypeId × Value → H} {P : Program} {W : World} {base : Nat} {spare : Nat → Bool} {held : Bool} {t e : TypeId} {k : IntKind} {a : Option Addr} {len cap : Nat} {d : DataW H} {ps : List MemPlace} {ts : List TypeId} {ds : List (DataW H)} {j : Nat}
    (hsz : (DataW.weightsEach P ts ds).all (· ≤ reachBytes) = true) (ht : ts[j]? = some t) (hd : ds[j]? = some d) (hu : P.underlying t = some (.slice e)) (he : P.underlying e = some (.int k)) (hc : P.cellsOf e = 1) {B : Nat} (hB : P.bytesOf e = B)
    (h : DataW.Trod enc P W base spare held t (.slice a len cap) d ps) : len * B ≤ 140737488351232 := by
  obtain ⟨fuel, hf⟩ := h
  rcases open_ints hu he hc hf with ⟨hcs, _⟩ | ⟨x, l, c, zs, hcs, _, hl, _, hz, hx, _, _⟩
  · simp [Value.cells] at hcs
    obtain ⟨rfl, rfl, rfl⟩ := hcs
    simp
  · simp [Value.cells] at hcs
    obtain ⟨rfl, rfl, rfl⟩ := hcs
    obtain ⟨hx, _⟩ := Prod.mk.inj hx
    subst hx
    have z := sized_slice hsz ht hd hu
    rw [hB] at z
    have hl2 : len ≤ zs.length := by
      rw [hz]
      split
      · exact hl
      · exact Nat.le_refl _
    have h1 : (lits (H := H) k (zs.take len)).length + (lits (H := H) k (zs.drop len)).length = zs.length := by
      simp [lits]
      omega
    rw [h1] at z
    exact Nat.le_trans (Nat.mul_le_mul_right _ hl2) z
end Rk
end Go.Proofs.Ytiofkhjpknfkgaa
