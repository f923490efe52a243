/- Any bytes are sealed, and opened, with any key and head, as the document says; they stay as they are: the walk of the statement. -/
import Derived.Test.YtlkcibhdnicpkaaDoorG01
import Derived.Test.YtlkcibhdnicpkaaDoorG02
import Derived.Test.YtlkcibhdnicpkaaDoorG03
import Derived.Test.YtlkcibhdnicpkaaDoorG04
import Derived.Test.YtlkcibhdnicpkaaDoorG05
import Derived.Test.YtlkcibhdnicpkaaDoorG06
import Derived.Test.YtlkcibhdnicpkaaDoorG07
import Derived.Test.YtlkcibhdnicpkaaDoorG08
import Derived.Test.YtlkcibhdnicpkaaDoorG09
import Derived.Test.YtlkcibhdnicpkaaDoorG10
namespace Go.Proofs.YtlkcibhdnicpkaaDoor
namespace Mc
open Go.RowKit Ba Sm Br
set_option linter.unusedVariables false
theorem own_chain {w w1 w2 : World} {g : Nat} {r : Option Nat} (h1 : w.grownBy w1 (some g)) (h2 : w1.grownBy w2 r) (hr : r = some g ∨ ∃ n, r = some n ∧ w.heap.size ≤ n) : w.grownBy w2 (some g) := by
  refine ⟨h2.os.trans h1.os, h2.tape.trans h1.tape, h2.output.trans h1.output, Nat.le_trans h1.size h2.size, fun i hi hne => ?_⟩
  refine (h2.block i (Nat.lt_of_lt_of_le hi h1.size) ?_).trans (h1.block i hi hne)
  rcases hr with rfl | ⟨n, rfl, hn⟩
  · exact hne
  · intro e
    injection e with e
    omega
set_option maxRecDepth 100000 in
set_option maxHeartbeats 40000000 in
theorem macOpens_calls (k hd b : List UInt8) (hk : k.length = 32) (A B : Option Addr) (c d : Nat) (hkc : hd.length ≤ c) (hkm : c ≤ 9223372036854775807) (hbd : b.length ≤ d) (hbm : d ≤ 9223372036854775807) (w : World) (htab : Tab w) (hr : ReadB w w.heap.size A hd) (hrb : ReadB w w.heap.size B b) :
    Calls Tryd.prog 9 #[.agg (bvs k).toArray, .slice A hd.length c, .slice B b.length d] w fun e w' => e = .returned (.bool true) ∧ Below w.heap.size w w' := by
  have hw := awake_calls
  have Hw := Lib.hid hw
  have Hk := Lib.hid hk
  obtain ⟨i0, hi0⟩ := isByte_of info5
  have Hi := Lib.hid hi0
  have Htab0 := Lib.hid htab
  have Hr0 := Lib.hid hr
  have Hb0 := Lib.hid hrb
  have hA := (Below.refl w.heap.size w).alloc (Nat.le_refl _) (.cells (bvs k).toArray 26)
  have hR0 : Blk (w.alloc (.cells (bvs k).toArray 26)) w.heap.size 26 (bvs k).toArray := heap_alloc_new w (.cells (bvs k).toArray 26)
  have HRow0 := Lib.hid hR0
  have HA := Lib.hid hA
  clear hw htab hr hrb hA hR0 hk hi0
  by_cases h1 : 200 < hd.length
  · have g1 : decide (200 < (hd.length : Int)) = true := by rw [decide_eq_true_eq]; omega
    go_enter Tryd.func9, Tryd.ntmps9
    go_wp2_with (go_at_call 27; refine (Hw.out _ (Htab0.out.below HA.out)).mono ?_; rintro e w5 ⟨rfl, hb5⟩)
    go_ret
    exact ⟨rfl, HA.out.trans (hb5.mono HA.out.size)⟩
  have g1 : decide (200 < (hd.length : Int)) = false := by rw [decide_eq_false_iff_not]; omega
  by_cases h2 : 200 < b.length
  · have g2 : decide (200 < (b.length : Int)) = true := by rw [decide_eq_true_eq]; omega
    go_enter Tryd.func9, Tryd.ntmps9
    go_wp2_with (go_at_call 27; refine (Hw.out _ (Htab0.out.below HA.out)).mono ?_; rintro e w5 ⟨rfl, hb5⟩)
    go_ret
    exact ⟨rfl, HA.out.trans (hb5.mono HA.out.size)⟩
  have g2 : decide (200 < (b.length : Int)) = false := by rw [decide_eq_false_iff_not]; omega
  obtain ⟨X, hX⟩ : ∃ X, X = (opn k hd b).1 := ⟨_, rfl⟩
  obtain ⟨xe, hxe⟩ : ∃ xe, xe = (opn k hd b).2 := ⟨_, rfl⟩
  have HX := Lib.hid hX
  have HXe := Lib.hid hxe
  clear hX hxe
  go_enter Tryd.func9, Tryd.ntmps9
  go_wp2_with (first
    | (at_builtin; refine wpList_appB _ rfl (.tmp 21) (.tmp 22) 22 rfl (w.heap.size + 1) 5 i0 Tryd.underlying22 Hi.out _ [] rfl (OwnB.lit0 (w.alloc _) 5 (w.heap.size + 1) (w.heap.size + 1) (by simp) (by simp)) w.heap.size B _ d b rfl rfl ((Hb0.out.below HA.out).alloc (by simp) _) (by simp; omega) (by simp) ?_; intro v1 w1 ho1 _ _ hb1; rw [List.nil_append] at ho1; have HB1 := Lib.hid ((HA.out.alloc HA.out.size (.cells #[] 5)).trans (hb1.mono (Nat.le_succ _))); have HRow1 := Lib.hid ((HRow0.out.alloc (.cells #[] 5)).below hb1 (Nat.lt_succ_self _)); obtain ⟨A1, c1, rfl, p1, p2, p3, p4⟩ := ho1.opens; have P1 := Lib.hid p1; have P3 := Lib.hid p3; have P4 := Lib.hid p4; clear ho1 hb1 p3 p4 p1 HRow0)
    | (refine wpList_load_blk rfl 26 (.tmp 3) rfl w.heap.size 0 26 [] (bvs k) [] rfl (by rw [List.append_nil, List.nil_append]; exact HRow1.out) rfl _ Tryd.underlying26 rfl (by rw [bvs_length, Hk.out]; kernel_rfl) ?_))
  refine (open_calls (k := k) (hd := hd) (s := b) Hk.out rfl rfl ((Hr0.out.below HB1.out).more HB1.out.size) P3.out (Htab0.out.below HB1.out) hkc P1.out p2 (by omega) (by omega)).mono ?_
  rw [← HX.out, ← HXe.out]
  rintro e w2 ⟨v2, rfl, ho2, hb2⟩
  obtain ⟨A2, c2, rfl, u1, u2, u3, u4⟩ := ho2.opens
  have HB2 := Lib.hid (HB1.out.trans (hb2.mono HB1.out.size))
  have HRow2 := Lib.hid (HRow1.out.below hb2 HRow1.out.lt)
  have HIn2 := Lib.hid ((P3.out.below hb2).more hb2.size)
  have HX2 := Lib.hid u3
  clear ho2 hb2 u3 u4 HB1 HRow1 P3 P4
  go_wp2_with (refine wpList_load_blk rfl 26 (.tmp 3) rfl w.heap.size 0 26 [] (bvs k) [] rfl (by rw [List.append_nil, List.nil_append]; exact HRow2.out) rfl _ Tryd.underlying26 rfl (by rw [bvs_length, Hk.out]; kernel_rfl) ?_)
  refine (ropen_calls (k := k) (hd := hd) (s := b) Hk.out rfl rfl ((Hr0.out.below HB2.out).more HB2.out.size) ((Hb0.out.below HB2.out).more HB2.out.size) hkc hbd hbm (by omega) (by omega)).mono ?_
  rw [← HX.out, ← HXe.out]
  rintro e w3 ⟨v3, rfl, ho3, hb3⟩
  obtain ⟨A3, c3, rfl, u1, u2, u3, u4⟩ := ho3.opens
  have HB3 := Lib.hid (HB2.out.trans (hb3.mono HB2.out.size))
  have HRow3 := Lib.hid (HRow2.out.below hb3 HRow2.out.lt)
  have HIn3 := Lib.hid ((HIn2.out.below hb3).more hb3.size)
  have HX3 := Lib.hid ((HX2.out.below hb3).more hb3.size)
  have HY3 := Lib.hid u3
  clear ho3 hb3 u3 u4 HB2 HRow2 HIn2 HX2 HX HXe
  go_wp2_with fail
  have HRow : Hid (w3.drew.rangeAt w.heap.size 0 (bvs k)) := Lib.hid (show w3.rangeAt w.heap.size 0 (bvs k) from Blk.range [] (bvs k) [] (by rw [List.append_nil, List.nil_append]; exact HRow3.out))
  have Hgk : Hid (w.heap.size < w3.drew.heap.size) := Lib.hid HRow3.out.lt
  have HIn : Hid (ReadB w3.drew w3.drew.heap.size A1 b) := HIn3
  have HX : Hid (ReadB w3.drew w3.drew.heap.size A2 X) := HX3
  have HY : Hid (ReadB w3.drew w3.drew.heap.size A3 X) := HY3
  have HB0 := Lib.hid HB3.out.drew
  have HR := Lib.hid ((Hr0.out.below HB0.out).more HB0.out.size)
  have HRb := Lib.hid ((Hb0.out.below HB0.out).more HB0.out.size)
  have Ht := Lib.hid (Htab0.out.below HB0.out)
  clear HB3 HRow3 HIn3 HX3 HY3 Hr0 Hb0 Htab0 HA
  obtain ⟨M, hM⟩ : ∃ M, M = (hmac k (hd ++ b)).take 16 := ⟨_, rfl⟩
  have HM := Lib.hid hM
  have hnf : [hd, b].flatten = hd ++ b := by simp
  have Hnf := Lib.hid hnf
  have hfl : [hd, b].flatten.length ≤ 576460752303423487 := by rw [hnf, List.length_append]; omega
  have Hfl := Lib.hid hfl
  clear hM hnf hfl
  refine CanF.region 1000 (.op 0 1 (.op 1 2 (.op 2 2 (.op 5 1 (.op 6 2 (.op 7 2 (.op 3 0 (.op 4 1 (.op 8 0 (.op 9 1 (.op 10 2 (.op 11 2 (.op 12 1 (.op 13 2 (.op 14 2 (.op 18 1 (.op 20 2 (.op 22 2 (.fork (.op 15 0 (.fork (.op 16 0 (.op 17 1 (.op 19 0 (.op 21 0 (.op 23 0 (.op 24 0 (.op 25 1 (.op 26 2 (.op 27 2 (.op 28 2 (.op 29 2 (.op 30 1 (.op 31 2 (.op 32 1 (.op 33 2 (.op 34 2 (.op 35 2 (.op 36 2 (.op 37 2 (.op 38 2 (.op 39 2 (.op 40 2 (.op 41 2 (.op 42 1 (.op 43 2 (.op 44 1 (.op 45 2 (.op 46 2 (.op 47 2 (.op 48 0 (.op 49 2 (.op 50 2 (.nil))))))))))))))))))))))))))))))))) (.op 19 0 (.op 16 0 (.op 17 1 (.op 21 0 (.op 23 0 (.op 24 0 (.op 25 1 (.op 26 2 (.op 27 2 (.op 28 2 (.op 29 2 (.op 30 1 (.op 31 2 (.op 32 1 (.op 33 2 (.op 34 2 (.op 35 2 (.op 36 2 (.op 37 2 (.op 38 2 (.op 39 2 (.op 40 2 (.op 41 2 (.op 42 1 (.op 43 2 (.op 44 1 (.op 45 2 (.op 46 2 (.op 47 2 (.op 48 0 (.op 49 2 (.op 50 2 (.nil))))))))))))))))))))))))))))))))))) (.op 19 0 (.op 15 0 (.op 16 0 (.op 17 1 (.op 21 0 (.op 23 0 (.op 24 0 (.op 25 1 (.op 26 2 (.op 27 2 (.op 28 2 (.op 29 2 (.op 30 1 (.op 31 2 (.op 32 1 (.op 33 2 (.op 34 2 (.op 35 2 (.op 36 2 (.op 37 2 (.op 38 2 (.op 39 2 (.op 40 2 (.op 41 2 (.op 42 1 (.op 43 2 (.op 44 1 (.op 45 2 (.op 46 2 (.op 47 2 (.op 48 0 (.op 49 2 (.op 50 2 (.nil))))))))))))))))))))))))))))))))))))))))))))))))))))) (by kernel_rfl) (by kernel_rfl) ?_
  generalize w3.drew = W0 at *
  have HF0 : Hid (∀ w', W0.grownBy w' none → Below W0.heap.size W0 w') := Lib.hid (fun w' h => ⟨h.os, h.tape, h.output, h.size, fun i hi => h.block i hi (by simp)⟩)
  have HC0 := Lib.hid (HF0.out _ (World.grownBy.refl _ _))
  obtain ⟨SL, hSL⟩ : ∃ SL, SL = b ++ mtag k hd b := ⟨_, rfl⟩
  have HSL := Lib.hid hSL
  clear hSL
  repeat (first | (refine CanT.skip rfl ?_ (fun K hK => ?_); (focus (go_simp; done)); go_simp; refine hK _ ?_; clear hK K) | (refine CanT.pur rfl ?_ ?_; (focus (go_simp; done)); refine ⟨?_, ?_, ?_⟩; rotate_left; (focus (intro w'; go_simp; rfl)); (focus (intro K hK; go_simp; refine hK _ ?_; clear hK K))) | (refine CanF.row rfl ?_ _ _ rfl w.heap.size 0 (bvs k) rfl HF0.out HRow.out Hgk.out _ Tryd.underlying26 rfl (by rw [bvs_length, Hk.out]; kernel_rfl) (fun K hK => ?_); (focus (go_simp; done)); go_simp; refine hK _ ?_; clear hK K))
  refine CanT.impF rfl (fun J hJ => ?_)
  go_simp
  refine (seal_calls (k := k) (hd := hd) (b := b) Hk.out rfl rfl HR.out HIn.out Ht.out hkc P1.out p2 (by omega) (by omega)).mono ?_
  rw [← HSL.out]
  rintro e w4 ⟨v4, rfl, ho4, hb4⟩
  obtain ⟨A4, c4, rfl, q1, q2, q3, q4⟩ := ho4.opens
  have Q3 := Lib.hid q3
  clear q3 q4 ho4
  have hch4 := fun w' (h : w4.grownBy w' none) => only_trans (only_of_below hb4 none) h
  have HF4 : Hid (∀ w', w4.grownBy w' none → Below W0.heap.size W0 w') := Lib.hid (fun w' h => HF0.out w' (hch4 w' h))
  go_simp
  refine hJ.out (fun w' => w4.grownBy w' none) _ _ hch4 (World.grownBy.refl _ _) ?_
  clear hJ J
  have HC4 := Lib.hid (HF4.out _ (World.grownBy.refl _ _))
  refine CanF.strF rfl ?_ 22 9 5 _ rfl Tryd.underlying22 Tryd.underlying5 Tryd.underlying9 A4 _ c4 (SL) rfl (rfl) (fun w' h => CanF.none_read Q3.out h) (fun K hK => ?_); (focus (go_simp; done)); go_simp; refine hK _ ?_; clear hK K
  refine CanT.impF rfl (fun J hJ => ?_)
  go_simp
  refine (rseal_calls (k := k) (hd := hd) (b := b) Hk.out rfl rfl ((HR.out.below HC4.out).more HC4.out.size) ((HRb.out.below HC4.out).more HC4.out.size) (by omega) (by omega)).mono ?_
  rw [← HSL.out]
  rintro e w5 ⟨v5, rfl, ho5, hb5⟩
  obtain ⟨A5, c5, rfl, q1, q2, q3, q4⟩ := ho5.opens
  have Q5 := Lib.hid q3
  clear q3 q4 ho5
  have hch5 := fun w' (h : w5.grownBy w' none) => only_trans (only_of_below hb5 none) h
  have HF5 : Hid (∀ w', w5.grownBy w' none → Below W0.heap.size W0 w') := Lib.hid (fun w' h => HF4.out w' (hch5 w' h))
  go_simp
  refine hJ.out (fun w' => w5.grownBy w' none) _ _ hch5 (World.grownBy.refl _ _) ?_
  clear hJ J
  have HC5 := Lib.hid (HF5.out _ (World.grownBy.refl _ _))
  refine CanF.strF rfl ?_ 22 9 5 _ rfl Tryd.underlying22 Tryd.underlying5 Tryd.underlying9 A5 _ c5 (SL) rfl (rfl) (fun w' h => CanF.none_read Q5.out h) (fun K hK => ?_); (focus (go_simp; done)); go_simp; refine hK _ ?_; clear hK K
  repeat (first | (refine CanT.skip rfl ?_ (fun K hK => ?_); (focus (go_simp; done)); go_simp; refine hK _ ?_; clear hK K) | (refine CanT.pur rfl ?_ ?_; (focus (go_simp; done)); refine ⟨?_, ?_, ?_⟩; rotate_left; (focus (intro w'; go_simp; rfl)); (focus (intro K hK; go_simp; refine hK _ ?_; clear hK K))) | (refine CanF.row rfl ?_ _ _ rfl w.heap.size 0 (bvs k) rfl HF5.out HRow.out Hgk.out _ Tryd.underlying26 rfl (by rw [bvs_length, Hk.out]; kernel_rfl) (fun K hK => ?_); (focus (go_simp; done)); go_simp; refine hK _ ?_; clear hK K))
  clear HSL Q3 Q5 q1 q2 hb4 hb5 hch4 hch5 HF4 HC4 HF0 HC0
  refine CanT.both ?_ ?_
  · have hcur6 := HC5.out
    have hbb6 : ReadBB (w5.alloc (.cells #[.slice A hd.length c, .slice A1 b.length c1] 22)) (w5.heap.size + 1) (some ⟨w5.heap.size, 0, none⟩) [hd, b] :=
      ReadBB.lit2 w5 22 A A1 _ c _ c1 hd b w5.heap.size w5.heap.size rfl (Nat.le_refl _) rfl rfl ((HR.out.below hcur6).more hcur6.size) ((HIn.out.below hcur6).more hcur6.size) hkc P1.out hkm p2
    have Hbb := Lib.hid (hbb6.more (show w5.heap.size + 1 ≤ (w5.alloc (.cells #[.slice A hd.length c, .slice A1 b.length c1] 22)).heap.size by simp))
    have hba6 := (Below.refl w5.heap.size w5).alloc (Nat.le_refl _) (.cells #[.slice A hd.length c, .slice A1 b.length c1] 22)
    clear hbb6
    refine CanT.impF rfl (fun J hJ => ?_)
    go_simp
    have hch6 := fun w' (h : (w5.alloc (.cells #[.slice A hd.length c, .slice A1 b.length c1] 22)).grownBy w' none) => only_trans (only_of_below hba6 none) h
    have HF6 : Hid (∀ w', (w5.alloc (.cells #[.slice A hd.length c, .slice A1 b.length c1] 22)).grownBy w' none → Below W0.heap.size W0 w') := Lib.hid (fun w' h => HF5.out w' (hch6 w' h))
    go_simp
    refine hJ.out (fun w' => (w5.alloc (.cells #[.slice A hd.length c, .slice A1 b.length c1] 22)).grownBy w' none) _ _ hch6 (World.grownBy.refl _ _) ?_
    clear hJ J
    have HC6 := Lib.hid (HF6.out _ (World.grownBy.refl _ _))
    generalize w5.alloc (.cells #[.slice A hd.length c, .slice A1 b.length c1] 22) = w6 at *
    clear hcur6 hba6 hch6
    refine CanT.both ?_ ?_
    · refine CanT.impF rfl (fun J hJ => ?_)
      go_simp
      refine (tag_calls k Hk.out [hd, b] _ 2 2 _ rfl (by simpa using Hbb.out) (Ht.out.below HC6.out) (by simp) (by omega) (by intro p hp; simp at hp; rcases hp with rfl | rfl <;> omega) Hfl.out).mono ?_
      rw [Hnf.out, ← HM.out]
      rintro e w7 ⟨v7, rfl, ho7, hb7⟩
      obtain ⟨A7, c7, rfl, q1, q2, q3, q4⟩ := ho7.opens
      have Q7 := Lib.hid q3
      have HO7 := Lib.hid ho7
      clear q3 q4
      have hch7 := fun w' (h : w7.grownBy w' none) => only_trans (only_of_below hb7 none) h
      have HF7 : Hid (∀ w', w7.grownBy w' none → Below W0.heap.size W0 w') := Lib.hid (fun w' h => HF6.out w' (hch7 w' h))
      go_simp
      refine hJ.out (fun w' => w7.grownBy w' none) _ _ hch7 (World.grownBy.refl _ _) ?_
      clear hJ J
      have HC7 := Lib.hid (HF7.out _ (World.grownBy.refl _ _))
      refine CanF.strF rfl ?_ 22 9 5 _ rfl Tryd.underlying22 Tryd.underlying5 Tryd.underlying9 A7 _ c7 (M) rfl (rfl) (fun w' h => CanF.none_read Q7.out h) (fun K hK => ?_); (focus (go_simp; done)); go_simp; refine hK _ ?_; clear hK K
      clear HO7 Q7 ho7
      have hcur8 := HC7.out
      have hba8 := (Below.refl w7.heap.size w7).alloc (Nat.le_refl _) (.cells #[] 5)
      have HE := Lib.hid (OwnB.lit0 w7 5 w7.heap.size w7.heap.size rfl (Nat.le_refl _))
      have hg3 : Hid (W0.heap.size ≤ w7.heap.size) := Lib.hid hcur8.size
      refine CanT.impF rfl (fun J hJ => ?_)
      go_simp
      have hch8 := fun w' (h : (w7.alloc (.cells #[] 5)).grownBy w' (some w7.heap.size)) => CanF.grown_new rfl h
      have HF8 : Hid (∀ w', (w7.alloc (.cells #[] 5)).grownBy w' (some w7.heap.size) → Below W0.heap.size W0 w') := Lib.hid (fun w' h => HF7.out w' (hch8 w' h))
      go_simp
      refine hJ.out (fun w' => (w7.alloc (.cells #[] 5)).grownBy w' (some w7.heap.size)) _ _ hch8 (World.grownBy.refl _ _) ?_
      clear hJ J
      have HC8 := Lib.hid (HF8.out _ (World.grownBy.refl _ _))
      have Hlt3 := Lib.hid (show w7.heap.size < (w7.alloc (.cells #[] 5)).heap.size by simp)
      generalize w7.alloc (.cells #[] 5) = w8 at *
      clear hcur8 hba8 hch8
      have hcur9 := HC8.out
      have hsz9 := Nat.le_of_lt (World.ownsRow.lt HE.out _ rfl).2
      have Hh9 := Lib.hid ((HR.out.below hcur9).more hcur9.size)
      refine CanT.imp rfl (fun J hJ => ?_)
      refine CanF.step_appBg _ ?_ (.tmp 57) (.tmp 58) 22 rfl w7.heap.size 5 i0 Tryd.underlying22 Hi.out _ [] rfl HE.out w8.heap.size A _ c hd rfl rfl Hh9.out (by simp; omega) hsz9 ?_
      focus (go_simp; done)
      intro v9a w9a ho9a hgr9a hor9a hb9a
      rw [List.nil_append] at ho9a
      have HG9a := Lib.hid (show w8.grownBy w9a (some w7.heap.size) from hgr9a)
      have HCa := Lib.hid (HF8.out _ HG9a.out)
      have Hb9a := Lib.hid ((HRb.out.below HCa.out).more HCa.out.size)
      have Ho9a := Lib.hid ho9a
      have Hsz9a := Lib.hid hb9a.size
      have Hgz := Lib.hid (Nat.le_trans (Nat.le_of_lt Hlt3.out) Hsz9a.out)
      go_simp
      refine hJ.out _ _ HG9a.out ?_
      clear hJ J ho9a hgr9a hb9a
      refine CanT.imp rfl (fun J hJ => ?_)
      refine CanF.step_appBg _ ?_ (.tmp 59) (.tmp 60) 22 rfl w7.heap.size 5 i0 Tryd.underlying22 Hi.out v9a hd rfl Ho9a.out w9a.heap.size B _ d b rfl rfl Hb9a.out (by omega) Hgz.out ?_
      focus (go_simp; done)
      intro v9b w9b ho9b hgr9b _ hb9b
      have HG9b := Lib.hid (show w8.grownBy w9b (some w7.heap.size) from own_chain HG9a.out hgr9b (hor9a.elim (fun e => .inl e) (fun e => .inr ⟨_, e, Nat.le_refl _⟩)))
      have Ho9b := Lib.hid ho9b
      have HCb := Lib.hid (HF8.out _ HG9b.out)
      have Hsz9b := Lib.hid hb9b.size
      have Hgz := Lib.hid (Nat.le_trans Hgz.out Hsz9b.out)
      go_simp
      refine hJ.out _ _ HG9b.out ?_
      clear hJ J ho9b hgr9b hb9b hor9a Ho9a HCa Hb9a
      refine CanT.impF rfl (fun J hJ => ?_)
      go_simp
      refine (rtag_calls k (hd ++ b) Hk.out v9b w7.heap.size _ Ho9b.out Hgz.out (by rw [List.length_append]; omega)).mono ?_
      rw [← HM.out]
      rintro e w9c ⟨v9c, rfl, ho9c, hb9c⟩
      obtain ⟨A9c, c9c, rfl, q1, q2, q3, q4⟩ := ho9c.opens
      have HO9c := Lib.hid ho9c
      clear q3 q4
      have hch9c := fun w' (h : w9c.grownBy w' (some w7.heap.size)) => only_trans HG9b.out (only_trans (only_of_below hb9c (some w7.heap.size)) h)
      have HF9c : Hid (∀ w', w9c.grownBy w' (some w7.heap.size) → Below W0.heap.size W0 w') := Lib.hid (fun w' h => HF8.out w' (hch9c w' h))
      go_simp
      refine hJ.out (fun w' => w9c.grownBy w' (some w7.heap.size)) _ _ hch9c (World.grownBy.refl _ _) ?_
      clear hJ J
      have HC9c := Lib.hid (HF9c.out _ (World.grownBy.refl _ _))
      refine CanF.strF rfl ?_ 22 9 5 _ rfl Tryd.underlying22 Tryd.underlying5 Tryd.underlying9 A9c _ c9c (M) rfl (rfl) (fun w' h => CanF.grown_read HO9c.out h (Nat.lt_of_lt_of_le Hlt3.out (Nat.le_trans Hsz9a.out Hsz9b.out))) (fun K hK => ?_); (focus (go_simp; done)); go_simp; refine hK _ ?_; clear hK K
      repeat (first | (refine CanT.skip rfl ?_ (fun K hK => ?_); (focus (go_simp; done)); go_simp; refine hK _ ?_; clear hK K) | (refine CanT.pur rfl ?_ ?_; (focus (go_simp; done)); refine ⟨?_, ?_, ?_⟩; rotate_left; (focus (intro w'; go_simp; rfl)); (focus (intro K hK; go_simp; refine hK _ ?_; clear hK K))) | (refine CanF.row rfl ?_ _ _ rfl w.heap.size 0 (bvs k) rfl HF9c.out HRow.out Hgk.out _ Tryd.underlying26 rfl (by rw [bvs_length, Hk.out]; kernel_rfl) (fun K hK => ?_); (focus (go_simp; done)); go_simp; refine hK _ ?_; clear hK K) | (refine CanF.str rfl ?_ 22 9 5 _ rfl Tryd.underlying22 Tryd.underlying5 Tryd.underlying9 A2 _ c2 (X) rfl (rfl) HF9c.out HX.out (fun K hK => ?_); (focus (go_simp; done)); go_simp; refine hK _ ?_; clear hK K) | (refine CanF.str rfl ?_ 22 9 5 _ rfl Tryd.underlying22 Tryd.underlying5 Tryd.underlying9 A3 _ c3 (X) rfl (rfl) HF9c.out HY.out (fun K hK => ?_); (focus (go_simp; done)); go_simp; refine hK _ ?_; clear hK K) | (refine CanF.str rfl ?_ 22 9 5 _ rfl Tryd.underlying22 Tryd.underlying5 Tryd.underlying9 A1 _ c1 (b) rfl (rfl) HF9c.out HIn.out (fun K hK => ?_); (focus (go_simp; done)); go_simp; refine hK _ ?_; clear hK K) | (refine CanF.str rfl ?_ 22 9 5 _ rfl Tryd.underlying22 Tryd.underlying5 Tryd.underlying9 B _ d (b) rfl (rfl) HF9c.out HRb.out (fun K hK => ?_); (focus (go_simp; done)); go_simp; refine hK _ ?_; clear hK K))
      refine CanT.impF rfl (fun J hJ => ?_)
      go_simp
      refine (Hw.out _ (Ht.out.below HC9c.out)).mono ?_
      rintro e w9d ⟨rfl, hb9d⟩
      go_simp
      refine hJ.out (fun w' => w9d.grownBy w' none) _ _ (fun w' h => only_trans (only_of_below hb9d (some w7.heap.size)) ⟨h.os, h.tape, h.output, h.size, fun i hi _ => h.block i hi (by simp)⟩) (World.grownBy.refl _ _) ?_
      clear hJ J
      have HBB := Lib.hid (HC9c.out.trans (hb9d.mono HC9c.out.size))
      repeat (first | (refine CanT.skip rfl ?_ (fun K hK => ?_); (focus (go_simp; done)); go_simp; refine hK _ ?_; clear hK K) | (refine CanT.pur rfl ?_ ?_; (focus (go_simp; done)); refine ⟨?_, ?_, ?_⟩; rotate_left; (focus (intro w'; go_simp; rfl)); (focus (intro K hK; go_simp; refine hK _ ?_; clear hK K))))
      refine CanT.done ?_
      go_wp2
      go_ret
      exact ⟨rfl, HB0.out.trans (HBB.out.mono HB0.out.size)⟩
    · have hcur7 := HC6.out
      have hba7 := (Below.refl w6.heap.size w6).alloc (Nat.le_refl _) (.cells #[] 5)
      have HE := Lib.hid (OwnB.lit0 w6 5 w6.heap.size w6.heap.size rfl (Nat.le_refl _))
      have hg3 : Hid (W0.heap.size ≤ w6.heap.size) := Lib.hid hcur7.size
      have Hbb := Lib.hid ((Hbb.out.below hba7).more hba7.size)
      refine CanT.impF rfl (fun J hJ => ?_)
      go_simp
      have hch7 := fun w' (h : (w6.alloc (.cells #[] 5)).grownBy w' (some w6.heap.size)) => CanF.grown_new rfl h
      have HF7 : Hid (∀ w', (w6.alloc (.cells #[] 5)).grownBy w' (some w6.heap.size) → Below W0.heap.size W0 w') := Lib.hid (fun w' h => HF6.out w' (hch7 w' h))
      go_simp
      refine hJ.out (fun w' => (w6.alloc (.cells #[] 5)).grownBy w' (some w6.heap.size)) _ _ hch7 (World.grownBy.refl _ _) ?_
      clear hJ J
      have HC7 := Lib.hid (HF7.out _ (World.grownBy.refl _ _))
      have Hlt3 := Lib.hid (show w6.heap.size < (w6.alloc (.cells #[] 5)).heap.size by simp)
      generalize w6.alloc (.cells #[] 5) = w7 at *
      clear hcur7 hba7 hch7
      refine CanT.impF rfl (fun J hJ => ?_)
      go_simp
      refine (tag_calls k Hk.out [hd, b] _ 2 2 _ rfl (by simpa using Hbb.out) (Ht.out.below HC7.out) (by simp) (by omega) (by intro p hp; simp at hp; rcases hp with rfl | rfl <;> omega) Hfl.out).mono ?_
      rw [Hnf.out, ← HM.out]
      rintro e w8 ⟨v8, rfl, ho8, hb8⟩
      obtain ⟨A8, c8, rfl, q1, q2, q3, q4⟩ := ho8.opens
      have Q8 := Lib.hid q3
      have HO8 := Lib.hid ho8
      clear q3 q4
      have HE := Lib.hid (HE.out.keptB hb8)
      have Hlt4 := Hlt3
      have Hlt3 := Lib.hid (Nat.lt_of_lt_of_le Hlt3.out hb8.size)
      have hch8 := fun w' (h : w8.grownBy w' (some w6.heap.size)) => only_trans (only_of_below hb8 (some w6.heap.size)) h
      have HF8 : Hid (∀ w', w8.grownBy w' (some w6.heap.size) → Below W0.heap.size W0 w') := Lib.hid (fun w' h => HF7.out w' (hch8 w' h))
      go_simp
      refine hJ.out (fun w' => w8.grownBy w' (some w6.heap.size)) _ _ hch8 (World.grownBy.refl _ _) ?_
      clear hJ J
      have HC8 := Lib.hid (HF8.out _ (World.grownBy.refl _ _))
      refine CanF.strF rfl ?_ 22 9 5 _ rfl Tryd.underlying22 Tryd.underlying5 Tryd.underlying9 A8 _ c8 (M) rfl (rfl) (fun w' h => CanF.grown_read HO8.out h Hlt4.out) (fun K hK => ?_); (focus (go_simp; done)); go_simp; refine hK _ ?_; clear hK K
      clear HO8 Q8 ho8
      have hcur9 := HC8.out
      have hsz9 := Nat.le_of_lt (World.ownsRow.lt HE.out _ rfl).2
      have Hh9 := Lib.hid ((HR.out.below hcur9).more hcur9.size)
      refine CanT.imp rfl (fun J hJ => ?_)
      refine CanF.step_appBg _ ?_ (.tmp 57) (.tmp 58) 22 rfl w6.heap.size 5 i0 Tryd.underlying22 Hi.out _ [] rfl HE.out w8.heap.size A _ c hd rfl rfl Hh9.out (by simp; omega) hsz9 ?_
      focus (go_simp; done)
      intro v9a w9a ho9a hgr9a hor9a hb9a
      rw [List.nil_append] at ho9a
      have HG9a := Lib.hid (show w8.grownBy w9a (some w6.heap.size) from hgr9a)
      have HCa := Lib.hid (HF8.out _ HG9a.out)
      have Hb9a := Lib.hid ((HRb.out.below HCa.out).more HCa.out.size)
      have Ho9a := Lib.hid ho9a
      have Hsz9a := Lib.hid hb9a.size
      have Hgz := Lib.hid (Nat.le_trans (Nat.le_of_lt Hlt3.out) Hsz9a.out)
      go_simp
      refine hJ.out _ _ HG9a.out ?_
      clear hJ J ho9a hgr9a hb9a
      refine CanT.imp rfl (fun J hJ => ?_)
      refine CanF.step_appBg _ ?_ (.tmp 59) (.tmp 60) 22 rfl w6.heap.size 5 i0 Tryd.underlying22 Hi.out v9a hd rfl Ho9a.out w9a.heap.size B _ d b rfl rfl Hb9a.out (by omega) Hgz.out ?_
      focus (go_simp; done)
      intro v9b w9b ho9b hgr9b _ hb9b
      have HG9b := Lib.hid (show w8.grownBy w9b (some w6.heap.size) from own_chain HG9a.out hgr9b (hor9a.elim (fun e => .inl e) (fun e => .inr ⟨_, e, Nat.le_refl _⟩)))
      have Ho9b := Lib.hid ho9b
      have HCb := Lib.hid (HF8.out _ HG9b.out)
      have Hsz9b := Lib.hid hb9b.size
      have Hgz := Lib.hid (Nat.le_trans Hgz.out Hsz9b.out)
      go_simp
      refine hJ.out _ _ HG9b.out ?_
      clear hJ J ho9b hgr9b hb9b hor9a Ho9a HCa Hb9a
      refine CanT.impF rfl (fun J hJ => ?_)
      go_simp
      refine (rtag_calls k (hd ++ b) Hk.out v9b w6.heap.size _ Ho9b.out Hgz.out (by rw [List.length_append]; omega)).mono ?_
      rw [← HM.out]
      rintro e w9c ⟨v9c, rfl, ho9c, hb9c⟩
      obtain ⟨A9c, c9c, rfl, q1, q2, q3, q4⟩ := ho9c.opens
      have HO9c := Lib.hid ho9c
      clear q3 q4
      have hch9c := fun w' (h : w9c.grownBy w' (some w6.heap.size)) => only_trans HG9b.out (only_trans (only_of_below hb9c (some w6.heap.size)) h)
      have HF9c : Hid (∀ w', w9c.grownBy w' (some w6.heap.size) → Below W0.heap.size W0 w') := Lib.hid (fun w' h => HF8.out w' (hch9c w' h))
      go_simp
      refine hJ.out (fun w' => w9c.grownBy w' (some w6.heap.size)) _ _ hch9c (World.grownBy.refl _ _) ?_
      clear hJ J
      have HC9c := Lib.hid (HF9c.out _ (World.grownBy.refl _ _))
      refine CanF.strF rfl ?_ 22 9 5 _ rfl Tryd.underlying22 Tryd.underlying5 Tryd.underlying9 A9c _ c9c (M) rfl (rfl) (fun w' h => CanF.grown_read HO9c.out h (Nat.lt_of_lt_of_le Hlt3.out (Nat.le_trans Hsz9a.out Hsz9b.out))) (fun K hK => ?_); (focus (go_simp; done)); go_simp; refine hK _ ?_; clear hK K
      repeat (first | (refine CanT.skip rfl ?_ (fun K hK => ?_); (focus (go_simp; done)); go_simp; refine hK _ ?_; clear hK K) | (refine CanT.pur rfl ?_ ?_; (focus (go_simp; done)); refine ⟨?_, ?_, ?_⟩; rotate_left; (focus (intro w'; go_simp; rfl)); (focus (intro K hK; go_simp; refine hK _ ?_; clear hK K))) | (refine CanF.row rfl ?_ _ _ rfl w.heap.size 0 (bvs k) rfl HF9c.out HRow.out Hgk.out _ Tryd.underlying26 rfl (by rw [bvs_length, Hk.out]; kernel_rfl) (fun K hK => ?_); (focus (go_simp; done)); go_simp; refine hK _ ?_; clear hK K) | (refine CanF.str rfl ?_ 22 9 5 _ rfl Tryd.underlying22 Tryd.underlying5 Tryd.underlying9 A2 _ c2 (X) rfl (rfl) HF9c.out HX.out (fun K hK => ?_); (focus (go_simp; done)); go_simp; refine hK _ ?_; clear hK K) | (refine CanF.str rfl ?_ 22 9 5 _ rfl Tryd.underlying22 Tryd.underlying5 Tryd.underlying9 A3 _ c3 (X) rfl (rfl) HF9c.out HY.out (fun K hK => ?_); (focus (go_simp; done)); go_simp; refine hK _ ?_; clear hK K) | (refine CanF.str rfl ?_ 22 9 5 _ rfl Tryd.underlying22 Tryd.underlying5 Tryd.underlying9 A1 _ c1 (b) rfl (rfl) HF9c.out HIn.out (fun K hK => ?_); (focus (go_simp; done)); go_simp; refine hK _ ?_; clear hK K) | (refine CanF.str rfl ?_ 22 9 5 _ rfl Tryd.underlying22 Tryd.underlying5 Tryd.underlying9 B _ d (b) rfl (rfl) HF9c.out HRb.out (fun K hK => ?_); (focus (go_simp; done)); go_simp; refine hK _ ?_; clear hK K))
      refine CanT.impF rfl (fun J hJ => ?_)
      go_simp
      refine (Hw.out _ (Ht.out.below HC9c.out)).mono ?_
      rintro e w9d ⟨rfl, hb9d⟩
      go_simp
      refine hJ.out (fun w' => w9d.grownBy w' none) _ _ (fun w' h => only_trans (only_of_below hb9d (some w6.heap.size)) ⟨h.os, h.tape, h.output, h.size, fun i hi _ => h.block i hi (by simp)⟩) (World.grownBy.refl _ _) ?_
      clear hJ J
      have HBB := Lib.hid (HC9c.out.trans (hb9d.mono HC9c.out.size))
      repeat (first | (refine CanT.skip rfl ?_ (fun K hK => ?_); (focus (go_simp; done)); go_simp; refine hK _ ?_; clear hK K) | (refine CanT.pur rfl ?_ ?_; (focus (go_simp; done)); refine ⟨?_, ?_, ?_⟩; rotate_left; (focus (intro w'; go_simp; rfl)); (focus (intro K hK; go_simp; refine hK _ ?_; clear hK K))))
      refine CanT.done ?_
      go_wp2
      go_ret
      exact ⟨rfl, HB0.out.trans (HBB.out.mono HB0.out.size)⟩
  · have hcur6 := HC5.out
    have hba6 := (Below.refl w5.heap.size w5).alloc (Nat.le_refl _) (.cells #[] 5)
    have HE := Lib.hid (OwnB.lit0 w5 5 w5.heap.size w5.heap.size rfl (Nat.le_refl _))
    have hg3 : Hid (W0.heap.size ≤ w5.heap.size) := Lib.hid hcur6.size
    refine CanT.impF rfl (fun J hJ => ?_)
    go_simp
    have hch6 := fun w' (h : (w5.alloc (.cells #[] 5)).grownBy w' (some w5.heap.size)) => CanF.grown_new rfl h
    have HF6 : Hid (∀ w', (w5.alloc (.cells #[] 5)).grownBy w' (some w5.heap.size) → Below W0.heap.size W0 w') := Lib.hid (fun w' h => HF5.out w' (hch6 w' h))
    go_simp
    refine hJ.out (fun w' => (w5.alloc (.cells #[] 5)).grownBy w' (some w5.heap.size)) _ _ hch6 (World.grownBy.refl _ _) ?_
    clear hJ J
    have HC6 := Lib.hid (HF6.out _ (World.grownBy.refl _ _))
    have Hlt3 := Lib.hid (show w5.heap.size < (w5.alloc (.cells #[] 5)).heap.size by simp)
    generalize w5.alloc (.cells #[] 5) = w6 at *
    clear hcur6 hba6 hch6
    have hcur7 := HC6.out
    have hbb7 : ReadBB (w6.alloc (.cells #[.slice A hd.length c, .slice A1 b.length c1] 22)) (w6.heap.size + 1) (some ⟨w6.heap.size, 0, none⟩) [hd, b] :=
      ReadBB.lit2 w6 22 A A1 _ c _ c1 hd b w6.heap.size w6.heap.size rfl (Nat.le_refl _) rfl rfl ((HR.out.below hcur7).more hcur7.size) ((HIn.out.below hcur7).more hcur7.size) hkc P1.out hkm p2
    have Hbb := Lib.hid (hbb7.more (show w6.heap.size + 1 ≤ (w6.alloc (.cells #[.slice A hd.length c, .slice A1 b.length c1] 22)).heap.size by simp))
    have hba7 := (Below.refl w6.heap.size w6).alloc (Nat.le_refl _) (.cells #[.slice A hd.length c, .slice A1 b.length c1] 22)
    clear hbb7
    have HE := Lib.hid (HE.out.keptB hba7)
    refine CanT.impF rfl (fun J hJ => ?_)
    go_simp
    have hch7 := fun w' (h : (w6.alloc (.cells #[.slice A hd.length c, .slice A1 b.length c1] 22)).grownBy w' (some w5.heap.size)) => only_trans (only_of_below hba7 (some w5.heap.size)) h
    have HF7 : Hid (∀ w', (w6.alloc (.cells #[.slice A hd.length c, .slice A1 b.length c1] 22)).grownBy w' (some w5.heap.size) → Below W0.heap.size W0 w') := Lib.hid (fun w' h => HF6.out w' (hch7 w' h))
    go_simp
    refine hJ.out (fun w' => (w6.alloc (.cells #[.slice A hd.length c, .slice A1 b.length c1] 22)).grownBy w' (some w5.heap.size)) _ _ hch7 (World.grownBy.refl _ _) ?_
    clear hJ J
    have HC7 := Lib.hid (HF7.out _ (World.grownBy.refl _ _))
    have Hlt3 := Lib.hid (Nat.lt_of_lt_of_le Hlt3.out hba7.size)
    generalize w6.alloc (.cells #[.slice A hd.length c, .slice A1 b.length c1] 22) = w7 at *
    clear hcur7 hba7 hch7
    refine CanT.impF rfl (fun J hJ => ?_)
    go_simp
    refine (tag_calls k Hk.out [hd, b] _ 2 2 _ rfl (by simpa using Hbb.out) (Ht.out.below HC7.out) (by simp) (by omega) (by intro p hp; simp at hp; rcases hp with rfl | rfl <;> omega) Hfl.out).mono ?_
    rw [Hnf.out, ← HM.out]
    rintro e w8 ⟨v8, rfl, ho8, hb8⟩
    obtain ⟨A8, c8, rfl, q1, q2, q3, q4⟩ := ho8.opens
    have Q8 := Lib.hid q3
    have HO8 := Lib.hid ho8
    clear q3 q4
    have HE := Lib.hid (HE.out.keptB hb8)
    have Hlt4 := Hlt3
    have Hlt3 := Lib.hid (Nat.lt_of_lt_of_le Hlt3.out hb8.size)
    have hch8 := fun w' (h : w8.grownBy w' (some w5.heap.size)) => only_trans (only_of_below hb8 (some w5.heap.size)) h
    have HF8 : Hid (∀ w', w8.grownBy w' (some w5.heap.size) → Below W0.heap.size W0 w') := Lib.hid (fun w' h => HF7.out w' (hch8 w' h))
    go_simp
    refine hJ.out (fun w' => w8.grownBy w' (some w5.heap.size)) _ _ hch8 (World.grownBy.refl _ _) ?_
    clear hJ J
    have HC8 := Lib.hid (HF8.out _ (World.grownBy.refl _ _))
    refine CanF.strF rfl ?_ 22 9 5 _ rfl Tryd.underlying22 Tryd.underlying5 Tryd.underlying9 A8 _ c8 (M) rfl (rfl) (fun w' h => CanF.grown_read HO8.out h Hlt4.out) (fun K hK => ?_); (focus (go_simp; done)); go_simp; refine hK _ ?_; clear hK K
    clear HO8 Q8 ho8
    have hcur9 := HC8.out
    have hsz9 := Nat.le_of_lt (World.ownsRow.lt HE.out _ rfl).2
    have Hh9 := Lib.hid ((HR.out.below hcur9).more hcur9.size)
    refine CanT.imp rfl (fun J hJ => ?_)
    refine CanF.step_appBg _ ?_ (.tmp 57) (.tmp 58) 22 rfl w5.heap.size 5 i0 Tryd.underlying22 Hi.out _ [] rfl HE.out w8.heap.size A _ c hd rfl rfl Hh9.out (by simp; omega) hsz9 ?_
    focus (go_simp; done)
    intro v9a w9a ho9a hgr9a hor9a hb9a
    rw [List.nil_append] at ho9a
    have HG9a := Lib.hid (show w8.grownBy w9a (some w5.heap.size) from hgr9a)
    have HCa := Lib.hid (HF8.out _ HG9a.out)
    have Hb9a := Lib.hid ((HRb.out.below HCa.out).more HCa.out.size)
    have Ho9a := Lib.hid ho9a
    have Hsz9a := Lib.hid hb9a.size
    have Hgz := Lib.hid (Nat.le_trans (Nat.le_of_lt Hlt3.out) Hsz9a.out)
    go_simp
    refine hJ.out _ _ HG9a.out ?_
    clear hJ J ho9a hgr9a hb9a
    refine CanT.imp rfl (fun J hJ => ?_)
    refine CanF.step_appBg _ ?_ (.tmp 59) (.tmp 60) 22 rfl w5.heap.size 5 i0 Tryd.underlying22 Hi.out v9a hd rfl Ho9a.out w9a.heap.size B _ d b rfl rfl Hb9a.out (by omega) Hgz.out ?_
    focus (go_simp; done)
    intro v9b w9b ho9b hgr9b _ hb9b
    have HG9b := Lib.hid (show w8.grownBy w9b (some w5.heap.size) from own_chain HG9a.out hgr9b (hor9a.elim (fun e => .inl e) (fun e => .inr ⟨_, e, Nat.le_refl _⟩)))
    have Ho9b := Lib.hid ho9b
    have HCb := Lib.hid (HF8.out _ HG9b.out)
    have Hsz9b := Lib.hid hb9b.size
    have Hgz := Lib.hid (Nat.le_trans Hgz.out Hsz9b.out)
    go_simp
    refine hJ.out _ _ HG9b.out ?_
    clear hJ J ho9b hgr9b hb9b hor9a Ho9a HCa Hb9a
    refine CanT.impF rfl (fun J hJ => ?_)
    go_simp
    refine (rtag_calls k (hd ++ b) Hk.out v9b w5.heap.size _ Ho9b.out Hgz.out (by rw [List.length_append]; omega)).mono ?_
    rw [← HM.out]
    rintro e w9c ⟨v9c, rfl, ho9c, hb9c⟩
    obtain ⟨A9c, c9c, rfl, q1, q2, q3, q4⟩ := ho9c.opens
    have HO9c := Lib.hid ho9c
    clear q3 q4
    have hch9c := fun w' (h : w9c.grownBy w' (some w5.heap.size)) => only_trans HG9b.out (only_trans (only_of_below hb9c (some w5.heap.size)) h)
    have HF9c : Hid (∀ w', w9c.grownBy w' (some w5.heap.size) → Below W0.heap.size W0 w') := Lib.hid (fun w' h => HF8.out w' (hch9c w' h))
    go_simp
    refine hJ.out (fun w' => w9c.grownBy w' (some w5.heap.size)) _ _ hch9c (World.grownBy.refl _ _) ?_
    clear hJ J
    have HC9c := Lib.hid (HF9c.out _ (World.grownBy.refl _ _))
    refine CanF.strF rfl ?_ 22 9 5 _ rfl Tryd.underlying22 Tryd.underlying5 Tryd.underlying9 A9c _ c9c (M) rfl (rfl) (fun w' h => CanF.grown_read HO9c.out h (Nat.lt_of_lt_of_le Hlt3.out (Nat.le_trans Hsz9a.out Hsz9b.out))) (fun K hK => ?_); (focus (go_simp; done)); go_simp; refine hK _ ?_; clear hK K
    repeat (first | (refine CanT.skip rfl ?_ (fun K hK => ?_); (focus (go_simp; done)); go_simp; refine hK _ ?_; clear hK K) | (refine CanT.pur rfl ?_ ?_; (focus (go_simp; done)); refine ⟨?_, ?_, ?_⟩; rotate_left; (focus (intro w'; go_simp; rfl)); (focus (intro K hK; go_simp; refine hK _ ?_; clear hK K))) | (refine CanF.row rfl ?_ _ _ rfl w.heap.size 0 (bvs k) rfl HF9c.out HRow.out Hgk.out _ Tryd.underlying26 rfl (by rw [bvs_length, Hk.out]; kernel_rfl) (fun K hK => ?_); (focus (go_simp; done)); go_simp; refine hK _ ?_; clear hK K) | (refine CanF.str rfl ?_ 22 9 5 _ rfl Tryd.underlying22 Tryd.underlying5 Tryd.underlying9 A2 _ c2 (X) rfl (rfl) HF9c.out HX.out (fun K hK => ?_); (focus (go_simp; done)); go_simp; refine hK _ ?_; clear hK K) | (refine CanF.str rfl ?_ 22 9 5 _ rfl Tryd.underlying22 Tryd.underlying5 Tryd.underlying9 A3 _ c3 (X) rfl (rfl) HF9c.out HY.out (fun K hK => ?_); (focus (go_simp; done)); go_simp; refine hK _ ?_; clear hK K) | (refine CanF.str rfl ?_ 22 9 5 _ rfl Tryd.underlying22 Tryd.underlying5 Tryd.underlying9 A1 _ c1 (b) rfl (rfl) HF9c.out HIn.out (fun K hK => ?_); (focus (go_simp; done)); go_simp; refine hK _ ?_; clear hK K) | (refine CanF.str rfl ?_ 22 9 5 _ rfl Tryd.underlying22 Tryd.underlying5 Tryd.underlying9 B _ d (b) rfl (rfl) HF9c.out HRb.out (fun K hK => ?_); (focus (go_simp; done)); go_simp; refine hK _ ?_; clear hK K))
    refine CanT.impF rfl (fun J hJ => ?_)
    go_simp
    refine (Hw.out _ (Ht.out.below HC9c.out)).mono ?_
    rintro e w9d ⟨rfl, hb9d⟩
    go_simp
    refine hJ.out (fun w' => w9d.grownBy w' none) _ _ (fun w' h => only_trans (only_of_below hb9d (some w5.heap.size)) ⟨h.os, h.tape, h.output, h.size, fun i hi _ => h.block i hi (by simp)⟩) (World.grownBy.refl _ _) ?_
    clear hJ J
    have HBB := Lib.hid (HC9c.out.trans (hb9d.mono HC9c.out.size))
    repeat (first | (refine CanT.skip rfl ?_ (fun K hK => ?_); (focus (go_simp; done)); go_simp; refine hK _ ?_; clear hK K) | (refine CanT.pur rfl ?_ ?_; (focus (go_simp; done)); refine ⟨?_, ?_, ?_⟩; rotate_left; (focus (intro w'; go_simp; rfl)); (focus (intro K hK; go_simp; refine hK _ ?_; clear hK K))))
    refine CanT.done ?_
    go_wp2
    go_ret
    exact ⟨rfl, HB0.out.trans (HBB.out.mono HB0.out.size)⟩
end Mc
end Go.Proofs.YtlkcibhdnicpkaaDoor
