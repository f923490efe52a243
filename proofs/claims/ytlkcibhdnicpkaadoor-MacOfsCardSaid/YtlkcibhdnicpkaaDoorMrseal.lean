/- Bytes with a tag, by the document's answer: the walk of its Seal. -/
import Derived.Test.YtlkcibhdnicpkaaDoorMseal
namespace Go.Proofs.YtlkcibhdnicpkaaDoor
namespace Mc
open Go.RowKit Ba Sm
set_option linter.unusedVariables false
set_option maxRecDepth 100000 in
set_option maxHeartbeats 4000000 in
theorem rseal_calls {k hd b : List UInt8} (hk : k.length = 32) {Ah Ab : Option Addr} {nh ch nb cb : Nat} {w : World} (hnh : nh = hd.length) (hnb : nb = b.length) (hrh : ReadB w w.heap.size Ah hd) (hrb : ReadB w w.heap.size Ab b)
    (hmh : hd.length ≤ 70368744170000) (hmb : b.length ≤ 70368744170000) :
    Calls Tryd.prog 33 #[.agg (bvs k).toArray, .slice Ah nh ch, .slice Ab nb cb] w fun e w' => ∃ v, e = .returned v ∧ OwnB w' w.heap.size 5 v (b ++ mtag k hd b) ∧ Below w.heap.size w w' := by
  obtain ⟨i0, hi0⟩ := isByte_of info5
  have Hi := Lib.hid hi0
  have Hk := Lib.hid hk
  have Hnh := Lib.hid hnh
  have Hnb := Lib.hid hnb
  have hA := (Below.refl w.heap.size w).alloc (Nat.le_refl _) (.cells (bvs k).toArray 26)
  have hR0 : (w.alloc (.cells (bvs k).toArray 26)).rangeAt w.heap.size 0 (bvs k) := Blk.range [] (bvs k) [] (by rw [List.append_nil, List.nil_append]; exact heap_alloc_new w (.cells (bvs k).toArray 26))
  have HRow : Hid ((w.alloc (.cells (bvs k).toArray 26)).drew.rangeAt w.heap.size 0 (bvs k)) := Lib.hid hR0
  have HgB : Hid (w.heap.size < (w.alloc (.cells (bvs k).toArray 26)).drew.heap.size) := Lib.hid (by show _ < (w.alloc _).heap.size; simp)
  have HB := Lib.hid hA.drew
  have HRh := Lib.hid ((hrh.below hA.drew).more hA.drew.size)
  have HRb := Lib.hid ((hrb.below hA.drew).more hA.drew.size)
  clear hi0 hk hrh hrb hA hR0 hnh hnb
  go_enter Tryd.func33, Tryd.ntmps33
  go_wp2_with fail
  refine CanB.region 1000 (.op 0 1 (.op 1 2 (.op 2 1 (.op 4 2 (.op 3 0 (.op 5 0 (.op 6 0 (.op 7 2 (.nil))))))))) (by kernel_rfl) (by kernel_rfl) ?_
  generalize (w.alloc (.cells (bvs k).toArray 26)).drew = W at *
  repeat (first | (refine CanT.skip rfl ?_ (fun K hK => ?_); (focus (go_simp; done)); go_simp; refine hK _ ?_; clear hK K) | (refine CanT.pur rfl ?_ ?_; (focus (go_simp; done)); refine ⟨?_, ?_, ?_⟩; rotate_left; (focus (intro w'; go_simp; rfl)); (focus (intro K hK; go_simp; refine hK _ ?_; clear hK K))) | (refine CanB.row rfl ?_ _ _ rfl w.heap.size 0 (bvs k) rfl HRow.out HgB.out _ Tryd.underlying26 rfl (by rw [bvs_length, Hk.out]; kernel_rfl) (fun K hK => ?_); (focus (go_simp; done)); go_simp; refine hK _ ?_; clear hK K) | (refine CanB.str rfl ?_ 22 9 5 _ rfl Tryd.underlying22 Tryd.underlying5 Tryd.underlying9 Ah _ ch (hd) rfl (Hnh.out) HRh.out (fun K hK => ?_); (focus (go_simp; done)); go_simp; refine hK _ ?_; clear hK K))
  refine CanT.imp rfl (fun J hJ => ?_)
  go_simp
  refine (Fr.text_calls hd (by omega) _).mono ?_
  rintro e w2 ⟨v2, rfl, ho2, hb2⟩
  have Ho2 := Lib.hid ho2
  have HF2 := Lib.hid hb2
  clear ho2
  go_simp
  refine hJ.out _ _ hb2 ?_
  clear hJ J hb2
  have htl := text_len hd
  have HL2 := Lib.hid HF2.out.size
  have HRb2 := Lib.hid (HRb.out.below HF2.out)
  refine CanT.imp rfl (fun J hJ => ?_)
  refine cstep_appB _ rfl (.tmp 11) (.tmp 12) 22 rfl W.heap.size 5 i0 Tryd.underlying22 Hi.out v2 (Fm.text hd) rfl Ho2.out W.heap.size Ab _ cb b rfl Hnb.out HRb2.out (by omega) HL2.out ?_
  intro v3 w3 ho3 _ _ hb3
  have Ho3 := Lib.hid ho3
  have hF3 := HF2.out.trans hb3
  have HF3 := Lib.hid hF3
  clear ho3 hb3
  go_simp
  refine hJ.out _ _ hF3 ?_
  clear hJ J hF3
  refine CanT.imp rfl (fun J hJ => ?_)
  go_simp
  refine (rtag_calls k (Fm.text hd ++ b) Hk.out v3 W.heap.size _ Ho3.out HF3.out.size (by rw [List.length_append]; omega)).mono ?_
  rintro e w4 ⟨v4, rfl, ho4, hb4⟩
  have hF4 := bthen HF3.out hb4
  have Ho4 := Lib.hid ho4
  have HF4 := Lib.hid hF4
  have HL3 := Lib.hid HF3.out.size
  clear ho4 hb4
  go_simp
  refine hJ.out _ _ hF4 ?_
  clear hJ J hF4
  repeat (first | (refine CanT.skip rfl ?_ (fun K hK => ?_); (focus (go_simp; done)); go_simp; refine hK _ ?_; clear hK K) | (refine CanT.pur rfl ?_ ?_; (focus (go_simp; done)); refine ⟨?_, ?_, ?_⟩; rotate_left; (focus (intro w'; go_simp; rfl)); (focus (intro K hK; go_simp; refine hK _ ?_; clear hK K))))
  refine CanT.done ?_
  have hml : ((hmac k (Fm.text hd ++ b)).take 16).length = 16 := mtag_len k hd b
  obtain ⟨M, hM⟩ : ∃ M, M = (hmac k (Fm.text hd ++ b)).take 16 := ⟨_, rfl⟩
  rw [← hM] at hml Ho4
  have HM := Lib.hid hM
  have Hml := Lib.hid hml
  obtain ⟨A4, c4, rfl, u1, u2, u3, u4⟩ := Ho4.out.opens
  have U3 := Lib.hid u3
  have HRb4 := Lib.hid (HRb.out.below HF4.out |>.more HF4.out.size)
  clear hM u3 u4 hml
  go_wp2_with (first
    | (at_builtin; (refine wpList_appB _ rfl (.tmp 15) (.tmp 16) 22 rfl w4.heap.size 5 i0 Tryd.underlying22 Hi.out _ [] rfl (OwnB.lit0 w4 5 w4.heap.size w4.heap.size rfl (Nat.le_refl _)) w4.heap.size Ab _ cb b rfl Hnb.out (HRb4.out.alloc (Nat.le_refl _) _) (by simp; omega) (by simp) ?_); intro v5 w5 ho5 _ _ hb5; rw [List.nil_append] at ho5; have Ho5 := Lib.hid ho5; have HB5 := Lib.hid (((Below.refl _ _).alloc (Nat.le_refl _) _).trans hb5); have HU5 := Lib.hid (U3.out.below HB5.out); clear ho5 hb5)
    | (at_builtin; (refine wpList_appB _ rfl (.tmp 17) (.tmp 18) 22 rfl w4.heap.size 5 i0 Tryd.underlying22 Hi.out v5 b rfl Ho5.out w4.heap.size A4 _ c4 M rfl rfl HU5.out (by rw [Hml.out]; omega) HB5.out.size ?_); intro v6 w6 ho6 _ _ hb6))

  go_ret
  exact ⟨v6, rfl, by rw [mtag, ← HM.out]; exact ho6.weak (Nat.le_trans (Nat.le_of_lt HgB.out) HF4.out.size), HB.out.trans ((HF4.out.trans ((HB5.out.trans hb6).mono HF4.out.size)).mono (Nat.le_of_lt HgB.out))⟩
end Mc
end Go.Proofs.YtlkcibhdnicpkaaDoor
