/- Bytes with a tag, by the program and by the document's answer: the walks of Seal. -/
import Derived.Test.YtlkcibhdnicpkaaDoorMeq
import Derived.Test.YtlkcibhdnicpkaaDoorCanB
import Derived.Test.YtlkcibhdnicpkaaDoorField
import Derived.Test.YtlkcibhdnicpkaaDoorFref
namespace Go.Proofs.YtlkcibhdnicpkaaDoor
namespace Mc
open Go.RowKit Ba Sm
set_option linter.unusedVariables false
def mtag (k hd b : List UInt8) : List UInt8 := (hmac k (Fm.text hd ++ b)).take 16
theorem mtag_len (k hd b : List UInt8) : (mtag k hd b).length = 16 := by rw [mtag, List.length_take, hmac_len]; rfl
theorem text_len (r : List UInt8) : (Fm.text r).length ≤ r.length + 8 := by
  unfold Fm.text
  rw [List.length_append]
  have := Fm.num_len (r.length : Int)
  omega
theorem tab_drew {w : World} (h : Tab w) : Tab w.drew := ⟨h.1, h.2⟩
set_option maxRecDepth 100000 in
set_option maxHeartbeats 4000000 in
theorem seal_calls {k hd b : List UInt8} (hk : k.length = 32) {Ah Ab : Option Addr} {nh ch nb cb : Nat} {w : World} (hnh : nh = hd.length) (hnb : nb = b.length) (hrh : ReadB w w.heap.size Ah hd) (hrb : ReadB w w.heap.size Ab b) (htab : Tab w)
    (hch : hd.length ≤ ch) (hcb : b.length ≤ cb) (hcm : cb ≤ 9223372036854775807) (hmh : hd.length ≤ 140737488351168) (hmb : b.length ≤ 140737488351168) :
    Calls Tryd.prog 32 #[.agg (bvs k).toArray, .slice Ah nh ch, .slice Ab nb cb] w fun e w' => ∃ v, e = .returned v ∧ OwnB w' w.heap.size 5 v (b ++ mtag k hd b) ∧ Below w.heap.size w w' := by
  obtain ⟨i0, hi0⟩ := isByte_of info5
  have Hi := Lib.hid hi0
  have Hk := Lib.hid hk
  have Hnh := Lib.hid hnh
  have Hnb := Lib.hid hnb
  have hA := (Below.refl w.heap.size w).alloc (Nat.le_refl _) (.cells (bvs k).toArray 26)
  have hR0 : (w.alloc (.cells (bvs k).toArray 26)).rangeAt w.heap.size 0 (bvs k) := Blk.range [] (bvs k) [] (by rw [List.append_nil, List.nil_append]; exact heap_alloc_new w (.cells (bvs k).toArray 26))
  have HRow : Hid ((w.alloc (.cells (bvs k).toArray 26)).drew.rangeAt w.heap.size 0 (bvs k)) := Lib.hid hR0
  have HgB : Hid (w.heap.size < (w.alloc (.cells (bvs k).toArray 26)).drew.heap.size) := Lib.hid (by show _ < (w.alloc _).heap.size; simp)
  have HB := Lib.hid hA.drew
  have HRh := Lib.hid ((hrh.below hA.drew).more hA.drew.size)
  have HRb := Lib.hid ((hrb.below hA.drew).more hA.drew.size)
  have Htab := Lib.hid (htab.below hA.drew)
  clear hi0 hk hrh hrb htab hA hR0 hnh hnb
  go_enter Tryd.func32, Tryd.ntmps32
  go_wp2_with fail
  refine CanB.region 1000 (.op 0 2 (.op 2 1 (.op 3 2 (.op 4 1 (.op 6 2 (.op 1 0 (.op 5 0 (.op 7 0 (.op 8 0 (.op 9 0 (.op 10 2 (.nil)))))))))))) (by kernel_rfl) (by kernel_rfl) ?_
  generalize (w.alloc (.cells (bvs k).toArray 26)).drew = W at *
  repeat (first | (refine CanT.skip rfl ?_ (fun K hK => ?_); (focus (go_simp; done)); go_simp; refine hK _ ?_; clear hK K) | (refine CanT.pur rfl ?_ ?_; (focus (go_simp; done)); refine ⟨?_, ?_, ?_⟩; rotate_left; (focus (intro w'; go_simp; rfl)); (focus (intro K hK; go_simp; refine hK _ ?_; clear hK K))) | (refine CanB.row rfl ?_ _ _ rfl w.heap.size 0 (bvs k) rfl HRow.out HgB.out _ Tryd.underlying26 rfl (by rw [bvs_length, Hk.out]; kernel_rfl) (fun K hK => ?_); (focus (go_simp; done)); go_simp; refine hK _ ?_; clear hK K) | (refine CanB.str rfl ?_ 22 9 5 _ rfl Tryd.underlying22 Tryd.underlying5 Tryd.underlying9 Ah _ ch (hd) rfl (Hnh.out) HRh.out (fun K hK => ?_); (focus (go_simp; done)); go_simp; refine hK _ ?_; clear hK K))
  refine CanT.imp rfl (fun J hJ => ?_)
  go_simp
  refine (cloneN Hnb.out hcb (by omega) HRb.out).mono ?_
  rintro e w1 ⟨v1, rfl, ho1, hb1⟩
  have Ho1 := Lib.hid ho1
  have HF1 := Lib.hid hb1
  clear ho1
  go_simp
  refine hJ.out _ _ hb1 ?_
  clear hJ J hb1
  refine CanT.imp rfl (fun J hJ => ?_)
  go_simp
  refine (Fi.text_calls hd (by omega) _).mono ?_
  rintro e w2 ⟨v2, rfl, ho2, hb2⟩
  have hF2 := bthen HF1.out hb2
  have Ho2 := Lib.hid ho2
  have HF2 := Lib.hid hF2
  have Ho12 := Lib.hid (Ho1.out.keptB hb2)
  clear ho2 hb2
  go_simp
  refine hJ.out _ _ hF2 ?_
  clear hJ J hF2 Ho1 HF1
  obtain ⟨A2, c2, rfl, t1, t2, t3, t4⟩ := Ho2.out.opens
  have htl := text_len hd
  have hnf : [Fm.text hd, b].flatten = Fm.text hd ++ b := by simp
  have hflat : [Fm.text hd, b].flatten.length ≤ 576460752303423487 := by rw [hnf, List.length_append]; omega
  have hbb : ReadBB (w2.alloc (.cells #[.slice A2 (Fm.text hd).length c2, .slice Ab nb cb] 22)) (w2.heap.size + 1) (some ⟨w2.heap.size, 0, none⟩) [Fm.text hd, b] :=
    ReadBB.lit2 w2 22 A2 Ab _ c2 _ cb (Fm.text hd) b w2.heap.size w2.heap.size rfl (Nat.le_refl _) rfl Hnb.out t3 ((HRb.out.below HF2.out).more HF2.out.size) t1 hcb t2 hcm
  have Hbb := Lib.hid hbb
  have Hnf := Lib.hid hnf
  have T3 := Lib.hid t3
  have T4 := Lib.hid t4
  have HF3 := Lib.hid (HF2.out.alloc HF2.out.size (.cells #[.slice A2 (Fm.text hd).length c2, .slice Ab nb cb] 22))
  have Ho3 := Lib.hid (Ho12.out.alloc (.cells #[.slice A2 (Fm.text hd).length c2, .slice Ab nb cb] 22))
  clear hbb hnf t3 t4 Ho12
  refine CanT.imp rfl (fun J hJ => ?_)
  go_simp
  refine hJ.out _ _ HF3.out ?_
  clear hJ J
  refine CanT.imp rfl (fun J hJ => ?_)
  go_simp
  refine (tag_calls k Hk.out [Fm.text hd, b] _ 2 2 _ rfl (by simpa using Hbb.out) (Htab.out.below HF3.out) (by simp) (by omega) (by intro p hp; simp at hp; rcases hp with rfl | rfl <;> omega) hflat).mono ?_
  rw [Hnf.out]
  rintro e w4 ⟨v4, rfl, ho4, hb4⟩
  have hF4 := bthen HF3.out hb4
  have Ho4 := Lib.hid ho4
  have HF4 := Lib.hid hF4
  have Ho14 := Lib.hid (Ho3.out.keptB hb4)
  clear ho4 hb4
  go_simp
  refine hJ.out _ _ hF4 ?_
  clear hJ J hF4 HF3 Ho3 Hbb
  have hml : ((hmac k (Fm.text hd ++ b)).take 16).length = 16 := mtag_len k hd b
  obtain ⟨M, hM⟩ : ∃ M, M = (hmac k (Fm.text hd ++ b)).take 16 := ⟨_, rfl⟩
  rw [← hM] at hml Ho4
  have HM := Lib.hid hM
  obtain ⟨A4, c4, rfl, u1, u2, u3, u4⟩ := Ho4.out.opens
  have U3 := Lib.hid u3
  have HL4 := Lib.hid HF4.out.size
  clear hM u3 u4 hflat
  refine CanT.imp rfl (fun J hJ => ?_)
  refine cstep_appB _ rfl (.tmp 8) (.tmp 15) 22 rfl W.heap.size 5 i0 Tryd.underlying22 Hi.out v1 b rfl Ho14.out w4.heap.size A4 _ c4 M rfl rfl U3.out (by omega) HL4.out ?_
  intro v5 w5 ho5 _ _ hb5
  have Ho5 := Lib.hid ho5
  have hF5 := HF4.out.trans hb5
  have HF5 := Lib.hid hF5
  clear ho5 hb5
  go_simp
  refine hJ.out _ _ hF5 ?_
  clear hJ J hF5
  repeat (first | (refine CanT.skip rfl ?_ (fun K hK => ?_); (focus (go_simp; done)); go_simp; refine hK _ ?_; clear hK K) | (refine CanT.pur rfl ?_ ?_; (focus (go_simp; done)); refine ⟨?_, ?_, ?_⟩; rotate_left; (focus (intro w'; go_simp; rfl)); (focus (intro K hK; go_simp; refine hK _ ?_; clear hK K))))
  refine CanT.done ?_
  go_wp2
  go_ret
  exact ⟨v5, rfl, by rw [mtag, ← HM.out]; exact Ho5.out.weak (Nat.le_of_lt HgB.out), HB.out.trans (HF5.out.mono (Nat.le_of_lt HgB.out))⟩
end Mc
end Go.Proofs.YtlkcibhdnicpkaaDoor
