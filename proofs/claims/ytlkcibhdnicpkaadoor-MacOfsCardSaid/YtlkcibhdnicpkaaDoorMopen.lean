/- A tag is taken off, by the program: the walk of Open. -/
import Derived.Test.YtlkcibhdnicpkaaDoorMrseal
namespace Go.Proofs.YtlkcibhdnicpkaaDoor
namespace Mc
open Go.RowKit Ba Sm
set_option linter.unusedVariables false
/-- what is opened -/
def opn (k hd s : List UInt8) : List UInt8 × Nat :=
  if s.length < 16 then ([], 3) else if mtag k hd (s.take (s.length - 16)) == s.drop (s.length - 16) then (s.take (s.length - 16), 0) else ([], 15)
set_option maxRecDepth 100000 in
set_option maxHeartbeats 4000000 in
theorem open_calls {k hd s : List UInt8} (hk : k.length = 32) {Ah Ab : Option Addr} {nh ch nb cb : Nat} {w : World} (hnh : nh = hd.length) (hnb : nb = s.length) (hrh : ReadB w w.heap.size Ah hd) (hrb : ReadB w w.heap.size Ab s) (htab : Tab w)
    (hch : hd.length ≤ ch) (hcb : s.length ≤ cb) (hcm : cb ≤ 9223372036854775807) (hmh : hd.length ≤ 140737488351168) (hmb : s.length ≤ 140737488351168) :
    Calls Tryd.prog 30 #[.agg (bvs k).toArray, .slice Ah nh ch, .slice Ab nb cb] w fun e w' => ∃ v, e = .returned (.tuple #[v, .int .i64 (((opn k hd s).2 : Nat) : Int)]) ∧ OwnB w' w.heap.size 5 v (opn k hd s).1 ∧ Below w.heap.size w w' := by
  subst hnb
  have Hk := Lib.hid hk
  have Hnh := Lib.hid hnh
  have hA := (Below.refl w.heap.size w).alloc (Nat.le_refl _) (.cells (bvs k).toArray 26)
  clear hk hnh
  by_cases hl : s.length < 16
  · have ho : opn k hd s = ([], 3) := by rw [opn, if_pos hl]
    rw [ho]
    clear ho
    have HA := Lib.hid hA
    clear hrh hrb htab hA
    go_enter Tryd.func30, Tryd.ntmps30
    go_wp2_with fail
    go_ret2
    exact ⟨_, rfl, OwnB.nil, HA.out⟩
  · have hR0 : (w.alloc (.cells (bvs k).toArray 26)).rangeAt w.heap.size 0 (bvs k) := Blk.range [] (bvs k) [] (by rw [List.append_nil, List.nil_append]; exact heap_alloc_new w (.cells (bvs k).toArray 26))
    have HRow : Hid ((w.alloc (.cells (bvs k).toArray 26)).drew.rangeAt w.heap.size 0 (bvs k)) := Lib.hid hR0
    have HgB : Hid (w.heap.size < (w.alloc (.cells (bvs k).toArray 26)).drew.heap.size) := Lib.hid (by show _ < (w.alloc _).heap.size; simp)
    have HB := Lib.hid hA.drew
    have HRh := Lib.hid ((hrh.below hA.drew).more hA.drew.size)
    have HRb := Lib.hid ((hrb.below hA.drew).more hA.drew.size)
    have Htab := Lib.hid (htab.below hA.drew)
    obtain ⟨n, hn⟩ : ∃ n, n = s.length - 16 := ⟨_, rfl⟩
    have ho : opn k hd s = if mtag k hd (s.take n) == s.drop n then (s.take n, 0) else ([], 15) := by rw [opn, if_neg hl, hn]
    obtain ⟨b, hb⟩ : ∃ b, b = s.take n := ⟨_, rfl⟩
    obtain ⟨t, ht⟩ : ∃ t, t = s.drop n := ⟨_, rfl⟩
    rw [← hb, ← ht] at ho
    rw [ho]
    have Hbe := Lib.hid hb
    have Hte := Lib.hid ht
    generalize hq : (mtag k hd b == t) = q
    have Hq := Lib.hid hq
    clear hb ht hq
    have b1 : 0 ≤ (s.length : Int) - 16 := by omega
    have b2 : 16 ≤ s.length := by omega
    have b3 : (s.length : Int) - 16 = (n : Int) := by omega
    have b4 : IntKind.i64.wrap ((s.length : Int) - 16) = (n : Int) := by rw [IntWalk.i64_in _ (by omega)]; exact b3
    have b5 : n ≤ s.length := by omega
    have Hn : Hid (s.length - n = 16) := Lib.hid (by omega)
    have b6 : (n : Int) ≤ (cb : Int) := by omega
    have b7 : (n : Int) ≤ (s.length : Int) := by omega
    have b8 : ¬ (cb = n) := by omega
    clear hrh hrb htab hA hR0 hn ho hl
    go_enter Tryd.func30, Tryd.ntmps30
    go_wp2_with fail
    refine CanB.region 1000 (.op 0 1 (.op 1 2 (.op 2 1 (.op 4 2 (.op 7 2 (.op 8 2 (.op 9 2 (.op 3 0 (.op 5 0 (.op 6 0 (.op 10 0 (.op 11 2 (.nil))))))))))))) (by kernel_rfl) (by kernel_rfl) ?_
    generalize (w.alloc (.cells (bvs k).toArray 26)).drew = W at *
    repeat (first | (refine CanT.skip rfl ?_ (fun K hK => ?_); (focus (go_simp; done)); go_simp; refine hK _ ?_; clear hK K) | (refine CanT.pur rfl ?_ ?_; (focus (go_simp; done)); refine ⟨?_, ?_, ?_⟩; rotate_left; (focus (intro w'; go_simp; rfl)); (focus (intro K hK; go_simp; refine hK _ ?_; clear hK K))) | (refine CanB.row rfl ?_ _ _ rfl w.heap.size 0 (bvs k) rfl HRow.out HgB.out _ Tryd.underlying26 rfl (by rw [bvs_length, Hk.out]; kernel_rfl) (fun K hK => ?_); (focus (go_simp; done)); go_simp; refine hK _ ?_; clear hK K) | (refine CanB.str rfl ?_ 22 9 5 _ rfl Tryd.underlying22 Tryd.underlying5 Tryd.underlying9 Ah _ ch (hd) rfl (Hnh.out) HRh.out (fun K hK => ?_); (focus (go_simp; done)); go_simp; refine hK _ ?_; clear hK K))
    have hcut : ReadB W W.heap.size (Ab.map (·.add n)) (s.drop n) := by
      have := HRb.out.cut (k := n) hcb
      rw [if_neg b8] at this
      exact this
    have Hcut := Lib.hid hcut
    have HRn := Lib.hid (HRb.out.take n)
    have hln : n = (s.take n).length := by rw [List.length_take]; omega
    have hld : s.length - n = (s.drop n).length := by rw [List.length_drop]
    rw [← Hbe.out] at HRn hln
    rw [← Hte.out] at Hcut hld
    have Hln := Lib.hid hln
    have Hld := Lib.hid hld
    have htm : t.length ≤ 16 := by rw [← hld, Hn.out]; omega
    have hbm : b.length ≤ s.length := by omega
    clear hcut hln hld Hbe Hte
    refine CanT.imp rfl (fun J hJ => ?_)
    go_simp
    refine (Fi.text_calls hd (by omega) _).mono ?_
    rintro e w2 ⟨v2, rfl, ho2, hb2⟩
    have Ho2 := Lib.hid ho2
    have HF2 := Lib.hid hb2
    clear ho2
    go_simp
    refine hJ.out _ _ hb2 ?_
    clear hJ J hb2
    obtain ⟨A2, c2, rfl, t1, t2, t3, t4⟩ := Ho2.out.opens
    have htl := text_len hd
    have hnf : [Fm.text hd, b].flatten = Fm.text hd ++ b := by simp
    have hflat : [Fm.text hd, b].flatten.length ≤ 576460752303423487 := by rw [hnf, List.length_append]; omega
    have hbb : ReadBB (w2.alloc (.cells #[.slice A2 (Fm.text hd).length c2, .slice Ab n cb] 22)) (w2.heap.size + 1) (some ⟨w2.heap.size, 0, none⟩) [Fm.text hd, b] :=
      ReadBB.lit2 w2 22 A2 Ab _ c2 _ cb (Fm.text hd) b w2.heap.size w2.heap.size rfl (Nat.le_refl _) rfl Hln.out t3 ((HRn.out.below HF2.out).more HF2.out.size) t1 (by have := Hln.out; omega) t2 hcm
    have Hbb := Lib.hid hbb
    have Hnf := Lib.hid hnf
    have HF3 := Lib.hid (HF2.out.alloc HF2.out.size (.cells #[.slice A2 (Fm.text hd).length c2, .slice Ab n cb] 22))
    clear hbb hnf t3 t4
    refine CanT.imp rfl (fun J hJ => ?_)
    go_simp
    refine hJ.out _ _ HF3.out ?_
    clear hJ J
    refine CanT.imp rfl (fun J hJ => ?_)
    go_simp
    refine (tag_calls k Hk.out [Fm.text hd, b] _ 2 2 _ rfl (by simpa using Hbb.out) (Htab.out.below HF3.out) (by simp) (by omega) (by intro p hp; simp at hp; rcases hp with rfl | rfl <;> omega) hflat).mono ?_
    rw [Hnf.out]
    rintro e w4 ⟨v4, rfl, ho4, hb4⟩
    have hF4 := bthen HF3.out hb4
    have Ho4 : Hid (OwnB w4 _ 5 v4 (mtag k hd b)) := Lib.hid ho4
    have HF4 := Lib.hid hF4
    clear ho4 hb4
    go_simp
    refine hJ.out _ _ hF4 ?_
    clear hJ J hF4 HF3 Hbb
    have hml := mtag_len k hd b
    obtain ⟨M, hM⟩ : ∃ M, M = mtag k hd b := ⟨_, rfl⟩
    rw [← hM] at Ho4 Hq hml
    clear hM
    obtain ⟨A4, c4, rfl, u1, u2, u3, u4⟩ := Ho4.out.opens
    have U3 := Lib.hid u3
    have Hml := Lib.hid hml
    clear u3 u4 hflat hml
    refine CanT.imp rfl (fun J hJ => ?_)
    go_simp
    refine (equal_calls rfl Hld.out U3.out ((Hcut.out.below HF4.out).more HF4.out.size) (by rw [Hml.out]; omega) (by omega)).mono ?_
    rw [Hq.out]
    rintro e w5 ⟨rfl, hb5⟩
    have hF5 := bthen HF4.out hb5
    have HF5 := Lib.hid hF5
    clear hb5
    go_simp
    refine hJ.out _ _ hF5 ?_
    clear hJ J hF5
    repeat (first | (refine CanT.skip rfl ?_ (fun K hK => ?_); (focus (go_simp; done)); go_simp; refine hK _ ?_; clear hK K) | (refine CanT.pur rfl ?_ ?_; (focus (go_simp; done)); refine ⟨?_, ?_, ?_⟩; rotate_left; (focus (intro w'; go_simp; rfl)); (focus (intro K hK; go_simp; refine hK _ ?_; clear hK K))))
    refine CanT.done ?_
    have HR5 := Lib.hid ((HRn.out.below HF5.out).more HF5.out.size)
    have HB5 := Lib.hid (HB.out.trans (HF5.out.mono (Nat.le_of_lt HgB.out)))
    clear Hq Hcut HF5 HF4 HF2 HRb HRh Ho2 Ho4 U3
    cases q
    · go_wp2_with fail
      go_ret2
      exact ⟨_, rfl, OwnB.nil, HB5.out⟩
    · go_wp2_with fail
      refine (cloneN Hln.out (by have := Hln.out; omega) (by omega) HR5.out).mono ?_
      rintro e w6 ⟨v6, rfl, ho6, hb6⟩
      have Ho6 := Lib.hid ho6
      have HB6 := Lib.hid (HB5.out.trans (hb6.mono HB5.out.size))
      have HL5 := Lib.hid HB5.out.size
      clear ho6 hb6
      go_wp2_with fail
      go_ret2
      exact ⟨v6, rfl, Ho6.out.weak HL5.out, HB6.out⟩
end Mc
end Go.Proofs.YtlkcibhdnicpkaaDoor
