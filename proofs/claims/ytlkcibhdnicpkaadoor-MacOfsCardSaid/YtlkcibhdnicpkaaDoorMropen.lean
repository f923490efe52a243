/- A tag is taken off, by the document's answer: the walk of its Open. -/
import Derived.Test.YtlkcibhdnicpkaaDoorMopen
namespace Go.Proofs.YtlkcibhdnicpkaaDoor
namespace Mc
open Go.RowKit Ba Sm
set_option linter.unusedVariables false
set_option maxRecDepth 100000 in
set_option maxHeartbeats 4000000 in
theorem ropen_calls {k hd s : List UInt8} (hk : k.length = 32) {Ah Ab : Option Addr} {nh ch nb cb : Nat} {w : World} (hnh : nh = hd.length) (hnb : nb = s.length) (hrh : ReadB w w.heap.size Ah hd) (hrb : ReadB w w.heap.size Ab s)
    (hch : hd.length ≤ ch) (hcb : s.length ≤ cb) (hcm : cb ≤ 9223372036854775807) (hmh : hd.length ≤ 70368744170000) (hmb : s.length ≤ 70368744170000) :
    Calls Tryd.prog 31 #[.agg (bvs k).toArray, .slice Ah nh ch, .slice Ab nb cb] w fun e w' => ∃ v, e = .returned (.tuple #[v, .int .i64 (((opn k hd s).2 : Nat) : Int)]) ∧ OwnB w' w.heap.size 5 v (opn k hd s).1 ∧ Below w.heap.size w w' := by
  subst hnb
  obtain ⟨i0, hi0⟩ := isByte_of info5
  have Hi := Lib.hid hi0
  clear hi0
  have Hk := Lib.hid hk
  have Hnh := Lib.hid hnh
  have hA := (Below.refl w.heap.size w).alloc (Nat.le_refl _) (.cells (bvs k).toArray 26)
  clear hk hnh
  by_cases hl : s.length < 16
  · have ho : opn k hd s = ([], 3) := by rw [opn, if_pos hl]
    rw [ho]
    clear ho
    have HA := Lib.hid hA
    clear hrh hrb hA
    go_enter Tryd.func31, Tryd.ntmps31
    go_wp2_with fail
    go_ret2
    exact ⟨_, rfl, OwnB.nil, HA.out⟩
  · have hR0 : (w.alloc (.cells (bvs k).toArray 26)).rangeAt w.heap.size 0 (bvs k) := Blk.range [] (bvs k) [] (by rw [List.append_nil, List.nil_append]; exact heap_alloc_new w (.cells (bvs k).toArray 26))
    have HRow : Hid ((w.alloc (.cells (bvs k).toArray 26)).drew.rangeAt w.heap.size 0 (bvs k)) := Lib.hid hR0
    have HgB : Hid (w.heap.size < (w.alloc (.cells (bvs k).toArray 26)).drew.heap.size) := Lib.hid (by show _ < (w.alloc _).heap.size; simp)
    have HB := Lib.hid hA.drew
    have HRh := Lib.hid ((hrh.below hA.drew).more hA.drew.size)
    have HRb := Lib.hid ((hrb.below hA.drew).more hA.drew.size)
    obtain ⟨n, hn⟩ : ∃ n, n = s.length - 16 := ⟨_, rfl⟩
    have ho : opn k hd s = if mtag k hd (s.take n) == s.drop n then (s.take n, 0) else ([], 15) := by rw [opn, if_neg hl, hn]
    obtain ⟨b, hb⟩ : ∃ b, b = s.take n := ⟨_, rfl⟩
    have hsd : (b ++ mtag k hd b == s) = (mtag k hd b == s.drop n) := by
      conv => lhs; rhs; rw [← List.take_append_drop n s, ← hb]
      rw [Bool.eq_iff_iff, beq_iff_eq, beq_iff_eq, List.append_right_inj]
    rw [← hb, ← hsd] at ho
    rw [ho]
    have Hbe := Lib.hid hb
    generalize hq : (b ++ mtag k hd b == s) = q
    have Hq := Lib.hid hq
    clear hb hq hsd
    have b1 : 0 ≤ (s.length : Int) - 16 := by omega
    have b2 : 16 ≤ s.length := by omega
    have b3 : (s.length : Int) - 16 = (n : Int) := by omega
    have b4 : IntKind.i64.wrap ((s.length : Int) - 16) = (n : Int) := by rw [IntWalk.i64_in _ (by omega)]; exact b3
    have b5 : n ≤ s.length := by omega
    have b6 : (n : Int) ≤ (cb : Int) := by omega
    have b7 : (n : Int) ≤ (s.length : Int) := by omega
    have b8 : ¬ (cb = n) := by omega
    clear hrh hrb hA hR0 hn ho hl
    go_enter Tryd.func31, Tryd.ntmps31
    go_wp2_with fail
    refine CanB.region 1000 (.op 0 1 (.op 1 2 (.op 2 2 (.op 3 2 (.op 4 2 (.op 7 2 (.op 8 1 (.op 5 0 (.op 6 1 (.op 9 2 (.nil))))))))))) (by kernel_rfl) (by kernel_rfl) ?_
    generalize (w.alloc (.cells (bvs k).toArray 26)).drew = W at *
    repeat (first | (refine CanT.skip rfl ?_ (fun K hK => ?_); (focus (go_simp; done)); go_simp; refine hK _ ?_; clear hK K) | (refine CanT.pur rfl ?_ ?_; (focus (go_simp; done)); refine ⟨?_, ?_, ?_⟩; rotate_left; (focus (intro w'; go_simp; rfl)); (focus (intro K hK; go_simp; refine hK _ ?_; clear hK K))) | (refine CanB.row rfl ?_ _ _ rfl w.heap.size 0 (bvs k) rfl HRow.out HgB.out _ Tryd.underlying26 rfl (by rw [bvs_length, Hk.out]; kernel_rfl) (fun K hK => ?_); (focus (go_simp; done)); go_simp; refine hK _ ?_; clear hK K) | (refine CanB.str rfl ?_ 22 9 5 _ rfl Tryd.underlying22 Tryd.underlying5 Tryd.underlying9 Ab _ cb (s) rfl (rfl) HRb.out (fun K hK => ?_); (focus (go_simp; done)); go_simp; refine hK _ ?_; clear hK K))
    have HRn := Lib.hid (HRb.out.take n)
    have hln : n = (s.take n).length := by rw [List.length_take]; omega
    rw [← Hbe.out] at HRn hln
    have Hln := Lib.hid hln
    have hbm : b.length ≤ s.length := by omega
    clear hln Hbe
    refine CanT.impF rfl (fun J hJ => ?_)
    go_simp
    refine (rseal_calls (b := b) Hk.out Hnh.out Hln.out HRh.out HRn.out hmh (by omega)).mono ?_
    rintro e w5 ⟨v5, rfl, ho5, hb5⟩
    obtain ⟨A5, c5, rfl, u1, u2, u3, u4⟩ := ho5.opens
    have U3 := Lib.hid u3
    have HF5 := Lib.hid hb5
    go_simp
    refine hJ.out (Below w5.heap.size w5) _ _ (fun w' h => bthen hb5 h) (Below.refl _ _) ?_
    clear hJ J hb5 u3 u4 ho5
    generalize mtag k hd b = M at *
    repeat (first | (refine CanT.skip rfl ?_ (fun K hK => ?_); (focus (go_simp; done)); go_simp; refine hK _ ?_; clear hK K) | (refine CanT.pur rfl ?_ ?_; (focus (go_simp; done)); refine ⟨?_, ?_, ?_⟩; rotate_left; (focus (intro w'; go_simp; rfl)); (focus (intro K hK; go_simp; refine hK _ ?_; clear hK K))) | (refine CanB.str rfl ?_ 22 9 5 _ rfl Tryd.underlying22 Tryd.underlying5 Tryd.underlying9 A5 _ c5 ((b ++ M)) rfl (by rw [List.length_append]) U3.out (fun K hK => ?_); (focus (go_simp; done)); go_simp; refine hK _ ?_; clear hK K))
    rw [Hq.out]
    refine CanT.done ?_
    have HR5 := Lib.hid ((HRn.out.below HF5.out).more HF5.out.size)
    have HB5 := Lib.hid (HB.out.trans (HF5.out.mono (Nat.le_of_lt HgB.out)))
    clear HF5 HRb HRh U3 Hq u1
    cases q
    · go_wp2_with fail
      go_ret2
      exact ⟨_, rfl, OwnB.nil, HB5.out⟩
    · go_wp2_with (at_builtin; refine wpList_appB _ rfl (.tmp 24) (.tmp 27) 22 rfl w5.heap.size 5 i0 Tryd.underlying22 Hi.out _ [] rfl (OwnB.lit0 w5 5 w5.heap.size w5.heap.size rfl (Nat.le_refl _)) w5.heap.size Ab _ cb b rfl Hln.out (HR5.out.alloc (Nat.le_refl _) _) (by simp; omega) (by simp) ?_; intro v6 w6 ho6 _ _ hb6; rw [List.nil_append] at ho6; have Ho6 := Lib.hid ho6; have HB6 := Lib.hid (((Below.refl _ _).alloc (Nat.le_refl _) _).trans hb6); clear ho6 hb6)
      go_ret2
      exact ⟨v6, rfl, Ho6.out.weak HB5.out.size, HB5.out.trans (HB6.out.mono HB5.out.size)⟩
end Mc
end Go.Proofs.YtlkcibhdnicpkaaDoor
