/- A tag is taken off, by the program: the walk of Open. -/
import Derived.Test.YtlkcibhdnicpkaaDoorG01
import Derived.Test.YtlkcibhdnicpkaaDoorG02
import Derived.Test.YtlkcibhdnicpkaaDoorG03
import Derived.Test.YtlkcibhdnicpkaaDoorG04
import Derived.Test.YtlkcibhdnicpkaaDoorG05
import Derived.Test.YtlkcibhdnicpkaaDoorG06
import Derived.Test.YtlkcibhdnicpkaaDoorG07
import Derived.Lib.Bytealg
import Derived.Test.YtlkcibhdnicpkaaDoorProg
import Derived.Laws.Externs
import Derived.Laws.RangeString
namespace Go.Proofs.YtlkcibhdnicpkaaDoor
namespace Mc
open Go.RowKit Ba Sm
set_option linter.unusedVariables false
/-- what is opened -/
def opn (k hd s : List UInt8) : List UInt8 × Nat :=
  if s.length < 16 then ([], 3) else if mtag k hd (s.take (s.length - 16)) == s.drop (s.length - 16) then (s.take (s.length - 16), 0) else ([], 15)
set_option maxRecDepth 100000 in
set_option maxHeartbeats 4000000 in
theorem open_calls {k hd s : List UInt8} (hk : k.length = 32) {Ah Ab : Option Addr} {nh ch nb cb : Nat} {w : World} (hnh : nh = hd.length) (hnb : nb = s.length) (hrh : ReadB w w.heap.size Ah hd) (hrb : ReadB w w.heap.size Ab s) (htab : Tab w)
    (hch : hd.length ≤ ch) (hcb : s.length ≤ cb) (hcm : cb ≤ 9223372036854775807) (hmh : hd.length ≤ 140737488351168) (hmb : s.length ≤ 140737488351168) :
    Calls Tryd.prog 30 #[.agg (bvs k).toArray, .slice Ah nh ch, .slice Ab nb cb] w fun e w' => ∃ v, e = .returned (.tuple #[v, .int .i64 (((opn k hd s).2 : Nat) : Int)]) ∧ OwnB w' w.heap.size 5 v (opn k hd s).1 ∧ Below w.heap.size w w' := by
  subst hnb
  have Hk := Lib.hid hk
  have Hnh := Lib.hid hnh
  have hA := (Below.refl w.heap.size w).alloc (Nat.le_refl _) (.cells (bvs k).toArray 26)
  clear hk hnh
  by_cases hl : s.length < 16
  · have ho : opn k hd s = ([], 3) := by rw [opn, if_pos hl]
    rw [ho]
    clear ho
    have HA := Lib.hid hA
    clear hrh hrb htab hA
    go_enter Tryd.func30, Tryd.ntmps30
    go_wp2_with fail
    go_ret2
    exact ⟨_, rfl, OwnB.nil, HA.out⟩
  · have hR0 : (w.alloc (.cells (bvs k).toArray 26)).rangeAt w.heap.size 0 (bvs k) := Blk.range [] (bvs k) [] (by rw [List.append_nil, List.nil_append]; exact heap_alloc_new w (.cells (bvs k).toArray 26))
    have HRow : Hid ((w.alloc (.cells (bvs k).toArray 26)).drew.rangeAt w.heap.size 0 (bvs k)) := Lib.hid hR0
    have HgB : Hid (w.heap.size < (w.alloc (.cells (bvs k).toArray 26)).drew.heap.size) := Lib.hid (by show _ < (w.alloc _).heap.size; simp)
    have HB := Lib.hid hA.drew
    have HRh := Lib.hid ((hrh.below hA.drew).more hA.drew.size)
    have HRb := Lib.hid ((hrb.below hA.drew).more hA.drew.size)
    have Htab := Lib.hid (htab.below hA.drew)
    obtain ⟨n, hn⟩ : ∃ n, n = s.length - 16 := ⟨_, rfl⟩
    have ho : opn k hd s = if mtag k hd (s.take n) == s.drop n then (s.take n, 0) else ([], 15) := by rw [opn, if_neg hl, hn]
    obtain ⟨b, hb⟩ : ∃ b, b = s.take n := ⟨_, rfl⟩
    obtain ⟨t, ht⟩ : ∃ t, t = s.drop n := ⟨_, rfl⟩
    rw [← hb, ← ht] at ho
    rw [ho]
    have Hbe := Lib.hid hb
    have Hte := Lib.hid ht
    generalize hq : (mtag k hd b == t) = q
    have Hq := Lib.hid hq
    clear hb ht hq
    have b1 : 0 ≤ (s.length : Int) - 16 := by omega
    have b2 : 16 ≤ s.length := by omega
    have b3 : (s.length : Int) - 16 = (n : Int) := by omega
    have b4 : IntKind.i64.wrap ((s.length : Int) - 16) = (n : Int) := by rw [IntWalk.i64_in _ (by omega)]; exact b3
    have b5 : n ≤ s.length := by omega
    have Hn : Hid (s.length - n = 16) := Lib.hid (by omega)
    have b6 : (n : Int) ≤ (cb : Int) := by omega
    have b7 : (n : Int) ≤ (s.length : Int) := by omega
    have b8 : ¬ (cb = n) := by omega
    clear hrh hrb htab hA hR0 hn ho hl
    go_enter Tryd.func30, Tryd.ntmps30
    go_wp2_with fail
    refine CanB.region 1000 (.op 0 1 (.op 1 2 (.op 2 1 (.op 4 2 (.op 7 2 (.op 8 2 (.op 9 2 (.op 3 0 (.op 5 0 (.op 6 0 (.op 10 0 (.op 11 2 (.nil))))))))))))) (by kernel_rfl) (by kernel_rfl) ?_
    generalize (w.alloc (.cells (bvs k).toArray 26)).drew = W at *
    repeat (first | (refine CanT.skip rfl ?_ (fun K hK => ?_); (focus (go_simp; done)); go_simp; refine hK _ ?_; clear hK K) | (refine CanT.pur rfl ?_ ?_; (focus (go_simp; done)); refine ⟨?_, ?_, ?_⟩; rotate_left; (focus (intro w'; go_simp; rfl)); (focus (intro K hK; go_simp; refine hK _ ?_; clear hK K))) | (refine CanB.row rfl ?_ _ _ rfl w.heap.size 0 (bvs k) rfl HRow.out HgB.out _ Tryd.underlying26 rfl (by rw [bvs_length, Hk.out]; kernel_rfl) (fun K hK => ?_); (focus (go_simp; done)); go_simp; refine hK _ ?_; clear hK K) | (refine CanB.str rfl ?_ 22 9 5 _ rfl Tryd.underlying22 Tryd.underlying5 Tryd.underlying9 Ah _ ch (hd) rfl (Hnh.out) HRh.out (fun K hK => ?_); (focus (go_simp; done)); go_simp; refine hK _ ?_; clear hK K))
    have hcut : ReadB W W.heap.size (Ab.map (·.add n)) (s.drop n) := by
      have := HRb.out.cut (k := n) hcb
      rw [if_neg b8] at this
      exact this
    have Hcut := Lib.hid hcut
    have HRn := Lib.hid (HRb.out.take n)
    have hln : n = (s.take n).length := by rw [List.length_take]; omega
    have hld : s.length - n = (s.drop n).length := by rw [List.length_drop]
    rw [← Hbe.out] at HRn hln
    rw [← Hte.out] at Hcut hld
    have Hln := Lib.hid hln
    have Hld := Lib.hid hld
    have htm : t.length ≤ 16 := by rw [← hld, Hn.out]; omega
    have hbm : b.length ≤ s.length := by omega
    clear hcut hln hld Hbe Hte
    refine CanT.imp rfl (fun J hJ => ?_)
    go_simp
    refine (Fi.text_calls hd (by omega) _).mono ?_
    rintro e w2 ⟨v2, rfl, ho2, hb2⟩
    have Ho2 := Lib.hid ho2
    have HF2 := Lib.hid hb2
    clear ho2
    go_simp
    refine hJ.out _ _ hb2 ?_
    clear hJ J hb2
    obtain ⟨A2, c2, rfl, t1, t2, t3, t4⟩ := Ho2.out.opens
    have htl := text_len hd
    have hnf : [Fm.text hd, b].flatten = Fm.text hd ++ b := by simp
    have hflat : [Fm.text hd, b].flatten.length ≤ 576460752303423487 := by rw [hnf, List.length_append]; omega
    have hbb : ReadBB (w2.alloc (.cells #[.slice A2 (Fm.text hd).length c2, .slice Ab n cb] 22)) (w2.heap.size + 1) (some ⟨w2.heap.size, 0, none⟩) [Fm.text hd, b] :=
      ReadBB.lit2 w2 22 A2 Ab _ c2 _ cb (Fm.text hd) b w2.heap.size w2.heap.size rfl (Nat.le_refl _) rfl Hln.out t3 ((HRn.out.below HF2.out).more HF2.out.size) t1 (by have := Hln.out; omega) t2 hcm
    have Hbb := Lib.hid hbb
    have Hnf := Lib.hid hnf
    have HF3 := Lib.hid (HF2.out.alloc HF2.out.size (.cells #[.slice A2 (Fm.text hd).length c2, .slice Ab n cb] 22))
    clear hbb hnf t3 t4
    refine CanT.imp rfl (fun J hJ => ?_)
    go_simp
    refine hJ.out _ _ HF3.out ?_
    clear hJ J
    refine CanT.imp rfl (fun J hJ => ?_)
    go_simp
    refine (tag_calls k Hk.out [Fm.text hd, b] _ 2 2 _ rfl (by simpa using Hbb.out) (Htab.out.below HF3.out) (by simp) (by omega) (by intro p hp; simp at hp; rcases hp with rfl | rfl <;> omega) hflat).mono ?_
    rw [Hnf.out]
    rintro e w4 ⟨v4, rfl, ho4, hb4⟩
    have hF4 := bthen HF3.out hb4
    have Ho4 : Hid (OwnB w4 _ 5 v4 (mtag k hd b)) := Lib.hid ho4
    have HF4 := Lib.hid hF4
    clear ho4 hb4
    go_simp
    refine hJ.out _ _ hF4 ?_
    clear hJ J hF4 HF3 Hbb
    have hml := mtag_len k hd b
    obtain ⟨M, hM⟩ : ∃ M, M = mtag k hd b := ⟨_, rfl⟩
    rw [← hM] at Ho4 Hq hml
    clear hM
    obtain ⟨A4, c4, rfl, u1, u2, u3, u4⟩ := Ho4.out.opens
    have U3 := Lib.hid u3
    have Hml := Lib.hid hml
    clear u3 u4 hflat hml
    refine CanT.imp rfl (fun J hJ => ?_)
    go_simp
    refine (equal_calls rfl Hld.out U3.out ((Hcut.out.below HF4.out).more HF4.out.size) (by rw [Hml.out]; omega) (by omega)).mono ?_
    rw [Hq.out]
    rintro e w5 ⟨rfl, hb5⟩
    have hF5 := bthen HF4.out hb5
    have HF5 := Lib.hid hF5
    clear hb5
    go_simp
    refine hJ.out _ _ hF5 ?_
    clear hJ J hF5
    repeat (first | (refine CanT.skip rfl ?_ (fun K hK => ?_); (focus (go_simp; done)); go_simp; refine hK _ ?_; clear hK K) | (refine CanT.pur rfl ?_ ?_; (focus (go_simp; done)); refine ⟨?_, ?_, ?_⟩; rotate_left; (focus (intro w'; go_simp; rfl)); (focus (intro K hK; go_simp; refine hK _ ?_; clear hK K))))
    refine CanT.done ?_
    have HR5 := Lib.hid ((HRn.out.below HF5.out).more HF5.out.size)
    have HB5 := Lib.hid (HB.out.trans (HF5.out.mono (Nat.le_of_lt HgB.out)))
    clear Hq Hcut HF5 HF4 HF2 HRb HRh Ho2 Ho4 U3
    cases q
    · go_wp2_with fail
      go_ret2
      exact ⟨_, rfl, OwnB.nil, HB5.out⟩
    · go_wp2_with fail
      refine (cloneN Hln.out (by have := Hln.out; omega) (by omega) HR5.out).mono ?_
      rintro e w6 ⟨v6, rfl, ho6, hb6⟩
      have Ho6 := Lib.hid ho6
      have HB6 := Lib.hid (HB5.out.trans (hb6.mono HB5.out.size))
      have HL5 := Lib.hid HB5.out.size
      clear ho6 hb6
      go_wp2_with fail
      go_ret2
      exact ⟨v6, rfl, Ho6.out.weak HL5.out, HB6.out⟩
end Mc
end Go.Proofs.YtlkcibhdnicpkaaDoor
/- A tag is taken off, by the document's answer: the walk of its Open. -/
namespace Go.Proofs.YtlkcibhdnicpkaaDoor
namespace Mc
open Go.RowKit Ba Sm
set_option linter.unusedVariables false
set_option maxRecDepth 100000 in
set_option maxHeartbeats 4000000 in
theorem ropen_calls {k hd s : List UInt8} (hk : k.length = 32) {Ah Ab : Option Addr} {nh ch nb cb : Nat} {w : World} (hnh : nh = hd.length) (hnb : nb = s.length) (hrh : ReadB w w.heap.size Ah hd) (hrb : ReadB w w.heap.size Ab s)
    (hch : hd.length ≤ ch) (hcb : s.length ≤ cb) (hcm : cb ≤ 9223372036854775807) (hmh : hd.length ≤ 70368744170000) (hmb : s.length ≤ 70368744170000) :
    Calls Tryd.prog 31 #[.agg (bvs k).toArray, .slice Ah nh ch, .slice Ab nb cb] w fun e w' => ∃ v, e = .returned (.tuple #[v, .int .i64 (((opn k hd s).2 : Nat) : Int)]) ∧ OwnB w' w.heap.size 5 v (opn k hd s).1 ∧ Below w.heap.size w w' := by
  subst hnb
  obtain ⟨i0, hi0⟩ := isByte_of info5
  have Hi := Lib.hid hi0
  clear hi0
  have Hk := Lib.hid hk
  have Hnh := Lib.hid hnh
  have hA := (Below.refl w.heap.size w).alloc (Nat.le_refl _) (.cells (bvs k).toArray 26)
  clear hk hnh
  by_cases hl : s.length < 16
  · have ho : opn k hd s = ([], 3) := by rw [opn, if_pos hl]
    rw [ho]
    clear ho
    have HA := Lib.hid hA
    clear hrh hrb hA
    go_enter Tryd.func31, Tryd.ntmps31
    go_wp2_with fail
    go_ret2
    exact ⟨_, rfl, OwnB.nil, HA.out⟩
  · have hR0 : (w.alloc (.cells (bvs k).toArray 26)).rangeAt w.heap.size 0 (bvs k) := Blk.range [] (bvs k) [] (by rw [List.append_nil, List.nil_append]; exact heap_alloc_new w (.cells (bvs k).toArray 26))
    have HRow : Hid ((w.alloc (.cells (bvs k).toArray 26)).drew.rangeAt w.heap.size 0 (bvs k)) := Lib.hid hR0
    have HgB : Hid (w.heap.size < (w.alloc (.cells (bvs k).toArray 26)).drew.heap.size) := Lib.hid (by show _ < (w.alloc _).heap.size; simp)
    have HB := Lib.hid hA.drew
    have HRh := Lib.hid ((hrh.below hA.drew).more hA.drew.size)
    have HRb := Lib.hid ((hrb.below hA.drew).more hA.drew.size)
    obtain ⟨n, hn⟩ : ∃ n, n = s.length - 16 := ⟨_, rfl⟩
    have ho : opn k hd s = if mtag k hd (s.take n) == s.drop n then (s.take n, 0) else ([], 15) := by rw [opn, if_neg hl, hn]
    obtain ⟨b, hb⟩ : ∃ b, b = s.take n := ⟨_, rfl⟩
    have hsd : (b ++ mtag k hd b == s) = (mtag k hd b == s.drop n) := by
      conv => lhs; rhs; rw [← List.take_append_drop n s, ← hb]
      rw [Bool.eq_iff_iff, beq_iff_eq, beq_iff_eq, List.append_right_inj]
    rw [← hb, ← hsd] at ho
    rw [ho]
    have Hbe := Lib.hid hb
    generalize hq : (b ++ mtag k hd b == s) = q
    have Hq := Lib.hid hq
    clear hb hq hsd
    have b1 : 0 ≤ (s.length : Int) - 16 := by omega
    have b2 : 16 ≤ s.length := by omega
    have b3 : (s.length : Int) - 16 = (n : Int) := by omega
    have b4 : IntKind.i64.wrap ((s.length : Int) - 16) = (n : Int) := by rw [IntWalk.i64_in _ (by omega)]; exact b3
    have b5 : n ≤ s.length := by omega
    have b6 : (n : Int) ≤ (cb : Int) := by omega
    have b7 : (n : Int) ≤ (s.length : Int) := by omega
    have b8 : ¬ (cb = n) := by omega
    clear hrh hrb hA hR0 hn ho hl
    go_enter Tryd.func31, Tryd.ntmps31
    go_wp2_with fail
    refine CanB.region 1000 (.op 0 1 (.op 1 2 (.op 2 2 (.op 3 2 (.op 4 2 (.op 7 2 (.op 8 1 (.op 5 0 (.op 6 1 (.op 9 2 (.nil))))))))))) (by kernel_rfl) (by kernel_rfl) ?_
    generalize (w.alloc (.cells (bvs k).toArray 26)).drew = W at *
    repeat (first | (refine CanT.skip rfl ?_ (fun K hK => ?_); (focus (go_simp; done)); go_simp; refine hK _ ?_; clear hK K) | (refine CanT.pur rfl ?_ ?_; (focus (go_simp; done)); refine ⟨?_, ?_, ?_⟩; rotate_left; (focus (intro w'; go_simp; rfl)); (focus (intro K hK; go_simp; refine hK _ ?_; clear hK K))) | (refine CanB.row rfl ?_ _ _ rfl w.heap.size 0 (bvs k) rfl HRow.out HgB.out _ Tryd.underlying26 rfl (by rw [bvs_length, Hk.out]; kernel_rfl) (fun K hK => ?_); (focus (go_simp; done)); go_simp; refine hK _ ?_; clear hK K) | (refine CanB.str rfl ?_ 22 9 5 _ rfl Tryd.underlying22 Tryd.underlying5 Tryd.underlying9 Ab _ cb (s) rfl (rfl) HRb.out (fun K hK => ?_); (focus (go_simp; done)); go_simp; refine hK _ ?_; clear hK K))
    have HRn := Lib.hid (HRb.out.take n)
    have hln : n = (s.take n).length := by rw [List.length_take]; omega
    rw [← Hbe.out] at HRn hln
    have Hln := Lib.hid hln
    have hbm : b.length ≤ s.length := by omega
    clear hln Hbe
    refine CanT.impF rfl (fun J hJ => ?_)
    go_simp
    refine (rseal_calls (b := b) Hk.out Hnh.out Hln.out HRh.out HRn.out hmh (by omega)).mono ?_
    rintro e w5 ⟨v5, rfl, ho5, hb5⟩
    obtain ⟨A5, c5, rfl, u1, u2, u3, u4⟩ := ho5.opens
    have U3 := Lib.hid u3
    have HF5 := Lib.hid hb5
    go_simp
    refine hJ.out (Below w5.heap.size w5) _ _ (fun w' h => bthen hb5 h) (Below.refl _ _) ?_
    clear hJ J hb5 u3 u4 ho5
    generalize mtag k hd b = M at *
    repeat (first | (refine CanT.skip rfl ?_ (fun K hK => ?_); (focus (go_simp; done)); go_simp; refine hK _ ?_; clear hK K) | (refine CanT.pur rfl ?_ ?_; (focus (go_simp; done)); refine ⟨?_, ?_, ?_⟩; rotate_left; (focus (intro w'; go_simp; rfl)); (focus (intro K hK; go_simp; refine hK _ ?_; clear hK K))) | (refine CanB.str rfl ?_ 22 9 5 _ rfl Tryd.underlying22 Tryd.underlying5 Tryd.underlying9 A5 _ c5 ((b ++ M)) rfl (by rw [List.length_append]) U3.out (fun K hK => ?_); (focus (go_simp; done)); go_simp; refine hK _ ?_; clear hK K))
    rw [Hq.out]
    refine CanT.done ?_
    have HR5 := Lib.hid ((HRn.out.below HF5.out).more HF5.out.size)
    have HB5 := Lib.hid (HB.out.trans (HF5.out.mono (Nat.le_of_lt HgB.out)))
    clear HF5 HRb HRh U3 Hq u1
    cases q
    · go_wp2_with fail
      go_ret2
      exact ⟨_, rfl, OwnB.nil, HB5.out⟩
    · go_wp2_with (at_builtin; refine wpList_appB _ rfl (.tmp 24) (.tmp 27) 22 rfl w5.heap.size 5 i0 Tryd.underlying22 Hi.out _ [] rfl (OwnB.lit0 w5 5 w5.heap.size w5.heap.size rfl (Nat.le_refl _)) w5.heap.size Ab _ cb b rfl Hln.out (HR5.out.alloc (Nat.le_refl _) _) (by simp; omega) (by simp) ?_; intro v6 w6 ho6 _ _ hb6; rw [List.nil_append] at ho6; have Ho6 := Lib.hid ho6; have HB6 := Lib.hid (((Below.refl _ _).alloc (Nat.le_refl _) _).trans hb6); clear ho6 hb6)
      go_ret2
      exact ⟨v6, rfl, Ho6.out.weak HB5.out.size, HB5.out.trans (HB6.out.mono HB5.out.size)⟩
end Mc
end Go.Proofs.YtlkcibhdnicpkaaDoor
/- Bytes of a constant text: the row is laid and marked; the mark changes no cell. -/
namespace Go.Proofs.YtlkcibhdnicpkaaDoor
namespace Li
open Go.RowKit Ba
set_option linter.unusedVariables false
/-- a world with a row marked -/
def mkB (w : World) (g : Nat) : World := match w.shape? g with
  | some (_, n) => w.freeze ⟨g, n, none⟩ 1
  | none => w
section
variable {P : Program}
theorem conv_run (t e : TypeId) (ht : P.underlying t = some (.slice e)) (he : P.underlying e = some (.int .u8)) (g n c : Nat) (w : World) :
    (convert t t (.slice (some ⟨g, 0, none⟩) n c)).run P w = .ok (.slice (some ⟨g, 0, none⟩) n c) (mkB w g) := by
  unfold mkB
  simp only [convert, Sem.run_bind, run_underlying ht, run_underlying he, Result.andThen_ok, beq_self_eq_true, markStringish]
  cases h : w.shape? g with
  | none => simp [h]
  | some p => obtain ⟨e', n'⟩ := p; simp [h]
theorem freeze_size (w : World) (a : Addr) (n : Nat) : (w.freeze a n).heap.size = w.heap.size := by
  unfold World.freeze; split <;> simp
theorem mkB_size (w : World) (g : Nat) : (mkB w g).heap.size = w.heap.size := by
  unfold mkB; split
  · exact freeze_size _ _ _
  · rfl
theorem mkB_grown (w : World) (g : Nat) : w.grownBy (mkB w g) (some g) := by
  unfold mkB
  split
  · refine ⟨?_, ?_, ?_, by rw [freeze_size]; exact Nat.le_refl _, fun i hi hne => ?_⟩
    · unfold World.freeze; rw [if_neg (by decide)]
    · unfold World.freeze; rw [if_neg (by decide)]
    · unfold World.freeze; rw [if_neg (by decide)]
    · unfold World.freeze
      rw [if_neg (by decide)]
      have : g ≠ i := fun e => hne (by rw [e])
      simp [Array.getElem?_modify, this]
  · exact World.grownBy.refl w _
theorem mkB_cell (w : World) (g : Nat) (b o : Nat) : (mkB w g).cell? ⟨b, o, none⟩ = w.cell? ⟨b, o, none⟩ := by
  by_cases hb : b = g
  · subst hb
    unfold mkB
    split
    · unfold World.freeze
      rw [if_neg (by decide)]
      unfold World.cell?
      simp only [Array.getElem?_modify, if_true]
      cases w.heap[b]? with
      | none => rfl
      | some ob =>
        cases ob with
        | cells c e fr => obtain ⟨lo, hi⟩ := fr; rfl
        | _ => rfl
    · rfl
  · rcases Nat.lt_or_ge b w.heap.size with h | h
    · exact World.cell?_of_block ((mkB_grown w g).block b h (by simpa using hb))
    · have h1 : w.heap[b]? = none := Array.getElem?_eq_none h
      have h2 : (mkB w g).heap[b]? = none := Array.getElem?_eq_none (by rw [mkB_size]; exact h)
      unfold World.cell?
      simp only [h1, h2]
theorem mkB_below {B : Nat} {a w : World} {g : Nat} (h : Below B a w) (hg : B ≤ g) (hs : B ≤ w.heap.size) : Below B a (mkB w g) := h.trans (below_of_only (mkB_grown w g) hg hs)
end
end Li
end Go.Proofs.YtlkcibhdnicpkaaDoor
/- The closed case: what every right program seals and opens. -/
namespace Go.Proofs.YtlkcibhdnicpkaaDoor
namespace Mc
open Go.RowKit Ba Sm
set_option linter.unusedVariables false
def k1 : List UInt8 := 1 :: List.replicate 31 0
def fox : List UInt8 := [84, 104, 101, 32, 113, 117, 105, 99, 107, 32, 98, 114, 111, 119, 110, 32, 102, 111, 120, 32, 106, 117, 109, 112, 115, 32, 111, 118, 101, 114, 32, 116, 104, 101, 32, 108, 97, 122, 121, 32, 100, 111, 103]
def kfox : List UInt8 := [107, 101, 121]
set_option maxRecDepth 100000 in
theorem fox_0 : (hmac kfox fox).getD 0 0 = 0xf7 ∧ (hmac kfox fox).getD 1 0 = 0xbc ∧ (hmac kfox fox).getD 31 0 = 0xd8 := by decide +kernel
theorem k1_lit : #[Value.int .u8 1, .int .u8 0, .int .u8 0, .int .u8 0, .int .u8 0, .int .u8 0, .int .u8 0, .int .u8 0, .int .u8 0, .int .u8 0, .int .u8 0, .int .u8 0, .int .u8 0, .int .u8 0, .int .u8 0, .int .u8 0, .int .u8 0, .int .u8 0, .int .u8 0, .int .u8 0, .int .u8 0, .int .u8 0, .int .u8 0, .int .u8 0, .int .u8 0, .int .u8 0, .int .u8 0, .int .u8 0, .int .u8 0, .int .u8 0, .int .u8 0, .int .u8 0] = (bvs k1).toArray := by rfl
theorem opn_seal (k hd b : List UInt8) : opn k hd (b ++ mtag k hd b) = (b, 0) := by
  have h16 := mtag_len k hd b
  have e : (b ++ mtag k hd b).length - 16 = b.length := by rw [List.length_append, h16]; omega
  unfold opn
  rw [if_neg (by rw [List.length_append, h16]; omega), e, List.take_left' rfl, List.drop_left' rfl, if_pos (beq_self_eq_true _)]
theorem mkB_lit (w : World) (E : TypeId) (vs : List Value) (l : List UInt8) (g : Nat) (hg : g = w.heap.size) (h : vs = bvs l) :
    ReadB (Li.mkB (w.alloc (.cells vs.toArray E)) g) (Li.mkB (w.alloc (.cells vs.toArray E)) g).heap.size (some ⟨g, 0, none⟩) l ∧ Below w.heap.size w (Li.mkB (w.alloc (.cells vs.toArray E)) g) := by
  subst hg
  refine ⟨?_, Li.mkB_below ((Below.refl _ _).alloc (Nat.le_refl _) _) (Nat.le_refl _) (by simp)⟩
  have h1 := ReadB.litN w E vs l w.heap.size rfl h
  rw [Li.mkB_size]
  intro hn
  obtain ⟨b, o, e, hb, hc⟩ := h1 hn
  exact ⟨b, o, e, by simpa using hb, fun k hk => by rw [Li.mkB_cell]; exact hc k hk⟩
theorem blk_cell {w : World} {g : Nat} {t : TypeId} {E : List UInt8} (hb : Blk w g t (bvs E).toArray) (i : Nat) (hi : i < E.length) : w.cell? ⟨g, i, none⟩ = some (.int .u8 ((E.getD i 0).toNat : Int)) := by
  have := Blk.cell hb i
  rw [List.getElem?_toArray, bvs_get _ _ hi] at this
  exact this
set_option maxRecDepth 100000 in
set_option maxHeartbeats 4000000 in
theorem awake_calls (w : World) (htab : Tab w) : Calls Tryd.prog 27 #[] w fun e w' => e = .returned (.bool true) ∧ Below w.heap.size w w' := by
  have Htab := Lib.hid htab
  clear htab
  have hcv := fun (g n c : Nat) (w' : World) => Li.conv_run (P := Tryd.prog) 22 5 Tryd.underlying22 Tryd.underlying5 g n c w'
  have hms := Li.mkB_size
  have h1 := mkB_lit w 5 [.int .u8 104] [104] w.heap.size rfl rfl
  have hs1 : (Li.mkB (w.alloc (.cells #[.int .u8 104] 5)) w.heap.size).heap.size = w.heap.size + 1 := by rw [Li.mkB_size]; simp
  have h2 := mkB_lit (Li.mkB (w.alloc (.cells #[.int .u8 104] 5)) w.heap.size) 5 [.int .u8 98, .int .u8 111, .int .u8 100, .int .u8 121] [98, 111, 100, 121] (w.heap.size + 1) hs1.symm rfl
  have H1 := Lib.hid h1
  have H2 := Lib.hid h2
  have HS1 := Lib.hid hs1
  obtain ⟨S1, hS1⟩ : ∃ S1, S1 = [98, 111, 100, 121] ++ mtag k1 [104] [98, 111, 100, 121] := ⟨_, rfl⟩
  have hop := opn_seal k1 [104] [98, 111, 100, 121]
  rw [← hS1] at hop
  have hl20 : S1.length = 20 := by rw [hS1, List.length_append, mtag_len]; rfl
  have HO := Lib.hid hop
  have HS := Lib.hid hS1
  have HL20 := Lib.hid hl20
  clear h1 h2 hs1 hS1 hop hl20
  go_enter Tryd.func27, Tryd.ntmps27
  go_wp2_with fail
  rw [k1_lit]
  have hb12 : Below w.heap.size w _ := H1.out.2.trans (H2.out.2.mono (by rw [HS1.out]; omega))
  have HB2 := Lib.hid hb12
  refine (seal_calls (k := k1) (hd := [104]) (b := [98, 111, 100, 121]) rfl rfl rfl ((H1.out.1.below (H2.out.2)).more (by exact H2.out.2.size)) H2.out.1 (Htab.out.below hb12) (by simp) (by simp) (by omega) (by simp) (by simp)).mono ?_
  rw [← HS.out]
  rintro e w3 ⟨v3, rfl, ho3, hb3⟩
  have HB3 := Lib.hid (bthen hb12 hb3)
  obtain ⟨A3, c3, rfl, t1, t2, t3, t4⟩ := ho3.opens
  have HR3 := Lib.hid t3
  have T1 := Lib.hid t1
  clear ho3 t3 t4 H1 H2 HS1 hb12 HB2 hb3 t1
  have h4 := mkB_lit w3 5 [.int .u8 104] [104] w3.heap.size rfl rfl
  have H4 := Lib.hid h4
  clear h4
  go_wp2_with fail
  rw [k1_lit]
  have hb4 := bthen HB3.out H4.out.2
  refine (open_calls (k := k1) (hd := [104]) (s := S1) rfl rfl rfl H4.out.1 ((HR3.out.below H4.out.2).more H4.out.2.size) (Htab.out.below hb4) (by simp) T1.out t2 (by simp) (by rw [HL20.out]; omega)).mono ?_
  rw [HO.out]
  rintro e w5 ⟨v5, rfl, ho5, hb5⟩
  have HB5 := Lib.hid (bthen hb4 hb5)
  obtain ⟨A5, c5, rfl, u1, u2, u3, u4⟩ := ho5.opens
  have HR5 : Hid (ReadB w5 w5.heap.size A5 [98, 111, 100, 121]) := Lib.hid u3
  clear ho5 u3 u4 H4 hb4 hb5
  have h6 := mkB_lit w5 5 [.int .u8 107, .int .u8 101, .int .u8 121] kfox w5.heap.size rfl rfl
  have hs6 : (Li.mkB (w5.alloc (.cells #[.int .u8 107, .int .u8 101, .int .u8 121] 5)) w5.heap.size).heap.size = w5.heap.size + 1 := by rw [Li.mkB_size]; simp
  have h7 := mkB_lit (Li.mkB (w5.alloc (.cells #[.int .u8 107, .int .u8 101, .int .u8 121] 5)) w5.heap.size) 5 [.int .u8 84, .int .u8 104, .int .u8 101, .int .u8 32, .int .u8 113, .int .u8 117, .int .u8 105, .int .u8 99, .int .u8 107, .int .u8 32, .int .u8 98, .int .u8 114, .int .u8 111, .int .u8 119, .int .u8 110, .int .u8 32, .int .u8 102, .int .u8 111, .int .u8 120, .int .u8 32, .int .u8 106, .int .u8 117, .int .u8 109, .int .u8 112, .int .u8 115, .int .u8 32, .int .u8 111, .int .u8 118, .int .u8 101, .int .u8 114, .int .u8 32, .int .u8 116, .int .u8 104, .int .u8 101, .int .u8 32, .int .u8 108, .int .u8 97, .int .u8 122, .int .u8 121, .int .u8 32, .int .u8 100, .int .u8 111, .int .u8 103] fox (w5.heap.size + 1) hs6.symm rfl
  have hs7 := h7.1
  have H6 := Lib.hid h6
  have H7 := Lib.hid h7
  have HS6 := Lib.hid hs6
  clear h6 h7 hs6 hs7
  go_wp2_with fail
  have hb7 := bthen H6.out.2 H7.out.2
  have hbb := ReadBB.lit1 (Li.mkB ((Li.mkB (w5.alloc (.cells #[.int .u8 107, .int .u8 101, .int .u8 121] 5)) w5.heap.size).alloc (.cells [.int .u8 84, .int .u8 104, .int .u8 101, .int .u8 32, .int .u8 113, .int .u8 117, .int .u8 105, .int .u8 99, .int .u8 107, .int .u8 32, .int .u8 98, .int .u8 114, .int .u8 111, .int .u8 119, .int .u8 110, .int .u8 32, .int .u8 102, .int .u8 111, .int .u8 120, .int .u8 32, .int .u8 106, .int .u8 117, .int .u8 109, .int .u8 112, .int .u8 115, .int .u8 32, .int .u8 111, .int .u8 118, .int .u8 101, .int .u8 114, .int .u8 32, .int .u8 116, .int .u8 104, .int .u8 101, .int .u8 32, .int .u8 108, .int .u8 97, .int .u8 122, .int .u8 121, .int .u8 32, .int .u8 100, .int .u8 111, .int .u8 103].toArray 5)) (w5.heap.size + 1)) 22 (some ⟨w5.heap.size + 1, 0, none⟩) 43 43 fox _ (w5.heap.size + 2) (by rw [Li.mkB_size]; simp [Li.mkB_size]) (Nat.le_refl _) rfl H7.out.1 (by decide) (by omega)
  have hb8 := ((Below.refl _ _).alloc (Nat.le_refl _) (.cells #[.slice (some ⟨w5.heap.size + 1, 0, none⟩) 43 43] 22) : Below (Li.mkB ((Li.mkB (w5.alloc (.cells #[.int .u8 107, .int .u8 101, .int .u8 121] 5)) w5.heap.size).alloc (.cells [.int .u8 84, .int .u8 104, .int .u8 101, .int .u8 32, .int .u8 113, .int .u8 117, .int .u8 105, .int .u8 99, .int .u8 107, .int .u8 32, .int .u8 98, .int .u8 114, .int .u8 111, .int .u8 119, .int .u8 110, .int .u8 32, .int .u8 102, .int .u8 111, .int .u8 120, .int .u8 32, .int .u8 106, .int .u8 117, .int .u8 109, .int .u8 112, .int .u8 115, .int .u8 32, .int .u8 111, .int .u8 118, .int .u8 101, .int .u8 114, .int .u8 32, .int .u8 116, .int .u8 104, .int .u8 101, .int .u8 32, .int .u8 108, .int .u8 97, .int .u8 122, .int .u8 121, .int .u8 32, .int .u8 100, .int .u8 111, .int .u8 103].toArray 5)) (w5.heap.size + 1)).heap.size _ _)
  have hb58 := bthen hb7 hb8
  refine (mofN (k := kfox) (ps := [fox]) rfl rfl (((H6.out.1.below H7.out.2).below (hb8.mono H7.out.2.size)).more (Nat.le_trans H7.out.2.size hb8.size)) (hbb.more (by simp [Li.mkB_size])) ((Htab.out.below HB5.out).below hb58) (by decide) (by omega) (by decide) (by decide) (by omega) (by decide) (by decide)).mono ?_
  rw [show [fox].flatten = fox from by simp]
  have hE32 := hmac_len kfox fox
  obtain ⟨f0, f1, f31⟩ := fox_0
  obtain ⟨E, hE⟩ : ∃ E, E = hmac kfox fox := ⟨_, rfl⟩
  rw [← hE] at hE32 f0 f1 f31 ⊢
  rintro e w8 ⟨rfl, hb9⟩
  have HB8 := Lib.hid (HB5.out.trans ((hb58.trans (hb9.mono (hb58.size))).mono HB5.out.size))
  have HR8 := Lib.hid ((HR5.out.below (hb58.trans (hb9.mono (hb58.size)))).more (hb58.trans (hb9.mono (hb58.size))).size)
  have HE32 := Lib.hid hE32
  have F0 := Lib.hid f0
  have F1 := Lib.hid f1
  have F31 := Lib.hid f31
  clear hE hE32 hb7 hbb hb8 hb58 hb9 H6 H7 HS6 HB5 HR5 f0 f1 f31
  go_wp2_with (refine wpList_store_blk rfl 26 (.tmp 4) (.tmp 24) rfl w8.heap.size 0 26 [] (bvs (List.replicate 32 0)) [] (bvs E) rfl rfl (by rw [bvs_rep32]; exact heap_alloc_new _ _) rfl (by rw [bvs_length, bvs_length, HE32.out]; rfl) (by rw [bvs_length, HE32.out]; kernel_rfl) (bvs_one _) ?_; intro w9 hX9 hg9; have hk9 := after_store HB8.out hg9 rfl; have hX9' : Blk w9 w8.heap.size 26 (bvs E).toArray := (by simpa using hX9); have HX9 := Lib.hid hX9'; have hc0 := blk_cell HX9.out 0 (by rw [HE32.out]; omega); have hc1 := blk_cell HX9.out 1 (by rw [HE32.out]; omega); have hc31 := blk_cell HX9.out 31 (by rw [HE32.out]; omega); rw [F0.out] at hc0; rw [F1.out] at hc1; rw [F31.out] at hc31; have HB9 := Lib.hid hk9.1; have hcs := run_strof (P := Tryd.prog) w9 22 5 Tryd.underlying22 Tryd.underlying5 A5 c5 _ [98, 111, 100, 121] (HR8.out.below (only_after ((Below.refl _ _).alloc (Nat.le_refl _) _) hg9 (Nat.le_refl _))) 9 Tryd.underlying9; simp only [List.length_cons, List.length_nil, Nat.zero_add, Nat.reduceAdd] at hcs; have hL : ((S1.length : Int) == 20) = true := (by rw [HL20.out]; rfl); clear hX9 hX9' hg9 hk9; generalize w8.heap.size = g8 at *)
  refine (equal_calls (a := []) (b := []) rfl rfl ReadB.nil ReadB.nil (by simp) (by simp)).mono ?_
  rintro e w10 ⟨rfl, hb10⟩
  have HB10 := Lib.hid (HB9.out.trans (hb10.mono HB9.out.size))
  clear hb10
  go_wp2_with fail
  go_ret
  exact ⟨rfl, HB10.out⟩
end Mc
end Go.Proofs.YtlkcibhdnicpkaaDoor
/- The closed case's two texts, in whatever order they are laid. -/
namespace Go.Proofs.YtlkcibhdnicpkaaDoor
namespace Sk
open Go.RowKit Ba Sm
set_option linter.unusedVariables false
set_option linter.unusedSimpArgs false
theorem abc_at (W W' : World) (htab : Tab W) (hb : Below W.heap.size W W') (g a b : Nat) (hlt : g < W'.heap.size ∧ a < W'.heap.size ∧ b < W'.heap.size) (h1 : W'.cell? ⟨g, 0, none⟩ = some (.slice (some ⟨a, 0, none⟩) 1 1)) (h2 : W'.cell? ⟨g, 1, none⟩ = some (.slice (some ⟨b, 0, none⟩) 2 2))
    (h3 : W'.cell? ⟨a, 0, none⟩ = some (.int .u8 97)) (h4 : W'.cell? ⟨b, 0, none⟩ = some (.int .u8 98)) (h5 : W'.cell? ⟨b, 1, none⟩ = some (.int .u8 99)) :
    Calls Tryd.prog 14 #[.slice (some ⟨g, 0, none⟩) 2 2] W' fun e w' => e = .returned (.agg (bvs (sha [97, 98, 99])).toArray) ∧ Below W.heap.size W w' := by
  have hr : ReadBB W' W'.heap.size (some ⟨g, 0, none⟩) [[97], [98, 99]] := by
    intro _
    refine ⟨g, 0, rfl, hlt.1, fun k hk => ?_⟩
    have hk2 : k = 0 ∨ k = 1 := by simp at hk; omega
    rcases hk2 with rfl | rfl
    · refine ⟨some ⟨a, 0, none⟩, 1, h1, by simp, by omega, fun _ => ⟨a, 0, rfl, hlt.2.1, fun j hj => ?_⟩⟩
      have : j = 0 := by simp at hj; omega
      subst this
      exact h3
    · refine ⟨some ⟨b, 0, none⟩, 2, h2, by simp, by omega, fun _ => ⟨b, 0, rfl, hlt.2.2, fun j hj => ?_⟩⟩
      have : j = 0 ∨ j = 1 := by simp at hj; omega
      rcases this with rfl | rfl
      · exact h4
      · exact h5
  refine (of_calls [[97], [98, 99]] (some ⟨g, 0, none⟩) 2 W' hr (htab.below hb) (by simp) (by omega) (by intro p hp; simp at hp; rcases hp with rfl | rfl <;> simp) (by simp)).mono ?_
  rintro e w' ⟨h1, h2⟩
  exact ⟨h1, hb.trans (h2.mono hb.size)⟩
theorem abc_1 (W : World) (htab : Tab W) : Calls Tryd.prog 14 #[.slice (some ⟨W.heap.size + 1 + 1, 0, none⟩) 2 2] ((Li.mkB (((Li.mkB (W.alloc (.cells #[.int .u8 97] 5)) W.heap.size)).alloc (.cells #[.int .u8 98, .int .u8 99] 5)) (W.heap.size + 1)).alloc (.cells #[.slice (some ⟨W.heap.size, 0, none⟩) 1 1, .slice (some ⟨(W.heap.size + 1), 0, none⟩) 2 2] 22)) fun e w' => e = .returned (.agg (bvs (sha [97, 98, 99])).toArray) ∧ Below W.heap.size W w' := by
  refine abc_at W _ htab ?_ (W.heap.size + 1 + 1) W.heap.size (W.heap.size + 1) ⟨?_, ?_, ?_⟩ ?_ ?_ ?_ ?_ ?_
  · repeat (first | with_reducible exact Below.refl _ _ | (with_reducible refine Below.alloc ?_ (by (first | (simp [Li.mkB_size]; done) | (simp [Li.mkB_size]; omega) | omega)) _) | (with_reducible refine Li.mkB_below ?_ (by (first | (simp [Li.mkB_size]; done) | (simp [Li.mkB_size]; omega) | omega)) (by (first | (simp [Li.mkB_size]; done) | (simp [Li.mkB_size]; omega) | omega))))
  · (first | (simp [Li.mkB_size]; done) | (simp [Li.mkB_size]; omega) | omega)
  · (first | (simp [Li.mkB_size]; done) | (simp [Li.mkB_size]; omega) | omega)
  · (first | (simp [Li.mkB_size]; done) | (simp [Li.mkB_size]; omega) | omega)
  all_goals
    repeat (first | (rw [Li.mkB_cell]) | (rw [World.cell?_alloc_at]; rotate_left; (focus (first | (simp [Li.mkB_size]; done) | (simp [Li.mkB_size]; omega) | omega)); (focus rfl)) | (rw [World.cell?_alloc_past]; rotate_left; (focus (first | (simp [Li.mkB_size]; done) | (simp [Li.mkB_size]; omega) | omega))))
theorem abc_2 (W : World) (htab : Tab W) : Calls Tryd.prog 14 #[.slice (some ⟨W.heap.size + 1 + 1, 0, none⟩) 2 2] ((Li.mkB (Li.mkB (((W.alloc (.cells #[.int .u8 97] 5))).alloc (.cells #[.int .u8 98, .int .u8 99] 5)) W.heap.size) (W.heap.size + 1)).alloc (.cells #[.slice (some ⟨W.heap.size, 0, none⟩) 1 1, .slice (some ⟨(W.heap.size + 1), 0, none⟩) 2 2] 22)) fun e w' => e = .returned (.agg (bvs (sha [97, 98, 99])).toArray) ∧ Below W.heap.size W w' := by
  refine abc_at W _ htab ?_ (W.heap.size + 1 + 1) W.heap.size (W.heap.size + 1) ⟨?_, ?_, ?_⟩ ?_ ?_ ?_ ?_ ?_
  · repeat (first | with_reducible exact Below.refl _ _ | (with_reducible refine Below.alloc ?_ (by (first | (simp [Li.mkB_size]; done) | (simp [Li.mkB_size]; omega) | omega)) _) | (with_reducible refine Li.mkB_below ?_ (by (first | (simp [Li.mkB_size]; done) | (simp [Li.mkB_size]; omega) | omega)) (by (first | (simp [Li.mkB_size]; done) | (simp [Li.mkB_size]; omega) | omega))))
  · (first | (simp [Li.mkB_size]; done) | (simp [Li.mkB_size]; omega) | omega)
  · (first | (simp [Li.mkB_size]; done) | (simp [Li.mkB_size]; omega) | omega)
  · (first | (simp [Li.mkB_size]; done) | (simp [Li.mkB_size]; omega) | omega)
  all_goals
    repeat (first | (rw [Li.mkB_cell]) | (rw [World.cell?_alloc_at]; rotate_left; (focus (first | (simp [Li.mkB_size]; done) | (simp [Li.mkB_size]; omega) | omega)); (focus rfl)) | (rw [World.cell?_alloc_past]; rotate_left; (focus (first | (simp [Li.mkB_size]; done) | (simp [Li.mkB_size]; omega) | omega))))
theorem abc_3 (W : World) (htab : Tab W) : Calls Tryd.prog 14 #[.slice (some ⟨W.heap.size + 1 + 1, 0, none⟩) 2 2] ((Li.mkB (Li.mkB (((W.alloc (.cells #[.int .u8 97] 5))).alloc (.cells #[.int .u8 98, .int .u8 99] 5)) (W.heap.size + 1)) W.heap.size).alloc (.cells #[.slice (some ⟨W.heap.size, 0, none⟩) 1 1, .slice (some ⟨(W.heap.size + 1), 0, none⟩) 2 2] 22)) fun e w' => e = .returned (.agg (bvs (sha [97, 98, 99])).toArray) ∧ Below W.heap.size W w' := by
  refine abc_at W _ htab ?_ (W.heap.size + 1 + 1) W.heap.size (W.heap.size + 1) ⟨?_, ?_, ?_⟩ ?_ ?_ ?_ ?_ ?_
  · repeat (first | with_reducible exact Below.refl _ _ | (with_reducible refine Below.alloc ?_ (by (first | (simp [Li.mkB_size]; done) | (simp [Li.mkB_size]; omega) | omega)) _) | (with_reducible refine Li.mkB_below ?_ (by (first | (simp [Li.mkB_size]; done) | (simp [Li.mkB_size]; omega) | omega)) (by (first | (simp [Li.mkB_size]; done) | (simp [Li.mkB_size]; omega) | omega))))
  · (first | (simp [Li.mkB_size]; done) | (simp [Li.mkB_size]; omega) | omega)
  · (first | (simp [Li.mkB_size]; done) | (simp [Li.mkB_size]; omega) | omega)
  · (first | (simp [Li.mkB_size]; done) | (simp [Li.mkB_size]; omega) | omega)
  all_goals
    repeat (first | (rw [Li.mkB_cell]) | (rw [World.cell?_alloc_at]; rotate_left; (focus (first | (simp [Li.mkB_size]; done) | (simp [Li.mkB_size]; omega) | omega)); (focus rfl)) | (rw [World.cell?_alloc_past]; rotate_left; (focus (first | (simp [Li.mkB_size]; done) | (simp [Li.mkB_size]; omega) | omega))))
theorem abc_4 (W : World) (htab : Tab W) : Calls Tryd.prog 14 #[.slice (some ⟨W.heap.size + 1 + 1, 0, none⟩) 2 2] ((Li.mkB (((Li.mkB (W.alloc (.cells #[.int .u8 98, .int .u8 99] 5)) W.heap.size)).alloc (.cells #[.int .u8 97] 5)) (W.heap.size + 1)).alloc (.cells #[.slice (some ⟨(W.heap.size + 1), 0, none⟩) 1 1, .slice (some ⟨W.heap.size, 0, none⟩) 2 2] 22)) fun e w' => e = .returned (.agg (bvs (sha [97, 98, 99])).toArray) ∧ Below W.heap.size W w' := by
  refine abc_at W _ htab ?_ (W.heap.size + 1 + 1) (W.heap.size + 1) W.heap.size ⟨?_, ?_, ?_⟩ ?_ ?_ ?_ ?_ ?_
  · repeat (first | with_reducible exact Below.refl _ _ | (with_reducible refine Below.alloc ?_ (by (first | (simp [Li.mkB_size]; done) | (simp [Li.mkB_size]; omega) | omega)) _) | (with_reducible refine Li.mkB_below ?_ (by (first | (simp [Li.mkB_size]; done) | (simp [Li.mkB_size]; omega) | omega)) (by (first | (simp [Li.mkB_size]; done) | (simp [Li.mkB_size]; omega) | omega))))
  · (first | (simp [Li.mkB_size]; done) | (simp [Li.mkB_size]; omega) | omega)
  · (first | (simp [Li.mkB_size]; done) | (simp [Li.mkB_size]; omega) | omega)
  · (first | (simp [Li.mkB_size]; done) | (simp [Li.mkB_size]; omega) | omega)
  all_goals
    repeat (first | (rw [Li.mkB_cell]) | (rw [World.cell?_alloc_at]; rotate_left; (focus (first | (simp [Li.mkB_size]; done) | (simp [Li.mkB_size]; omega) | omega)); (focus rfl)) | (rw [World.cell?_alloc_past]; rotate_left; (focus (first | (simp [Li.mkB_size]; done) | (simp [Li.mkB_size]; omega) | omega))))
theorem abc_5 (W : World) (htab : Tab W) : Calls Tryd.prog 14 #[.slice (some ⟨W.heap.size + 1 + 1, 0, none⟩) 2 2] ((Li.mkB (Li.mkB (((W.alloc (.cells #[.int .u8 98, .int .u8 99] 5))).alloc (.cells #[.int .u8 97] 5)) W.heap.size) (W.heap.size + 1)).alloc (.cells #[.slice (some ⟨(W.heap.size + 1), 0, none⟩) 1 1, .slice (some ⟨W.heap.size, 0, none⟩) 2 2] 22)) fun e w' => e = .returned (.agg (bvs (sha [97, 98, 99])).toArray) ∧ Below W.heap.size W w' := by
  refine abc_at W _ htab ?_ (W.heap.size + 1 + 1) (W.heap.size + 1) W.heap.size ⟨?_, ?_, ?_⟩ ?_ ?_ ?_ ?_ ?_
  · repeat (first | with_reducible exact Below.refl _ _ | (with_reducible refine Below.alloc ?_ (by (first | (simp [Li.mkB_size]; done) | (simp [Li.mkB_size]; omega) | omega)) _) | (with_reducible refine Li.mkB_below ?_ (by (first | (simp [Li.mkB_size]; done) | (simp [Li.mkB_size]; omega) | omega)) (by (first | (simp [Li.mkB_size]; done) | (simp [Li.mkB_size]; omega) | omega))))
  · (first | (simp [Li.mkB_size]; done) | (simp [Li.mkB_size]; omega) | omega)
  · (first | (simp [Li.mkB_size]; done) | (simp [Li.mkB_size]; omega) | omega)
  · (first | (simp [Li.mkB_size]; done) | (simp [Li.mkB_size]; omega) | omega)
  all_goals
    repeat (first | (rw [Li.mkB_cell]) | (rw [World.cell?_alloc_at]; rotate_left; (focus (first | (simp [Li.mkB_size]; done) | (simp [Li.mkB_size]; omega) | omega)); (focus rfl)) | (rw [World.cell?_alloc_past]; rotate_left; (focus (first | (simp [Li.mkB_size]; done) | (simp [Li.mkB_size]; omega) | omega))))
theorem abc_6 (W : World) (htab : Tab W) : Calls Tryd.prog 14 #[.slice (some ⟨W.heap.size + 1 + 1, 0, none⟩) 2 2] ((Li.mkB (Li.mkB (((W.alloc (.cells #[.int .u8 98, .int .u8 99] 5))).alloc (.cells #[.int .u8 97] 5)) (W.heap.size + 1)) W.heap.size).alloc (.cells #[.slice (some ⟨(W.heap.size + 1), 0, none⟩) 1 1, .slice (some ⟨W.heap.size, 0, none⟩) 2 2] 22)) fun e w' => e = .returned (.agg (bvs (sha [97, 98, 99])).toArray) ∧ Below W.heap.size W w' := by
  refine abc_at W _ htab ?_ (W.heap.size + 1 + 1) (W.heap.size + 1) W.heap.size ⟨?_, ?_, ?_⟩ ?_ ?_ ?_ ?_ ?_
  · repeat (first | with_reducible exact Below.refl _ _ | (with_reducible refine Below.alloc ?_ (by (first | (simp [Li.mkB_size]; done) | (simp [Li.mkB_size]; omega) | omega)) _) | (with_reducible refine Li.mkB_below ?_ (by (first | (simp [Li.mkB_size]; done) | (simp [Li.mkB_size]; omega) | omega)) (by (first | (simp [Li.mkB_size]; done) | (simp [Li.mkB_size]; omega) | omega))))
  · (first | (simp [Li.mkB_size]; done) | (simp [Li.mkB_size]; omega) | omega)
  · (first | (simp [Li.mkB_size]; done) | (simp [Li.mkB_size]; omega) | omega)
  · (first | (simp [Li.mkB_size]; done) | (simp [Li.mkB_size]; omega) | omega)
  all_goals
    repeat (first | (rw [Li.mkB_cell]) | (rw [World.cell?_alloc_at]; rotate_left; (focus (first | (simp [Li.mkB_size]; done) | (simp [Li.mkB_size]; omega) | omega)); (focus rfl)) | (rw [World.cell?_alloc_past]; rotate_left; (focus (first | (simp [Li.mkB_size]; done) | (simp [Li.mkB_size]; omega) | omega))))
end Sk
end Go.Proofs.YtlkcibhdnicpkaaDoor
/- Digits of a sum, as plain functions over lists. -/
namespace Go.Proofs.YtlkcibhdnicpkaaDoor
namespace Hx
open Ba
set_option linter.unusedVariables false
def dg : List UInt8 := [48, 49, 50, 51, 52, 53, 54, 55, 56, 57, 97, 98, 99, 100, 101, 102]
/-- a digit's number; 16: it is none -/
def dix (c : UInt8) : Nat := if 48 ≤ c.toNat ∧ c.toNat ≤ 57 then c.toNat - 48 else if 97 ≤ c.toNat ∧ c.toNat ≤ 102 then c.toNat - 87 else 16
theorem all_u8 {p : UInt8 → Prop} (h : ∀ n : Fin 256, p (UInt8.ofNat n.val)) (c : UInt8) : p c := by
  have := h ⟨c.toNat, c.toNat_lt⟩
  rwa [UInt8.ofNat_toNat] at this
set_option maxRecDepth 100000 in
theorem idx_dix (c : UInt8) : Lib.indexByte dg c = if dix c < 16 then (dix c : Int) else -1 := all_u8 (p := fun c => Lib.indexByte dg c = if dix c < 16 then (dix c : Int) else -1) (by decide +kernel) c
set_option maxRecDepth 100000 in
theorem dix_dg (c : UInt8) : dix c < 16 → dg.getD (dix c) 0 = c := all_u8 (p := fun c => dix c < 16 → dg.getD (dix c) 0 = c) (by decide +kernel) c
set_option maxRecDepth 100000 in
theorem dg_dix : ∀ n : Fin 16, dix (dg.getD n.val 0) = n.val := by decide +kernel
theorem dix_le (c : UInt8) : dix c ≤ 16 := by unfold dix; split <;> (try split) <;> omega
theorem dix_lt_ascii (c : UInt8) (h : dix c < 16) : c.toNat < 128 := by
  unfold dix at h
  split at h
  · omega
  · split at h
    · omega
    · omega
def dw (s : List UInt8) (i : Nat) : Nat := dix (s.getD i 0)
def full (s : List UInt8) (j : Nat) : UInt8 := UInt8.ofNat (16 * dw s (2 * j) + dw s (2 * j + 1))
def good (s : List UInt8) : Prop := s.length = 64 ∧ ∀ i, i < 64 → dw s i < 16
instance (s : List UInt8) : Decidable (good s) := by unfold good; infer_instance
def pairs (s : List UInt8) : List UInt8 := (List.range 32).map (full s)
/-- what a text is -/
def parse (s : List UInt8) : List UInt8 × Nat := if good s then (pairs s, 0) else (List.replicate 32 0, 4)
/-- .. behind i digits -/
def pp (s : List UInt8) (i : Nat) : List UInt8 := (List.range 32).map fun j => if 2 * j + 1 < i then full s j else if 2 * j < i then UInt8.ofNat (dw s (2 * j)) else 0
theorem pp_len (s : List UInt8) (i : Nat) : (pp s i).length = 32 := by simp [pp]
theorem pp_0 (s : List UInt8) : pp s 0 = List.replicate 32 0 := by
  apply List.ext_getElem?
  intro j
  by_cases hj : j < 32
  · rw [pp, List.getElem?_map, List.getElem?_range hj, List.getElem?_replicate, if_pos hj]
    simp
  · rw [List.getElem?_eq_none (by rw [pp_len]; omega), List.getElem?_eq_none (by simp; omega)]
theorem pp_64 (s : List UInt8) : pp s 64 = pairs s := by
  apply List.ext_getElem?
  intro j
  by_cases hj : j < 32
  · rw [pp, pairs, List.getElem?_map, List.getElem?_map, List.getElem?_range hj]
    simp only [Option.map_some]
    rw [if_pos (by omega)]
  · rw [List.getElem?_eq_none (by rw [pp_len]; omega), List.getElem?_eq_none (by simp [pairs]; omega)]
theorem pp_at (s : List UInt8) (i j : Nat) (hj : j < 32) : (pp s i).getD j 0 = if 2 * j + 1 < i then full s j else if 2 * j < i then UInt8.ofNat (dw s (2 * j)) else 0 := by
  rw [pp, List.getD_eq_getElem?_getD, List.getElem?_map, List.getElem?_range hj]
  rfl
/-- what stands at the place of the digit i, and what will stand there -/
def zat (s : List UInt8) (i : Nat) : Nat := if i % 2 = 0 then 0 else dw s (i - 1)
def vat (s : List UInt8) (i : Nat) : UInt8 := UInt8.ofNat (zat s i * 16 + dw s i)
theorem pp_zat (s : List UInt8) (i : Nat) (h : i < 64) (hd : ∀ k, k < i → dw s k < 16) : ((pp s i).getD (i / 2) 0).toNat = zat s i ∧ zat s i ≤ 15 := by
  rw [pp_at s i (i / 2) (by omega)]
  unfold zat
  by_cases hi : i % 2 = 0
  · rw [if_neg (by omega), if_neg (by omega), if_pos hi]
    exact ⟨rfl, by omega⟩
  · rw [if_neg (by omega), if_pos (by omega), if_neg hi, show 2 * (i / 2) = i - 1 by omega]
    have := hd (i - 1) (by omega)
    refine ⟨?_, by omega⟩
    rw [UInt8.toNat_ofNat', Nat.mod_eq_of_lt (by omega)]
theorem pp_set (s : List UInt8) (i : Nat) (h : i < 64) : (pp s i).set (i / 2) (vat s i) = pp s (i + 1) := by
  apply List.ext_getElem?
  intro j
  by_cases hj : j < 32
  · by_cases hij : j = i / 2
    · rw [hij, List.getElem?_set_self (by rw [pp_len]; omega)]
      rw [pp, List.getElem?_map, List.getElem?_range (by omega)]
      simp only [Option.map_some]
      unfold vat zat full
      by_cases hi : i % 2 = 0
      · rw [if_pos hi, if_neg (by omega), if_pos (by omega), show 2 * (i / 2) = i by omega, Nat.zero_mul, Nat.zero_add]
      · rw [if_neg hi, if_pos (by omega), show 2 * (i / 2) = i - 1 by omega, show i - 1 + 1 = i by omega, Nat.mul_comm]
    · rw [List.getElem?_set_ne (by omega), pp, pp, List.getElem?_map, List.getElem?_map, List.getElem?_range hj]
      simp only [Option.map_some]
      by_cases h1 : 2 * j + 1 < i
      · rw [if_pos h1, if_pos (by omega)]
      · rw [if_neg h1]
        by_cases h2 : 2 * j < i
        · omega
        · rw [if_neg h2, if_neg (by omega), if_neg (by omega)]
  · rw [List.getElem?_eq_none (by rw [List.length_set, pp_len]; omega), List.getElem?_eq_none (by rw [pp_len]; omega)]
theorem vat_nat (s : List UInt8) (i : Nat) (hz : zat s i ≤ 15) (hd : dw s i < 16) : bits .or .u8 ((zat s i : Int) * 16) (dw s i : Int) = ((vat s i).toNat : Int) := by
  have h := u8_or_nat (zat s i * 16) (dw s i) (by omega) (by omega)
  have e1 : ((zat s i * 16 : Nat) : Int) = (zat s i : Int) * 16 := by rw [Int.natCast_mul]; rfl
  rw [e1] at h
  rw [h]
  unfold vat
  rw [UInt8.toNat_ofNat', Nat.mod_eq_of_lt (by omega)]
  have := Nat.two_pow_add_eq_or_of_lt (i := 4) (b := dw s i) (by omega) (zat s i)
  rw [Nat.mul_comm (zat s i) 16, show (16 : Nat) = 2 ^ 4 from rfl, ← this]
theorem parse_good (s : List UInt8) (h : good s) : parse s = (pp s 64, 0) := by unfold parse; rw [if_pos h, pp_64]
theorem parse_bad (s : List UInt8) (h : ¬ good s) : parse s = (List.replicate 32 0, 4) := by unfold parse; rw [if_neg h]
end Hx
end Go.Proofs.YtlkcibhdnicpkaaDoor
/- A sum's digits are read, by the program. -/
namespace Go.Proofs.YtlkcibhdnicpkaaDoor
namespace Hx
open Go.RowKit Ba Sm
set_option linter.unusedVariables false
theorem ext_idx (args : Array Value) (w : World) : (callFunc 62 args).run Tryd.prog w = ((Extern.BytealgIndexByte.indexByte args).run Tryd.prog w).andThen fun v w' => .ok (.value v) w' :=
  run_callFunc_extern Tryd.func62 (by kernel_rfl) (by kernel_rfl) (by kernel_rfl) (by kernel_rfl) args w
theorem idx_calls (c : UInt8) (w : World) : Calls Tryd.prog 45 #[.string (S dg), .int .u8 (c.toNat : Int)] w fun e w' => e = .returned (.int .i64 (Lib.indexByte dg c)) ∧ w = w' := by
  have h1 := Lib.run_indexByteString (P := Tryd.prog) (S dg) (c.toNat : Int)
  have e1 : ((c.toNat : Int).toNat.toUInt8) = c := by simp
  rw [e1] at h1
  have e2 : (S dg).data.toList = dg := rfl
  rw [e2] at h1
  have h2 := ext_idx
  generalize Lib.indexByte dg c = ib at *
  generalize S dg = sd at *
  clear e1 e2
  go_enter Tryd.func45, Tryd.ntmps45
  go_wp2
  go_ret
  exact ⟨rfl, rfl⟩

/-- the walk over a text stands at this place -/
def setIter (w : World) (h : Nat) (s : ByteArray) (pos : Nat) : World := { w with heap := w.heap.setIfInBounds h (.stringIter s pos) }
section
variable {P : Program}
theorem setIter_size (w : World) (h : Nat) (s : ByteArray) (pos : Nat) : (setIter w h s pos).heap.size = w.heap.size := by simp [setIter]
theorem setIter_at (w : World) (h : Nat) (s : ByteArray) (pos : Nat) (hh : h < w.heap.size) : (setIter w h s pos).heap[h]? = some (.stringIter s pos) := by
  simp [setIter, hh]
theorem setIter_grown (w : World) (h : Nat) (s : ByteArray) (pos : Nat) : w.grownBy (setIter w h s pos) (some h) :=
  ⟨rfl, rfl, rfl, by simp [setIter], fun i hi hne => by
    have : h ≠ i := fun e => hne (by rw [e])
    simp [setIter, Array.getElem?_setIfInBounds_ne this]⟩
theorem run_next_at (w : World) (h : Nat) (s : ByteArray) (pos : Nat) (ty : TypeId) (hh : w.heap[h]? = some (.stringIter s pos)) (hp : pos < s.size) :
    (Instr.next (.pointer (some ⟨h, 0, none⟩)) true ty).run P w = .ok (.tuple #[.bool true, .int .i64 pos, .int .i32 ((Utf8.decode s pos).1 : Int)]) (setIter w h s (pos + (Utf8.decode s pos).2)) := by
  simp [Instr.next, getObj, setObj, Sem.run_bind, Sem.run, hh, Result.andThen, hp, setIter, goInt]
theorem run_next_stop (w : World) (h : Nat) (s : ByteArray) (pos : Nat) (ty : TypeId) (hh : w.heap[h]? = some (.stringIter s pos)) (hp : ¬ pos < s.size) :
    (Instr.next (.pointer (some ⟨h, 0, none⟩)) true ty).run P w = .ok (.tuple #[.bool false]) w := by
  simp [Instr.next, getObj, Sem.run, hh, hp]
end
end Hx
end Go.Proofs.YtlkcibhdnicpkaaDoor
