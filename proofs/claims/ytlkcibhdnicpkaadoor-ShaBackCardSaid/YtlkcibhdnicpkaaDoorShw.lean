/- What is written to a hasher. -/
import Derived.Test.YtlkcibhdnicpkaaDoorSh
import Derived.Deep.RegionWith
namespace Go.Proofs.YtlkcibhdnicpkaaDoor
namespace Sm
open Go.RowKit Ba
set_option linter.unusedVariables false
/-- a hasher whose remainder lies in block lo or behind it -/
def IsGL (w : World) (g : Nat) (s : List UInt32) (r : List UInt8) (n lo : Nat) : Prop :=
  ∃ A c, Blk w g 71 (wvs s ++ [Value.slice A r.length c, Value.int .i64 (n : Int)]).toArray ∧ s.length = 8 ∧ r.length ≤ c ∧ c ≤ 9223372036854775807 ∧ ReadT w 5 A r ∧ ∀ ad, A = some ad → lo ≤ ad.block
theorem IsGL.g {w : World} {g : Nat} {s : List UInt32} {r : List UInt8} {n lo : Nat} (h : IsGL w g s r n lo) : IsG w g s r n := by
  obtain ⟨A, c, h1, h2, h3, h4, h5, _⟩ := h
  exact ⟨A, c, h1, h2, h3, h4, h5⟩
theorem IsGL.weak {w : World} {g : Nat} {s : List UInt32} {r : List UInt8} {n lo lo' : Nat} (h : IsGL w g s r n lo) (hl : lo' ≤ lo) : IsGL w g s r n lo' := by
  obtain ⟨A, c, h1, h2, h3, h4, h5, h6⟩ := h
  exact ⟨A, c, h1, h2, h3, h4, h5, fun ad had => Nat.le_trans hl (h6 ad had)⟩
theorem IsGL.below {w w' : World} {g : Nat} {s : List UInt32} {r : List UInt8} {n lo : Nat} (h : IsGL w g s r n lo) (hb : Below w.heap.size w w') : IsGL w' g s r n lo := by
  obtain ⟨A, c, h1, h2, h3, h4, h5, h6⟩ := h
  exact ⟨A, c, h1.below hb h1.lt, h2, h3, h4, h5.below hb, h6⟩
/-- what one row's growth leaves, where the row lies ahead of the remainder -/
theorem IsGL.rowed {w w' : World} {g : Nat} {s : List UInt32} {r : List UInt8} {n lo : Nat} {row : Option Nat} (h : IsGL w g s r n lo) (hg : w.grownBy w' row) (hr : ∀ k, row = some k → g ≠ k ∧ k < lo) : IsGL w' g s r n lo := by
  obtain ⟨A, c, h1, h2, h3, h4, h5, h6⟩ := h
  refine ⟨A, c, h1.grown hg (fun e => (hr g e.symm).1 rfl), h2, h3, h4, fun hn => ?_, h6⟩
  obtain ⟨b, o, cs, e, hB, hc⟩ := h5 hn
  have hb : some b ≠ row := fun e2 => by have := (hr b e2.symm).2; have := h6 _ e; simp at this; omega
  exact ⟨b, o, cs, e, hB.grown hg hb, fun k hk => (World.cell?_of_block (hg.block b hB.lt hb)).trans (hc k hk)⟩
set_option maxRecDepth 100000 in
set_option maxHeartbeats 1000000 in
theorem writeL_calls (w : World) (g B : Nat) (l b : List UInt8) (A : Option Addr) (c : Nat) (h : IsH w g l) (hg : 0 < g) (htab : Tab w) (hr : ReadB w B A b) (hBg : B ≤ g) (hbc : b.length ≤ c) (hcm : c ≤ 9223372036854775807) (hbl : b.length ≤ 140737488351232) (hsum : l.length + b.length ≤ 4611686018427387904) :
    Calls Tryd.prog 17 #[.pointer (some ⟨g, 0, none⟩), .slice A b.length c] w fun e w' => e = .returned (.tuple #[]) ∧ IsGL w' g (st (l ++ b)) (rs (l ++ b)) (l ++ b).length w.heap.size ∧ w.grownBy w' (some g) := by
  obtain ⟨i0, hi0⟩ := isByte_of info5
  have Hi := Lib.hid hi0
  obtain ⟨A0, c0, h1, h2, h3, h4, h5⟩ := h
  have hc9 := cell9 h1 h2
  have hf9 := Blk.frozen h1 9
  have hrl := rs_len l
  have Hr := Lib.hid hr
  have Hrl := Lib.hid hrl
  have H1 := Lib.hid h1
  have H2 := Lib.hid h2
  have H5 := Lib.hid h5
  have Htab := Lib.hid htab
  have hgl := h1.lt
  have Hgl := Lib.hid hgl
  have hg1 := only_set w g 9 (.int .i64 ((l.length : Int) + (b.length : Int)))
  have h1' := set9 h1 h2 (.int .i64 ((l.length : Int) + (b.length : Int)))
  have H1' := Lib.hid h1'
  have Hg1 := Lib.hid hg1
  have H5' := Lib.hid (h5.grown hg1 h1 (by decide))
  have Hr' := Lib.hid (hr.setFar (p := ⟨g, 9, none⟩) hBg (.int .i64 ((l.length : Int) + (b.length : Int))))
  have hc8 := cell8 h1' h2
  have hlen : (rs l).length ≤ 63 := by omega
  clear hr hrl h1 h2 h5 htab hgl hi0 h1' hg1
  go_enter Tryd.func17, Tryd.ntmps17
  go_wp2_with fail
  refine (clone_calls (rs l) A0 c0 h3 (by omega) _ H5'.out.readB).mono ?_
  rintro e w2 ⟨v2, rfl, ho2, hb2⟩
  have hW1s : (w.setCell ⟨g, 9, none⟩ (.int .i64 ((l.length : Int) + (b.length : Int)))).heap.size = w.heap.size := by simp
  rw [hW1s] at ho2 hb2
  have hb2' : Below w.heap.size (w.setCell ⟨g, 9, none⟩ (.int .i64 ((l.length : Int) + (b.length : Int)))) w2 := hb2
  have H2b := Lib.hid (H1'.out.below hb2' Hgl.out)
  have Hr2 := Lib.hid (Hr'.out.below (hb2'.mono (by have := Hgl.out; omega)))
  have Hg2 := Lib.hid (only_trans Hg1.out (only_of_below (by rw [hW1s]; exact hb2') (some g)))
  have Ho2 := Lib.hid ho2
  have Hs2 := Lib.hid hb2.size
  rw [hW1s] at Hs2
  clear ho2 hb2 hb2' hW1s hc8 hc9 hf9 H1' Hr' Hg1 H5'
  go_wp2_with ((at_builtin; go_loud (refine wpList_appB _ rfl (.tmp 20) (.tmp 21) 22 rfl w.heap.size 5 i0 Tryd.underlying22 Hi.out v2 (rs l) rfl Ho2.out B A _ c b rfl rfl Hr2.out (by omega) Hs2.out ?_); intro v3 w3 ho3 _ _ hb3; have hB3 := H2b.out.below hb3 Hgl.out; have hc8 := cell8 hB3 H2.out; have hf8 := Blk.frozen hB3 8; have HB3 := Lib.hid hB3; have Ho3 := Lib.hid ho3; obtain ⟨A3, c3, rfl, q1, q2, q3, q4⟩ := ho3.opens; have Hq3 := Lib.hid q3; have Hq4 := Lib.hid q4; have Hb3 := Lib.hid hb3; clear hB3 hb3 ho3 q3 q4))
  have q5 := ReadT.of_own Ho3.out
  have hB4 := set8 HB3.out H2.out (.slice A3 (rs l ++ b).length c3)
  have hg4 : w.grownBy (w3.setCell ⟨g, 8, none⟩ (.slice A3 (rs l ++ b).length c3)) (some g) := only_trans (only_below Hg2.out Hb3.out) (only_set _ _ _ _)
  have q6 := q5.grown (only_set w3 g 8 (.slice A3 (rs l ++ b).length c3)) HB3.out (by decide)
  obtain ⟨a, ha⟩ : ∃ a, a = l ++ b := ⟨_, rfl⟩
  have hal : (l.length : Int) + (b.length : Int) = (a.length : Int) := by rw [ha, List.length_append]; omega
  have hst0 : IsGL (w3.setCell ⟨g, 8, none⟩ (.slice A3 ((rs l).length + b.length) c3)) g (stk a (l.length / 64)) (a.drop (64 * (l.length / 64))) a.length w.heap.size := by
    rw [ha, ← rs_append, ← st_append]
    rw [hal, ha] at hB4
    rw [← List.length_append]
    exact ⟨A3, c3, hB4, H2.out, q1, q2, q6, fun ad had => (Hq4.out ad had).1⟩
  have hle0 : 64 * (l.length / 64) ≤ a.length := by rw [ha, List.length_append]; omega
  rw [List.length_append] at hg4
  have Ha := Lib.hid ha
  have Hst0 := Lib.hid hst0
  have Hg4 := Lib.hid hg4
  clear hal hst0 hg4 q6 hB4 q5 q1 q2 Hq3 Hq4 Hb3 Ho3 HB3 hc8 hf8 Ho2 Hr2 H2b Hg2 Hs2 ha H5 H1 H2
  go_loopg [] (a.length - 64 * (l.length / 64)) (fun n wr => ∃ j : Nat, 64 * j ≤ a.length ∧ n = a.length - 64 * j ∧ IsGL wr g (stk a j) (a.drop (64 * j)) a.length w.heap.size ∧ w.grownBy wr (some g))
  case atStart => exact ⟨_, hle0, rfl, Hst0.out, Hg4.out⟩
  case round =>
    obtain ⟨j, hj, hgk, ⟨A5, c5, hB, hs, hrc, hcc, hT, hlo⟩, hgw⟩ := hrel
    have Hlo := Lib.hid hlo
    clear hlo
    have hc8 := cell8 hB hs
    obtain ⟨r, hr⟩ : ∃ r, r = a.drop (64 * j) := ⟨_, rfl⟩
    rw [← hr] at hB hrc hT hc8
    have hrlen : r.length = a.length - 64 * j := by rw [hr, List.length_drop]
    have HB := Lib.hid hB
    have Hs := Lib.hid hs
    have HT := Lib.hid hT
    have Hgw := Lib.hid hgw
    have Hgk := Lib.hid hgk
    have Hrr := Lib.hid hr
    have Hrlen := Lib.hid hrlen
    have hrm : r.length ≤ 9223372036854775807 := Nat.le_trans hrc hcc
    clear hB hs hT hgw hgk hr hrlen
    by_cases h64 : 64 ≤ r.length
    · obtain ⟨b5, o5, cs5, rfl, hb5, hc5⟩ := HT.out (by omega)
      have hwk : Calls Tryd.prog 44 #[.pointer (some ⟨g, 0, none⟩), .slice (some ⟨b5, o5, none⟩) 64 c5] wr.drew
          fun e w' => e = .returned (.tuple #[]) ∧ Blk w' g 71 (wvs (stk a (j + 1)) ++ [Value.slice (some ⟨b5, o5, none⟩) r.length c5, Value.int .i64 (a.length : Int)]).toArray ∧ wr.grownBy w' (some g) := by
        have hr64 : ReadB wr.drew wr.drew.heap.size (some ⟨b5, o5, none⟩) (r.take 64) := HT.out.readB.take 64
        refine (work_calls (stk a j) Hs.out g 71 _ (r.take 64) (by rw [List.length_take]; omega) (some ⟨b5, o5, none⟩) c5 (by omega) hcc wr.drew hr64 HB.out hg (Htab.out.grown (grown_drew Hgw.out) hg)).mono ?_
        rintro e w' ⟨h1, h2, h3⟩
        refine ⟨h1, ?_, undrew h3⟩
        rw [Hrr.out] at h2
        rw [Hrr.out]
        exact h2
      have Hwk := Lib.hid hwk
      clear hwk hb5 hc5
      have i1 : (0 : Int) ≤ 64 := by omega
      have i2 : (64 : Int) ≤ (c5 : Int) := by omega
      go_wp2_with fail
      go_region_with (go_at_call 44; refine Hwk.out.mono ?_; rintro e w5 ⟨rfl, hB5, hg5⟩)
      have k8 := cell8 hB5 (stk_len a (j + 1))
      have kf := Blk.frozen hB5 8
      have hT5 := HT.out.grown hg5 HB.out (by decide)
      have hfin : ∀ A' c', A' = (if c5 = 64 then (some ⟨b5, o5, none⟩) else (some ⟨b5, o5 + 64, none⟩)) → c' = c5 - 64 →
          IsGL (w5.setCell ⟨g, 8, none⟩ (.slice A' (r.length - 64) c')) g (stk a (j + 1)) (a.drop (64 * (j + 1))) a.length w.heap.size ∧ w.grownBy (w5.setCell ⟨g, 8, none⟩ (.slice A' (r.length - 64) c')) (some g) := by
        intro A' c' hA hc'
        have hs6 := only_set w5 g 8 (.slice A' (r.length - 64) c')
        have hB6 := set8 hB5 (stk_len a (j + 1)) (.slice A' (r.length - 64) c')
        have hT6 : ReadT w5 5 A' (r.drop 64) := by
          subst hA
          by_cases hc : c5 = 64
          · have : r.drop 64 = [] := by rw [List.drop_eq_nil_iff]; omega
            rw [this]
            exact ReadT.nil
          · rw [if_neg hc]
            exact hT5.drop 64
        have e : a.drop (64 * (j + 1)) = r.drop 64 := by rw [Hrr.out, drop_drop64]
        rw [e]
        refine ⟨⟨A', c', ?_, stk_len _ _, by rw [List.length_drop]; omega, by omega, hT6.grown hs6 hB5 (by decide), fun ad had => ?_⟩, only_trans (only_trans Hgw.out hg5) hs6⟩
        · rw [List.length_drop]
          exact hB6
        · have h0 := Hlo.out ⟨b5, o5, none⟩ rfl
          subst hA
          by_cases hc : c5 = 64
          · rw [if_pos hc] at had; injection had with had; subst had; exact h0
          · rw [if_neg hc] at had; injection had with had; subst had; exact h0
      have Hfin := Lib.hid hfin
      clear hB5 hT5 hg5 hfin
      by_cases hc64 : c5 = 64
      all_goals
        go_wp2
        go_roundg (a.length - 64 * (j + 1))
        case rel =>
          have := Hrlen.out
          exact ⟨j + 1, by omega, rfl, Hfin.out _ _ (by simp [hc64]) (by omega)⟩
        case measure =>
          have := Hgk.out
          have := Hrlen.out
          omega
    · go_wp2
      have hjj : j = a.length / 64 := by have := Hrlen.out; omega
      refine bodyPost_end (results_none rfl _ _ _) rfl ⟨rfl, ?_, Hgw.out⟩
      rw [← Ha.out]
      unfold st rs
      rw [← hjj, ← Hrr.out]
      exact ⟨A5, c5, HB.out, Hs.out, hrc, hcc, HT.out, Hlo.out⟩
theorem write_calls (w : World) (g B : Nat) (l b : List UInt8) (A : Option Addr) (c : Nat) (h : IsH w g l) (hg : 0 < g) (htab : Tab w) (hr : ReadB w B A b) (hBg : B ≤ g) (hbc : b.length ≤ c) (hcm : c ≤ 9223372036854775807) (hbl : b.length ≤ 140737488351232) (hsum : l.length + b.length ≤ 4611686018427387904) :
    Calls Tryd.prog 17 #[.pointer (some ⟨g, 0, none⟩), .slice A b.length c] w fun e w' => e = .returned (.tuple #[]) ∧ IsH w' g (l ++ b) ∧ w.grownBy w' (some g) :=
  (writeL_calls w g B l b A c h hg htab hr hBg hbc hcm hbl hsum).mono fun e w' ⟨h1, h2, h3⟩ => ⟨h1, h2.g, h3⟩
end Sm
end Go.Proofs.YtlkcibhdnicpkaaDoor
