/- The operation that bytes begin with, by the document. -/
import Derived.Test.YtiofkhjpknfkgaaK01
import Derived.Test.YtiofkhjpknfkgaaK02
import Derived.Test.YtiofkhjpknfkgaaK03
import Derived.Test.YtiofkhjpknfkgaaK04
import Derived.Test.YtiofkhjpknfkgaaK05
import Derived.Test.YtiofkhjpknfkgaaK06
import Derived.Test.YtiofkhjpknfkgaaK07
import Derived.Test.YtiofkhjpknfkgaaK08
import Derived.Test.YtiofkhjpknfkgaaK09
namespace Go.Proofs.Ytiofkhjpknfkgaa
namespace Dl
open Go.RowKit Ba Tm Dm Os_
set_option linter.unusedVariables false
theorem rone_results (tm : Array Value) (w : World) (N : Nat) (cs : Array Value) (hB : Blk w N 54 cs) (hs : cs.size = 4) (h4 : tm.getD 4 undef = .pointer (some ⟨N, 0, none⟩)) :
    (results Try.f31 tm).run Try.prog w = .ok (.tuple #[.agg cs, tm.getD 5 undef, tm.getD 6 undef]) w := by
  have l6 := run_loadVar_row (P := Try.prog) w N 54 54 cs (0, 0) _ hB Try.underlying54 rfl (by rw [hs]; kernel_rfl)
  simp only [Array.getD_eq_getD_getElem?] at h4
  simp [results, Try.results31, asAddr, h4, l6, Sem.run_bind]
/-- the result's cells and the operation's -/
def Fq (w : World) (N : Nat) (c : Bool) (p n : Int) (d : Value) : Prop := Blk w N 54 #[.bool false, .int .i64 0, .int .i64 0, .slice none 0 0] ∧ Blk w (N + 1) 54 #[.bool c, .int .i64 p, .int .i64 n, d]
section
variable {w w' : World} {N : Nat} {c : Bool} {p n : Int} {d : Value}
theorem Fq.below (h : Fq w N c p n d) (hb : Below w.heap.size w w') : Fq w' N c p n d := ⟨h.1.below hb h.1.lt, h.2.below hb h.2.lt⟩
theorem Fq.setc (h : Fq w N c p n d) (c' : Bool) : Fq (w.setCell ⟨N + 1, 0, none⟩ (.bool c')) N c' p n d := ⟨h.1.far (by simp) _, Blk.set_ h.2 0 _⟩
theorem Fq.setp (h : Fq w N c p n d) (p' : Int) : Fq (w.setCell ⟨N + 1, 1, none⟩ (.int .i64 p')) N c p' n d := ⟨h.1.far (by simp) _, Blk.set_ h.2 1 _⟩
theorem Fq.setn (h : Fq w N c p n d) (n' : Int) : Fq (w.setCell ⟨N + 1, 2, none⟩ (.int .i64 n')) N c p n' d := ⟨h.1.far (by simp) _, Blk.set_ h.2 2 _⟩
theorem Fq.setd (h : Fq w N c p n d) (d' : Value) : Fq (w.setCell ⟨N + 1, 3, none⟩ d') N c p n d' := ⟨h.1.far (by simp) _, Blk.set_ h.2 3 _⟩
theorem Fq.cells (h : Fq w N c p n d) : (w.cell? ⟨N + 1, 0, none⟩ = some (.bool c) ∧ w.cell? ⟨N + 1, 1, none⟩ = some (.int .i64 p) ∧ w.cell? ⟨N + 1, 2, none⟩ = some (.int .i64 n) ∧ w.cell? ⟨N + 1, 3, none⟩ = some d) ∧ (∀ i, w.frozen? ⟨N + 1, i, none⟩ = false) ∧ w.rangeAt (N + 1) 0 [.bool c, .int .i64 p, .int .i64 n, d] := by
  refine ⟨⟨by rw [Blk.cell h.2]; rfl, by rw [Blk.cell h.2]; rfl, by rw [Blk.cell h.2]; rfl, by rw [Blk.cell h.2]; rfl⟩, Blk.frozen h.2, fun j v hv => ?_⟩
  rw [Blk.cell h.2, Nat.zero_add]
  simpa using hv
end
theorem fq_new (w : World) : Fq ((w.alloc (.cells #[.bool false, .int .i64 0, .int .i64 0, .slice none 0 0] 54)).alloc (.cells #[.bool false, .int .i64 0, .int .i64 0, .slice none 0 0] 54)) w.heap.size false 0 0 (.slice none 0 0) ∧ Below w.heap.size w ((w.alloc (.cells #[.bool false, .int .i64 0, .int .i64 0, .slice none 0 0] 54)).alloc (.cells #[.bool false, .int .i64 0, .int .i64 0, .slice none 0 0] 54)) := by
  refine ⟨⟨(Blk.new w _ _).alloc _, ?_⟩, ((Below.refl _ _).alloc (Nat.le_refl _) _).alloc (by simp) _⟩
  have := Blk.new (w.alloc (.cells #[.bool false, .int .i64 0, .int .i64 0, .slice none 0 0] 54)) 54 #[.bool false, .int .i64 0, .int .i64 0, .slice none 0 0]
  simpa using this
def OnePost (w : World) (l : List UInt8) (old : Int) (r : Ending) (w' : World) : Prop :=
  Below w.heap.size w w' ∧ ∃ (D : Option Addr) (k : Nat), r = .returned (.tuple #[.agg (opv ((one l old).1, D, k)).toArray, .int .i64 ((one l old).2.1 : Int), .int .i64 (one l old).2.2]) ∧ WfT w' ((one l old).1, D, k)
theorem post_none {w w' : World} {l : List UInt8} {old e : Int} (hb : Below w.heap.size w w') (h : one l old = (none_, 0, e)) : OnePost w l old (.returned (.tuple #[.agg #[.bool false, .int .i64 0, .int .i64 0, .slice none 0 0], .int .i64 0, .int .i64 e])) w' := by
  refine ⟨hb, none, 0, by rw [h]; rfl, ?_⟩
  rw [h]
  exact ⟨by simp [none_], by simp [none_], by simp [none_], by simp, RT.nil⟩
set_option maxRecDepth 100000 in
set_option maxHeartbeats 16000000 in
theorem rone_calls (l : List UInt8) (A : Option Addr) (n c : Nat) (old : Int) (hn : n = l.length) (hn0 : 0 < n) (hlc : n ≤ c) (hcm : c ≤ 9223372036854775807) (hl40 : n ≤ 1099511627776) (ho : -9223372036854775808 ≤ old ∧ old ≤ 9223372036854775807) (w : World) (h : RT w A l) :
    Calls Try.prog 31 #[.slice A n c, .int .i64 old] w fun r w' => OnePost w l old r w' := by
  obtain ⟨x, t, rfl⟩ : ∃ x t, l = x :: t := by
    cases l with
    | nil => simp at hn; omega
    | cons x t => exact ⟨x, t, rfl⟩
  have Hn := Lib.hid hn
  obtain ⟨hf, hb⟩ := fq_new w
  have HF := Lib.hid hf
  have HB := Lib.hid hb
  have Hh := Lib.hid h
  obtain ⟨i0, hi0⟩ := isByte_of Vi.info5
  have Hi := Lib.hid hi0
  obtain ⟨b, o, hA, hbB, hxc⟩ := h.readB.head (by simp)
  subst hA
  have Hxb : Hid (∀ W' : World, Below w.heap.size w W' → W'.cell? ⟨b, o, none⟩ = some (.int .u8 (x.toNat : Int))) := Lib.hid fun W' hb => (hb.cell (p := ⟨b, o, none⟩) hbB).trans hxc
  obtain ⟨A1, hA1⟩ : ∃ A1, A1 = if c = 1 then (some ⟨b, o, none⟩ : Option Addr) else (some ⟨b, o, none⟩ : Option Addr).map (·.add 1) := ⟨_, rfl⟩
  obtain ⟨n1, hn1⟩ : ∃ n1, n1 = n - 1 := ⟨_, rfl⟩
  obtain ⟨c1, hc1⟩ : ∃ c1, c1 = c - 1 := ⟨_, rfl⟩
  have hsl := fun w' => sl_l (P := Try.prog) 22 5 i0 Try.underlying22 Hi.out (some ⟨b, o, none⟩) n c 1 1 rfl (by omega) w'
  have hr1 : RT w A1 t := by
    have := rt_cut h (k := 1) (cap := c) (by rw [← hn]; exact hlc)
    rw [← hA1] at this
    exact this
  rw [← hA1, ← hn1, ← hc1] at hsl
  have hl1 : n1 = t.length := by simp at hn; omega
  have hlc1 : n1 ≤ c1 := by omega
  have hcm1 : c1 ≤ 9223372036854775807 := by omega
  have hrs := fun W (h : ReadB W w.heap.size A1 t) => Vi.rshortest_calls t A1 c1 w.heap.size W h (by rw [← hl1]; exact hlc1) hcm1
  rw [← hl1] at hrs
  obtain ⟨hsb, hse, hsu⟩ := Vm.sh_facts t
  obtain ⟨s1, hS1⟩ : ∃ s1, s1 = (Vm.shortest t).1 := ⟨_, rfl⟩
  obtain ⟨u1, hU1⟩ : ∃ u1, u1 = (Vm.shortest t).2.1 := ⟨_, rfl⟩
  obtain ⟨e1, hE1⟩ : ∃ e1, e1 = (Vm.shortest t).2.2 := ⟨_, rfl⟩
  rw [← hS1, ← hU1, ← hE1] at hrs
  rw [← hS1] at hsb
  rw [← hE1] at hse hsu
  rw [← hU1, ← hl1] at hsu
  have HS1 := Lib.hid hS1
  have HU1 := Lib.hid hU1
  have HE1 := Lib.hid hE1
  have Hl1 := Lib.hid hl1
  have Hr1 := Lib.hid hr1
  have Hrs := Lib.hid hrs
  have Hn1 := Lib.hid hn1
  have Hse := Lib.hid hse
  have Hsu := Lib.hid hsu
  clear hn hf hb h hi0 hxc hA1 hr1 hl1 hrs hS1 hU1 hE1 hn1 hc1 hse hsu
  go_enter Try.func31, Try.ntmps31
  have hxb0 := Hxb.out _ HB.out
  have HX := Lib.hid HF.out.cells.2.2
  by_cases hx1 : x.toNat ≤ 1
  · have t1 : ¬ (1 : Int) < (x.toNat : Int) := by omega
    go_wp2_with fail
    generalize hWW : ((w.alloc (.cells #[.bool false, .int .i64 0, .int .i64 0, .slice none 0 0] 54)).alloc (.cells #[.bool false, .int .i64 0, .int .i64 0, .slice none 0 0] 54)) = W at *
    clear hWW
    obtain ⟨N, hN⟩ : ∃ N, N = w.heap.size := ⟨_, rfl⟩
    rw [← hN] at HF HX ⊢
    have HN := Lib.hid hN
    clear hN
    refine Calls.mono (Hrs.out _ (Hr1.out.readB.below HB.out)) ?_
    rintro e9 w9 ⟨rfl, rfl⟩
    clear t1 hsl hxb0 HX
    rcases Hse.out with he1 | he1 | he1
    · subst he1
      have hu1 := Hsu.out rfl
      have hxb1 := Hxb.out _ HB.out
      by_cases hx0 : x.toNat = 0
      · have hone := one_litE x t old hx0 HE1.out.symm
        rw [← HU1.out, ← HS1.out, List.length_drop, ← Hl1.out] at hone
        obtain ⟨p, hp⟩ : ∃ p, p = 1 + u1 := ⟨_, rfl⟩
        have hpi : (1 : Int) + (u1 : Int) = (p : Int) := by omega
        have hpn : p ≤ n := by have := Hn1.out; omega
        have hnp : n1 - u1 = n - p := by have := Hn1.out; omega
        rw [hnp] at hone
        have Hone := Lib.hid hone
        have Hp := Lib.hid hp
        have t5 : ((x.toNat : Int) == 0) = true := by simp [hx0]
        have t6 : (x.toNat : Int) = 0 := by omega
        clear hone hp hnp hx0 hx1
        by_cases ha : 65536 < s1
        · have ha2 : (65536 : Int) < (s1 : Int) := by omega
          have hone := Hone.out
          rw [if_pos ha] at hone
          have H0 := Lib.hid hone
          clear hone
          have HX := Lib.hid HF.out.cells.2.2
          go_wp2_with (first | (refine wpList_load_mid rfl 54 (.tmp 7) rfl (N + 1) 0 rfl [.bool false, .int .i64 0, .int .i64 0, .slice none 0 0] _ HX.out Try.underlying54 rfl (by kernel_rfl) ?_) | (refine Sm.wpList_store_blk rfl 54 (.tmp 4) (.tmp 43) rfl N 0 54 [] [.bool false, .int .i64 0, .int .i64 0, .slice none 0 0] [] [.bool false, .int .i64 0, .int .i64 0, .slice none 0 0] rfl rfl HF.out.1 rfl rfl (by kernel_rfl) (fun u hu => by simp only [List.mem_cons, List.not_mem_nil, or_false] at hu; rcases hu with rfl | rfl | rfl | rfl <;> rfl) ?_; intro w4 hS4 hg4))
          refine bodyPost_ret (rone_results _ w4 N #[.bool false, .int .i64 0, .int .i64 0, .slice none 0 0] (by simpa using hS4) rfl rfl) rfl ?_
          exact post_none (HB.out.trans (below_of_only hg4 (by rw [HN.out]; exact Nat.le_refl _) HB.out.size)) H0.out
        have ha2 : ¬ (65536 : Int) < (s1 : Int) := by omega
        by_cases hb : s1 = 0
        · have hb2 : ((s1 : Int) == 0) = true := by simp [hb]
          have hone := Hone.out
          rw [if_neg ha, if_pos hb] at hone
          have H0 := Lib.hid hone
          clear hone hb
          have HX := Lib.hid HF.out.cells.2.2
          go_wp2_with (first | (refine wpList_load_mid rfl 54 (.tmp 7) rfl (N + 1) 0 rfl [.bool false, .int .i64 0, .int .i64 0, .slice none 0 0] _ HX.out Try.underlying54 rfl (by kernel_rfl) ?_) | (refine Sm.wpList_store_blk rfl 54 (.tmp 4) (.tmp 47) rfl N 0 54 [] [.bool false, .int .i64 0, .int .i64 0, .slice none 0 0] [] [.bool false, .int .i64 0, .int .i64 0, .slice none 0 0] rfl rfl HF.out.1 rfl rfl (by kernel_rfl) (fun u hu => by simp only [List.mem_cons, List.not_mem_nil, or_false] at hu; rcases hu with rfl | rfl | rfl | rfl <;> rfl) ?_; intro w4 hS4 hg4))
          refine bodyPost_ret (rone_results _ w4 N #[.bool false, .int .i64 0, .int .i64 0, .slice none 0 0] (by simpa using hS4) rfl rfl) rfl ?_
          exact post_none (HB.out.trans (below_of_only hg4 (by rw [HN.out]; exact Nat.le_refl _) HB.out.size)) H0.out
        have hb2 : ((s1 : Int) == 0) = false := by simp [hb]
        have hb3 : ¬ (s1 : Int) = 0 := by omega
        by_cases hcc : n - p < s1
        · have hc2 : (n : Int) - (p : Int) < (s1 : Int) := by omega
          have hone := Hone.out
          rw [if_neg ha, if_neg hb, if_pos hcc] at hone
          have H0 := Lib.hid hone
          clear hone
          have HX := Lib.hid HF.out.cells.2.2
          go_wp2_with (first | (refine wpList_load_mid rfl 54 (.tmp 7) rfl (N + 1) 0 rfl [.bool false, .int .i64 0, .int .i64 0, .slice none 0 0] _ HX.out Try.underlying54 rfl (by kernel_rfl) ?_) | (refine Sm.wpList_store_blk rfl 54 (.tmp 4) (.tmp 55) rfl N 0 54 [] [.bool false, .int .i64 0, .int .i64 0, .slice none 0 0] [] [.bool false, .int .i64 0, .int .i64 0, .slice none 0 0] rfl rfl HF.out.1 rfl rfl (by kernel_rfl) (fun u hu => by simp only [List.mem_cons, List.not_mem_nil, or_false] at hu; rcases hu with rfl | rfl | rfl | rfl <;> rfl) ?_; intro w4 hS4 hg4))
          refine bodyPost_ret (rone_results _ w4 N #[.bool false, .int .i64 0, .int .i64 0, .slice none 0 0] (by simpa using hS4) rfl rfl) rfl ?_
          exact post_none (HB.out.trans (below_of_only hg4 (by rw [HN.out]; exact Nat.le_refl _) HB.out.size)) H0.out
        have hc2 : ¬ (n : Int) - (p : Int) < (s1 : Int) := by omega
        have hone := Hone.out
        rw [if_neg (by omega), if_neg (by omega), if_neg (by omega)] at hone
        obtain ⟨L, hL⟩ : ∃ L, L = (t.drop u1).take s1 := ⟨_, rfl⟩
        rw [← hL] at hone
        have hLl : L.length = s1 := by rw [hL, List.length_take, List.length_drop, ← Hl1.out]; have := Hn1.out; have := Hp.out; omega
        have hdr : (x :: t).drop p = t.drop u1 := by rw [Hp.out, Nat.add_comm 1 u1, List.drop_succ_cons]
        have hrL : ReadB W w.heap.size (some ⟨b, o + p, none⟩) L := by
          have := ((Hh.out.readB.below HB.out).drop p).take s1
          rw [hdr, ← hL] at this
          exact this
        have hps : p + s1 ≤ n := by omega
        have hsl := fun w' => sl_lh (P := Try.prog) 22 5 i0 Try.underlying22 Hi.out b o n c (p : Int) ((p : Int) + (s1 : Int)) p s1 rfl rfl (by omega) (by omega) w'
        have Hone2 := Lib.hid hone
        have HLl := Lib.hid hLl
        have HrL := Lib.hid hrL
        have hlit := OwnB.lit0 W 5 w.heap.size W.heap.size rfl HB.out.size
        have Hlit := Lib.hid hlit
        clear hone hLl hrL hL hdr hlit
        obtain ⟨⟨kd0, kd1, kd2, kd3⟩, kz, -⟩ := HF.out.cells
        go_wp2_with (first | (refine wpList_load_mid rfl 54 (.tmp 7) rfl (N + 1) 0 rfl [.bool false, .int .i64 0, .int .i64 0, .slice A5 s1 c5] _ HX6.out Try.underlying54 rfl (by kernel_rfl) ?_) | (refine Sm.wpList_store_blk rfl 54 (.tmp 4) (.tmp 65) rfl N 0 54 [] [.bool false, .int .i64 0, .int .i64 0, .slice none 0 0] [] [.bool false, .int .i64 0, .int .i64 0, .slice A5 s1 c5] rfl rfl HF6.out.1 rfl rfl (by kernel_rfl) (fun u hu => by simp only [List.mem_cons, List.not_mem_nil, or_false] at hu; rcases hu with rfl | rfl | rfl | rfl <;> rfl) ?_; intro w4 hS4 hg4) | (at_builtin; go_loud (refine wpList_appB _ rfl (.tmp 56) (.tmp 62) 22 rfl w.heap.size 5 i0 Try.underlying22 Hi.out _ _ rfl Hlit.out w.heap.size (some ⟨b, o + p, none⟩) s1 (c - p) L rfl HLl.out.symm (HrL.out.alloc HB.out.size _) (by rw [HLl.out]; simp; omega) (Nat.le_trans HB.out.size (by simp)) ?_); intro v5 w5 ho5 hg5 _ hb5; rw [List.nil_append] at ho5; obtain ⟨A5, c5, hv5, hp5, hm5, -, -⟩ := ho5.opens; subst hv5; have hgn : W.grownBy w5 none := CanF.grown_new rfl hg5; have hF5 : Fq w5 N false 0 0 (.slice none 0 0) := ⟨HF.out.1.grown hgn (by simp), HF.out.2.grown hgn (by simp)⟩; have HF5 := Lib.hid hF5; have HB5 : Hid (Below w.heap.size w w5) := Lib.hid ((HB.out.alloc HB.out.size _).trans hb5); have HR5 := Lib.hid (RT.of_own ho5); rw [HLl.out] at hp5 ⊢; have Hp5 := Lib.hid hp5; have Hm5 := Lib.hid hm5; clear ho5 hg5 hb5 hgn hF5 hp5 hm5 kd0 kd1 kd2 kd3 kz; obtain ⟨⟨kd0, kd1, kd2, kd3⟩, kz, -⟩ := HF5.out.cells; have HF6 : Hid (Fq (w5.setCell ⟨N + 1, 3, none⟩ (.slice A5 s1 c5)) N false 0 0 (.slice A5 s1 c5)) := Lib.hid (HF5.out.setd (.slice A5 s1 c5)); have HB6 : Hid (Below w.heap.size w (w5.setCell ⟨N + 1, 3, none⟩ (.slice A5 s1 c5))) := Lib.hid (HB5.out.setCell (by have := HN.out; simp; omega) _); have HR6 : Hid (RT (w5.setCell ⟨N + 1, 3, none⟩ (.slice A5 s1 c5)) A5 L) := Lib.hid (HR5.out.row (only_set w5 (N + 1) 3 (.slice A5 s1 c5)) (fun g hg => by injection hg with hg; subst hg; exact ⟨_, _, HF5.out.2, op_ne⟩)); have HX6 := Lib.hid HF6.out.cells.2.2))
        refine bodyPost_ret (rone_results _ w4 N #[.bool false, .int .i64 0, .int .i64 0, .slice A5 s1 c5] (by simpa using hS4) rfl rfl) rfl ?_
        have hr4 := HR6.out.row hg4 (fun g hg => by injection hg with hg; subst hg; exact ⟨_, _, HF6.out.1, op_ne⟩)
        refine ⟨HB6.out.trans (below_of_only hg4 (by rw [HN.out]; exact Nat.le_refl _) HB6.out.size), A5, c5, ?_, ?_⟩
        · rw [Hone2.out]
          simp only [lit, opv]
          simp [HLl.out, Hp.out]
        · rw [Hone2.out]
          exact ⟨⟨by simp [lit], by simp [lit]⟩, ⟨by simp [lit], by simp [lit]⟩, by rw [show (lit L).data.length = s1 from HLl.out]; exact Hp5.out, Hm5.out, hr4⟩
      · have hx2 : x.toNat = 1 := by omega
        have t5 : ((x.toNat : Int) == 0) = false := by simp [hx2]
        have t6 : ¬ (x.toNat : Int) = 0 := by omega
        obtain ⟨p, hp⟩ : ∃ p, p = 1 + u1 := ⟨_, rfl⟩
        have hpi : (1 : Int) + (u1 : Int) = (p : Int) := by omega
        obtain ⟨A2, hA2⟩ : ∃ A2, A2 = if c = p then (some ⟨b, o, none⟩ : Option Addr) else (some ⟨b, o, none⟩ : Option Addr).map (·.add p) := ⟨_, rfl⟩
        obtain ⟨n2, hn2⟩ : ∃ n2, n2 = n - p := ⟨_, rfl⟩
        obtain ⟨c2, hc2⟩ : ∃ c2, c2 = c - p := ⟨_, rfl⟩
        have hpn : p ≤ n := by have := Hn1.out; have := Hsu.out rfl; omega
        have hsl := fun w' => sl_l (P := Try.prog) 22 5 i0 Try.underlying22 Hi.out (some ⟨b, o, none⟩) n c (p : Int) p rfl hpn w'
        rw [← hA2, ← hn2, ← hc2] at hsl
        have hr2 : RT w A2 (t.drop u1) := by
          have := rt_cut Hh.out (k := p) (cap := c) (by rw [← Hn.out]; exact hlc)
          rw [← hA2, hp, Nat.add_comm 1 u1, List.drop_succ_cons] at this
          exact this
        have hl2 : n2 = (t.drop u1).length := by rw [List.length_drop, hn2, ← Hl1.out, Hn1.out, hp]; omega
        have hlc2 : n2 ≤ c2 := by omega
        have hcm2 : c2 ≤ 9223372036854775807 := by omega
        have hrs2 := fun W (h : ReadB W w.heap.size A2 (t.drop u1)) => Vi.rshortest_calls (t.drop u1) A2 c2 w.heap.size W h (by rw [← hl2]; exact hlc2) hcm2
        rw [← hl2] at hrs2
        obtain ⟨hsb2, hse2, hsu2⟩ := Vm.sh_facts (t.drop u1)
        have hone := one_cp x t old hx2 HE1.out.symm
        rw [← HU1.out, ← HS1.out] at hone
        have hbad := fun h => one_bad2 x t old hx2 HE1.out.symm h
        rw [← HU1.out] at hbad
        obtain ⟨s2, hS2⟩ : ∃ s2, s2 = (Vm.shortest (t.drop u1)).1 := ⟨_, rfl⟩
        obtain ⟨u2, hU2⟩ : ∃ u2, u2 = (Vm.shortest (t.drop u1)).2.1 := ⟨_, rfl⟩
        obtain ⟨e2, hE2⟩ : ∃ e2, e2 = (Vm.shortest (t.drop u1)).2.2 := ⟨_, rfl⟩
        rw [← hS2, ← hU2, ← hE2] at hrs2 hone
        rw [← hE2] at hbad
        rw [← hS2] at hsb2
        rw [← hE2] at hse2 hsu2
        rw [← hU2, ← hl2] at hsu2
        have Hrs2 := Lib.hid hrs2
        have Hone := Lib.hid hone
        have Hbad := Lib.hid hbad
        have Hse2 := Lib.hid hse2
        have Hsu2 := Lib.hid hsu2
        have Hp := Lib.hid hp
        have Hr2 := Lib.hid hr2
        have Hn2 := Lib.hid hn2
        clear hA2 hn2 hc2 hr2 hl2 hrs2 hone hbad hS2 hU2 hE2 hse2 hsu2 hp hx2 hx0 hx1
        obtain ⟨⟨kd0, kd1, kd2, kd3⟩, kz, -⟩ := HF.out.cells
        have HF3 : Hid (Fq ((W.setCell ⟨N + 1, 0, none⟩ (.bool true)).setCell ⟨N + 1, 1, none⟩ (.int .i64 (s1 : Int))) N true (s1 : Int) 0 (.slice none 0 0)) := Lib.hid ((HF.out.setc true).setp (s1 : Int))
        have HB3 : Hid (Below w.heap.size w ((W.setCell ⟨N + 1, 0, none⟩ (.bool true)).setCell ⟨N + 1, 1, none⟩ (.int .i64 (s1 : Int)))) := Lib.hid ((HB.out.setCell (by have := HN.out; simp; omega) _).setCell (by have := HN.out; simp; omega) _)
        have hxb1 := Hxb.out _ HB.out
        go_wp2_with fail
        refine Calls.mono (Hrs2.out _ (Hr2.out.readB.below HB3.out)) ?_
        rintro e9 w9 ⟨rfl, rfl⟩
        clear kd0 kd1 kd2 kd3 kz
        clear t5 t6 hsl hxb1 hpi
        rcases Hse2.out with he2 | he2 | he2
        · subst he2
          have hone := Hone.out
          rw [if_neg (by omega), if_neg (by omega)] at hone
          have hmv : may (cp (s1 : Int) (s2 : Int)) old = mayv true (s1 : Int) (s2 : Int) 0 old := rfl
          rw [hmv] at hone
          have Hone := Lib.hid hone
          have hu2 := Hsu2.out rfl
          have hpn2 : p + u2 ≤ 1099511627776 := by have := Hn2.out; omega
          clear hone hmv
          obtain ⟨⟨kd0, kd1, kd2, kd3⟩, kz, -⟩ := HF3.out.cells
          have HF4 : Hid (Fq (((W.setCell ⟨N + 1, 0, none⟩ (.bool true)).setCell ⟨N + 1, 1, none⟩ (.int .i64 (s1 : Int))).setCell ⟨N + 1, 2, none⟩ (.int .i64 (s2 : Int))) N true (s1 : Int) (s2 : Int) (.slice none 0 0)) := Lib.hid (HF3.out.setn (s2 : Int))
          have HB4 : Hid (Below w.heap.size w (((W.setCell ⟨N + 1, 0, none⟩ (.bool true)).setCell ⟨N + 1, 1, none⟩ (.int .i64 (s1 : Int))).setCell ⟨N + 1, 2, none⟩ (.int .i64 (s2 : Int)))) := Lib.hid (HB3.out.setCell (by have := HN.out; simp; omega) _)
          have hmc := fun w => rmay_calls true (s1 : Int) (s2 : Int) none 0 0 old (by omega) (by omega) ho (by omega) w
          have Hmc := Lib.hid hmc
          clear hmc
          have HX4 := Lib.hid HF4.out.cells.2.2
          go_wp2_with (refine wpList_load_mid rfl 54 (.tmp 7) rfl (N + 1) 0 rfl [.bool true, .int .i64 (s1 : Int), .int .i64 (s2 : Int), .slice none 0 0] _ HX4.out Try.underlying54 rfl (by kernel_rfl) ?_)
          clear kd0 kd1 kd2 kd3 kz
          refine Calls.mono (Hmc.out _) ?_
          rintro e7 w7 ⟨rfl, hb7⟩
          have HF7 := Lib.hid (HF4.out.below hb7)
          have HB7 := Lib.hid (HB4.out.trans (hb7.mono HB4.out.size))
          clear hb7 HX4
          by_cases hv : mayv true (s1 : Int) (s2 : Int) 0 old = true
          · rw [hv]
            have hone := Hone.out
            rw [if_pos hv] at hone
            have Hone := Lib.hid hone
            clear hv hone
            have HX := Lib.hid HF7.out.cells.2.2
            go_wp2_with (first | (refine wpList_load_mid rfl 54 (.tmp 7) rfl (N + 1) 0 rfl [.bool true, .int .i64 (s1 : Int), .int .i64 (s2 : Int), .slice none 0 0] _ HX.out Try.underlying54 rfl (by kernel_rfl) ?_) | (refine Sm.wpList_store_blk rfl 54 (.tmp 4) (.tmp 95) rfl N 0 54 [] [.bool false, .int .i64 0, .int .i64 0, .slice none 0 0] [] [.bool true, .int .i64 (s1 : Int), .int .i64 (s2 : Int), .slice none 0 0] rfl rfl HF7.out.1 rfl rfl (by kernel_rfl) (fun u hu => by simp only [List.mem_cons, List.not_mem_nil, or_false] at hu; rcases hu with rfl | rfl | rfl | rfl <;> rfl) ?_; intro w4 hS4 hg4))
            refine bodyPost_ret (rone_results _ w4 N #[.bool true, .int .i64 (s1 : Int), .int .i64 (s2 : Int), .slice none 0 0] (by simpa using hS4) rfl rfl) rfl ?_
            have hre : (p : Int) + (u2 : Int) = ((1 + u1 + u2 : Nat) : Int) := by rw [Hp.out]; omega
            refine ⟨HB7.out.trans (below_of_only hg4 (by rw [HN.out]; exact Nat.le_refl _) HB7.out.size), none, 0, ?_, ?_⟩
            · rw [Hone.out]
              simp only [cp, opv]
              simp [Hp.out]
            · rw [Hone.out]
              exact ⟨⟨by first | (simp [cp]; done) | (simp [cp]; omega), by first | (simp [cp]; done) | (simp [cp]; omega)⟩, ⟨by first | (simp [cp]; done) | (simp [cp]; omega), by first | (simp [cp]; done) | (simp [cp]; omega)⟩, by simp [cp], by simp, RT.nil⟩
          · have hv2 : mayv true (s1 : Int) (s2 : Int) 0 old = false := by simpa using hv
            rw [hv2]
            have hone := Hone.out
            rw [if_neg hv] at hone
            have H0 := Lib.hid hone
            clear hone hv hv2

            go_wp2_with (first | (refine Sm.wpList_store_blk rfl 54 (.tmp 4) (.tmp 94) rfl N 0 54 [] [.bool false, .int .i64 0, .int .i64 0, .slice none 0 0] [] [.bool false, .int .i64 0, .int .i64 0, .slice none 0 0] rfl rfl HF7.out.1 rfl rfl (by kernel_rfl) (fun u hu => by simp only [List.mem_cons, List.not_mem_nil, or_false] at hu; rcases hu with rfl | rfl | rfl | rfl <;> rfl) ?_; intro w4 hS4 hg4))
            refine bodyPost_ret (rone_results _ w4 N #[.bool false, .int .i64 0, .int .i64 0, .slice none 0 0] (by simpa using hS4) rfl rfl) rfl ?_
            exact post_none (HB7.out.trans (below_of_only hg4 (by rw [HN.out]; exact Nat.le_refl _) HB7.out.size)) H0.out
        · have h0 := Hbad.out (by rw [he2]; simp)
          rw [he2] at h0
          have h0 : one (x :: t) old = (none_, 0, 0) := h0
          have H0 := Lib.hid h0
          have t7 : ¬ e2 = 0 := by omega
          have t8 : (e2 == 4) = false := by simp [he2]
          have t9 : (e2 != 0) = true := by simp [he2]
          clear h0 he2

          go_wp2_with (first | (refine Sm.wpList_store_blk rfl 54 (.tmp 4) (.tmp 87) rfl N 0 54 [] [.bool false, .int .i64 0, .int .i64 0, .slice none 0 0] [] [.bool false, .int .i64 0, .int .i64 0, .slice none 0 0] rfl rfl HF3.out.1 rfl rfl (by kernel_rfl) (fun u hu => by simp only [List.mem_cons, List.not_mem_nil, or_false] at hu; rcases hu with rfl | rfl | rfl | rfl <;> rfl) ?_; intro w4 hS4 hg4))
          refine bodyPost_ret (rone_results _ w4 N #[.bool false, .int .i64 0, .int .i64 0, .slice none 0 0] (by simpa using hS4) rfl rfl) rfl ?_
          exact post_none (HB3.out.trans (below_of_only hg4 (by rw [HN.out]; exact Nat.le_refl _) HB3.out.size)) H0.out
        · have h0 := Hbad.out (by rw [he2]; simp)
          rw [he2] at h0
          have h0 : one (x :: t) old = (none_, 0, 4) := h0
          have H0 := Lib.hid h0
          have t8 : (e2 == 4) = true := by simp [he2]
          clear h0 he2

          go_wp2_with (first | (refine Sm.wpList_store_blk rfl 54 (.tmp 4) (.tmp 83) rfl N 0 54 [] [.bool false, .int .i64 0, .int .i64 0, .slice none 0 0] [] [.bool false, .int .i64 0, .int .i64 0, .slice none 0 0] rfl rfl HF3.out.1 rfl rfl (by kernel_rfl) (fun u hu => by simp only [List.mem_cons, List.not_mem_nil, or_false] at hu; rcases hu with rfl | rfl | rfl | rfl <;> rfl) ?_; intro w4 hS4 hg4))
          refine bodyPost_ret (rone_results _ w4 N #[.bool false, .int .i64 0, .int .i64 0, .slice none 0 0] (by simpa using hS4) rfl rfl) rfl ?_
          exact post_none (HB3.out.trans (below_of_only hg4 (by rw [HN.out]; exact Nat.le_refl _) HB3.out.size)) H0.out
    · have h0 := one_bad1 x t old hx1 (by rw [← HE1.out, he1]; simp)
      rw [← HE1.out, he1] at h0
      have h0 : one (x :: t) old = (none_, 0, 0) := h0
      have H0 := Lib.hid h0
      have t8 : (e1 == 4) = false := by simp [he1]
      have t9 : (e1 != 0) = true := by simp [he1]
      have t7 : ¬ e1 = 0 := by omega
      clear h0 he1
      have HX := Lib.hid HF.out.cells.2.2
      go_wp2_with (first | (refine wpList_load_mid rfl 54 (.tmp 7) rfl (N + 1) 0 rfl [.bool false, .int .i64 0, .int .i64 0, .slice none 0 0] _ HX.out Try.underlying54 rfl (by kernel_rfl) ?_) | (refine Sm.wpList_store_blk rfl 54 (.tmp 4) (.tmp 33) rfl N 0 54 [] [.bool false, .int .i64 0, .int .i64 0, .slice none 0 0] [] [.bool false, .int .i64 0, .int .i64 0, .slice none 0 0] rfl rfl HF.out.1 rfl rfl (by kernel_rfl) (fun u hu => by simp only [List.mem_cons, List.not_mem_nil, or_false] at hu; rcases hu with rfl | rfl | rfl | rfl <;> rfl) ?_; intro w4 hS4 hg4))
      refine bodyPost_ret (rone_results _ w4 N #[.bool false, .int .i64 0, .int .i64 0, .slice none 0 0] (by simpa using hS4) rfl rfl) rfl ?_
      exact post_none (HB.out.trans (below_of_only hg4 (by rw [HN.out]; exact Nat.le_refl _) HB.out.size)) H0.out
    · have h0 := one_bad1 x t old hx1 (by rw [← HE1.out, he1]; simp)
      rw [← HE1.out, he1] at h0
      have h0 : one (x :: t) old = (none_, 0, 4) := h0
      have H0 := Lib.hid h0
      have t8 : (e1 == 4) = true := by simp [he1]
      clear h0 he1
      have HX := Lib.hid HF.out.cells.2.2
      go_wp2_with (first | (refine wpList_load_mid rfl 54 (.tmp 7) rfl (N + 1) 0 rfl [.bool false, .int .i64 0, .int .i64 0, .slice none 0 0] _ HX.out Try.underlying54 rfl (by kernel_rfl) ?_) | (refine Sm.wpList_store_blk rfl 54 (.tmp 4) (.tmp 29) rfl N 0 54 [] [.bool false, .int .i64 0, .int .i64 0, .slice none 0 0] [] [.bool false, .int .i64 0, .int .i64 0, .slice none 0 0] rfl rfl HF.out.1 rfl rfl (by kernel_rfl) (fun u hu => by simp only [List.mem_cons, List.not_mem_nil, or_false] at hu; rcases hu with rfl | rfl | rfl | rfl <;> rfl) ?_; intro w4 hS4 hg4))
      refine bodyPost_ret (rone_results _ w4 N #[.bool false, .int .i64 0, .int .i64 0, .slice none 0 0] (by simpa using hS4) rfl rfl) rfl ?_
      exact post_none (HB.out.trans (below_of_only hg4 (by rw [HN.out]; exact Nat.le_refl _) HB.out.size)) H0.out
  · have t1 : (1 : Int) < (x.toNat : Int) := by omega
    have h0 := one_big x t old hx1
    have H0 := Lib.hid h0
    clear h0 hsl
    go_wp2_with (first | (refine wpList_load_mid rfl 54 (.tmp 7) rfl (w.heap.size + 1) 0 rfl [.bool false, .int .i64 0, .int .i64 0, .slice none 0 0] _ HX.out Try.underlying54 rfl (by kernel_rfl) ?_) | (refine Sm.wpList_store_blk rfl 54 (.tmp 4) (.tmp 18) rfl w.heap.size 0 54 [] [.bool false, .int .i64 0, .int .i64 0, .slice none 0 0] [] [.bool false, .int .i64 0, .int .i64 0, .slice none 0 0] rfl rfl HF.out.1 rfl rfl (by kernel_rfl) (fun u hu => by simp only [List.mem_cons, List.not_mem_nil, or_false] at hu; rcases hu with rfl | rfl | rfl | rfl <;> rfl) ?_; intro w4 hS4 hg4))
    refine bodyPost_ret (rone_results _ w4 w.heap.size #[.bool false, .int .i64 0, .int .i64 0, .slice none 0 0] (by simpa using hS4) rfl rfl) rfl ?_
    exact post_none (HB.out.trans (below_of_only hg4 (Nat.le_refl _) HB.out.size)) H0.out

end Dl
end Go.Proofs.Ytiofkhjpknfkgaa
