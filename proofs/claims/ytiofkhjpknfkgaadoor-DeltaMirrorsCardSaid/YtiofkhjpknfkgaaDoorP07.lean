/- An index is made of sums. -/
import Derived.Test.YtiofkhjpknfkgaaDoorP01
import Derived.Test.YtiofkhjpknfkgaaDoorP02
import Derived.Test.YtiofkhjpknfkgaaDoorP03
import Derived.Test.YtiofkhjpknfkgaaDoorP04
import Derived.Test.YtiofkhjpknfkgaaDoorP05
import Derived.Test.YtiofkhjpknfkgaaDoorP06
import Derived.Laws.Cover2
import Derived.Test.YtiofkhjpknfkgaaDoorProg
import Derived.WalkKit
import Derived.KernelRfl
import Derived.RowKit3
import Derived.WalkSpells
import Derived.Lib.Hide
import Derived.Deep.LoopGhost
namespace Go.Proofs.YtiofkhjpknfkgaaDoor
namespace Bk
open Go.RowKit Ba Sm Ro
set_option linter.unusedVariables false
set_option maxRecDepth 100000 in
set_option maxHeartbeats 1000000 in
theorem new_bad (size n : Int) (A : Option Addr) (m c : Nat) (hs : -9223372036854775808 ≤ size ∧ size ≤ 9223372036854775807) (hn : -9223372036854775808 ≤ n ∧ n ≤ 9223372036854775807) (hm : m ≤ 9223372036854775807) (w : World) (q : Int) (hq : check size n m = q) (h0 : q ≠ 0) :
    Calls Tryd.prog 15 #[.int .i64 size, .int .i64 n, .slice A m c] w fun e w' => e = .returned (.tuple #[.pointer none, .int .i64 q]) ∧ w = w' := by
  have hc := fun w => check_calls size n A m c hs hn hm w
  rw [hq] at hc
  have Hc := Lib.hid hc
  clear hc
  go_enter Tryd.func15, Tryd.ntmps15
  go_wp2_with (go_at_call 41; refine (Hc.out _).mono ?_; rintro e w1 ⟨rfl, rfl⟩)
  go_ret2
  exact ⟨rfl, rfl⟩
set_option maxRecDepth 100000 in
set_option maxHeartbeats 4000000 in
theorem new_good (z : Nat) (n : Int) (l : List Sg) (A : Option Addr) (c : Nat) (hn : -9223372036854775808 ≤ n ∧ n ≤ 9223372036854775807) (w : World) (hq : check (z : Int) n l.length = 0) (hr : ReadRow sgv 33 w w.heap.size A l) (hwf : ∀ s ∈ l, WfS s) :
    Calls Tryd.prog 15 #[.int .i64 (z : Int), .int .i64 n, .slice A l.length c] w
      fun e w' => ∃ g, e = .returned (.tuple #[.pointer (some ⟨g, 0, none⟩), .int .i64 0]) ∧ w.heap.size ≤ g ∧ IsX w' g z l ∧ Below w.heap.size w w' := by
  have hb : 1 ≤ z ∧ z ≤ 4096 ∧ l.length ≤ 4096 := by
    unfold check at hq
    split at hq
    · omega
    · split at hq
      · omega
      · split at hq <;> omega
  obtain ⟨hz1, hz2, hl1⟩ := hb
  have hc := fun w => check_calls (z : Int) n A l.length c (by omega) hn (by omega) w
  rw [hq] at hc
  have Hc := Lib.hid hc
  obtain ⟨N, hN⟩ : ∃ N, N = l.length := ⟨_, rfl⟩
  rw [← hN] at Hc hl1 ⊢
  have HN := Lib.hid hN
  have Hr := Lib.hid hr
  have Hwf := Lib.hid hwf
  have hmm := @run_makeMap Tryd.prog
  obtain ⟨i0, hi0⟩ := isRec_of infoSt
  have Hi := Lib.hid hi0
  clear hc hN hr hwf hq hi0
  go_enter Tryd.func15, Tryd.ntmps15
  go_wp2_with (go_at_call 41; refine (Hc.out _).mono ?_; rintro e w1 ⟨rfl, rfl⟩)
  have hG0 : IsG ((w.alloc (.map #[] 0)).alloc (.cells #[.int .i64 (z : Int), .int .i64 (N : Int), .map (some w.heap.size)] 79)) (w.heap.size + 2) w.heap.size 0 (grpK z l 0) :=
    IsG.made w _ (w.heap.size + 2) ((Below.refl _ _).alloc (by simp) _) (by omega) (by simp)
  have hX0 : Blk ((w.alloc (.map #[] 0)).alloc (.cells #[.int .i64 (z : Int), .int .i64 (N : Int), .map (some w.heap.size)] 79)) (w.heap.size + 1) 79 #[.int .i64 (z : Int), .int .i64 (N : Int), .map (some w.heap.size)] := by
    have := heap_alloc_new (w.alloc (.map #[] 0)) (.cells #[.int .i64 (z : Int), .int .i64 (N : Int), .map (some w.heap.size)] 79)
    simpa [Blk] using this
  have hB0 : Below w.heap.size w ((w.alloc (.map #[] 0)).alloc (.cells #[.int .i64 (z : Int), .int .i64 (N : Int), .map (some w.heap.size)] 79)) := ((Below.refl _ _).alloc (Nat.le_refl _) _).alloc (by simp) _
  have HG0 := Lib.hid hG0
  have HX0 := Lib.hid hX0
  have HB0 := Lib.hid hB0
  clear hG0 hX0 hB0
  go_loopg [27] N (fun q v27 wr => ∃ (k m : Nat), k ≤ N ∧ q = N - k ∧ v27 = .int .i64 (k : Int) ∧ m ≤ k ∧ Blk wr (w.heap.size + 1) 79 #[.int .i64 (z : Int), .int .i64 (N : Int), .map (some w.heap.size)] ∧ IsG wr (w.heap.size + 2) w.heap.size m (grpK z l k) ∧ Below w.heap.size w wr)
  case atStart => exact ⟨0, 0, by omega, rfl, rfl, by omega, HX0.out, HG0.out, HB0.out⟩
  case round =>
    obtain ⟨k, m, hk, hq, rfl, hmk, hX, hG, hB⟩ := hrel
    have Hq := Lib.hid hq
    have HX := Lib.hid hX
    have HG := Lib.hid hG
    have HB := Lib.hid hB
    clear hq hX hG hB HX0 HG0 HB0
    by_cases hkn : k < N
    · have t1 : decide ((k : Int) < (N : Int)) = true := by rw [decide_eq_true_eq]; omega
      obtain ⟨b1, o1, rfl, hb1, hc1⟩ := Hr.out.at_ (sg_get (l := l) (k := k) (by rw [← HN.out]; exact hkn))
      obtain ⟨x1, x2, hx⟩ : ∃ x1 x2, sg l k = (x1, x2) := ⟨_, _, rfl⟩
      have hw : WfS (x1, x2) := by rw [← hx]; exact Hwf.out _ (List.mem_of_getElem? (sg_get (l := l) (k := k) (by rw [← HN.out]; exact hkn)))
      rw [hx] at hc1
      have HC1 : Hid (wr.rangeAt b1 (o1 + k * 33) (sgv (x1, x2))) := Lib.hid fun j v hv => (HB.out.cell (p := ⟨b1, o1 + k * 33 + j, none⟩) hb1).trans (hc1 j v hv)
      have Hl2 : Hid (x2.length = 32) := Lib.hid hw.2
      have hx32 : x1 < 4294967296 := hw.1
      have Hx := Lib.hid hx
      clear hc1 hb1 hw hx
      go_wp2_with (first
        | (refine wpList_load_mid rfl 60 (.tmp 30) rfl b1 (o1 + k * 33) rfl (sgv (x1, x2)) _ HC1.out Tryd.underlying60 rfl (by rw [sgv_len Hl2.out]; kernel_rfl) ?_)
        | (refine wpList_store_blk rfl 60 (.tmp 11) (.tmp 31) rfl wr.heap.size 0 60 [] (.int .u32 0 :: List.replicate 32 (.int .u8 0)) [] (sgv (x1, x2)) rfl rfl (heap_alloc_new _ _) rfl (by rw [sgv_len Hl2.out]; rfl) (by rw [sgv_len Hl2.out]; kernel_rfl) (sgv_one _) ?_; intro w2 hS2 hg2))
      have hb2 : Below wr.heap.size wr w2 := only_after ((Below.refl _ _).alloc (Nat.le_refl _) _) hg2 (Nat.le_refl _)
      have hgs := hS2.lt
      obtain ⟨f, v, hvf, hsome, hM, hO, hbm, hbs, hback⟩ := HG.out.at_ hx32
      have hS : Hid (w2.drew.rangeAt wr.heap.size 0 (sgv (x1, x2))) := Lib.hid (show w2.rangeAt wr.heap.size 0 (sgv (x1, x2)) from Blk.range [] (sgv (x1, x2)) [] hS2)
      have HX2 := Lib.hid ((HX.out.below hb2 HX.out.lt).drew)
      have HB2 := Lib.hid ((HB.out.trans (hb2.mono HB.out.size)).drew)
      have HM2 : Hid (IsM Tryd.prog 56 w2.drew w.heap.size m f) := Lib.hid (hM.below hb2.drew hM.lt)
      have HO2 := Lib.hid ((hO.keptB hb2).drew)
      have Hg2 := Lib.hid (only_of_below hb2.drew v.ownBlock)
      have Hv : Hid (∀ q, v.ownBlock = some q → w.heap.size + 2 ≤ q ∧ q < wr.heap.size) := Lib.hid (fun q hq => hO.ge q hq)
      have Hback := Lib.hid hback
      have Hgs : Hid (wr.heap.size < w2.drew.heap.size) := Lib.hid hgs
      have hwrs : w.heap.size + 2 ≤ wr.heap.size := hbs
      have hlk : ∀ w', IsM Tryd.prog 56 w' w.heap.size m f → (Instr.lookup 77 (.map (some w.heap.size)) (.int .u32 (x1 : Int)) false).run Tryd.prog w' = .ok v w' := fun w' h => by
        rw [hvf]
        exact h.look Tryd.underlying56 Tryd.underlying77 (zeroE w') hx32
      obtain ⟨i, hi⟩ : ∃ i, k * z = i := ⟨_, rfl⟩
      have hi2 : (k : Int) * (z : Int) = (i : Int) := by rw [← hi, Int.natCast_mul]
      have hi3 : i ≤ 16777216 := by rw [← hi]; exact Nat.mul_le_mul (show k ≤ 4096 by omega) hz2
      have hiw : IntKind.i64.wrap (i : Int) = (i : Int) := by rw [IntKind.wrap_i64]; omega
      have Hik := Lib.hid hi
      have hlen := grpK_len z l k x1
      obtain ⟨G, hG⟩ : ∃ G, G = grpK z l k x1 := ⟨_, rfl⟩
      rw [← hG] at hlen HO2 Hback
      have HGx := Lib.hid hG
      have hl2 : (stv (x2, i)).length = 33 := stv_len Hl2.out
      have Hl3 := Lib.hid hl2
      clear hvf hsome hM hO hbm hbs hback hb2 hgs hS2 hg2 HX HG HB HC1 hi hG hl2
      go_wp2_with fail
      have hF0 : w2.drew.cell? ⟨w.heap.size + 1, 2, none⟩ = some (.map (some w.heap.size)) := by rw [Blk.cell HX2.out]; rfl
      refine CanT.region (fun w' => w'.cell? ⟨w.heap.size + 1, 2, none⟩ = some (.map (some w.heap.size)) ∧ w'.rangeAt wr.heap.size 0 (sgv (x1, x2))) 21 (.op 0 2 (.op 1 2 (.op 2 2 (.op 3 1 (.op 4 2 (.op 5 1 (.op 6 2 (.op 7 2 (.op 8 2 (.op 9 1 (.op 10 2 (.op 11 1 (.op 13 2 (.op 14 1 (.op 15 2 (.op 16 2 (.op 17 2 (.op 18 2 (.fork (.op 12 0 (.op 19 0 (.op 20 0 (.op 21 0 (.nil))))) (.op 19 0 (.op 12 0 (.op 20 0 (.op 21 0 (.nil)))))))))))))))))))))))) (by kernel_rfl) (by kernel_rfl) ⟨hF0, hS.out⟩ ?_
      generalize w2.drew = W at *
      have HF0 := Lib.hid hF0
      have hlkW := hlk W HM2.out
      have hFk : ∀ w', W.grownBy w' v.ownBlock → (w'.cell? ⟨w.heap.size + 1, 2, none⟩ = some (.map (some w.heap.size)) ∧ w'.rangeAt wr.heap.size 0 (sgv (x1, x2))) ∧ Blk w' (w.heap.size + 1) 79 #[.int .i64 (z : Int), .int .i64 (N : Int), .map (some w.heap.size)] ∧ IsM Tryd.prog 56 w' w.heap.size m f ∧ Below w.heap.size w w' := by
        intro w' hg
        have n1 : ∀ q, q < w.heap.size + 2 ∨ q = wr.heap.size → some q ≠ v.ownBlock := fun q hq e => by
          have := Hv.out q e.symm
          omega
        have hbl := HX2.out.grown hg (n1 _ (.inl (by omega)))
        refine ⟨⟨by rw [Blk.cell hbl]; rfl, fun j u hu => ?_⟩, hbl, HM2.out.grown hg (n1 _ (.inl (by omega))), ?_⟩
        · rw [World.cell?_of_block (hg.block wr.heap.size Hgs.out (n1 _ (.inr rfl)))]
          exact hS.out j u hu
        · refine ⟨hg.os.trans HB2.out.os, hg.tape.trans HB2.out.tape, hg.output.trans HB2.out.output, Nat.le_trans HB2.out.size hg.size, fun q hq => ?_⟩
          rw [hg.block q (Nat.lt_of_lt_of_le hq HB2.out.size) (n1 q (.inl (by omega)))]
          exact HB2.out.block q hq
      have HFk := Lib.hid hFk
      have hal := (World.grownBy_alloc W (.cells (stv (x2, i)).toArray 82) v.ownBlock)
      have Hal := Lib.hid hal
      have hlkA := hlk (W.alloc (.cells (stv (x2, i)).toArray 82)) (hFk _ hal).2.2.1
      clear hFk hF0 hal hlk
      repeat (first | (refine CanT.skip rfl ?_ (fun K hK => ?_); (focus (go_simp; done)); go_simp; refine hK _ ?_; clear hK K) | (refine CanT.pur rfl ?_ ?_; (focus (go_simp; done)); refine ⟨?_, ?_, ?_⟩; rotate_left; (focus (intro w'; go_simp; rfl)); (focus (intro K hK; go_simp; refine hK _ ?_; clear hK K))) | (refine CanT.cellF rfl ?_ (.map (some w.heap.size)) (.map (some w.heap.size)) ⟨w.heap.size + 1, 2, none⟩ (fun w' h => h.1) ?_ (fun K hK => ?_); (focus (go_simp; done)); (focus (intro w' hc'; go_simp; (try rfl))); go_simp; refine hK _ ?_; clear hK K) | (refine CanT.cellF rfl ?_ (.int .u32 (x1 : Int)) (.int .u32 (x1 : Int)) ⟨wr.heap.size, 0, none⟩ (fun w' h => h.2 0 _ rfl) ?_ (fun K hK => ?_); (focus (go_simp; done)); (focus (intro w' hc'; go_simp; (try rfl))); go_simp; refine hK _ ?_; clear hK K) | (refine CanT.heldR rfl ?_ 42 _ rfl wr.heap.size (1) (bvs x2) rfl (fun w' h j u hu => by have := h.2 (j + 1) u (by simpa [sgv] using hu); rwa [Nat.zero_add, Nat.add_comm j 1] at this) _ Tryd.underlying42 rfl (by rw [bvs_length, Hl2.out]; kernel_rfl) (fun K hK => ?_); (focus (go_simp; done)); go_simp; refine hK _ ?_; clear hK K) | (refine CanT.bld rfl ?_ 82 _ rfl #[(0, .agg (bvs x2).toArray), (1, .int .i64 (i : Int))] rfl _ (fun w' => run_strong x2 i Hl2.out w') (fun K hK => ?_); (focus (go_simp; done)); go_simp; refine hK _ ?_; clear hK K))
      refine CanT.both ?_ ?_
      · refine CanT.imp rfl (fun K hK => ?_)
        go_simp
        refine hK.out _ _ ((HFk.out _ (World.grownBy.refl _ _)).1) ?_
        clear hK K
        refine CanT.imp rfl (fun K hK => ?_)
        refine step_bslice _ ?_ 80 82 1 _ rfl Tryd.underlying80 i0 33 40 Hi.out (by omega) (by omega) [(0, .agg (stv (x2, i)).toArray)] rfl (stv (x2, i)) (fun Z hZ => fill_one 33 (.agg (stv (x2, i)).toArray) Hl3.out Z hZ) ?_
        focus (go_simp; done)
        (try go_simp)
        refine hK.out _ _ ((HFk.out _ Hal.out).1) ?_
        clear hK K
        refine CanT.imp rfl (fun K hK => ?_)
        refine step_appR _ ?_ (.tmp 44) (.tmp 51) 80 rfl (w.heap.size + 2) 82 i0 40 Tryd.underlying80 Hi.out (by omega) v G rfl (HO2.out.alloc _) _ _ 1 1 [(x2, i)] rfl rfl (ReadRow.lit1 W 82 _ (x2, i) rfl Hl3.out (stv_one _)) (by simp; omega) (by simp; omega) (by have := Hgs.out; simp; omega) ?_
        focus (go_simp; done)
        intro v3 w3 ho3 hg3 hloc3 _
        have hgW : W.grownBy w3 v.ownBlock := only_trans Hal.out hg3
        obtain ⟨hF3, hX3, hM3, hB3⟩ := HFk.out _ hgW
        have Ho3 := Lib.hid ho3
        have HX3 := Lib.hid hX3
        have HM3 := Lib.hid hM3
        have HB3 := Lib.hid hB3
        have HF3 := Lib.hid hF3
        have Hg3 := Lib.hid (only_trans Hg2.out hgW)
        have Hloc3 : Hid (v3.ownBlock = v.ownBlock ∨ ∃ q, v3.ownBlock = some q ∧ wr.heap.size ≤ q) := Lib.hid (hloc3.imp id (fun h => ⟨_, h, by have := Hgs.out; simp; omega⟩))
        clear ho3 hg3 hloc3 hgW hF3 hX3 hM3 hB3
        (try go_simp)
        refine hK.out _ _ (HF3.out) ?_
        clear hK K
        refine CanT.last rfl (fun K hK => ?_)
        refine step_mapUpdate_any _ ?_ (.tmp 35) (.tmp 37) (.tmp 52) 77 rfl 56 80 Tryd.underlying56 Tryd.underlying77 w.heap.size m f rfl HM3.out (by unfold maxLen; omega) x1 v3 rfl rfl hx32 ?_
        focus (go_simp; done)
        intro w4 hM4 hg4
        (try go_simp)
        refine hK.out _ _ ?_
        clear hK K
        refine CanT.done ?_
        have hG4 := Hback.out w3 w4 v3 (x2, i) Hg3.out Ho3.out Hloc3.out hM4 hg4
        have hX4 := HX3.out.grown hg4 (by simp)
        have hB4 : Below w.heap.size w w4 := HB3.out.trans (below_of_only hg4 (Nat.le_refl _) HB3.out.size)
        have HG4 := Lib.hid hG4
        have HX4 := Lib.hid hX4
        have HB4 := Lib.hid hB4
        clear hG4 hX4 hB4 hM4 hg4
        go_wp2
        go_roundg (N - (k + 1))
        case rel =>
          refine ⟨k + 1, m + 1, by omega, rfl, rfl, by omega, HX4.out, ?_, HB4.out⟩
          have e : grpK z l (k + 1) = fun j => if j = x1 then G ++ [(x2, i)] else grpK z l k j := by
            funext j
            rw [grpK_succ, Hx.out]
            by_cases hj : x1 = j
            · subst hj
              simp only [if_true]
              rw [← HGx.out, Hik.out]
            · rw [if_neg hj, if_neg (Ne.symm hj)]
          rw [e]
          exact HG4.out
        case measure => have := Hq.out; omega
      · refine CanT.imp rfl (fun K hK => ?_)
        refine step_bslice _ ?_ 80 82 1 _ rfl Tryd.underlying80 i0 33 40 Hi.out (by omega) (by omega) [(0, .agg (stv (x2, i)).toArray)] rfl (stv (x2, i)) (fun Z hZ => fill_one 33 (.agg (stv (x2, i)).toArray) Hl3.out Z hZ) ?_
        focus (go_simp; done)
        (try go_simp)
        refine hK.out _ _ ((HFk.out _ Hal.out).1) ?_
        clear hK K
        refine CanT.imp rfl (fun K hK => ?_)
        go_simp
        refine hK.out _ _ ((HFk.out _ Hal.out).1) ?_
        clear hK K
        refine CanT.imp rfl (fun K hK => ?_)
        refine step_appR _ ?_ (.tmp 44) (.tmp 51) 80 rfl (w.heap.size + 2) 82 i0 40 Tryd.underlying80 Hi.out (by omega) v G rfl (HO2.out.alloc _) _ _ 1 1 [(x2, i)] rfl rfl (ReadRow.lit1 W 82 _ (x2, i) rfl Hl3.out (stv_one _)) (by simp; omega) (by simp; omega) (by have := Hgs.out; simp; omega) ?_
        focus (go_simp; done)
        intro v3 w3 ho3 hg3 hloc3 _
        have hgW : W.grownBy w3 v.ownBlock := only_trans Hal.out hg3
        obtain ⟨hF3, hX3, hM3, hB3⟩ := HFk.out _ hgW
        have Ho3 := Lib.hid ho3
        have HX3 := Lib.hid hX3
        have HM3 := Lib.hid hM3
        have HB3 := Lib.hid hB3
        have HF3 := Lib.hid hF3
        have Hg3 := Lib.hid (only_trans Hg2.out hgW)
        have Hloc3 : Hid (v3.ownBlock = v.ownBlock ∨ ∃ q, v3.ownBlock = some q ∧ wr.heap.size ≤ q) := Lib.hid (hloc3.imp id (fun h => ⟨_, h, by have := Hgs.out; simp; omega⟩))
        clear ho3 hg3 hloc3 hgW hF3 hX3 hM3 hB3
        (try go_simp)
        refine hK.out _ _ (HF3.out) ?_
        clear hK K
        refine CanT.last rfl (fun K hK => ?_)
        refine step_mapUpdate_any _ ?_ (.tmp 35) (.tmp 37) (.tmp 52) 77 rfl 56 80 Tryd.underlying56 Tryd.underlying77 w.heap.size m f rfl HM3.out (by unfold maxLen; omega) x1 v3 rfl rfl hx32 ?_
        focus (go_simp; done)
        intro w4 hM4 hg4
        (try go_simp)
        refine hK.out _ _ ?_
        clear hK K
        refine CanT.done ?_
        have hG4 := Hback.out w3 w4 v3 (x2, i) Hg3.out Ho3.out Hloc3.out hM4 hg4
        have hX4 := HX3.out.grown hg4 (by simp)
        have hB4 : Below w.heap.size w w4 := HB3.out.trans (below_of_only hg4 (Nat.le_refl _) HB3.out.size)
        have HG4 := Lib.hid hG4
        have HX4 := Lib.hid hX4
        have HB4 := Lib.hid hB4
        clear hG4 hX4 hB4 hM4 hg4
        go_wp2
        go_roundg (N - (k + 1))
        case rel =>
          refine ⟨k + 1, m + 1, by omega, rfl, rfl, by omega, HX4.out, ?_, HB4.out⟩
          have e : grpK z l (k + 1) = fun j => if j = x1 then G ++ [(x2, i)] else grpK z l k j := by
            funext j
            rw [grpK_succ, Hx.out]
            by_cases hj : x1 = j
            · subst hj
              simp only [if_true]
              rw [← HGx.out, Hik.out]
            · rw [if_neg hj, if_neg (Ne.symm hj)]
          rw [e]
          exact HG4.out
        case measure => have := Hq.out; omega
    · have hkn2 : k = N := by omega
      have t1 : decide ((k : Int) < (N : Int)) = false := by rw [decide_eq_false_iff_not]; omega
      have t2 : ¬ k < N := by omega
      go_wp2
      go_ret2
      refine ⟨w.heap.size + 1, rfl, by omega, ⟨w.heap.size, w.heap.size + 2, m, ?_, ?_⟩, HB.out⟩
      · rw [← HN.out]; exact HX.out
      · rw [← HN.out, ← hkn2]; exact HG.out
end Bk
end Go.Proofs.YtiofkhjpknfkgaaDoor
/- An index is asked: its size, its length, whether a block has a weak sum. -/
namespace Go.Proofs.YtiofkhjpknfkgaaDoor
namespace Bk
open Go.RowKit Ba Sm Ro
set_option linter.unusedVariables false
set_option maxRecDepth 100000 in
theorem xsize_calls (w : World) (g z : Nat) (l : List Sg) (h : IsX w g z l) : Calls Tryd.prog 30 #[.pointer (some ⟨g, 0, none⟩)] w fun e w' => e = .returned (.int .i64 (z : Int)) ∧ w = w' := by
  obtain ⟨bm, base, m, h1, h2⟩ := h
  have hc := h1.cell 0
  clear h1 h2
  go_enter Tryd.func30, Tryd.ntmps30
  go_wp2
  go_ret
  exact ⟨rfl, rfl⟩
set_option maxRecDepth 100000 in
theorem xsize_nil (w : World) : Calls Tryd.prog 30 #[.pointer none] w fun e w' => e = .returned (.int .i64 0) ∧ w = w' := by
  go_enter Tryd.func30, Tryd.ntmps30
  go_wp2
  go_ret
  exact ⟨rfl, rfl⟩
set_option maxRecDepth 100000 in
theorem weak_nil (w : World) (x : Int) : Calls Tryd.prog 32 #[.pointer none, .int .u32 x] w fun e w' => e = .returned (.bool false) ∧ w = w' := by
  go_enter Tryd.func32, Tryd.ntmps32
  go_wp2
  go_ret
  exact ⟨rfl, rfl⟩
def hasWeak (l : List Sg) (x : Nat) : Bool := (List.range l.length).any fun i => (sg l i).1 == x
theorem hasWeak_grp (z : Nat) (l : List Sg) (x : Nat) : (!(grpK z l l.length x).isEmpty) = hasWeak l x := by
  rw [Bool.eq_iff_iff]
  unfold hasWeak
  rw [List.any_eq_true]
  have h := grpK_nil_iff z l l.length x
  constructor
  · intro h1
    have h2 : grpK z l l.length x ≠ [] := by intro e; rw [e] at h1; cases h1
    rw [ne_eq, h] at h2
    apply Classical.byContradiction
    intro h3
    apply h2
    intro i hi he
    exact h3 ⟨i, by simpa using hi, by simpa using he⟩
  · rintro ⟨i, hi, he⟩
    have h2 : grpK z l l.length x ≠ [] := fun e => h.1 e i (by simpa using hi) (by simpa using he)
    cases hg : grpK z l l.length x with
    | nil => exact absurd hg h2
    | cons a r => rfl
set_option maxRecDepth 100000 in
theorem weak_calls (w : World) (g z : Nat) (l : List Sg) (h : IsX w g z l) (x : Nat) (hx : x < 4294967296) : Calls Tryd.prog 32 #[.pointer (some ⟨g, 0, none⟩), .int .u32 (x : Int)] w fun e w' => e = .returned (.bool (hasWeak l x)) ∧ w = w' := by
  obtain ⟨bm, base, m, h1, h2⟩ := h
  have hc := h1.cell 2
  obtain ⟨f, v, hv, hs, hM, _⟩ := h2.at_ hx
  have hlk := hM.look_ok Tryd.underlying56 Tryd.underlying77 (zeroE w) hx
  rw [hs, hasWeak_grp] at hlk
  generalize hasWeak l x = r at hlk ⊢
  generalize (f x).getD (.slice none 0 0) = u at hlk
  clear h1 h2 hv hs hM
  go_enter Tryd.func32, Tryd.ntmps32
  go_wp2
  go_ret
  exact ⟨rfl, rfl⟩
end Bk
end Go.Proofs.YtiofkhjpknfkgaaDoor
/- What the operations on floats and complex numbers do where all parts are whole numbers. -/
namespace Go.Proofs.YtiofkhjpknfkgaaDoor
namespace Flo
set_option linter.unusedVariables false
def F (a : Int) : Value := .float .f64 (FL a)
def C (a b : Int) : Value := .complex .f64 (FL a) (FL b)
def ok53 (a : Int) : Prop := a.natAbs < 9007199254740992
theorem bin_c (op : BinOp) (t : TypeId) (a b c d : Int) : binOp op t (C a b) (C c d) = Op.complexOp op .f64 (FL a) (FL b) (FL c) (FL d) := by
  cases op <;> rfl
theorem arith_add (a c : Int) (ha : ok53 a) (hc : ok53 c) (hs : ok53 (a + c)) : Op.Complex.arith .add .f64 (FL a) (FL c) = pure (FL (a + c)) := by
  unfold Op.Complex.arith Op.floatArith
  have : FloatKind.f64.format.add (FL a) (FL c) = some (FL (a + c)) := add_FL a c ha hc hs
  simp [this]
theorem arith_sub (a c : Int) (ha : ok53 a) (hc : ok53 c) (hs : ok53 (a - c)) : Op.Complex.arith .sub .f64 (FL a) (FL c) = pure (FL (a - c)) := by
  unfold Op.Complex.arith Op.floatArith
  have : FloatKind.f64.format.sub (FL a) (FL c) = some (FL (a - c)) := sub_FL a c ha hc hs
  simp [this]
theorem arith_mul (a c : Int) (ha : ok53 a) (hc : ok53 c) (h0 : 0 ≤ a) (h1 : 0 ≤ c) (hs : ok53 (a * c)) : Op.Complex.arith .mul .f64 (FL a) (FL c) = pure (FL (a * c)) := by
  unfold Op.Complex.arith Op.floatArith
  have : FloatKind.f64.format.mul (FL a) (FL c) = some (FL (a * c)) := mul_FL a c ha hc h0 h1 hs
  simp [this]
theorem c_add (t : TypeId) (a b c d : Int) (ha : ok53 a) (hb : ok53 b) (hc : ok53 c) (hd : ok53 d) (h1 : ok53 (a + c)) (h2 : ok53 (b + d)) : binOp .add t (C a b) (C c d) = pure (C (a + c) (b + d)) := by
  rw [bin_c]
  unfold Op.complexOp
  simp only [arith_add a c ha hc h1, arith_add b d hb hd h2]
  rfl
theorem c_sub (t : TypeId) (a b c d : Int) (ha : ok53 a) (hb : ok53 b) (hc : ok53 c) (hd : ok53 d) (h1 : ok53 (a - c)) (h2 : ok53 (b - d)) : binOp .sub t (C a b) (C c d) = pure (C (a - c) (b - d)) := by
  rw [bin_c]
  unfold Op.complexOp
  simp only [arith_sub a c ha hc h1, arith_sub b d hb hd h2]
  rfl
/-- a whole number times '1 + n i' -/
theorem c_mul1 (t : TypeId) (a n : Int) (ha : ok53 a) (hn : ok53 n) (h0 : 0 ≤ a) (h1 : 0 ≤ n) (h2 : ok53 (a * n)) : binOp .mul t (C a 0) (C 1 n) = pure (C a (a * n)) := by
  rw [bin_c]
  have z : ok53 0 := by unfold ok53; decide
  have o : ok53 1 := by unfold ok53; decide
  have e1 := arith_mul a 1 ha o h0 (by omega) (by rw [Int.mul_one]; exact ha)
  have e2 := arith_mul 0 n z hn (by omega) h1 (by rw [Int.zero_mul]; exact z)
  have e3 := arith_sub a 0 ha z (by rw [Int.sub_zero]; exact ha)
  have e4 := arith_mul a n ha hn h0 h1 h2
  have e5 := arith_mul 0 1 z o (by omega) (by omega) (by rw [Int.zero_mul]; exact z)
  have e6 := arith_add (a * n) 0 h2 z (by rw [Int.add_zero]; exact h2)
  rw [Int.mul_one] at e1
  rw [Int.zero_mul] at e2 e5
  rw [Int.sub_zero] at e3
  rw [Int.add_zero] at e6
  unfold Op.complexOp Op.Complex.conv Op.Complex.product Op.Complex.mul Op.Complex.sub Op.Complex.add
  simp [e1, e2, e3, e4, e5, e6]
  rfl
theorem order_F (a b : Int) (ha : ok53 a) (hb : ok53 b) : FloatKind.f64.format.order (FL a) (FL b) = some (compare a b) := order_FL a b ha hb
theorem cmp_eq (a b : Int) : (compare a b = .eq) ↔ a = b := by
  show compareOfLessAndEq a b = .eq ↔ _
  unfold compareOfLessAndEq
  by_cases h : a < b
  · simp [h]; omega
  · by_cases h2 : a = b <;> simp [h, h2]
theorem cmp_lt (a b : Int) : (compare a b = .lt) ↔ a < b := by
  show compareOfLessAndEq a b = .lt ↔ _
  unfold compareOfLessAndEq
  by_cases h : a < b
  · simp [h]
  · by_cases h2 : a = b <;> simp [h, h2]
theorem cmp_gt (a b : Int) : (compare a b = .gt) ↔ b < a := by
  show compareOfLessAndEq a b = .gt ↔ _
  unfold compareOfLessAndEq
  by_cases h : a < b
  · simp [h]; omega
  · by_cases h2 : a = b
    · simp [h2]
    · simp [h, h2]; omega
theorem f_neq (t : TypeId) (a b : Int) (ha : ok53 a) (hb : ok53 b) : binOp .neq t (F a) (F b) = pure (.bool (decide (a ≠ b))) := by
  unfold F
  rw [binOp_float_cmp_neq, order_F a b ha hb]
  congr 2
  rw [Bool.eq_iff_iff]
  simp [cmp_eq]
theorem f_eql (t : TypeId) (a b : Int) (ha : ok53 a) (hb : ok53 b) : binOp .eql t (F a) (F b) = pure (.bool (decide (a = b))) := by
  unfold F
  rw [binOp_float_cmp_eql, order_F a b ha hb]
  congr 2
  rw [Bool.eq_iff_iff]
  simp [cmp_eq]
theorem f_lss (t : TypeId) (a b : Int) (ha : ok53 a) (hb : ok53 b) : binOp .lss t (F a) (F b) = pure (.bool (decide (a < b))) := by
  unfold F
  rw [binOp_float_cmp_lss, order_F a b ha hb]
  congr 2
  rw [Bool.eq_iff_iff]
  simp [cmp_lt]
theorem f_gtr (t : TypeId) (a b : Int) (ha : ok53 a) (hb : ok53 b) : binOp .gtr t (F a) (F b) = pure (.bool (decide (b < a))) := by
  unfold F
  rw [binOp_float_cmp_gtr, order_F a b ha hb]
  congr 2
  rw [Bool.eq_iff_iff]
  simp [cmp_gt]
section
variable {P : Program} (w : World)
theorem run_int_of (src dst : TypeId) (a : Int) (ha : ok53 a) (hs : (P.underlying src).isSome = true) (hd : P.underlying dst = some (.int .i64)) : (convert src dst (F a)).run P w = .ok (.int .i64 a) w := by
  refine run_convert_float_int (P := P) w src dst .f64 .i64 (FL a) a hs hd ?_
  unfold floatToIntVal
  have : (FloatKind.f64.decode (FL a)).toInt .zero = some a := toInt_FL a ha
  rw [this]
  have h : IntKind.i64.min ≤ a ∧ a ≤ IntKind.i64.max := by
    unfold ok53 at ha
    show (-9223372036854775808 : Int) ≤ a ∧ a ≤ 9223372036854775807
    omega
  show (if IntKind.i64.min ≤ a ∧ a ≤ IntKind.i64.max then some a else none) = some a
  rw [if_pos h]
theorem run_of_int (src dst : TypeId) (q : IntKind) (a : Int) (hs : (P.underlying src).isSome = true) (hd : P.underlying dst = some (.float .f64)) : (convert src dst (.int q a)).run P w = .ok (F a) w := by
  exact run_convert_int_float (P := P) w src dst q .f64 a hs hd
end
end Flo
end Go.Proofs.YtiofkhjpknfkgaaDoor
/- bytes.Clone. -/
namespace Go.Proofs.YtiofkhjpknfkgaaDoor
namespace Cl
open Go.RowKit Ba
set_option linter.unusedVariables false
theorem info5 : (Tryd.prog.info? 5).map (fun i => (i.zero, i.size, i.bytes)) = some (some (.int .u8 0), 1, 1) := by kernel_rfl

set_option maxRecDepth 100000 in
set_option maxHeartbeats 400000 in
theorem clone_calls (l : List UInt8) (A : Option Addr) (c : Nat) (hc : l.length ≤ c) (hl : l.length ≤ 140737488355328) (w : World) (hr : ReadB w w.heap.size A l) : Calls Tryd.prog 48 #[.slice A l.length c] w
    fun e w' => ∃ v, e = .returned v ∧ OwnB w' w.heap.size 5 v l ∧ Below w.heap.size w w' := by
  obtain ⟨i0, hi0⟩ := isByte_of info5
  have Hi := Lib.hid hi0
  have Hr := Lib.hid hr
  clear hi0 hr
  rcases A with _ | ad
  · have hl0 : l = [] := by
      rcases l with _ | ⟨x, l⟩
      · rfl
      · obtain ⟨_, _, hx, _⟩ := Hr.out (by simp)
        cases hx
    subst hl0
    have hnil := fun (w : World) => Lib.run_eql_slice_nil (P := Tryd.prog) w 22 5 none 0 c 0 0 Tryd.underlying22
    simp only [List.length_nil]
    go_enter Tryd.func48, Tryd.ntmps48
    go_wp2
    go_ret
    exact ⟨_, rfl, OwnB.nil, Below.refl _ _⟩
  · have hnil := fun (w : World) => Lib.run_eql_slice_nil (P := Tryd.prog) w 22 5 (some ad) l.length c 0 0 Tryd.underlying22
    go_enter Tryd.func48, Tryd.ntmps48
    have hown0 : OwnB (w.alloc (.cells #[] 5)) w.heap.size 5 (.slice (some ⟨w.heap.size, 0, none⟩) 0 0) [] := OwnB.lit0 w 5 w.heap.size w.heap.size rfl (Nat.le_refl _)
    have hr0 : ReadB (w.alloc (.cells #[] 5)) w.heap.size (some ad) l := Hr.out.alloc (Nat.le_refl _) _
    have Ho0 := Lib.hid hown0
    have Hr0 := Lib.hid hr0
    clear hown0 hr0
    go_wp2_with (at_builtin; go_loud (refine wpList_appB _ rfl (.tmp 5) (.tmp 6) 22 rfl w.heap.size 5 i0 Tryd.underlying22 Hi.out _ [] rfl Ho0.out w.heap.size (some ad) _ c l rfl rfl Hr0.out (by simp; omega) (by simp) ?_); intro v1 w1 ho1 _ _ hb1)
    go_ret
    rw [List.nil_append] at ho1
    exact ⟨v1, rfl, ho1, ((Below.refl _ _).alloc (Nat.le_refl _) _).trans hb1⟩
theorem cloneN {l : List UInt8} {A : Option Addr} {n c : Nat} {w : World} (hn : n = l.length) (hc : l.length ≤ c) (hl : l.length ≤ 140737488355328) (hr : ReadB w w.heap.size A l) : Calls Tryd.prog 48 #[.slice A n c] w
    fun e w' => ∃ v, e = .returned v ∧ OwnB w' w.heap.size 5 v l ∧ Below w.heap.size w w' := by
  subst hn
  exact clone_calls l A c hc hl w hr
end Cl
end Go.Proofs.YtiofkhjpknfkgaaDoor
/- The checksum that rolls, of the program: whole numbers in floats, a pair and a byte more. -/
namespace Go.Proofs.YtiofkhjpknfkgaaDoor
namespace Ro
open Go.RowKit Flo Ba
set_option linter.unusedVariables false
theorem FL_0 : FL 0 = 0 := by decide +kernel
theorem FL_1 : FL 1 = 4607182418800017408 := by decide +kernel
theorem FL_m : FL (-1125899906842624) = 14055734437023318016 := by decide +kernel
theorem FL_p : FL 1125899906842624 = 4832362400168542208 := by decide +kernel
theorem real_C (ts : Array TypeId) (ty : TypeId) (a b : Int) : Builtin.real_ ts ty #[C a b] = pure (F a) := rfl
theorem imag_C (ts : Array TypeId) (ty : TypeId) (a b : Int) : Builtin.imag_ ts ty #[C a b] = pure (F b) := rfl
theorem complex_F (ts : Array TypeId) (ty : TypeId) (a b : Int) : Builtin.complex_ ts ty #[F a, F b] = pure (C a b) := rfl
theorem complex_F0 (ts : Array TypeId) (ty : TypeId) (a : Int) : Builtin.complex_ ts ty #[F a, .float .f64 0] = pure (C a 0) := by
  have := complex_F ts ty a 0
  unfold F at this ⊢
  rw [FL_0] at this
  exact this
theorem complex_0F (ts : Array TypeId) (ty : TypeId) (a : Int) : Builtin.complex_ ts ty #[.float .f64 0, F a] = pure (C 0 a) := by
  have := complex_F ts ty 0 a
  unfold F at this ⊢
  rw [FL_0] at this
  exact this
theorem complex_1F (ts : Array TypeId) (ty : TypeId) (a : Int) : Builtin.complex_ ts ty #[.float .f64 4607182418800017408, F a] = pure (C 1 a) := by
  have := complex_F ts ty 1 a
  unfold F at this ⊢
  rw [FL_1] at this
  exact this
attribute [local go_sem] real_C imag_C complex_F complex_F0 complex_0F complex_1F
theorem run_pure_ok {P : Program} {m : Sem Value} {v : Value} (h : m = pure v) (w : World) : m.run P w = .ok v w := by rw [h]; rfl
theorem ext_trunc (args : Array Value) (w : World) : (callFunc 94 args).run Tryd.prog w = ((Extern.MathFloor.toIntegral "math.archTrunc" .zero args).run Tryd.prog w).andThen fun v w' => .ok (.value v) w' :=
  run_callFunc_extern Tryd.func94 (by kernel_rfl) (by kernel_rfl) (by kernel_rfl) (by kernel_rfl) args w
theorem toIntegral_num (x : Nat) (s : Bool) (m : Nat) (p : Int) (h : FloatKind.f64.decode x = .number s m p) : Extern.MathFloor.toIntegral "math.archTrunc" .zero #[.float .f64 x] = pure (Value.float .f64 (FloatKind.f64.encode (Ieee.Datum.integral .zero (.number s m p)))) := by
  show ((match FloatKind.f64.decode x with
    | .nan s t => if FloatKind.f64.format.quiet t = t then pure (Value.float .f64 x) else do
      let kept ← choose (.extern "math.Floor,Ceil,Trunc,RoundToEven.signallingNaN kept" 2)
      pure (Value.float .f64 (if kept == 1 then x else FloatKind.f64.encode (.nan s (FloatKind.f64.format.quiet t))))
    | d => pure (Value.float .f64 (FloatKind.f64.encode (d.integral .zero)))) : Sem Value) = _
  rw [h]
theorem toIntegral_F (a : Int) (h : ok53 a) (w : World) : (Extern.MathFloor.toIntegral "math.archTrunc" .zero #[F a]).run Tryd.prog w = .ok (F a) w := by
  have hr := read_FL a h
  have ht := trunc_FL a h
  obtain ⟨s, m, k, e, _, _⟩ := hr
  rw [e] at ht
  have := toIntegral_num (FL a) s m (-(k : Int)) e
  unfold F
  rw [this]
  show Result.ok (Value.float .f64 (Ieee.double.write (Ieee.Datum.integral .zero (.number s m (-(k : Int)))))) w = _
  rw [ht]
set_option maxRecDepth 100000 in
set_option maxHeartbeats 400000 in
theorem trunc_calls (a : Int) (h : ok53 a) (w : World) : Calls Tryd.prog 89 #[F a] w fun e w' => e = .returned (F a) ∧ w = w' := by
  have hx := ext_trunc #[F a] w
  rw [toIntegral_F a h w] at hx
  go_enter Tryd.func89, Tryd.ntmps89
  go_wp2_with fail
  go_ret
  exact ⟨rfl, rfl⟩
theorem ok53_of {a : Int} (h1 : -9007199254740991 ≤ a) (h2 : a ≤ 9007199254740991) : ok53 a := by unfold ok53; omega
theorem whole_mod (a : Int) : (if a.tmod 65536 < 0 then a.tmod 65536 + 65536 else a.tmod 65536) = a % 65536 := by
  have h2 := Int.tmod_eq_emod (a := a) (b := 65536)
  have h4 := Int.emod_nonneg a (show (65536 : Int) ≠ 0 by omega)
  have h5 := Int.emod_lt_of_pos a (show (0 : Int) < 65536 by omega)
  by_cases h : 0 ≤ a ∨ (65536 : Int) ∣ a
  · rw [if_pos h] at h2
    simp only [Int.natCast_zero, Int.sub_zero] at h2
    rw [h2, if_neg (by omega)]
  · rw [if_neg h] at h2
    have h6 : ((Int.natAbs 65536 : Nat) : Int) = 65536 := rfl
    rw [h6] at h2
    rw [h2, if_pos (by omega)]
    omega
theorem eqGuard_F (op : BinOp) (t : TypeId) (x y : Operand) (a b : Int) : eqGuard op t x y (F a) (F b) = pure () := by cases op <;> rfl
theorem eqGuard_C (op : BinOp) (t : TypeId) (x y : Operand) (a b c d : Int) : eqGuard op t x y (C a b) (C c d) = pure () := by cases op <;> rfl
attribute [local go_sem] eqGuard_F eqGuard_C
set_option maxRecDepth 100000 in
set_option maxHeartbeats 1000000 in
theorem whole_calls (a : Int) (h1 : -1125899906842624 ≤ a) (h2 : a ≤ 1125899906842624) (w : World) : Calls Tryd.prog 79 #[F a] w fun e w' => e = .returned (.tuple #[.int .u32 (a % 65536), .bool true]) ∧ w = w' := by
  have hok : ok53 a := ok53_of (by omega) (by omega)
  have n1 : ∀ w, (binOp .neq 136 (F a) (F a)).run Tryd.prog w = .ok (.bool false) w := fun w => by rw [f_neq _ _ _ hok hok]; simp
  have n2 : ∀ w, (binOp .lss 136 (F a) (.float .f64 14055734437023318016)).run Tryd.prog w = .ok (.bool false) w := fun w => by
    have := f_lss 136 a (-1125899906842624) hok (ok53_of (by omega) (by omega))
    unfold F at this ⊢
    rw [FL_m] at this
    rw [this, decide_eq_false (by omega)]
    rfl
  have n3 : ∀ w, (binOp .gtr 136 (F a) (.float .f64 4832362400168542208)).run Tryd.prog w = .ok (.bool false) w := fun w => by
    have := f_gtr 136 a 1125899906842624 hok (ok53_of (by omega) (by omega))
    unfold F at this ⊢
    rw [FL_p] at this
    rw [this, decide_eq_false (by omega)]
    rfl
  have n4 : ∀ w, (convert 136 2 (F a)).run Tryd.prog w = .ok (.int .i64 a) w := fun w => run_int_of w _ _ a hok (by kernel_rfl) Tryd.underlying2
  have hm := whole_mod a
  have Hm := Lib.hid hm
  have Ht := Lib.hid (fun w => trunc_calls a hok w)
  have hlo : -65536 < a.tmod 65536 := Int.lt_tmod_of_pos a (by omega)
  have hhi : a.tmod 65536 < 65536 := Int.tmod_lt_of_pos a (by omega)
  clear hok hm
  go_enter Tryd.func79, Tryd.ntmps79
  go_wp2_with fail
  refine (Ht.out _).mono ?_
  rintro e w1 ⟨rfl, rfl⟩
  go_wp2_with fail
  all_goals
    go_ret2
    exact ⟨by rw [← Hm.out]; first | (rw [if_pos (by assumption)]; rfl) | (rw [if_neg (by omega)]; rfl), rfl⟩
theorem fold_F (n : Int) : Value.float .f64 (floatOfInt .f64 n) = F n := rfl
theorem ret_agg {a b : Value} (h : a = b) : Ending.returned a = .returned b := by rw [h]
attribute [local go_sem] fold_F
set_option maxRecDepth 100000 in
set_option maxHeartbeats 400000 in
theorem one_calls (c : Int) (w : World) : Calls Tryd.prog 82 #[.int .u8 c] w fun e w' => e = .returned (C c 0) ∧ w = w' := by
  go_enter Tryd.func82, Tryd.ntmps82
  go_wp2_with fail
  go_ret
  exact ⟨rfl, rfl⟩
set_option maxRecDepth 100000 in
set_option maxHeartbeats 1000000 in
theorem reduce_calls (a b : Int) (h1 : -1125899906842624 ≤ a) (h2 : a ≤ 1125899906842624) (h3 : -1125899906842624 ≤ b) (h4 : b ≤ 1125899906842624) (w : World) : Calls Tryd.prog 81 #[C a b] w fun e w' => e = .returned (C (a % 65536) (b % 65536)) ∧ w = w' := by
  have H1 := Lib.hid (fun w => whole_calls a h1 h2 w)
  have H2 := Lib.hid (fun w => whole_calls b h3 h4 w)
  obtain ⟨a', ha⟩ : ∃ a', a' = a % 65536 := ⟨_, rfl⟩
  obtain ⟨b', hb⟩ : ∃ b', b' = b % 65536 := ⟨_, rfl⟩
  rw [← ha] at H1
  rw [← hb] at H2
  rw [← ha, ← hb]
  clear ha hb h1 h2 h3 h4
  go_enter Tryd.func81, Tryd.ntmps81
  go_wp2_with fail
  refine (H1.out _).mono ?_
  rintro e w1 ⟨rfl, rfl⟩
  go_wp2_with fail
  refine (H2.out _).mono ?_
  rintro e w1 ⟨rfl, rfl⟩
  go_wp2_with fail
  go_ret
  exact ⟨rfl, rfl⟩
set_option maxRecDepth 100000 in
set_option maxHeartbeats 1000000 in
theorem add_calls (l : List UInt8) (x : UInt8) (w : World) : Calls Tryd.prog 78 #[C (ha l) (hb l), .int .u8 (x.toNat : Int)] w fun e w' => e = .returned (C (ha (l ++ [x])) (hb (l ++ [x]))) ∧ w = w' := by
  have h1 := ha_lt l
  have h2 := hb_lt l
  have h3 := x.toNat_lt
  have e1 := ha_snoc l x
  have e2 := hb_snoc l x
  generalize ha l = a at *
  generalize hb l = b at *
  generalize x.toNat = c at *
  have n1 : ∀ w, (binOp .add 111 (C (a : Int) (b : Int)) (C (c : Int) 0)).run Tryd.prog w = .ok (C ((a : Int) + c) b) w := fun w => by
    have := c_add 111 (a : Int) b c 0 (ok53_of (by omega) (by omega)) (ok53_of (by omega) (by omega)) (ok53_of (by omega) (by omega)) (ok53_of (by omega) (by omega)) (ok53_of (by omega) (by omega)) (ok53_of (by omega) (by omega))
    rw [this, Int.add_zero]
    rfl
  have n2 : ∀ w, (binOp .add 111 (C ((a : Int) + c) (b : Int)) (C 0 ((a : Int) + c))).run Tryd.prog w = .ok (C ((a : Int) + c) (b + (a + c))) w := fun w => by
    have := c_add 111 ((a : Int) + c) b 0 (a + c) (ok53_of (by omega) (by omega)) (ok53_of (by omega) (by omega)) (ok53_of (by omega) (by omega)) (ok53_of (by omega) (by omega)) (ok53_of (by omega) (by omega)) (ok53_of (by omega) (by omega))
    rw [this, Int.add_zero]
    rfl
  have H3 := Lib.hid (fun w => reduce_calls ((a : Int) + c) (b + (a + c)) (by omega) (by omega) (by omega) (by omega) w)
  have E1 := Lib.hid e1
  have E2 := Lib.hid e2
  clear e1 e2 h1 h2 h3
  go_enter Tryd.func78, Tryd.ntmps78
  go_wp2_with fail
  refine (one_calls _ _).mono ?_
  rintro e w1 ⟨rfl, rfl⟩
  go_wp2_with fail
  refine (H3.out _).mono ?_
  rintro e w1 ⟨rfl, rfl⟩
  go_wp2_with fail
  go_ret
  exact ⟨by rw [E1.out, E2.out]; simp, rfl⟩
end Ro
end Go.Proofs.YtiofkhjpknfkgaaDoor
/- Pair, Pack, Sum of the program; Halves, Sum, Pack of the document's answer. -/
namespace Go.Proofs.YtiofkhjpknfkgaaDoor
namespace Ro
open Go.RowKit Flo Ba
set_option linter.unusedVariables false
attribute [local go_sem] real_C imag_C complex_F complex_F0 complex_0F complex_1F eqGuard_F eqGuard_C fold_F
theorem C_00 : C 0 0 = .complex .f64 0 0 := by unfold C; rw [FL_0]
set_option maxRecDepth 100000 in
set_option maxHeartbeats 1000000 in
theorem pair_calls {l : List UInt8} {A : Option Addr} {n c B : Nat} {w : World} (hn : n = l.length) (hr : ReadB w B A l) (hm : l.length ≤ 9223372036854775807) : Calls Tryd.prog 65 #[.slice A n c] w fun e w' => e = .returned (C (ha l) (hb l)) ∧ w = w' := by
  subst hn
  have Hr := Lib.hid hr
  clear hr
  go_enter Tryd.func65, Tryd.ntmps65
  go_wp2_with fail
  go_loop [3, 5, 8] (fun p _ i => ∃ k : Nat, k ≤ l.length ∧ i = .int .i64 k ∧ p = C (ha (l.take k)) (hb (l.take k))) (fun _ _ i => l.length - (intOf i).toNat)
  case atStart => exact ⟨0, Nat.zero_le _, rfl, C_00.symm⟩
  case round =>
    obtain ⟨k, hk, rfl, rfl⟩ := hrel
    by_cases hlt : k < l.length
    · obtain ⟨b, o, rfl, _, hc⟩ := Hr.out (by omega)
      have hck := hc k hlt
      have e : l.take (k + 1) = l.take k ++ [l.getD k 0] := by
        rw [List.take_succ_eq_append_getElem hlt]
        simp [List.getD, hlt]
      have hadd := add_calls (l.take k) (l.getD k 0) w
      rw [← e] at hadd
      have Hadd := Lib.hid hadd
      generalize l.getD k 0 = x at *
      obtain ⟨a1, h1⟩ : ∃ a1 : Int, a1 = (ha (l.take k) : Int) := ⟨_, rfl⟩
      obtain ⟨b1, h2⟩ : ∃ b1 : Int, b1 = (hb (l.take k) : Int) := ⟨_, rfl⟩
      obtain ⟨a2, h3⟩ : ∃ a1 : Int, a1 = (ha (l.take (k + 1)) : Int) := ⟨_, rfl⟩
      obtain ⟨b2, h4⟩ : ∃ b1 : Int, b1 = (hb (l.take (k + 1)) : Int) := ⟨_, rfl⟩
      rw [← h1, ← h2, ← h3, ← h4] at Hadd
      rw [← h1, ← h2]
      have H3 := Lib.hid h3
      have H4 := Lib.hid h4
      clear hc e hadd h1 h2 h3 h4
      go_wp2_with fail
      refine (Hadd.out).mono ?_
      rintro e w1 ⟨rfl, rfl⟩
      go_wp2_with fail
      go_round
      case rel => exact ⟨k + 1, by omega, by go_num, by rw [H3.out, H4.out]⟩
      case measure => simp [intOf]; omega
    · have hkk : k = l.length := by omega
      subst hkk
      rw [List.take_length]
      go_wp2_with fail
      go_ret
      exact ⟨rfl, rfl⟩
theorem u32_pack (a b : Nat) (h1 : a < 65536) (h2 : b < 65536) : bits .or .u32 ((b : Int) * 65536) (a : Int) = ((b * 65536 + a : Nat) : Int) := by
  have hor : b * 65536 ||| a = b * 65536 + a := by
    have := Nat.shiftLeft_add_eq_or_of_lt (i := 16) (b := a) h1 b
    rw [Nat.shiftLeft_eq] at this
    exact this.symm
  show IntKind.u32.wrap ((BitVec.ofInt 32 ((b : Int) * 65536) ||| BitVec.ofInt 32 (a : Int)).toNat : Int) = _
  rw [BitVec.toNat_or]
  have e1 : (BitVec.ofInt 32 ((b : Int) * 65536)).toNat = b * 65536 := by rw [BitVec.toNat_ofInt]; omega
  have e2 : (BitVec.ofInt 32 (a : Int)).toNat = a := by rw [BitVec.toNat_ofInt]; omega
  rw [e1, e2, hor, IntKind.wrap_u32]
  omega
set_option maxRecDepth 100000 in
set_option maxHeartbeats 1000000 in
theorem pack_calls (a b : Int) (h1 : -1125899906842624 ≤ a) (h2 : a ≤ 1125899906842624) (h3 : -1125899906842624 ≤ b) (h4 : b ≤ 1125899906842624) (w : World) : Calls Tryd.prog 66 #[C a b] w fun e w' => e = .returned (.int .u32 (b % 65536 * 65536 + a % 65536)) ∧ w = w' := by
  have H1 := Lib.hid (fun w => whole_calls a h1 h2 w)
  have H2 := Lib.hid (fun w => whole_calls b h3 h4 w)
  obtain ⟨a', ha⟩ : ∃ a' : Nat, (a' : Int) = a % 65536 := ⟨(a % 65536).toNat, by rw [Int.toNat_of_nonneg (Int.emod_nonneg _ (by omega))]⟩
  obtain ⟨b', hb⟩ : ∃ b' : Nat, (b' : Int) = b % 65536 := ⟨(b % 65536).toNat, by rw [Int.toNat_of_nonneg (Int.emod_nonneg _ (by omega))]⟩
  rw [← ha] at H1
  rw [← hb] at H2
  have la : a' < 65536 := by omega
  have lb : b' < 65536 := by omega
  rw [← ha, ← hb]
  have hor := u32_pack a' b' la lb
  have hsh : IntKind.u32.wrap ((b' : Int) * 65536) = (b' : Int) * 65536 := by rw [IntKind.wrap_u32]; omega
  have hsh2 : (b' : Int) * 65536 % 4294967296 = (b' : Int) * 65536 := by omega
  clear ha hb h1 h2 h3 h4
  go_enter Tryd.func66, Tryd.ntmps66
  go_wp2_with fail
  refine (H1.out _).mono ?_
  rintro e w1 ⟨rfl, rfl⟩
  go_wp2_with fail
  refine (H2.out _).mono ?_
  rintro e w1 ⟨rfl, rfl⟩
  go_wp2_with fail
  go_ret
  exact ⟨by simp, rfl⟩
set_option maxRecDepth 100000 in
set_option maxHeartbeats 1000000 in
theorem sum_calls {l : List UInt8} {A : Option Addr} {n c B : Nat} {w : World} (hn : n = l.length) (hr : ReadB w B A l) (hm : l.length ≤ 9223372036854775807) : Calls Tryd.prog 54 #[.slice A n c] w fun e w' => e = .returned (.int .u32 (rsum l : Nat)) ∧ w = w' := by
  have Hr := Lib.hid hr
  have h1 := ha_lt l
  have h2 := hb_lt l
  have Hp := Lib.hid (pack_calls (ha l) (hb l) (by omega) (by omega) (by omega) (by omega) w)
  have he : ((hb l : Int) % 65536 * 65536 + (ha l : Int) % 65536) = ((rsum l : Nat) : Int) := by unfold rsum; omega
  rw [he] at Hp
  have Hq := Lib.hid (pair_calls (c := c) hn hr hm)
  generalize (ha l : Int) = a at *
  generalize (hb l : Int) = b at *
  clear hr he h1 h2 hn
  go_enter Tryd.func54, Tryd.ntmps54
  go_wp2_with fail
  refine Hq.out.mono ?_
  rintro e w1 ⟨rfl, rfl⟩
  go_wp2_with fail
  refine Hp.out.mono ?_
  rintro e w1 ⟨rfl, rfl⟩
  go_wp2_with fail
  go_ret
  exact ⟨rfl, rfl⟩
end Ro
end Go.Proofs.YtiofkhjpknfkgaaDoor
/- Where a block is, of the program. -/
namespace Go.Proofs.YtiofkhjpknfkgaaDoor
namespace Bk
open Go.RowKit Ba Sm Ro
set_option linter.unusedVariables false
theorem stv32 (y1 : List UInt8) (y2 : Nat) (h : y1.length = 32) : ([] ++ (bvs y1 ++ [Value.int .i64 (y2 : Int)])).toArray[32]? = some (.int .i64 (y2 : Int)) := by
  rw [List.nil_append, List.getElem?_toArray, List.getElem?_append_right (by rw [bvs_length, h]; exact Nat.le_refl _), bvs_length, h]
  rfl
def tellP : Option St → Int × Bool
  | some p => ((p.2 : Nat), true)
  | none => (0, false)
theorem find_grp (z : Nat) (l : List Sg) (b : List UInt8) (hb : b.length = z) : findB z l b = tellP ((grpK z l l.length (rsum b)).find? (fun p => p.1 == sha b)) := by
  unfold findB
  rw [if_pos hb]
  have h := grp_find z l (sgOf b)
  have e : (sgOf b).1 = rsum b ∧ (sgOf b).2 = sha b := ⟨rfl, rfl⟩
  rw [e.1, e.2] at h
  rw [h]
  unfold tellIx tellP
  cases findIx l (sgOf b) <;> rfl
theorem grp_wf {z : Nat} {l : List Sg} {k w : Nat} (h : ∀ s ∈ l, WfS s) (hk : k ≤ l.length) : ∀ s ∈ grpK z l k w, s.1.length = 32 ∧ s.2 ≤ k * z := by
  intro s hs
  unfold grpK at hs
  obtain ⟨i, hi, rfl⟩ := List.mem_map.1 hs
  have hi2 : i < k := by simpa using (List.mem_filter.1 hi).1
  refine ⟨(h _ (List.mem_of_getElem? (sg_get (show i < l.length by omega)))).2, Nat.mul_le_mul_right z (by omega)⟩
set_option maxRecDepth 100000 in
set_option maxHeartbeats 4000000 in
theorem find_calls (w : World) (g z : Nat) (l : List Sg) (h : IsX w g z l) (hz : z ≤ 4096) (hl : l.length ≤ 4096) (hwf : ∀ s ∈ l, WfS s) (b : List UInt8) (A : Option Addr) (c : Nat) (hr : ReadB w w.heap.size A b) (hbc : b.length ≤ c) (hcm : c ≤ 9223372036854775807) (hbl : b.length ≤ 140737488351232) (htab : Tab w) :
    Calls Tryd.prog 34 #[.pointer (some ⟨g, 0, none⟩), .slice A b.length c] w
      fun e w' => e = .returned (.tuple #[.int .i64 (findB z l b).1, .bool (findB z l b).2]) ∧ Below w.heap.size w w' := by
  obtain ⟨bm, base, m, h1, h2⟩ := h
  have hc0 := h1.cell 0
  by_cases hbz : b.length = z
  · rw [find_grp z l b hbz]
    have hx32 := rsum_lt b
    obtain ⟨f, v, hv, hs, hM, hO, hbm, hbs, _⟩ := h2.at_ hx32
    have hwg := grp_wf (z := z) (w := rsum b) hwf (Nat.le_refl _)
    have hgl := grpK_len z l l.length (rsum b)
    obtain ⟨G, hG⟩ : ∃ G, grpK z l l.length (rsum b) = G := ⟨_, rfl⟩
    rw [hG] at hO hwg hgl ⊢
    obtain ⟨x1, hx1⟩ : ∃ x1, rsum b = x1 := ⟨_, rfl⟩
    obtain ⟨x2, hx2⟩ : ∃ x2, sha b = x2 := ⟨_, rfl⟩
    have hl2 : x2.length = 32 := by rw [← hx2]; exact hash_len b
    have hsum := fun w' B h => sum_calls (w := w') (B := B) (l := b) (A := A) (n := z) (c := c) hbz.symm h (by omega)
    rw [hx1] at hsum hv hx32
    rw [hx2]
    obtain ⟨r, hr0⟩ : ∃ r, G.find? (fun p => p.1 == x2) = r := ⟨_, rfl⟩
    rw [hr0]
    have Hr0 := Lib.hid hr0
    clear hr0
    have hlk : ∀ w', IsM Tryd.prog 56 w' bm m f → (Instr.lookup 77 (.map (some bm)) (.int .u32 (x1 : Int)) false).run Tryd.prog w' = .ok v w' := fun w' h => by
      rw [hv]
      exact h.look Tryd.underlying56 Tryd.underlying77 (zeroE w') hx32
    have hlkW := hlk w.drew (hM.below ((Below.refl w.heap.size w).drew) hM.lt)
    obtain ⟨A1, c1, rfl, q1, q2, q3, q4⟩ := hO.opens
    have Hsum := Lib.hid hsum
    have Hl2 := Lib.hid hl2
    have Hx2 := Lib.hid hx2
    have HG3 := Lib.hid q3
    have Hwg := Lib.hid hwg
    have Hr := Lib.hid hr
    have Htab := Lib.hid htab
    have Hc2 := Lib.hid (h1.cell 2)
    have Hg := Lib.hid h1.lt
    rw [hbz]
    have hnn : ¬ (z : Int) ≠ (z : Int) := by simp
    have hgl2 : G.length ≤ 4096 := by omega
    have hzc : z ≤ c := by omega
    have Hbz := Lib.hid hbz
    clear hsum hl2 hx2 hx1 q3 q4 hwg hr htab h1 h2 hv hs hM hO hbm hbs hG hlk hgl hbc hbz hl hwf
    go_enter Tryd.func34, Tryd.ntmps34
    go_wp2_with fail
    refine CanB.region 1000 (.op 0 2 (.op 1 2 (.op 2 2 (.op 3 1 (.op 4 2 (.op 5 0 (.op 6 0 (.op 7 2 (.nil))))))))) (by kernel_rfl) (by kernel_rfl) ?_
    have HbW : Hid (Below w.heap.size w w.drew) := Lib.hid (Below.refl w.heap.size w).drew
    have HrW : Hid (ReadB w.drew w.heap.size A b) := Hr
    have HtW : Hid (Tab w.drew) := Lib.hid (Htab.out.below HbW.out)
    have HG3W : Hid (ReadRow stv 33 w.drew w.heap.size A1 G) := HG3
    have Hc2W : Hid (w.drew.cell? ⟨g, 2, none⟩ = some (.map (some bm))) := Lib.hid Hc2.out
    have HgW : Hid (g < w.drew.heap.size) := Hg
    have Hs0 : Hid (w.drew.heap.size = w.heap.size) := Lib.hid rfl
    generalize w.drew = W at *
    repeat (first | (refine CanT.skip rfl ?_ (fun K hK => ?_); (focus (go_simp; done)); go_simp; refine hK _ ?_; clear hK K) | (refine CanT.pur rfl ?_ ?_; (focus (go_simp; done)); refine ⟨?_, ?_, ?_⟩; rotate_left; (focus (intro w'; go_simp; rfl)); (focus (intro K hK; go_simp; refine hK _ ?_; clear hK K))) | (refine CanB.cell rfl ?_ (.map (some bm)) (.map (some bm)) ⟨g, 2, none⟩ Hc2W.out HgW.out ?_ (fun K hK => ?_); (focus (go_simp; done)); (focus (intro w' hc'; go_simp; (try rfl))); go_simp; refine hK _ ?_; clear hK K))
    refine CanT.imp rfl (fun K hK => ?_)
    go_simp
    refine (Hsum.out W _ HrW.out).mono ?_
    rintro e w1 ⟨rfl, rfl⟩
    (try go_simp)
    refine hK.out _ _ (Below.refl _ _) ?_
    clear hK K
    refine CanT.imp rfl (fun K hK => ?_)
    go_simp
    refine hK.out _ _ (Below.refl _ _) ?_
    clear hK K
    repeat (first | (refine CanT.skip rfl ?_ (fun K hK => ?_); (focus (go_simp; done)); go_simp; refine hK _ ?_; clear hK K) | (refine CanT.pur rfl ?_ ?_; (focus (go_simp; done)); refine ⟨?_, ?_, ?_⟩; rotate_left; (focus (intro w'; go_simp; rfl)); (focus (intro K hK; go_simp; refine hK _ ?_; clear hK K))))
    refine CanT.done ?_
    by_cases hG0 : G = []
    · have hG1 : G.length = 0 := by rw [hG0]; rfl
      have hr1 : r = none := by rw [← Hr0.out, hG0]; rfl
      have Hr1 := Lib.hid hr1
      clear hr1 hG0
      rw [hG1]
      go_wp2_with fail
      go_ret2
      exact ⟨by rw [Hr1.out]; rfl, HbW.out⟩
    · have hGp : 0 < G.length := by cases G with | nil => exact absurd rfl hG0 | cons _ _ => simp
      have hGn : ¬ (G.length : Int) = 0 := by omega
      have hGn2 : ¬ G.length = 0 := by omega
      obtain ⟨N, hN⟩ : ∃ N, N = G.length := ⟨_, rfl⟩
      rw [← hN] at hGp hGn hGn2 hgl2 q1 ⊢
      have HN := Lib.hid hN
      clear hN hG0
      have hfl : [b].flatten = b := by simp
      have hba := (Below.refl W.heap.size W).alloc (Nat.le_refl _) (.cells #[.slice A z c] 22)
      have Hbb : Hid (ReadBB (W.alloc (.cells #[.slice A z c] 22)) (W.alloc (.cells #[.slice A z c] 22)).heap.size (some ⟨W.heap.size, 0, none⟩) [b]) := Lib.hid ((ReadBB.lit1 W 22 A z c b w.heap.size W.heap.size rfl (by rw [Hs0.out]; exact Nat.le_refl _) Hbz.out.symm HrW.out (by have := Hbz.out; omega) hcm).more (by simp))
      have Htab1 : Hid (Tab (W.alloc (.cells #[.slice A z c] 22))) := Lib.hid (HtW.out.below ((Below.refl _ _).alloc (Nat.le_refl _) _))
      have Hfl := Lib.hid hfl
      have HB1 := Lib.hid (HbW.out.alloc HbW.out.size (.cells #[.slice A z c] 22))
      clear hfl
      have hof := of_calls [b] (some ⟨W.heap.size, 0, none⟩) 1 _ Hbb.out Htab1.out (by simp) (by omega) (by intro p hp; simp at hp; subst hp; exact hbl) (by rw [Hfl.out]; omega)
      rw [Hfl.out, Hx2.out] at hof
      have Hof : Hid (Calls Tryd.prog 16 #[.slice (some ⟨W.heap.size, 0, none⟩) 1 1] (W.alloc (.cells #[.slice A z c] 22)) fun e w' => e = .returned (.agg (bvs x2).toArray) ∧ Below (W.alloc (.cells #[.slice A z c] 22)).heap.size (W.alloc (.cells #[.slice A z c] 22)) w') := Lib.hid hof
      clear hof
      go_wp2_with (first
        | (go_at_call 16; refine Hof.out.mono ?_; rintro e w2 ⟨rfl, hb2⟩; have HB2 := Lib.hid (HB1.out.trans (hb2.mono HB1.out.size)); clear hb2)
        | (refine wpList_store_blk rfl 42 (.tmp 7) (.tmp 33) rfl w2.heap.size 0 42 [] (List.replicate 32 (.int .u8 0)) [] (bvs x2) rfl rfl (heap_alloc_new _ _) rfl (by rw [bvs_length, Hl2.out]; rfl) (by rw [bvs_length, Hl2.out]; kernel_rfl) (bvs_one _) ?_; intro w3 hS3 hg3))
      have hb3 : Below w2.heap.size w2 w3 := only_after ((Below.refl _ _).alloc (Nat.le_refl _) _) hg3 (Nat.le_refl _)
      have HS3 : Hid (Blk w3 w2.heap.size 42 (bvs x2).toArray) := Lib.hid (by simpa using hS3)
      have HB3 := Lib.hid (HB2.out.trans (hb3.mono HB2.out.size))
      have HG4 : Hid (ReadRow stv 33 w3 w.heap.size A1 G) := Lib.hid (HG3.out.below HB3.out)
      have Hw2 : Hid (w.heap.size ≤ w2.heap.size) := Lib.hid HB2.out.size
      generalize w2.heap.size = gh at *
      clear hS3 hg3 hb3 HB2 HB1 Htab1 Hbb hba HbW HrW HtW HG3W Hc2W HgW hlkW Hsum
      go_loopg [36] N (fun q v36 wr => ∃ k : Nat, k ≤ N ∧ q = N - k ∧ v36 = .int .i64 (k : Int) ∧ (G.take k).find? (fun p => p.1 == x2) = none ∧ Below w3.heap.size w3 wr)
      case atStart => exact ⟨0, by omega, rfl, rfl, by simp, Below.refl _ _⟩
      case round =>
        obtain ⟨k, hk, hq, rfl, hf, hB⟩ := hrel
        have Hq := Lib.hid hq
        have Hf := Lib.hid hf
        have HB := Lib.hid hB
        clear hq hf hB
        by_cases hkn : k < N
        · have t1 : decide ((k : Int) < (N : Int)) = true := by rw [decide_eq_true_eq]; omega
          have hkG : k < G.length := by rw [← HN.out]; exact hkn
          obtain ⟨b1, o1, rfl, hb1, hc1⟩ := HG4.out.at_ (List.getElem?_eq_getElem hkG)
          obtain ⟨y1, y2, hy⟩ : ∃ y1 y2, G[k] = (y1, y2) := ⟨_, _, rfl⟩
          have hw := Hwg.out _ (List.getElem_mem hkG)
          have hy2 : G.getD k ([], 0) = (y1, y2) := by rw [← hy]; simp [List.getD, hkG]
          rw [hy] at hc1 hw
          have HC1 : Hid (wr.rangeAt b1 (o1 + k * 33) (stv (y1, y2))) := Lib.hid fun j u hu => (HB.out.cell (p := ⟨b1, o1 + k * 33 + j, none⟩) (Nat.lt_of_lt_of_le hb1 (Nat.le_trans HB3.out.size (Nat.le_refl _)))).trans (hc1 j u hu)
          have HSr : Hid (Blk wr gh 42 (bvs x2).toArray) := Lib.hid (HS3.out.below HB.out HS3.out.lt)
          have Hgr := HSr.out.lt
          have HL1 : Hid (y1.length = 32) := Lib.hid hw.1
          obtain ⟨eb, heb⟩ : ∃ eb, eb = (y1 == x2) := ⟨_, rfl⟩
          have heq : ∀ w', (binOp .eql 42 (.agg (bvs y1).toArray) (.agg (bvs x2).toArray)).run Tryd.prog w' = .ok (.bool eb) w' := fun w' => by rw [heb]; exact run_eqB y1 x2 HL1.out Hl2.out w'
          have Heb := Lib.hid heb
          have Hy2 := Lib.hid hy2
          have HkG := Lib.hid hkG
          have hst : ∀ w4 o, Blk w4 wr.heap.size 82 ([] ++ (stv (y1, y2) ++ [])).toArray → (wr.alloc o).grownBy w4 (some wr.heap.size) →
              Hid (Blk w4 wr.heap.size 82 ([] ++ (bvs y1 ++ [Value.int .i64 (y2 : Int)])).toArray) ∧ Hid (Below w3.heap.size w3 w4) ∧ Hid (Blk w4 gh 42 (bvs x2).toArray) ∧ w4.cell? ⟨wr.heap.size, 32, none⟩ = some (.int .i64 (y2 : Int)) := by
            intro w4 o hS4 hg4
            have hb4 : Below wr.heap.size wr w4 := only_after ((Below.refl _ _).alloc (Nat.le_refl _) _) hg4 (Nat.le_refl _)
            have h4 : Blk w4 wr.heap.size 82 ([] ++ (bvs y1 ++ [Value.int .i64 (y2 : Int)])).toArray := by simpa [stv] using hS4
            refine ⟨Lib.hid h4, Lib.hid (HB.out.trans (hb4.mono HB.out.size)), Lib.hid (HSr.out.below hb4 Hgr), ?_⟩
            rw [Blk.cell h4]
            exact stv32 y1 y2 HL1.out
          have Hst := Lib.hid hst
          clear hc1 hb1 hy hy2 hw heb hkG hst
          cases eb with
          | true =>
            go_wp2_with (first
              | (refine wpList_load_mid rfl 82 (.tmp 38) rfl b1 (o1 + k * 33) rfl (stv (y1, y2)) _ HC1.out Tryd.underlying82 rfl (by rw [stv_len HL1.out]; kernel_rfl) ?_)
              | (refine wpList_store_blk rfl 82 (.tmp 9) (.tmp 39) rfl wr.heap.size 0 82 [] (List.replicate 32 (Value.int .u8 0) ++ [Value.int .i64 0]) [] (stv (y1, y2)) rfl rfl (by exact heap_alloc_new _ _) rfl (by rw [stv_len HL1.out]; rfl) (by rw [stv_len HL1.out]; kernel_rfl) (stv_one _) ?_; intro w4 hS4 hg4; obtain ⟨HS4, HB4, HSr4, hc32⟩ := Hst.out w4 _ hS4 hg4; clear hS4 hg4)
              | (refine wpList_load_blk rfl 42 (.tmp 40) rfl wr.heap.size 0 82 [] (bvs y1) [Value.int .i64 (y2 : Int)] rfl HS4.out rfl _ Tryd.underlying42 rfl (by rw [bvs_length, HL1.out]; kernel_rfl) ?_)
              | (refine wpList_load_blk rfl 42 (.tmp 7) rfl gh 0 42 [] (bvs x2) [] rfl (by rw [List.append_nil, List.nil_append]; exact HSr4.out) rfl _ Tryd.underlying42 rfl (by rw [bvs_length, Hl2.out]; kernel_rfl) ?_))
            go_ret2
            refine ⟨?_, HB3.out.trans (HB4.out.mono HB3.out.size)⟩
            have hr1 : r = some (y1, y2) := by
              rw [← Hr0.out]
              have := find_take_none (fun p : St => p.1 == x2) G k ([], 0) Hf.out HkG.out (by rw [Hy2.out]; exact Heb.out.symm)
              rw [Hy2.out] at this
              exact this
            rw [hr1]
            rfl
          | false =>
            go_wp2_with (first
              | (refine wpList_load_mid rfl 82 (.tmp 38) rfl b1 (o1 + k * 33) rfl (stv (y1, y2)) _ HC1.out Tryd.underlying82 rfl (by rw [stv_len HL1.out]; kernel_rfl) ?_)
              | (refine wpList_store_blk rfl 82 (.tmp 9) (.tmp 39) rfl wr.heap.size 0 82 [] (List.replicate 32 (Value.int .u8 0) ++ [Value.int .i64 0]) [] (stv (y1, y2)) rfl rfl (by exact heap_alloc_new _ _) rfl (by rw [stv_len HL1.out]; rfl) (by rw [stv_len HL1.out]; kernel_rfl) (stv_one _) ?_; intro w4 hS4 hg4; obtain ⟨HS4, HB4, HSr4, hc32⟩ := Hst.out w4 _ hS4 hg4; clear hS4 hg4)
              | (refine wpList_load_blk rfl 42 (.tmp 40) rfl wr.heap.size 0 82 [] (bvs y1) [Value.int .i64 (y2 : Int)] rfl HS4.out rfl _ Tryd.underlying42 rfl (by rw [bvs_length, HL1.out]; kernel_rfl) ?_)
              | (refine wpList_load_blk rfl 42 (.tmp 7) rfl gh 0 42 [] (bvs x2) [] rfl (by rw [List.append_nil, List.nil_append]; exact HSr4.out) rfl _ Tryd.underlying42 rfl (by rw [bvs_length, Hl2.out]; kernel_rfl) ?_))
            go_roundg (N - (k + 1))
            case rel => exact ⟨k + 1, by omega, rfl, rfl, find_take_succ (fun p : St => p.1 == x2) G k ([], 0) Hf.out HkG.out (by rw [Hy2.out]; exact Heb.out.symm), HB4.out⟩
            case measure => have := Hq.out; omega
        · have hkn2 : k = N := by omega
          have t1 : decide ((k : Int) < (N : Int)) = false := by rw [decide_eq_false_iff_not]; omega
          have t2 : ¬ k < N := by omega
          go_wp2_with fail
          go_ret2
          refine ⟨?_, HB3.out.trans (HB.out.mono HB3.out.size)⟩
          have hr1 : r = none := by
            rw [← Hr0.out, ← Hf.out, hkn2, HN.out, List.take_length]
          rw [hr1]
          rfl
  · have hf : findB z l b = (0, false) := by unfold findB; rw [if_neg hbz]
    rw [hf]
    have h3 : ¬ (b.length : Int) = (z : Int) := by omega
    have hg := h1.lt
    clear h2 hr htab hf hwf
    go_enter Tryd.func34, Tryd.ntmps34
    go_wp2_with fail
    go_ret2
    exact ⟨rfl, Below.refl _ _⟩
end Bk
end Go.Proofs.YtiofkhjpknfkgaaDoor
