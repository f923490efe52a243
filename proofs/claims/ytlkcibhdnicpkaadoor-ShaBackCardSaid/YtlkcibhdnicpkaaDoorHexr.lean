/- A sum's digits, by the document's answer: the walk. -/
import Derived.Test.YtlkcibhdnicpkaaDoorHex
import Derived.Test.YtlkcibhdnicpkaaDoorCanL
import Derived.Test.YtlkcibhdnicpkaaDoorSr
namespace Go.Proofs.YtlkcibhdnicpkaaDoor
namespace Hx
open Go.RowKit Ba Sm
set_option linter.unusedVariables false
theorem step_appB {P : Program} (w : World) {ops : Array Oper} {o : Oper} {a : Act} {K : Act → World → Prop} {Q : Exit → Act → World → Prop} {R : Prop} (hgd : o.guard = none) (s x : Operand) (t : TypeId)
    (ho : o.op = .call { callee := .builtin .append, args := #[s, x], argTypes := #[t, t] })
    (base : Nat) (E : TypeId) (i : TypeInfo) (ht : P.underlying t = some (.slice E)) (hi : IsByte P E i)
    (v : Value) (l : List UInt8) (hs : a.eval s = v) (hown : OwnB w base E v l)
    (B : Nat) (A : Option Addr) (m c : Nat) (r : List UInt8) (hx : a.eval x = .slice A m c) (hm : m = r.length) (hr : ReadB w B A r)
    (hbytes : l.length + r.length ≤ 140737488355328) (hbase : base ≤ w.heap.size)
    (h : ∀ v' w', OwnB w' base E v' (l ++ r) → w.grownBy w' v.ownBlock → (v'.ownBlock = v.ownBlock ∨ v'.ownBlock = some w.heap.size) → Below base w w' → K (a.put o.dst v') w') :
    if Region.wanted o (yielded ops a.tmps) = true then Oper.wp P o a w K Q else R := by
  subst hm
  refine step_append_any w hgd s x t ho base E i (.int .u8 0) 1 1 ht hi.1 hi.2.1 hi.2.2.1 hi.2.2.2 rfl (by omega) v l.length (bvs l) hs hown B A r.length c (bvs r) hx hr.reads (bvs_one r) (by unfold maxLen; omega) (by omega) hbase ?_
  intro v' w' h1 h2 h3
  refine h v' w' ?_ h2 h3 ((Below.refl base w).grown h2 hbase (fun k hk => (World.ownsRow.lt hown k hk).1))
  unfold OwnB
  rw [List.length_append, bvs_append]
  exact h1
set_option maxRecDepth 100000 in
set_option maxHeartbeats 2000000 in
theorem rhex_calls (x : List UInt8) (hx : x.length = 32) (w : World) : Calls Tryd.prog 24 #[.agg (bvs x).toArray] w
    fun e w' => e = .returned (.string (S (hexd x))) ∧ Below w.heap.size w w' := by
  obtain ⟨i0, hi0⟩ := isByte_of info5
  have Hi := Lib.hid hi0
  have Hx := Lib.hid hx
  obtain ⟨ag, hag⟩ : ∃ ag, ag = (bvs x).toArray := ⟨_, rfl⟩
  rw [← hag]
  have Hag := Lib.hid hag
  clear hx hi0 hag
  go_enter Tryd.func24, Tryd.ntmps24
  go_wp2_with fail
  go_loopg [3, 4] 32 (fun n v u wr => ∃ i : Nat, i ≤ 32 ∧ n = 32 - i ∧ u = .int .i64 i ∧ OwnB wr (w.heap.size + 1) 5 v (hexd (x.take i)) ∧ Below (w.heap.size + 1) (w.alloc (.cells ag 26)) wr)
  case atStart =>
    exact ⟨0, by omega, rfl, rfl, OwnB.nil, by simpa using Below.refl _ _⟩
  case round =>
    obtain ⟨i, hi32, hn, rfl, ho, hb⟩ := hrel
    have hX : Blk wr w.heap.size 26 ag := Blk.below (heap_alloc_new _ _) hb (by omega)
    have Ho := Lib.hid ho
    have Hb := Lib.hid hb
    have Hn := Lib.hid hn
    clear ho hb hn
    by_cases hil : i < 32
    · obtain ⟨c, hc⟩ : ∃ c, c = x.getD i 0 := ⟨_, rfl⟩
      have hgi : ag[i]? = some (.int .u8 (c.toNat : Int)) := by
        rw [Hag.out, List.getElem?_toArray, bvs_get x i (by rw [Hx.out]; exact hil), hc]
      have hcl : wr.cell? ⟨w.heap.size, i, none⟩ = some (.int .u8 (c.toNat : Int)) := by rw [Blk.cell hX, hgi]
      have h16 : (0 : Int) ≤ (c.toNat : Int) / 16 ∧ (c.toNat : Int) / 16 < 16 := by have := c.toNat_lt; omega
      have h15 : (0 : Int) ≤ (c.toNat : Int) % 16 ∧ (c.toNat : Int) % 16 < 16 := by omega
      have w16 : IntKind.u8.wrap ((c.toNat : Int) / 16) = (c.toNat : Int) / 16 := by rw [IntKind.wrap_u8]; omega
      have w15 : (c.toNat : Int).tmod 16 = (c.toNat : Int) % 16 := Int.tmod_eq_emod_of_nonneg (by omega)
      have hl : ∀ k, k ≤ 32 → (hexd (x.take k)).length ≤ 64 := by
        intro k hk
        rw [hexd_len, List.length_take]; omega
      have Hc := Lib.hid hc
      have Hl := Lib.hid hl
      have Hcl := Lib.hid hcl
      clear hc hl hgi hX hcl
      go_wp2_with fail
      refine CanL.region (fun w' => w'.cell? ⟨w.heap.size, i, none⟩ = some (.int .u8 (c.toNat : Int))) 1000 [(0, 2), (1, 2), (2, 2), (3, 1), (4, 2), (5, 2), (6, 2), (7, 2), (8, 1), (9, 2), (10, 2), (11, 0), (12, 0), (13, 2)] (by kernel_rfl) (by kernel_rfl) Hcl.out ?_
      repeat (first | (refine CanL.skip rfl ?_ (fun K hK => ?_); (focus (go_simp; done)); go_simp; refine hK _ ?_; clear hK K) | (refine CanL.pur rfl ?_ ?_; (focus (go_simp; done)); refine ⟨?_, ?_, ?_⟩; rotate_left; (focus (intro w'; go_simp; rfl)); (focus (intro K hK; go_simp; refine hK _ ?_; clear hK K))) | (refine CanL.held rfl ?_ ?_; (focus (go_simp; done)); refine ⟨?_, ?_, ?_⟩; rotate_left; (focus (intro w' hS'; (try dsimp only at hS'); go_simp; rfl)); (focus (intro K hK; go_simp; refine hK _ ?_; clear hK K))))
      refine CanL.imp rfl (fun K hK => ?_)
      go_simp
      refine hK.out _ _ ?_ ?_
      · show (wr.alloc _).cell? _ = _
        rw [World.cell?_alloc_past _ _ _ (by have := Hb.out.size; simp at this; omega)]
        exact Hcl.out
      clear hK K
      have e1 : (↑c.toNat / 16 : Int).toNat = c.toNat / 16 := by omega
      have e2 : (↑c.toNat % 16 : Int).toNat = c.toNat % 16 := by omega
      simp only [dg_get, e1, e2]
      refine CanL.imp rfl (fun K hK => ?_)
      refine step_appB _ rfl (.tmp 9) (.tmp 20) 22 rfl (w.heap.size + 1) 5 i0 Tryd.underlying22 Hi.out _ (hexd (x.take i)) rfl (Ho.out.alloc _) (wr.heap.size + 1) _ 2 2 [hi c, lo c] rfl rfl (ReadB.litN _ _ [.int .u8 ((dg.getD (c.toNat / 16) 0).toNat : Int), .int .u8 ((dg.getD (c.toNat % 16) 0).toNat : Int)] _ _ rfl rfl) (by have := Hl.out i (by omega); simp; omega) (by have := Hb.out.size; simp at this; simp; omega) ?_
      intro v3 w3 ho3 hg3 _ hb3
      have hb4 : Below (w.heap.size + 1) (w.alloc (.cells ag 26)) w3 := ((Hb.out.alloc (by simpa using Hb.out.size) _).drew).trans hb3
      have Ho3 := Lib.hid ho3
      have Hb4 := Lib.hid hb4
      have hcl3 : w3.cell? ⟨w.heap.size, i, none⟩ = some (.int .u8 (c.toNat : Int)) := by
        rw [World.cell?_of_block (a := ⟨w.heap.size, i, none⟩) (hb3.block w.heap.size (by omega))]
        show (wr.alloc _).cell? _ = _
        rw [World.cell?_alloc_past _ _ _ (by have := Hb.out.size; simp at this; omega)]
        exact Hcl.out
      clear ho3 hg3 hb3 hb4
      go_simp
      refine hK.out _ _ hcl3 ?_
      clear hK K hcl3
      repeat (first | (refine CanL.skip rfl ?_ (fun K hK => ?_); (focus (go_simp; done)); go_simp; refine hK _ ?_; clear hK K) | (refine CanL.pur rfl ?_ ?_; (focus (go_simp; done)); refine ⟨?_, ?_, ?_⟩; rotate_left; (focus (intro w'; go_simp; rfl)); (focus (intro K hK; go_simp; refine hK _ ?_; clear hK K))) | (refine CanL.held rfl ?_ ?_; (focus (go_simp; done)); refine ⟨?_, ?_, ?_⟩; rotate_left; (focus (intro w' hS'; (try dsimp only at hS'); go_simp; rfl)); (focus (intro K hK; go_simp; refine hK _ ?_; clear hK K))))
      refine CanL.done ?_
      go_wp2_with fail
      go_roundg (32 - (i + 1))
      case rel =>
        refine ⟨i + 1, by omega, rfl, by simp, ?_, Hb4.out⟩
        rw [hexd_step x i (by rw [Hx.out]; exact hil), ← Hc.out]
        exact Ho3.out
      all_goals (have := Hn.out; omega)
    · have Ho' := Ho.out
      rw [show i = 32 by omega, show x.take 32 = x by rw [← Hx.out, List.take_length]] at Ho'
      obtain ⟨A, c, rfl, p1, p2, p3, p4⟩ := Ho'.opens
      have hst := run_strof (P := Tryd.prog) wr 22 5 Tryd.underlying22 Tryd.underlying5 A c _ (hexd x) p3 9 Tryd.underlying9
      have hbw : Below w.heap.size w wr := ((Below.refl _ _).alloc (Nat.le_refl _) _).trans (Hb.out.mono (by omega))
      have Hbw := Lib.hid hbw
      clear p3 p4 Ho' hX hbw
      go_wp2_with fail
      go_ret
      exact ⟨rfl, Hbw.out⟩
end Hx
end Go.Proofs.YtlkcibhdnicpkaaDoor
