/- More of what the walks of the sums with a key use: rows that are owned, appends in drawn regions. -/
import Derived.Test.YtlkcibhdnicpkaaDoorMof
namespace Go.Proofs.YtlkcibhdnicpkaaDoor
namespace Mc
open Go.RowKit Ba Sm
set_option linter.unusedVariables false
theorem own_blk {w : World} {g n base : Nat} {E : TypeId} {l : List UInt8} (hb : Blk w g E (bvs l).toArray) (hbase : base ≤ g) (hn : n = l.length) (hm : l.length ≤ 9223372036854775807) : OwnB w base E (.slice (some ⟨g, 0, none⟩) n n) l := by
  subst hn
  refine ⟨by simp [bvs_length], .inr ⟨g, l.length, _, rfl, hbase, hb, Nat.le_refl _, by unfold maxLen; omega, by simp [bvs_length], ?_⟩⟩
  rw [Nat.mul_one, ← bvs_length l]
  exact List.take_length
theorem rpadN {k : List UInt8} {A : Option Addr} {n c : Nat} (x : UInt8) (xi : Int) (w : World) (hn : n = k.length) (hx : xi = (x.toNat : Int)) (hkc : k.length ≤ c) (hkm : k.length ≤ 140737488351232) (hr : ReadB w w.heap.size A k) :
    Calls Tryd.prog 51 #[.slice A n c, .int .u8 xi] w fun e w' => ∃ g, e = .returned (.slice (some ⟨g, 0, none⟩) 64 64) ∧ OwnB w' w.heap.size 5 (.slice (some ⟨g, 0, none⟩) 64 64) (mpad (mkey k) x) ∧ Below w.heap.size w w' := by
  subst hn hx
  refine (rpad_calls k A c hkc hkm x w hr).mono ?_
  rintro e w' ⟨g, rfl, h1, h2, h3⟩
  exact ⟨g, rfl, own_blk h2 h1 (by rw [mpad_len]) (by rw [mpad_len]; omega), h3⟩
theorem rof_own {w : World} {base : Nat} {v : Value} {l : List UInt8} (h : OwnB w base 5 v l) (hl : l.length ≤ 140737488351232) :
    Calls Tryd.prog 15 #[v] w fun e w' => e = .returned (.agg (bvs (sha l)).toArray) ∧ Below w.heap.size w w' := by
  obtain ⟨A, c, rfl, h1, h2, h3, h4⟩ := h.opens
  exact rof_calls l A c w h3 h1 hl
theorem cstep_appB {P : Program} (w : World) {ops : Array Oper} {o : Oper} {a : Act} {K : Act → World → Prop} {Q : Exit → Act → World → Prop} {R : Prop} (hgd : o.guard = none) (s x : Operand) (t : TypeId)
    (ho : o.op = .call { callee := .builtin .append, args := #[s, x], argTypes := #[t, t] })
    (base : Nat) (E : TypeId) (i : TypeInfo) (ht : P.underlying t = some (.slice E)) (hi : IsByte P E i)
    (v : Value) (l : List UInt8) (hs : a.eval s = v) (hown : OwnB w base E v l)
    (B : Nat) (A : Option Addr) (m c : Nat) (r : List UInt8) (hx : a.eval x = .slice A m c) (hm : m = r.length) (hr : ReadB w B A r)
    (hbytes : l.length + r.length ≤ 140737488355328) (hbase : base ≤ w.heap.size)
    (h : ∀ v' w', OwnB w' base E v' (l ++ r) → w.grownBy w' v.ownBlock → (v'.ownBlock = v.ownBlock ∨ v'.ownBlock = some w.heap.size) → Below base w w' → K (a.put o.dst v') w') :
    if Region.wanted o (yielded ops a.tmps) = true then Oper.wp P o a w K Q else R := by
  subst hm
  refine step_append_any w hgd s x t ho base E i (.int .u8 0) 1 1 ht hi.1 hi.2.1 hi.2.2.1 hi.2.2.2 rfl (by omega) v l.length (bvs l) hs hown B A r.length c (bvs r) hx hr.reads (bvs_one r) (by unfold maxLen; omega) (by omega) hbase ?_
  intro v' w' h1 h2 h3
  refine h v' w' ?_ h2 h3 ((Below.refl base w).grown h2 hbase (fun k hk => (World.ownsRow.lt hown k hk).1))
  unfold OwnB
  rw [List.length_append, bvs_append]
  exact h1
end Mc
end Go.Proofs.YtlkcibhdnicpkaaDoor
