/- What the walks of the sums with a key use: rows stored in drawn regions, contracts whose lengths are letters. -/
import Derived.Test.YtlkcibhdnicpkaaDoorShx
import Derived.Test.YtlkcibhdnicpkaaDoorMrpad
import Derived.Test.YtlkcibhdnicpkaaDoorCanT
import Derived.Test.YtlkcibhdnicpkaaDoorSf
namespace Go.Proofs.YtlkcibhdnicpkaaDoor
namespace CanT
open Go.RowKit Ba Sm
set_option linter.unusedVariables false
/-- a row of values goes into the midst of a block, the region's last store -/
theorem lastR {P : Program} {ops : Array Oper} {Q : Exit → Act → World → Prop} {F : World → Prop} {k : Nat} {rest : Ord} {o : Oper} {a : Act} {w : World} (hi : ops[k]? = some o) (hg : Region.wanted o (yielded ops a.tmps) = true)
    (ty : TypeId) (x y : Operand) (ho : o.op = .store ty x y) (g p : Nat) (t : TypeId) (pre old post vs : List Value) (hx : a.eval x = .pointer (some ⟨g, p, none⟩)) (hy : a.eval y = .agg vs.toArray) (hb : Blk w g t (pre ++ (old ++ post)).toArray) (hp : pre.length = p) (hl : old.length = vs.length)
    (hs : (P.info? ty).map (·.size) = some vs.length) (h1 : ∀ v ∈ vs, v.oneCell' = true) (h : ∀ w', Blk w' g t (pre ++ (vs ++ post)).toArray → w.grownBy w' (some g) → wpCan P ops Q k rest F (a.put o.dst undef) w') : wpCan P ops Q k (.op k 0 rest) F a w := by
  subst hp
  refine last hi (fun K hK => ?_)
  rw [if_pos hg]
  refine wp_store_mid ty x y ho g pre.length vs.toArray hx hy ?_ (by rw [List.size_toArray]; exact hs) (all_oneCell_toArray h1) (hK.out _ _ (h _ (Blk.setCells vs pre old post hb hl) (only_setCells _ _ _ _)))
  refine Blk.there hb _ _ ?_
  simp
  omega
end CanT
namespace Mc
open Go.RowKit Ba Sm
set_option linter.unusedVariables false
theorem readT_blk {w : World} {g : Nat} {t : TypeId} {l : List UInt8} (hb : Blk w g t (bvs l).toArray) : ReadT w t (some ⟨g, 0, none⟩) l := by
  intro _
  refine ⟨g, 0, _, rfl, hb, fun k hk => ?_⟩
  have := Blk.cell hb k
  rw [List.getElem?_toArray, bvs_get _ _ hk] at this
  simpa using this
theorem padN {k : List UInt8} {A : Option Addr} {n c : Nat} (x : UInt8) (xi : Int) (w : World) (hn : n = k.length) (hx : xi = (x.toNat : Int)) (hk : k.length ≤ 64) (hr : ReadB w w.heap.size A k) :
    Calls Tryd.prog 50 #[.slice A n c, .int .u8 xi] w fun e w' => ∃ g, e = .returned (.slice (some ⟨g, 0, none⟩) 64 64) ∧ w.heap.size ≤ g ∧ Blk w' g 5 (bvs (mpad k x)).toArray ∧ Below w.heap.size w w' := by
  subst hn hx
  exact pad_calls k A c hk x w hr
theorem writeN {w : World} {g n c : Nat} {l b : List UInt8} {A : Option Addr} (hn : n = b.length) (h : IsH w g l) (hg : 0 < g) (htab : Tab w) (hr : ReadT w 5 A b) (hbc : b.length ≤ c) (hcm : c ≤ 9223372036854775807) (hbl : b.length ≤ 140737488351232) (hsum : l.length + b.length ≤ 4611686018427387904) :
    Calls Tryd.prog 17 #[.pointer (some ⟨g, 0, none⟩), .slice A n c] w fun e w' => e = .returned (.tuple #[]) ∧ IsH w' g (l ++ b) ∧ w.grownBy w' (some g) := by
  subst hn
  exact writeT_calls w g l b A c h hg htab hr hbc hcm hbl hsum
/-- one part, laid into a row of parts -/
theorem of1 {W : World} {k : List UInt8} {A : Option Addr} {n c g : Nat} (hg : g = W.heap.size) (hn : n = k.length) (hr : ReadB W W.heap.size A k) (htab : Tab W) (hkc : k.length ≤ c) (hkc2 : c ≤ 9223372036854775807) (hkm : k.length ≤ 140737488351232) :
    Calls Tryd.prog 14 #[.slice (some ⟨g, 0, none⟩) 1 1] (W.alloc (.cells #[.slice A n c] 22)) fun e w' => e = .returned (.agg (bvs (sha k)).toArray) ∧ Below W.heap.size W w' := by
  subst hg hn
  have h := of_calls [k] (some ⟨W.heap.size, 0, none⟩) 1 (W.alloc (.cells #[.slice A k.length c] 22)) (by simpa using ReadBB.lit1 W 22 A k.length c k W.heap.size W.heap.size rfl (Nat.le_refl _) rfl hr hkc hkc2) (htab.below ((Below.refl _ _).alloc (Nat.le_refl _) _)) (by simp) (by omega) (by simpa using hkm) (by simp; omega)
  simp only [List.flatten_cons, List.flatten_nil, List.append_nil] at h
  refine h.mono fun e w' ⟨h1, h2⟩ => ⟨h1, ((Below.refl _ _).alloc (Nat.le_refl _) _).trans (h2.mono (by simp))⟩
theorem of2 {W : World} {k1 k2 : List UInt8} {A1 A2 : Option Addr} {n1 n2 c1 c2 g : Nat} (hg : g = W.heap.size) (hn1 : n1 = k1.length) (hn2 : n2 = k2.length) (hr1 : ReadB W W.heap.size A1 k1) (hr2 : ReadB W W.heap.size A2 k2) (htab : Tab W) (hc1 : k1.length ≤ c1) (hc2 : k2.length ≤ c2) (hcm1 : c1 ≤ 9223372036854775807) (hcm2 : c2 ≤ 9223372036854775807) (hk1 : k1.length ≤ 140737488351232) (hk2 : k2.length ≤ 140737488351232) :
    Calls Tryd.prog 14 #[.slice (some ⟨g, 0, none⟩) 2 2] (W.alloc (.cells #[.slice A1 n1 c1, .slice A2 n2 c2] 22)) fun e w' => e = .returned (.agg (bvs (sha (k1 ++ k2))).toArray) ∧ Below W.heap.size W w' := by
  subst hg hn1 hn2
  have h := of_calls [k1, k2] (some ⟨W.heap.size, 0, none⟩) 2 (W.alloc (.cells #[.slice A1 k1.length c1, .slice A2 k2.length c2] 22)) (by simpa using ReadBB.lit2 W 22 A1 A2 k1.length c1 k2.length c2 k1 k2 W.heap.size W.heap.size rfl (Nat.le_refl _) rfl rfl hr1 hr2 hc1 hc2 hcm1 hcm2) (htab.below ((Below.refl _ _).alloc (Nat.le_refl _) _)) (by simp) (by omega) (by simpa using ⟨hk1, hk2⟩) (by simp; omega)
  simp only [List.flatten_cons, List.flatten_nil, List.append_nil] at h
  refine h.mono fun e w' ⟨h1, h2⟩ => ⟨h1, ((Below.refl _ _).alloc (Nat.le_refl _) _).trans (h2.mono (by simp))⟩
/-- a store into a new block: what was there stays -/
theorem after_store {W w1 w2 : World} {o : Obj} {g : Nat} (hb : Below W.heap.size W w1) (hg : (w1.alloc o).grownBy w2 (some g)) (he : g = w1.heap.size) : Below W.heap.size W w2 ∧ w1.heap.size < w2.heap.size := by
  subst he
  exact hx_store hb hg
theorem grown_ne {w w' : World} {g h : Nat} {t : TypeId} {cs : Array Value} (hb : Blk w h t cs) (hg : w.grownBy w' (some g)) (hne : h ≠ g) : Blk w' h t cs := hb.grown hg (by simpa using hne)
end Mc
end Go.Proofs.YtlkcibhdnicpkaaDoor
