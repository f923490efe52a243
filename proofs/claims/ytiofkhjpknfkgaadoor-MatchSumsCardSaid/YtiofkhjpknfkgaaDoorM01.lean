/- Words for memory that the walks share: slices that read as lists of bytes, blocks that are known whole, what is appended and converted. (The first three parts are the guide's own lemmas to copy, from its page extra-words.) -/
import Derived.WalkKit
import Derived.KernelRfl
import Derived.RowKit3
import Derived.Deep.LoopGhost
import Derived.Deep.QuietTactic
import Derived.BigQuiet
import Derived.Lib.Hide
import Derived.Below
import Derived.Laws.OwnMore
import Derived.Deep.AppendLies
import Derived.Deep.Draws
import Derived.Laws.Rows
import Derived.Maps.AppendAt
import Derived.RegionTactic
import Derived.OwnWalk
import Derived.Lib.ConvBytes
import Derived.Lib.AppendStr
import Derived.Laws.BytesArg
import Derived.Deep.OwnRows
import Derived.WalkSpells
import Derived.Laws.BitsAllLaws
import Derived.Laws.BitsLemmas
import Derived.Lib.AppendZeros
namespace Go.Proofs.YtiofkhjpknfkgaaDoor
namespace Ba
open Go.RowKit
set_option linter.unusedVariables false
theorem block_of_add (a : Addr) (n : Nat) : (a.add n).block = a.block := by unfold Addr.add; split <;> rfl
theorem add_of_add (a : Addr) (i j : Nat) : (a.add i).add j = a.add (i + j) := by
  unfold Addr.add
  by_cases hi : i = 0 <;> by_cases hj : j = 0 <;> simp [hi, hj, Nat.add_assoc]

def Reads (w : World) (B size : Nat) (A : Option Addr) (n : Nat) (xs : List Value) : Prop :=
  xs.length = n * size ∧ (0 < n → ∃ ad, A = some ad ∧ ad.block < B ∧ ∀ j u, xs[j]? = some u → w.cell? (ad.add j) = some u)

section
variable {w w' : World} {B B' size n : Nat} {A : Option Addr} {xs : List Value}
theorem Reads.none_ : Reads w B size A 0 [] := ⟨by simp, fun h => absurd h (by omega)⟩
theorem Reads.at_ {k : Nat} (h : Reads w B 1 A n xs) (hk : k < n) : ∃ ad u, A = some ad ∧ ad.block < B ∧ xs[k]? = some u ∧ w.cell? (ad.add k) = some u := by
  obtain ⟨ad, e, hb, hc⟩ := h.2 (by omega)
  have hl : k < xs.length := by have := h.1; omega
  exact ⟨ad, xs[k], e, hb, List.getElem?_eq_getElem hl, hc k _ (List.getElem?_eq_getElem hl)⟩
theorem Reads.keep (h : Reads w B size A n xs) (hk : ∀ p : Addr, p.block < B → w'.cell? p = w.cell? p) : Reads w' B size A n xs :=
  ⟨h.1, fun hn => by
    obtain ⟨ad, e, hb, hc⟩ := h.2 hn
    exact ⟨ad, e, hb, fun j u hu => (hk _ (by rw [block_of_add]; exact hb)).trans (hc j u hu)⟩⟩
theorem Reads.more (h : Reads w B size A n xs) (hB : B ≤ B') : Reads w B' size A n xs :=
  ⟨h.1, fun hn => by
    obtain ⟨ad, e, hb, hc⟩ := h.2 hn
    exact ⟨ad, e, by omega, hc⟩⟩
theorem Reads.below (h : Reads w B size A n xs) (hb : Below B w w') : Reads w' B size A n xs := h.keep fun _ hp => hb.cell hp
theorem Reads.drew (h : Reads w B size A n xs) : Reads w.drew B size A n xs := h
theorem Reads.drewN (h : Reads w B size A n xs) (k : Nat) : Reads (w.drewN k) B size A n xs := h
theorem Reads.alloc (h : Reads w B size A n xs) (hB : B ≤ w.heap.size) (o : Obj) : Reads (w.alloc o) B size A n xs := h.keep fun p hp => World.cell?_alloc_lt w o p (by omega)
theorem Reads.setCell (h : Reads w B size A n xs) {p : Addr} (hB : B ≤ p.block) (u : Value) : Reads (w.setCell p u) B size A n xs :=
  h.keep fun q hq => World.cell?_setCell_other w p q u (fun e => by subst e; omega)
theorem Reads.grown (h : Reads w B size A n xs) {row : Option Nat} (hg : w.grownBy w' row) (hB : B ≤ w.heap.size) (hr : ∀ g, row = some g → B ≤ g) : Reads w' B size A n xs :=
  h.keep fun p hp => World.cell?_of_block (hg.block p.block (by omega) (fun e => by have := hr _ e.symm; omega))
theorem Reads.cut (h : Reads w B size A n xs) {k cap : Nat} (hk : k ≤ n) (hc : n ≤ cap) :
    Reads w B size (if cap = k then A else A.map (·.add (k * size))) (n - k) (xs.drop (k * size)) := by
  refine ⟨by rw [List.length_drop, h.1, Nat.sub_mul], fun hn => ?_⟩
  obtain ⟨ad, rfl, hb, hcell⟩ := h.2 (by omega)
  rw [if_neg (by omega)]
  refine ⟨ad.add (k * size), rfl, by rw [block_of_add]; exact hb, fun j u hu => ?_⟩
  rw [add_of_add]
  exact hcell _ u (by rw [← hu, List.getElem?_drop])
theorem Reads.of_own {base : Nat} {e : TypeId} {c : Nat} (h : w.ownsRow base e size (.slice A n c) n xs) : Reads w w.heap.size size A n xs := by
  refine ⟨h.1, fun hn => ?_⟩
  obtain ⟨g, cap, hv, _, hlt⟩ := h.form hn
  have hA : A = some ⟨g, 0, none⟩ := by injection hv
  subst hA
  exact ⟨_, rfl, hlt, h.cells (g := g) rfl⟩
end

def Blk (w : World) (g : Nat) (t : TypeId) (cs : Array Value) : Prop := w.heap[g]? = some (.cells cs t (0, 0))

section
variable {w w' : World} {g : Nat} {t : TypeId} {cs : Array Value}
theorem Blk.lt (h : Blk w g t cs) : g < w.heap.size := by
  rcases Nat.lt_or_ge g w.heap.size with hlt | hge
  · exact hlt
  · unfold Blk at h; rw [Array.getElem?_eq_none hge] at h; cases h
theorem Blk.cell (h : Blk w g t cs) (i : Nat) : w.cell? ⟨g, i, none⟩ = cs[i]? := cell_of_row w g i cs t (0, 0) h
theorem Blk.frozen (h : Blk w g t cs) (i : Nat) : w.frozen? ⟨g, i, none⟩ = false := by
  unfold Blk at h
  simp [World.frozen?, h]
theorem Blk.new (w : World) (t : TypeId) (cs : Array Value) : Blk (w.alloc (.cells cs t)) w.heap.size t cs := heap_alloc_new w _
theorem Blk.drew (h : Blk w g t cs) : Blk w.drew g t cs := h
theorem Blk.drewN (h : Blk w g t cs) (n : Nat) : Blk (w.drewN n) g t cs := h
theorem Blk.alloc (h : Blk w g t cs) (o : Obj) : Blk (w.alloc o) g t cs := (Below.heap_alloc w o g h.lt).trans h
theorem Blk.set_ (h : Blk w g t cs) (i : Nat) (u : Value) : Blk (w.setCell ⟨g, i, none⟩ u) g t (cs.setIfInBounds i u) := by
  unfold Blk at h ⊢
  simp [World.setCell, Array.getElem?_modify, h]
theorem Blk.far (h : Blk w g t cs) {p : Addr} (hp : g ≠ p.block) (u : Value) : Blk (w.setCell p u) g t cs := (Below.heap_setCell w p u g hp).trans h
theorem Blk.below {B : Nat} (h : Blk w g t cs) (hb : Below B w w') (hg : g < B) : Blk w' g t cs := (hb.block g hg).trans h
theorem Blk.grown {row : Option Nat} (h : Blk w g t cs) (hb : w.grownBy w' row) (hg : some g ≠ row) : Blk w' g t cs := (hb.block g h.lt hg).trans h
theorem Blk.ne_ {g' : Nat} {t' : TypeId} {cs' : Array Value} (h : Blk w g t cs) (h' : Blk w g' t' cs') (hne : t ≠ t') : g ≠ g' := by
  rintro rfl
  unfold Blk at h h'
  rw [h] at h'
  injection h' with h'
  injection h' with _ ht
  exact hne ht
theorem own_blk_ne {base : Nat} {e : TypeId} {size n : Nat} {v : Value} {xs : List Value} (h : w.ownsRow base e size v n xs) (hg : Blk w g t cs) (hne : e ≠ t) : v.ownBlock ≠ some g := by
  rcases h.2 with ⟨rfl, _⟩ | ⟨g', cap, cur, rfl, _, hh, _⟩
  · simp [Value.ownBlock]
  · intro he
    have : g' = g := by simpa [Value.ownBlock] using he
    subst this
    exact Blk.ne_ (t := e) hh hg hne rfl
end

section
variable {P : Program} (w : World)

theorem run_append_of_nil (base : Nat) (t ty e : TypeId) (i : TypeInfo) (size : Nat) (ht : P.underlying t = some (.slice e)) (hi : P.info? e = some i)
    (v : Value) (n : Nat) (xs : List Value) (hown : w.ownsRow base e size v n xs) (c : Nat) : (Builtin.append_ #[t, t] ty #[v, .slice none 0 c]).run P w = .ok v w := by
  rcases hown.2 with ⟨rfl, rfl⟩ | ⟨g, cap, cur, rfl, _, _, hnc, _⟩
  · simp [Builtin.append_, run_underlying ht, sizeOf, typeInfo, hi, Builtin.lenOf, Builtin.firstCells]
  · simp [Builtin.append_, run_underlying ht, sizeOf, typeInfo, hi, Builtin.lenOf, Builtin.firstCells, hnc, storeCells]

theorem run_append_any (base : Nat) (t ty e : TypeId) (i : TypeInfo) (z : Value) (size bytes : Nat) (ht : P.underlying t = some (.slice e)) (hi : P.info? e = some i) (hz : i.zero = some z)
    (hsize : i.size = size) (hby : i.bytes = bytes) (hzs : z.cells.size = size) (hsz : 0 < size)
    (v : Value) (n : Nat) (xs : List Value) (hown : w.ownsRow base e size v n xs)
    (B : Nat) (A : Option Addr) (m c : Nat) (news : List Value) (hr : Reads w B size A m news) (h1 : ∀ u ∈ news, u.oneCell' = true)
    (h63 : n + m ≤ maxLen) (hbytes : (n + m) * bytes ≤ 140737488355328) (hbase : base ≤ w.heap.size) :
    ∃ v' w', (Builtin.append_ #[t, t] ty #[v, .slice A m c]).run P w = .ok v' w' ∧ w'.ownsRow base e size v' (n + m) (xs ++ news) ∧ w.grownBy w' v.ownBlock ∧
      (v'.ownBlock = v.ownBlock ∨ v'.ownBlock = some w.heap.size) := by
  rcases A with _ | ad
  · have hm : m = 0 := by
      rcases Nat.eq_zero_or_pos m with h0 | h0
      · exact h0
      · obtain ⟨ad, h, _⟩ := hr.2 h0
        cases h
    subst hm
    have hn : news = [] := List.eq_nil_of_length_eq_zero (by simpa using hr.1)
    subst hn
    exact ⟨v, w, run_append_of_nil w base t ty e i size ht hi v n xs hown c, by simpa using hown, World.grownBy.refl w _, .inl rfl⟩
  · have hcells : ∀ j u, news[j]? = some u → w.cell? (ad.add j) = some u := by
      intro j u hu
      rcases Nat.eq_zero_or_pos m with h0 | h0
      · subst h0
        have hn : news = [] := List.eq_nil_of_length_eq_zero (by simpa using hr.1)
        subst hn
        simp at hu
      · obtain ⟨ad', h, _, hc⟩ := hr.2 h0
        injection h with h
        subst h
        exact hc j u hu
    obtain ⟨v', w', hrun, h2, h3, _, h5⟩ := run_append_own_at (P := P) w base t ty e i z size bytes ht hi hz hsize hby hzs hsz v n xs hown ad m c news hr.1 hcells h1 h63 hbytes hbase
    exact ⟨v', w', hrun, h2, h3, h5⟩

theorem wp_append_any {o : Oper} {a : Act} {K : Act → World → Prop} {Q : Exit → Act → World → Prop} (s x : Operand) (t : TypeId)
    (ho : o.op = .call { callee := .builtin .append, args := #[s, x], argTypes := #[t, t] })
    (base : Nat) (e : TypeId) (i : TypeInfo) (z : Value) (size bytes : Nat) (ht : P.underlying t = some (.slice e)) (hi : P.info? e = some i) (hz : i.zero = some z)
    (hsize : i.size = size) (hby : i.bytes = bytes) (hzs : z.cells.size = size) (hsz : 0 < size)
    (v : Value) (n : Nat) (xs : List Value) (hs : a.eval s = v) (hown : w.ownsRow base e size v n xs)
    (B : Nat) (A : Option Addr) (m c : Nat) (news : List Value) (hx : a.eval x = .slice A m c) (hr : Reads w B size A m news) (h1 : ∀ u ∈ news, u.oneCell' = true)
    (h63 : n + m ≤ maxLen) (hbytes : (n + m) * bytes ≤ 140737488355328) (hbase : base ≤ w.heap.size)
    (h : ∀ v' w', w'.ownsRow base e size v' (n + m) (xs ++ news) → w.grownBy w' v.ownBlock → (v'.ownBlock = v.ownBlock ∨ v'.ownBlock = some w.heap.size) → K (a.put o.dst v') w') : o.wp P a w K Q := by
  obtain ⟨v', w', hrun, h2, h3, h4⟩ := run_append_any (P := P) w base t o.type e i z size bytes ht hi hz hsize hby hzs hsz v n xs hown B A m c news hr h1 h63 hbytes hbase
  unfold Oper.wp execOp
  simp only [ho, resolve, invoke, builtin, Sem.run_bind, Sem.run_pure, Result.andThen_ok, List.map_toArray, List.map_cons, List.map_nil, hs, hx, hrun]
  exact h v' w' h2 h3 h4

theorem wpList_append_any {ops : Array Oper} {rest : List Oper} {o : Oper} {a : Act} {Q : Exit → Act → World → Prop} (hgd : o.guard = none) (s x : Operand) (t : TypeId)
    (ho : o.op = .call { callee := .builtin .append, args := #[s, x], argTypes := #[t, t] })
    (base : Nat) (e : TypeId) (i : TypeInfo) (z : Value) (size bytes : Nat) (ht : P.underlying t = some (.slice e)) (hi : P.info? e = some i) (hz : i.zero = some z)
    (hsize : i.size = size) (hby : i.bytes = bytes) (hzs : z.cells.size = size) (hsz : 0 < size)
    (v : Value) (n : Nat) (xs : List Value) (hs : a.eval s = v) (hown : w.ownsRow base e size v n xs)
    (B : Nat) (A : Option Addr) (m c : Nat) (news : List Value) (hx : a.eval x = .slice A m c) (hr : Reads w B size A m news) (h1 : ∀ u ∈ news, u.oneCell' = true)
    (h63 : n + m ≤ maxLen) (hbytes : (n + m) * bytes ≤ 140737488355328) (hbase : base ≤ w.heap.size)
    (h : ∀ v' w', w'.ownsRow base e size v' (n + m) (xs ++ news) → w.grownBy w' v.ownBlock → (v'.ownBlock = v.ownBlock ∨ v'.ownBlock = some w.heap.size) → wpList P ops Q rest (a.put o.dst v') w') : wpList P ops Q (o :: rest) a w :=
  wpList_plain hgd fun _ hK => wp_append_any w s x t ho base e i z size bytes ht hi hz hsize hby hzs hsz v n xs hs hown B A m c news hx hr h1 h63 hbytes hbase fun v' w' h2 h3 h4 => hK _ _ (h v' w' h2 h3 h4)

theorem step_append_any {ops : Array Oper} {o : Oper} {a : Act} {K : Act → World → Prop} {Q : Exit → Act → World → Prop} {E : Prop} (hgd : o.guard = none) (s x : Operand) (t : TypeId)
    (ho : o.op = .call { callee := .builtin .append, args := #[s, x], argTypes := #[t, t] })
    (base : Nat) (e : TypeId) (i : TypeInfo) (z : Value) (size bytes : Nat) (ht : P.underlying t = some (.slice e)) (hi : P.info? e = some i) (hz : i.zero = some z)
    (hsize : i.size = size) (hby : i.bytes = bytes) (hzs : z.cells.size = size) (hsz : 0 < size)
    (v : Value) (n : Nat) (xs : List Value) (hs : a.eval s = v) (hown : w.ownsRow base e size v n xs)
    (B : Nat) (A : Option Addr) (m c : Nat) (news : List Value) (hx : a.eval x = .slice A m c) (hr : Reads w B size A m news) (h1 : ∀ u ∈ news, u.oneCell' = true)
    (h63 : n + m ≤ maxLen) (hbytes : (n + m) * bytes ≤ 140737488355328) (hbase : base ≤ w.heap.size)
    (h : ∀ v' w', w'.ownsRow base e size v' (n + m) (xs ++ news) → w.grownBy w' v.ownBlock → (v'.ownBlock = v.ownBlock ∨ v'.ownBlock = some w.heap.size) → K (a.put o.dst v') w') :
    if Region.wanted o (yielded ops a.tmps) = true then Oper.wp P o a w K Q else E := by
  have hw : Region.wanted o (yielded ops a.tmps) = true := by simp [Region.wanted, hgd]
  rw [if_pos hw]
  exact wp_append_any w s x t ho base e i z size bytes ht hi hz hsize hby hzs hsz v n xs hs hown B A m c news hx hr h1 h63 hbytes hbase h
end

/-! ### bytes -/
def bv (b : UInt8) : Value := .int .u8 (b.toNat : Int)
def bvs (l : List UInt8) : List Value := l.map bv
def S (l : List UInt8) : ByteArray := ⟨l.toArray⟩
theorem S_list (l : List UInt8) : (S l).data.toList = l := rfl
theorem S_toList (l : List UInt8) : (S l).toList = l := by rw [ByteArray.toList_eq]; rfl
attribute [go_sem] S_toList
theorem S_size (l : List UInt8) : (S l).size = l.length := by simp [S, ByteArray.size]
theorem bvs_length (l : List UInt8) : (bvs l).length = l.length := by simp [bvs]
theorem bvs_append (a b : List UInt8) : bvs (a ++ b) = bvs a ++ bvs b := by simp [bvs]
theorem bvs_drop (a : List UInt8) (k : Nat) : (bvs a).drop k = bvs (a.drop k) := by simp [bvs]
theorem bvs_take (a : List UInt8) (k : Nat) : (bvs a).take k = bvs (a.take k) := by simp [bvs]
theorem bvs_one (l : List UInt8) : ∀ u ∈ bvs l, u.oneCell' = true := by
  intro u hu
  obtain ⟨_, _, rfl⟩ := List.mem_map.1 hu
  rfl
theorem bvs_get (l : List UInt8) (k : Nat) (h : k < l.length) : (bvs l)[k]? = some (.int .u8 ((l.getD k 0).toNat : Int)) := by
  simp [bvs, bv, List.getD, h]
theorem bvs_set (l : List UInt8) (k n : Nat) (h : n < 256) : (bvs l).set k (.int .u8 (n : Int)) = bvs (l.set k (UInt8.ofNat n)) := by
  have : bv (UInt8.ofNat n) = .int .u8 (n : Int) := by
    unfold bv
    rw [UInt8.toNat_ofNat', Nat.mod_eq_of_lt (by omega)]
  rw [← this, bvs, bvs, List.map_set]
theorem u8_lt (b : UInt8) : (b.toNat : Int) < 256 ∧ 0 ≤ (b.toNat : Int) := ⟨by have := b.toNat_lt; omega, by omega⟩

def ReadB (w : World) (B : Nat) (A : Option Addr) (l : List UInt8) : Prop :=
  0 < l.length → ∃ b o, A = some ⟨b, o, none⟩ ∧ b < B ∧ ∀ k, k < l.length → w.cell? ⟨b, o + k, none⟩ = some (.int .u8 ((l.getD k 0).toNat : Int))
def OwnB (w : World) (base : Nat) (E : TypeId) (v : Value) (l : List UInt8) : Prop := w.ownsRow base E 1 v l.length (bvs l)

section
variable {w w' : World} {B B' : Nat} {A : Option Addr} {l : List UInt8} {E : TypeId} {v : Value} {base : Nat}
theorem add_zero_ (a : Addr) : a.add 0 = a := by simp [Addr.add]
theorem add_lit_ (b o k : Nat) : (⟨b, o, none⟩ : Addr).add k = ⟨b, o + k, none⟩ := by unfold Addr.add; split <;> simp_all
theorem ReadB.nil : ReadB w B A [] := fun h => absurd h (by simp)
theorem ReadB.head (h : ReadB w B A l) (hk : 0 < l.length) : ∃ b o, A = some ⟨b, o, none⟩ ∧ b < B ∧ w.cell? ⟨b, o, none⟩ = some (.int .u8 ((l.getD 0 0).toNat : Int)) := by
  obtain ⟨b, o, e, hb, hc⟩ := h hk
  exact ⟨b, o, e, hb, hc 0 hk⟩
theorem ReadB.reads (h : ReadB w B A l) : Reads w B 1 A l.length (bvs l) := by
  refine ⟨by simp [bvs], fun hn => ?_⟩
  obtain ⟨b, o, rfl, hb, hc⟩ := h hn
  refine ⟨_, rfl, hb, fun j u hu => ?_⟩
  have hj : j < l.length := by
    rcases Nat.lt_or_ge j l.length with h | h
    · exact h
    · rw [List.getElem?_eq_none (by rw [bvs_length]; exact h)] at hu; cases hu
  rw [add_lit_, hc j hj, ← hu, bvs_get l j hj]
theorem ReadB.of_reads (h : Reads w B 1 A l.length (bvs l)) : ReadB w B A l := by
  intro hn
  obtain ⟨ad, rfl, hb, hc⟩ := h.2 hn
  have h0 := hc 0 _ (bvs_get l 0 hn)
  rw [add_zero_] at h0
  have hs : ad.spot = none := by
    unfold World.cell? at h0
    split at h0
    · split at h0
      · cases h0
      · rename_i hs; simpa using hs
    · cases h0
  obtain ⟨b, o, s⟩ := ad
  simp only at hs
  subst hs
  exact ⟨b, o, rfl, hb, fun k hk => by rw [← add_lit_]; exact hc k _ (bvs_get l k hk)⟩
theorem ReadB.keep (h : ReadB w B A l) (hk : ∀ p : Addr, p.block < B → w'.cell? p = w.cell? p) : ReadB w' B A l := fun hn => by
  obtain ⟨b, o, e, hb, hc⟩ := h hn
  exact ⟨b, o, e, hb, fun k hkk => (hk ⟨b, o + k, none⟩ hb).trans (hc k hkk)⟩
theorem ReadB.below (h : ReadB w B A l) (hb : Below B w w') : ReadB w' B A l := h.keep fun _ hp => hb.cell hp
theorem ReadB.more (h : ReadB w B A l) (hB : B ≤ B') : ReadB w B' A l := fun hn => by
  obtain ⟨b, o, e, hb, hc⟩ := h hn
  exact ⟨b, o, e, Nat.lt_of_lt_of_le hb hB, hc⟩
theorem ReadB.cut (h : ReadB w B A l) {k cap : Nat} (hc : l.length ≤ cap) : ReadB w B (if cap = k then A else A.map (·.add k)) (l.drop k) := fun hn => by
  have hk : k < l.length := by simp at hn; omega
  obtain ⟨b, o, rfl, hb, hcl⟩ := h (by omega)
  rw [if_neg (by omega)]
  refine ⟨b, o + k, by simp [add_lit_], hb, fun j hj => ?_⟩
  have hj' : k + j < l.length := by simp at hj; omega
  rw [Nat.add_assoc, hcl (k + j) hj']
  simp [List.getD]
theorem ReadB.drop {b o : Nat} (h : ReadB w B (some ⟨b, o, none⟩) l) (k : Nat) : ReadB w B (some ⟨b, o + k, none⟩) (l.drop k) := fun hn => by
  have hk : k < l.length := by simp at hn; omega
  obtain ⟨b', o', e, hb, hcl⟩ := h (by omega)
  injection e with e
  injection e with e1 e2
  subst e1 e2
  refine ⟨b, o + k, rfl, hb, fun j hj => ?_⟩
  have hj' : k + j < l.length := by simp at hj; omega
  rw [Nat.add_assoc, hcl (k + j) hj']
  simp [List.getD]
theorem ReadB.take (h : ReadB w B A l) (k : Nat) : ReadB w B A (l.take k) := fun hn => by
  have hl : 0 < l.length := by simp at hn; omega
  obtain ⟨b, o, e, hb, hc⟩ := h hl
  refine ⟨b, o, e, hb, fun j hj => ?_⟩
  have hj' : j < k ∧ j < l.length := by simp at hj; omega
  rw [hc j hj'.2]
  simp [List.getD, hj'.1]
theorem ReadB.of_own {c : Nat} (h : OwnB w base E (.slice A l.length c) l) : ReadB w w.heap.size A l := ReadB.of_reads (Reads.of_own h)
theorem OwnB.opens (h : OwnB w base E v l) : ∃ A c, v = .slice A l.length c ∧ l.length ≤ c ∧ c ≤ 9223372036854775807 ∧ ReadB w w.heap.size A l ∧ (∀ ad, A = some ad → base ≤ ad.block ∧ ad.block < w.heap.size) := by
  rcases h.2 with ⟨rfl, hn⟩ | ⟨g, cap, cur, rfl, hb, hh, hnc, hm, _⟩
  · have hl : l = [] := List.eq_nil_of_length_eq_zero hn
    subst hl
    exact ⟨none, 0, rfl, by simp, by omega, ReadB.nil, by intro _ h; cases h⟩
  · refine ⟨_, _, rfl, hnc, by simpa [maxLen] using hm, ReadB.of_reads (Reads.of_own h), ?_⟩
    intro ad had
    injection had with had
    subst had
    exact ⟨hb, (Array.getElem?_eq_some_iff.1 hh).1⟩
theorem OwnB.row (h : OwnB w base E v l) (hl : 0 < l.length) : ∃ g c, v = .slice (some ⟨g, 0, none⟩) l.length c ∧ base ≤ g ∧ g < w.heap.size ∧ l.length ≤ c ∧ c ≤ 9223372036854775807 := by
  rcases h.2 with ⟨rfl, hn⟩ | ⟨g, cap, cur, rfl, hb, hh, hnc, hm, _⟩
  · omega
  · exact ⟨g, cap, rfl, hb, (Array.getElem?_eq_some_iff.1 hh).1, hnc, by simpa [maxLen] using hm⟩
theorem OwnB.cell {g c k : Nat} (h : OwnB w base E (.slice (some ⟨g, 0, none⟩) l.length c) l) (hk : k < l.length) : w.cell? ⟨g, k, none⟩ = some (.int .u8 ((l.getD k 0).toNat : Int)) := by
  rw [World.ownsRow.cellAt h k (by omega), bvs_get l k hk]
theorem OwnB.frz {g c : Nat} (h : OwnB w base E (.slice (some ⟨g, 0, none⟩) l.length c) l) (k : Nat) : w.frozen? ⟨g, k, none⟩ = false := World.ownsRow.frozenAt h k
theorem OwnB.put {g c : Nat} (h : OwnB w base E (.slice (some ⟨g, 0, none⟩) l.length c) l) (k n : Nat) (hn : n < 256) : OwnB (w.setCell ⟨g, k, none⟩ (.int .u8 (n : Int))) base E (.slice (some ⟨g, 0, none⟩) l.length c) (l.set k (UInt8.ofNat n)) := by
  have := (World.ownsRow.stored h k (.int .u8 (n : Int))).1
  rw [bvs_set l k n hn] at this
  unfold OwnB
  rw [List.length_set]
  exact this
theorem OwnB.drew (h : OwnB w base E v l) : OwnB w.drew base E v l := h
theorem OwnB.drewN (h : OwnB w base E v l) (n : Nat) : OwnB (w.drewN n) base E v l := h
theorem OwnB.alloc (h : OwnB w base E v l) (o : Obj) : OwnB (w.alloc o) base E v l := World.ownsRow.alloc h o
theorem OwnB.keptB (h : OwnB w base E v l) (hb : Below w.heap.size w w') : OwnB w' base E v l :=
  World.ownsRow.kept (row := none) h ⟨hb.os, hb.tape, hb.output, hb.size, fun k hk _ => hb.block k hk⟩ (by cases v.ownBlock <;> simp)
theorem OwnB.nil : OwnB w base E (.slice none 0 0) [] := ⟨by simp [bvs], .inl ⟨rfl, rfl⟩⟩
theorem OwnB.lit0 (w : World) (E : TypeId) (base g : Nat) (hg : g = w.heap.size) (hb : base ≤ w.heap.size) : OwnB (w.alloc (.cells #[] E)) base E (.slice (some ⟨g, 0, none⟩) 0 0) [] := by
  subst hg
  exact World.ownsRow_lit w #[] 0 hb (by unfold maxLen; omega) rfl
theorem OwnB.weak {b2 : Nat} (h : OwnB w base E v l) (hb : b2 ≤ base) : OwnB w b2 E v l := by
  refine ⟨h.1, ?_⟩
  rcases h.2 with hh | ⟨g, cap, cur, e, hbb, r⟩
  · exact .inl hh
  · exact .inr ⟨g, cap, cur, e, by omega, r⟩
theorem OwnB.ge (h : OwnB w base E v l) : ∀ k, v.ownBlock = some k → base ≤ k := fun k hk => (World.ownsRow.lt h k hk).1
end

section
variable {P : Program}
theorem run_strof (w : World) (src e : TypeId) (hs : P.underlying src = some (.slice e)) (he : P.underlying e = some (.int .u8)) (A : Option Addr) (c B : Nat) (l : List UInt8) (h : ReadB w B A l)
    (dst : TypeId) (hd : P.underlying dst = some .string) : (convert src dst (.slice A l.length c)).run P w = .ok (.string (S l)) w := by
  rw [run_convert_bytes_string w src dst e A l.length c hs he hd]
  rcases A with _ | ad
  · have : l = [] := by
      rcases l with _ | ⟨x, l⟩
      · rfl
      · obtain ⟨_, _, hx, _⟩ := h (by simp)
        cases hx
    subst this
    simp [Conv.bytesToString, S]
    rfl
  · have hcell : ∀ j v, (bvs l)[j]? = some v → w.cell? (ad.add j) = some v := by
      intro j v hj
      rcases Nat.eq_zero_or_pos l.length with h0 | h0
      · have hl : l = [] := List.eq_nil_of_length_eq_zero h0
        subst hl
        simp [bvs] at hj
      · obtain ⟨ad', e1, _, hc⟩ := h.reads.2 h0
        injection e1 with e1
        subst e1
        exact hc j v hj
    have hl := run_loadCells_list (P := P) w ad (bvs l) hcell
    rw [run_bytesToString w ad l.length c (l.map fun b => (b.toNat : Int)) (by
      rw [bvs_length] at hl
      rw [hl]
      simp [bvs, bv, Function.comp_def]), foldl_push_bytes]
    simp [S, ByteArray.empty, ByteArray.emptyWithCapacity, Function.comp_def]
    rfl
end
/-! ### appends of bytes -/
theorem ReadB.lit1 (w : World) (E : TypeId) (x : Int) (b : UInt8) (h : x = (b.toNat : Int)) : ReadB (w.alloc (.cells #[.int .u8 x] E)) (w.heap.size + 1) (some ⟨w.heap.size, 0, none⟩) [b] := by
  intro _
  refine ⟨w.heap.size, 0, rfl, by omega, fun k hk => ?_⟩
  have : k = 0 := by simp at hk; omega
  subst this
  rw [cell_of_row _ w.heap.size 0 #[.int .u8 x] E (0, 0) (heap_alloc_new w _), h]
  rfl
def IsByte (P : Program) (E : TypeId) (i : TypeInfo) : Prop := P.info? E = some i ∧ i.zero = some (.int .u8 0) ∧ i.size = 1 ∧ i.bytes = 1
theorem isByte_of {P : Program} {E : TypeId} (h : (P.info? E).map (fun i => (i.zero, i.size, i.bytes)) = some (some (.int .u8 0), 1, 1)) : ∃ i, IsByte P E i := by
  obtain ⟨i, a, b, c, d⟩ := info_parts h
  exact ⟨i, a, b, c, d⟩
theorem wpList_appB {P : Program} (w : World) {ops : Array Oper} {rest : List Oper} {o : Oper} {a : Act} {Q : Exit → Act → World → Prop} (hgd : o.guard = none) (s x : Operand) (t : TypeId)
    (ho : o.op = .call { callee := .builtin .append, args := #[s, x], argTypes := #[t, t] })
    (base : Nat) (E : TypeId) (i : TypeInfo) (ht : P.underlying t = some (.slice E)) (hi : IsByte P E i)
    (v : Value) (l : List UInt8) (hs : a.eval s = v) (hown : OwnB w base E v l)
    (B : Nat) (A : Option Addr) (m c : Nat) (r : List UInt8) (hx : a.eval x = .slice A m c) (hm : m = r.length) (hr : ReadB w B A r)
    (hbytes : l.length + r.length ≤ 140737488355328) (hbase : base ≤ w.heap.size)
    (h : ∀ v' w', OwnB w' base E v' (l ++ r) → w.grownBy w' v.ownBlock → (v'.ownBlock = v.ownBlock ∨ v'.ownBlock = some w.heap.size) → Below base w w' → wpList P ops Q rest (a.put o.dst v') w') : wpList P ops Q (o :: rest) a w := by
  subst hm
  refine wpList_append_any w hgd s x t ho base E i (.int .u8 0) 1 1 ht hi.1 hi.2.1 hi.2.2.1 hi.2.2.2 rfl (by omega) v l.length (bvs l) hs hown B A r.length c (bvs r) hx hr.reads (bvs_one r) (by unfold maxLen; omega) (by omega) hbase ?_
  intro v' w' h1 h2 h3
  refine h v' w' ?_ h2 h3 ((Below.refl base w).grown h2 hbase (fun k hk => (World.ownsRow.lt hown k hk).1))
  unfold OwnB
  rw [List.length_append, bvs_append]
  exact h1
/-! ### bits at int64 -/
theorem ofInt_i64 (a : Nat) (ha : a < 9223372036854775808) : (BitVec.ofInt 64 (a : Int)).toNat = a := by
  rw [BitVec.ofInt_natCast, BitVec.toNat_ofNat]; exact Nat.mod_eq_of_lt (by omega)
theorem i64_and_nat (a b : Nat) (ha : a < 9223372036854775808) (hb : b < 9223372036854775808) : bits .and .i64 (a : Int) (b : Int) = ((a &&& b : Nat) : Int) := by
  have hx : a &&& b < 2 ^ 63 := Nat.and_lt_two_pow _ (by omega)
  show IntKind.i64.wrap ((BitVec.ofInt 64 (a : Int) &&& BitVec.ofInt 64 (b : Int)).toNat : Int) = _
  rw [BitVec.toNat_and, ofInt_i64 a ha, ofInt_i64 b hb, IntKind.wrap_i64]
  omega
theorem i64_or_nat (a b : Nat) (ha : a < 9223372036854775808) (hb : b < 9223372036854775808) : bits .or .i64 (a : Int) (b : Int) = ((a ||| b : Nat) : Int) := by
  have hx : a ||| b < 2 ^ 63 := Nat.or_lt_two_pow (by omega) (by omega)
  show IntKind.i64.wrap ((BitVec.ofInt 64 (a : Int) ||| BitVec.ofInt 64 (b : Int)).toNat : Int) = _
  rw [BitVec.toNat_or, ofInt_i64 a ha, ofInt_i64 b hb, IntKind.wrap_i64]
  omega
theorem ofInt_u8 (a : Nat) (ha : a < 256) : (BitVec.ofInt 8 (a : Int)).toNat = a := by
  rw [BitVec.ofInt_natCast, BitVec.toNat_ofNat]; exact Nat.mod_eq_of_lt (by omega)
theorem u8_or_nat (a b : Nat) (ha : a < 256) (hb : b < 256) : bits .or .u8 (a : Int) (b : Int) = ((a ||| b : Nat) : Int) := by
  have hx : a ||| b < 2 ^ 8 := Nat.or_lt_two_pow (by omega) (by omega)
  show IntKind.u8.wrap ((BitVec.ofInt 8 (a : Int) ||| BitVec.ofInt 8 (b : Int)).toNat : Int) = _
  rw [BitVec.toNat_or, ofInt_u8 a ha, ofInt_u8 b hb, IntKind.wrap_u8]
  omega
theorem u8_xor_nat (a b : Nat) (ha : a < 256) (hb : b < 256) : bits .xor .u8 (a : Int) (b : Int) = ((a ^^^ b : Nat) : Int) := by
  have hx : a ^^^ b < 2 ^ 8 := Nat.xor_lt_two_pow (by omega) (by omega)
  show IntKind.u8.wrap ((BitVec.ofInt 8 (a : Int) ^^^ BitVec.ofInt 8 (b : Int)).toNat : Int) = _
  rw [BitVec.toNat_xor, ofInt_u8 a ha, ofInt_u8 b hb, IntKind.wrap_u8]
  omega
theorem shr_bytes (N m : Nat) (hm : m ≤ 7) : Op.shift .shr .i64 (N : Int) .i64 (8 * (m : Int)) = pure (.int .i64 ((N / 256 ^ m : Nat) : Int)) := by
  rw [shift_shr _ _ _ _ (by omega) (by simp [IntKind.bits]; omega)]
  have e : (8 * (m : Int)).toNat = 8 * m := by omega
  rw [e, Int.pow_mul]
  simp
theorem shr_and (N m : Nat) (hN : N < 9223372036854775808) : bits .and .i64 ((N : Int) / 2 ^ (8 * m)) 255 % 256 = ((N / 256 ^ m % 256 : Nat) : Int) := by
  have e : (N : Int) / 2 ^ (8 * m) = ((N / 256 ^ m : Nat) : Int) := by rw [Int.pow_mul]; simp
  have hle : N / 256 ^ m ≤ N := Nat.div_le_self _ _
  rw [e, show (255 : Int) = ((255 : Nat) : Int) from rfl, i64_and_nat _ _ (by omega) (by omega), show (255 : Nat) = 2 ^ 8 - 1 from rfl, Nat.and_two_pow_sub_one_eq_mod]
  omega
theorem or_byte (V c : Nat) (hV : V < 18014398509481984) (hc : (c : Int) < 256) : bits .or .i64 ((V : Int) * 256) (c : Int) = ((V * 256 + c : Nat) : Int) := by
  have h := i64_or_nat (V * 256) c (by omega) (by omega)
  rw [show ((V : Int) * 256) = ((V * 256 : Nat) : Int) by omega, h]
  have := Nat.two_pow_add_eq_or_of_lt (i := 8) (b := c) (by omega) V
  rw [Nat.mul_comm V 256, show (256 : Nat) = 2 ^ 8 from rfl, ← this]
/-- one change behind another, of what lies above -/
theorem bthen {w w1 w2 : World} (h : Below w.heap.size w w1) (k : Below w1.heap.size w1 w2) : Below w.heap.size w w2 := h.trans (k.mono h.size)
end Ba
end Go.Proofs.YtiofkhjpknfkgaaDoor
/- More words for memory: slices of slices of bytes, strings appended, new zeros, a struct behind a pointer. -/
namespace Go.Proofs.YtiofkhjpknfkgaaDoor
namespace Ba
open Go.RowKit
set_option linter.unusedVariables false
attribute [go_sem] S_size

/-- a slice whose elements are slices that read as lists of bytes -/
def ReadBB (w : World) (B : Nat) (A : Option Addr) (ps : List (List UInt8)) : Prop :=
  0 < ps.length → ∃ b o, A = some ⟨b, o, none⟩ ∧ b < B ∧ ∀ k, k < ps.length → ∃ Ak ck, w.cell? ⟨b, o + k, none⟩ = some (.slice Ak (ps.getD k []).length ck) ∧ (ps.getD k []).length ≤ ck ∧ ck ≤ 9223372036854775807 ∧ ReadB w B Ak (ps.getD k [])
section
variable {w w' : World} {B B' : Nat} {A : Option Addr} {l : List UInt8} {ps : List (List UInt8)} {E : TypeId} {v : Value} {base : Nat}
theorem ReadBB.keep (h : ReadBB w B A ps) (hk : ∀ p : Addr, p.block < B → w'.cell? p = w.cell? p) : ReadBB w' B A ps := fun hn => by
  obtain ⟨b, o, e, hb, hc⟩ := h hn
  refine ⟨b, o, e, hb, fun k hkk => ?_⟩
  obtain ⟨Ak, ck, h1, h2, h3, h4⟩ := hc k hkk
  exact ⟨Ak, ck, (hk ⟨b, o + k, none⟩ hb).trans h1, h2, h3, h4.keep hk⟩
theorem ReadBB.below (h : ReadBB w B A ps) (hb : Below B w w') : ReadBB w' B A ps := h.keep fun _ hp => hb.cell hp
theorem ReadBB.more (h : ReadBB w B A ps) (hB : B ≤ B') : ReadBB w B' A ps := fun hn => by
  obtain ⟨b, o, e, hb, hc⟩ := h hn
  refine ⟨b, o, e, Nat.lt_of_lt_of_le hb hB, fun k hkk => ?_⟩
  obtain ⟨Ak, ck, h1, h2, h3, h4⟩ := hc k hkk
  exact ⟨Ak, ck, h1, h2, h3, h4.more hB⟩
theorem ReadBB.nil : ReadBB w B A [] := fun h => absurd h (by simp)
theorem ReadB.setFar (h : ReadB w B A l) {p : Addr} (hp : B ≤ p.block) (u : Value) : ReadB (w.setCell p u) B A l := h.keep fun q hq => World.cell?_setCell_other w p q u (fun e => by subst e; omega)
theorem ReadB.alloc (h : ReadB w B A l) (hB : B ≤ w.heap.size) (o : Obj) : ReadB (w.alloc o) B A l := h.below ((Below.refl B w).alloc hB o)
theorem ReadB.drew (h : ReadB w B A l) : ReadB w.drew B A l := h
theorem OwnB.setFar (h : OwnB w base E v l) {p : Addr} (hp : p.block < base) (u : Value) : OwnB (w.setCell p u) base E v l := ownsRow_setCell_below h hp u
theorem OwnB.grown {row : Option Nat} (h : OwnB w base E v l) (hg : w.grownBy w' row) (hne : v.ownBlock = none ∨ v.ownBlock ≠ row) : OwnB w' base E v l := World.ownsRow.kept h hg hne
end
theorem ReadBB.lit (w : World) (E : TypeId) (vs : List Value) (ps : List (List UInt8)) (B g : Nat) (hg : g = w.heap.size) (hB : B ≤ w.heap.size)
    (h : ∀ k, k < ps.length → ∃ Ak ck, vs[k]? = some (.slice Ak (ps.getD k []).length ck) ∧ (ps.getD k []).length ≤ ck ∧ ck ≤ 9223372036854775807 ∧ ReadB w B Ak (ps.getD k [])) :
    ReadBB (w.alloc (.cells vs.toArray E)) (g + 1) (some ⟨g, 0, none⟩) ps := by
  subst hg
  intro _
  refine ⟨w.heap.size, 0, rfl, by omega, fun k hk => ?_⟩
  obtain ⟨Ak, ck, h1, h2, h3, h4⟩ := h k hk
  refine ⟨Ak, ck, ?_, h2, h3, (h4.below ((Below.refl B w).alloc hB _)).more (by omega)⟩
  rw [cell_of_row _ w.heap.size (0 + k) vs.toArray E (0, 0) (heap_alloc_new w _), Nat.zero_add, ← h1]
  simp
theorem ReadBB.lit1 (w : World) (E : TypeId) (A1 : Option Addr) (n1 c1 : Nat) (p1 : List UInt8) (B g : Nat) (hg : g = w.heap.size) (hB : B ≤ w.heap.size) (e1 : n1 = p1.length) (h1 : ReadB w B A1 p1) (l1 : p1.length ≤ c1) (m1 : c1 ≤ 9223372036854775807) :
    ReadBB (w.alloc (.cells #[.slice A1 n1 c1] E)) (g + 1) (some ⟨g, 0, none⟩) [p1] := by
  subst e1
  refine ReadBB.lit w E [.slice A1 p1.length c1] [p1] B g hg hB fun k hk => ?_
  have : k = 0 := by simp at hk; omega
  subst this
  exact ⟨A1, c1, rfl, l1, m1, h1⟩
theorem ReadBB.lit2 (w : World) (E : TypeId) (A1 A2 : Option Addr) (n1 c1 n2 c2 : Nat) (p1 p2 : List UInt8) (B g : Nat) (hg : g = w.heap.size) (hB : B ≤ w.heap.size) (e1 : n1 = p1.length) (e2 : n2 = p2.length) (h1 : ReadB w B A1 p1) (h2 : ReadB w B A2 p2) (l1 : p1.length ≤ c1) (l2 : p2.length ≤ c2) (m1 : c1 ≤ 9223372036854775807) (m2 : c2 ≤ 9223372036854775807) :
    ReadBB (w.alloc (.cells #[.slice A1 n1 c1, .slice A2 n2 c2] E)) (g + 1) (some ⟨g, 0, none⟩) [p1, p2] := by
  subst e1 e2
  refine ReadBB.lit w E [.slice A1 p1.length c1, .slice A2 p2.length c2] [p1, p2] B g hg hB fun k hk => ?_
  have : k = 0 ∨ k = 1 := by simp at hk; omega
  rcases this with rfl | rfl
  · exact ⟨A1, c1, rfl, l1, m1, h1⟩
  · exact ⟨A2, c2, rfl, l2, m2, h2⟩
theorem ReadBB.lit3 (w : World) (E : TypeId) (A1 A2 A3 : Option Addr) (n1 c1 n2 c2 n3 c3 : Nat) (p1 p2 p3 : List UInt8) (B g : Nat) (hg : g = w.heap.size) (hB : B ≤ w.heap.size) (e1 : n1 = p1.length) (e2 : n2 = p2.length) (e3 : n3 = p3.length) (h1 : ReadB w B A1 p1) (h2 : ReadB w B A2 p2) (h3 : ReadB w B A3 p3) (l1 : p1.length ≤ c1) (l2 : p2.length ≤ c2) (l3 : p3.length ≤ c3) (m1 : c1 ≤ 9223372036854775807) (m2 : c2 ≤ 9223372036854775807) (m3 : c3 ≤ 9223372036854775807) :
    ReadBB (w.alloc (.cells #[.slice A1 n1 c1, .slice A2 n2 c2, .slice A3 n3 c3] E)) (g + 1) (some ⟨g, 0, none⟩) [p1, p2, p3] := by
  subst e1 e2 e3
  refine ReadBB.lit w E [.slice A1 p1.length c1, .slice A2 p2.length c2, .slice A3 p3.length c3] [p1, p2, p3] B g hg hB fun k hk => ?_
  have : k = 0 ∨ k = 1 ∨ k = 2 := by simp at hk; omega
  rcases this with rfl | rfl | rfl
  · exact ⟨A1, c1, rfl, l1, m1, h1⟩
  · exact ⟨A2, c2, rfl, l2, m2, h2⟩
  · exact ⟨A3, c3, rfl, l3, m3, h3⟩
/-- written-out bytes in a new block -/
theorem ReadB.litN (w : World) (E : TypeId) (vs : List Value) (l : List UInt8) (g : Nat) (hg : g = w.heap.size) (h : vs = bvs l) : ReadB (w.alloc (.cells vs.toArray E)) (g + 1) (some ⟨g, 0, none⟩) l := by
  subst hg h
  intro _
  refine ⟨w.heap.size, 0, rfl, by omega, fun k hk => ?_⟩
  rw [cell_of_row _ w.heap.size (0 + k) (bvs l).toArray E (0, 0) (heap_alloc_new w _), Nat.zero_add, ← bvs_get l k hk]
  simp
theorem S_data (s : ByteArray) : S s.data.toList = s := by cases s; rfl
theorem strCells_S (r : List UInt8) : Lib.strCells (S r) = bvs r := rfl
theorem bvs_rep (n : Nat) : bvs (List.replicate n 0) = List.replicate n (.int .u8 0) := by simp [bvs, bv]

theorem wpList_appS {P : Program} (w : World) {ops : Array Oper} {rest : List Oper} {o : Oper} {a : Act} {Q : Exit → Act → World → Prop} (hgd : o.guard = none) (sl x : Operand) (t u : TypeId)
    (ho : o.op = .call { callee := .builtin .append, args := #[sl, x], argTypes := #[t, u] })
    (base : Nat) (E : TypeId) (i : TypeInfo) (ht : P.underlying t = some (.slice E)) (hu : P.underlying u = some .string) (hi : IsByte P E i)
    (v : Value) (l : List UInt8) (hs : a.eval sl = v) (hown : OwnB w base E v l) (r : List UInt8) (hx : a.eval x = .string (S r))
    (hbytes : l.length + r.length ≤ 140737488355328) (hbase : base ≤ w.heap.size)
    (h : ∀ v' w', OwnB w' base E v' (l ++ r) → w.grownBy w' v.ownBlock → Below base w w' → wpList P ops Q rest (a.put o.dst v') w') : wpList P ops Q (o :: rest) a w := by
  refine Lib.wpList_append_own_string w hgd sl x t u ho base E i ht hu hi.1 hi.2.1 hi.2.2.1 hi.2.2.2 v l.length (bvs l) hs hown (S r) hx (by rw [S_size]; unfold maxLen; omega) (by rw [S_size]; omega) hbase ?_
  intro v' w' h1 h2 _
  refine h v' w' ?_ h2 ((Below.refl base w).grown h2 hbase (fun k hk => (World.ownsRow.lt hown k hk).1))
  unfold OwnB
  rw [List.length_append, bvs_append, ← strCells_S]
  have := h1
  rw [S_size] at this
  exact this

/-- only block g, and what is new, has turned -/
theorem only_trans {a b c : World} {row : Option Nat} (h : a.grownBy b row) (k : b.grownBy c row) : a.grownBy c row :=
  ⟨k.os.trans h.os, k.tape.trans h.tape, k.output.trans h.output, Nat.le_trans h.size k.size, fun i hi hne => (k.block i (Nat.lt_of_lt_of_le hi h.size) hne).trans (h.block i hi hne)⟩
theorem only_of_below {a w : World} (h : Below a.heap.size a w) (row : Option Nat) : a.grownBy w row := ⟨h.os, h.tape, h.output, h.size, fun i hi _ => h.block i hi⟩
theorem only_set (w : World) (g k : Nat) (u : Value) : w.grownBy (w.setCell ⟨g, k, none⟩ u) (some g) :=
  ⟨rfl, rfl, rfl, by simp [World.setCell], fun i hi hne => Below.heap_setCell w ⟨g, k, none⟩ u i (fun e => hne (by simp at e; rw [e]))⟩
theorem below_of_only {B : Nat} {a w : World} {g : Nat} (h : a.grownBy w (some g)) (hB : B ≤ g) (hs : B ≤ a.heap.size) : Below B a w :=
  ⟨h.os, h.tape, h.output, h.size, fun i hi => h.block i (by omega) (by simp; omega)⟩
theorem ReadB.only {w w' : World} {B : Nat} {A : Option Addr} {l : List UInt8} {g : Nat} (h : ReadB w B A l) (hg : w.grownBy w' (some g)) (hB : B ≤ g) (hs : B ≤ w.heap.size) : ReadB w' B A l := h.below (below_of_only hg hB hs)
theorem bcell {W w1 : World} (hb : Below W.heap.size W w1) : (∀ b o, b < W.heap.size → w1.cell? ⟨b, o, none⟩ = W.cell? ⟨b, o, none⟩) ∧ (∀ b o, b < W.heap.size → w1.frozen? ⟨b, o, none⟩ = W.frozen? ⟨b, o, none⟩) :=
  ⟨fun b o h => hb.cell (p := ⟨b, o, none⟩) h, fun b o h => hb.frozen (p := ⟨b, o, none⟩) h⟩
end Ba
end Go.Proofs.YtiofkhjpknfkgaaDoor
/- SHA-256 as a plain function over lists. -/
namespace Go.Proofs.YtiofkhjpknfkgaaDoor
namespace Sm
def rounds : List UInt32 := [1116352408, 1899447441, 3049323471, 3921009573, 961987163, 1508970993, 2453635748, 2870763221, 3624381080, 310598401, 607225278, 1426881987, 1925078388, 2162078206, 2614888103, 3248222580, 3835390401, 4022224774, 264347078, 604807628, 770255983, 1249150122, 1555081692, 1996064986, 2554220882, 2821834349, 2952996808, 3210313671, 3336571891, 3584528711, 113926993, 338241895, 666307205, 773529912, 1294757372, 1396182291, 1695183700, 1986661051, 2177026350, 2456956037, 2730485921, 2820302411, 3259730800, 3345764771, 3516065817, 3600352804, 4094571909, 275423344, 430227734, 506948616, 659060556, 883997877, 958139571, 1322822218, 1537002063, 1747873779, 1955562222, 2024104815, 2227730452, 2361852424, 2428436474, 2756734187, 3204031479, 3329325298]
def first : List UInt32 := [1779033703, 3144134277, 1013904242, 2773480762, 1359893119, 2600822924, 528734635, 1541459225]
def rotr (x n : UInt32) : UInt32 := (x >>> n) ||| (x <<< (32 - n))
def g (l : List UInt32) (i : Nat) : UInt32 := l.getD i 0
def s0 (x : UInt32) : UInt32 := rotr x 7 ^^^ rotr x 18 ^^^ (x >>> 3)
def s1 (x : UInt32) : UInt32 := rotr x 17 ^^^ rotr x 19 ^^^ (x >>> 10)
def b0 (x : UInt32) : UInt32 := rotr x 2 ^^^ rotr x 13 ^^^ rotr x 22
def b1 (x : UInt32) : UInt32 := rotr x 6 ^^^ rotr x 11 ^^^ rotr x 25
def ch (e f h : UInt32) : UInt32 := (e &&& f) ^^^ (~~~e &&& h)
def maj (a b c : UInt32) : UInt32 := (a &&& b) ^^^ (a &&& c) ^^^ (b &&& c)
/-- the word that four bytes make -/
def be (b : List UInt8) (o : Nat) : UInt32 := ((b.getD o 0).toUInt32 <<< 24) ||| ((b.getD (o + 1) 0).toUInt32 <<< 16) ||| ((b.getD (o + 2) 0).toUInt32 <<< 8) ||| (b.getD (o + 3) 0).toUInt32
/-- the next word -/
def nextW (w : List UInt32) (i : Nat) : UInt32 := g w (i - 16) + s0 (g w (i - 15)) + g w (i - 7) + s1 (g w (i - 2))
/-- n more words -/
def more : Nat → List UInt32 → List UInt32
  | 0, w => w
  | n + 1, w => more n (w ++ [nextW w w.length])
def words16 (b : List UInt8) : List UInt32 := [be b 0, be b 4, be b 8, be b 12, be b 16, be b 20, be b 24, be b 28, be b 32, be b 36, be b 40, be b 44, be b 48, be b 52, be b 56, be b 60]
def sched (b : List UInt8) : List UInt32 := more 48 (words16 b)
def round (v : List UInt32) (k w : UInt32) : List UInt32 :=
  [g v 7 + k + w + ch (g v 4) (g v 5) (g v 6) + b1 (g v 4) + (b0 (g v 0) + maj (g v 0) (g v 1) (g v 2)), g v 0, g v 1, g v 2,
   g v 3 + (g v 7 + k + w + ch (g v 4) (g v 5) (g v 6) + b1 (g v 4)), g v 4, g v 5, g v 6]
def runs : List (UInt32 × UInt32) → List UInt32 → List UInt32
  | [], v => v
  | (k, w) :: l, v => runs l (round v k w)
/-- a state behind a block of 64 bytes -/
def block (s : List UInt32) (b : List UInt8) : List UInt32 :=
  let v := runs (rounds.zip (sched b)) s
  [g s 0 + g v 0, g s 1 + g v 1, g s 2 + g v 2, g s 3 + g v 3, g s 4 + g v 4, g s 5 + g v 5, g s 6 + g v 6, g s 7 + g v 7]
/-- the k-th block of 64 bytes -/
def sl (b : List UInt8) (k : Nat) : List UInt8 := (b.drop (64 * k)).take 64
/-- the state behind k blocks -/
def stk (b : List UInt8) : Nat → List UInt32
  | 0 => first
  | k + 1 => block (stk b k) (sl b k)
/-- the state behind the whole blocks, and what is left -/
def st (b : List UInt8) : List UInt32 := stk b (b.length / 64)
def rs (b : List UInt8) : List UInt8 := b.drop (64 * (b.length / 64))
def pad (n : Nat) : List UInt8 := 128 :: (List.replicate ((119 - n % 64) % 64) 0 ++ [UInt8.ofNat (8 * n / 2 ^ 56), UInt8.ofNat (8 * n / 2 ^ 48), UInt8.ofNat (8 * n / 2 ^ 40), UInt8.ofNat (8 * n / 2 ^ 32), UInt8.ofNat (8 * n / 2 ^ 24), UInt8.ofNat (8 * n / 2 ^ 16), UInt8.ofNat (8 * n / 2 ^ 8), UInt8.ofNat (8 * n)])
def out (s : List UInt32) : List UInt8 := (List.range 32).map fun i => (g s (i / 4) >>> UInt32.ofNat (24 - 8 * (i % 4))).toUInt8
def sha (b : List UInt8) : List UInt8 := out (st (b ++ pad b.length))
theorem sl_append (a b : List UInt8) (k : Nat) (h : 64 * (k + 1) ≤ a.length) : sl (a ++ b) k = sl a k := by
  unfold sl
  rw [List.drop_append_of_le_length (by omega), List.take_append_of_le_length (by rw [List.length_drop]; omega)]
theorem stk_append (a b : List UInt8) (k : Nat) (h : 64 * k ≤ a.length) : stk (a ++ b) k = stk a k := by
  induction k with
  | zero => rfl
  | succ k ih => rw [stk, stk, ih (by omega), sl_append a b k h]
theorem block_len (s : List UInt32) (b : List UInt8) : (block s b).length = 8 := rfl
theorem stk_len (b : List UInt8) (k : Nat) : (stk b k).length = 8 := by
  cases k with
  | zero => rfl
  | succ k => rfl
theorem rs_len (b : List UInt8) : (rs b).length = b.length % 64 := by
  unfold rs
  rw [List.length_drop]; omega
theorem rs_append (a b : List UInt8) : rs a ++ b = (a ++ b).drop (64 * (a.length / 64)) := by
  unfold rs
  rw [List.drop_append_of_le_length (by omega)]
theorem st_append (a b : List UInt8) : st a = stk (a ++ b) (a.length / 64) := by
  unfold st
  rw [stk_append a b _ (by omega)]
theorem drop_take (a : List UInt8) (k : Nat) : (a.drop (64 * k)).take 64 = sl a k := rfl
theorem drop_drop64 (a : List UInt8) (k : Nat) : (a.drop (64 * k)).drop 64 = a.drop (64 * (k + 1)) := by
  rw [List.drop_drop]; congr 1
/-- noughts behind the mark -/
def zeros (n : Nat) : Nat := (119 - n % 64) % 64
/-- a number's eight bytes -/
def bytes8 (n : Nat) : List UInt8 := (List.range 8).map fun k => UInt8.ofNat (n / 2 ^ (56 - 8 * k))
theorem bytes8_eq (n : Nat) : bytes8 (8 * n) = [UInt8.ofNat (8 * n / 2 ^ 56), UInt8.ofNat (8 * n / 2 ^ 48), UInt8.ofNat (8 * n / 2 ^ 40), UInt8.ofNat (8 * n / 2 ^ 32), UInt8.ofNat (8 * n / 2 ^ 24), UInt8.ofNat (8 * n / 2 ^ 16), UInt8.ofNat (8 * n / 2 ^ 8), UInt8.ofNat (8 * n)] := by
  show [_, _, _, _, _, _, _, UInt8.ofNat (8 * n / 2 ^ 0)] = _
  rw [Nat.pow_zero, Nat.div_one]
theorem pad_eq (n : Nat) : pad n = (128 :: List.replicate (zeros n) 0) ++ bytes8 (8 * n) := by
  rw [bytes8_eq]; rfl
theorem pad_len (n : Nat) : (pad n).length = 9 + zeros n := by
  rw [pad_eq]; simp [bytes8]; omega
theorem zeros_mod (n : Nat) : (n + (9 + zeros n)) % 64 = 0 := by unfold zeros; omega
theorem zeros_lt (n : Nat) : zeros n < 64 := by unfold zeros; omega
theorem bytes8_succ (n k : Nat) (h : k < 8) : (bytes8 n).take (k + 1) = (bytes8 n).take k ++ [UInt8.ofNat (n / 2 ^ (56 - 8 * k))] := by
  have hl : (bytes8 n).length = 8 := rfl
  rw [List.take_succ_eq_append_getElem (by omega)]
  congr 2
  unfold bytes8
  rw [List.getElem_map, List.getElem_range]
theorem out_len (s : List UInt32) : (out s).length = 32 := by simp [out]
/-- the first k bytes of a sum, and noughts -/
def oo (s : List UInt32) (k : Nat) : List UInt8 := (out s).take k ++ List.replicate (32 - k) 0
theorem oo_len (s : List UInt32) (k : Nat) (h : k ≤ 32) : (oo s k).length = 32 := by
  unfold oo
  rw [List.length_append, List.length_take, List.length_replicate, out_len]; omega
theorem oo_set (s : List UInt32) (k : Nat) (h : k < 32) : (oo s k).set k (g s (k / 4) >>> UInt32.ofNat (24 - 8 * (k % 4))).toUInt8 = oo s (k + 1) := by
  have hl := out_len s
  have e : (out s).take (k + 1) = (out s).take k ++ [(g s (k / 4) >>> UInt32.ofNat (24 - 8 * (k % 4))).toUInt8] := by
    rw [List.take_succ_eq_append_getElem (by omega)]
    congr 2
    unfold out
    rw [List.getElem_map, List.getElem_range]
  unfold oo
  rw [e, List.set_append_right _ _ (by rw [List.length_take]; omega), List.length_take]
  rw [show k - min k (out s).length = 0 by omega]
  rw [show 32 - k = (32 - (k + 1)) + 1 by omega, List.replicate_succ, List.set_cons_zero, List.append_assoc]
  rfl
theorem oo_32 (s : List UInt32) : oo s 32 = out s := by
  unfold oo
  rw [List.take_of_length_le (by rw [out_len]; omega)]
  simp
/-- a word as it is made byte by byte -/
def prt (b : List UInt8) (o : Nat) : Nat → UInt32
  | 0 => 0
  | j + 1 => (prt b o j <<< 8) ||| (b.getD (o + j) 0).toUInt32
def wpart (b : List UInt8) (k : Nat) : List UInt32 := (words16 b).take k ++ List.replicate (64 - k) 0
theorem shl_or (a b : UInt32) (n : UInt32) : (a ||| b) <<< n = (a <<< n) ||| (b <<< n) := by
  apply UInt32.toBitVec_inj.1
  simp [UInt32.toBitVec_shiftLeft, UInt32.toBitVec_or, BitVec.shiftLeft_or_distrib]
theorem shl_shl (a : UInt32) (m n : Nat) (h : m + n < 32) : (a <<< UInt32.ofNat m) <<< UInt32.ofNat n = a <<< UInt32.ofNat (m + n) := by
  apply UInt32.toNat.inj
  rw [UInt32.toNat_shiftLeft, UInt32.toNat_shiftLeft, UInt32.toNat_shiftLeft, UInt32.toNat_ofNat', UInt32.toNat_ofNat', UInt32.toNat_ofNat', Nat.mod_eq_of_lt (show m < 2 ^ 32 by omega), Nat.mod_eq_of_lt (show n < 2 ^ 32 by omega), Nat.mod_eq_of_lt (show m + n < 2 ^ 32 by omega), Nat.mod_eq_of_lt (show m < 32 by omega), Nat.mod_eq_of_lt (show n < 32 by omega), Nat.mod_eq_of_lt h]
  rw [Nat.shiftLeft_eq, Nat.shiftLeft_eq, Nat.shiftLeft_eq, Nat.pow_add, ← Nat.mul_assoc]
  rw [Nat.mod_mul_mod]
theorem prt4 (b : List UInt8) (o : Nat) : prt b o 4 = be b o := by
  have z : (0 : UInt32) <<< 8 = 0 := rfl
  simp only [prt, z, shl_or, UInt32.zero_or, Nat.add_zero]
  have e1 : ∀ x : UInt32, (x <<< 8) <<< 8 = x <<< 16 := fun x => shl_shl x 8 8 (by omega)
  have e2 : ∀ x : UInt32, (x <<< 8) <<< 16 = x <<< 24 := fun x => shl_shl x 8 16 (by omega)
  rw [e1, e1, e2]
  rfl
theorem wpart_len (b : List UInt8) (k : Nat) (h : k ≤ 16) : (wpart b k).length = 64 := by
  unfold wpart
  rw [List.length_append, List.length_take, List.length_replicate]; show min k 16 + (64 - k) = 64; omega
theorem wpart_at (b : List UInt8) (k : Nat) (h : k < 16) : (wpart b k).getD k 0 = 0 := by
  unfold wpart
  have hl : ((words16 b).take k).length = k := by rw [List.length_take]; show min k 16 = k; omega
  rw [List.getD_eq_getElem?_getD, List.getElem?_append_right (by omega), hl, Nat.sub_self, List.getElem?_replicate, if_pos (by omega)]
  rfl
theorem wpart_set0 (b : List UInt8) (k : Nat) (h : k < 16) : (wpart b k).set k (prt b (4 * k) 0) = wpart b k := by
  have h1 := wpart_at b k h
  have h2 := wpart_len b k (by omega)
  apply List.ext_getElem?
  intro i
  by_cases hi : i = k
  · subst hi
    rw [List.getElem?_set_self (by omega)]
    rw [List.getD_eq_getElem?_getD] at h1
    rw [List.getElem?_eq_getElem (by omega)] at h1 ⊢
    simpa [prt] using h1.symm
  · rw [List.getElem?_set_ne (by omega)]
theorem words16_at (b : List UInt8) (k : Nat) (h : k < 16) : (words16 b)[k]? = some (be b (4 * k)) := by
  have : k = 0 ∨ k = 1 ∨ k = 2 ∨ k = 3 ∨ k = 4 ∨ k = 5 ∨ k = 6 ∨ k = 7 ∨ k = 8 ∨ k = 9 ∨ k = 10 ∨ k = 11 ∨ k = 12 ∨ k = 13 ∨ k = 14 ∨ k = 15 := by omega
  rcases this with rfl | rfl | rfl | rfl | rfl | rfl | rfl | rfl | rfl | rfl | rfl | rfl | rfl | rfl | rfl | rfl <;> rfl
theorem wpart_set4 (b : List UInt8) (k : Nat) (h : k < 16) : (wpart b k).set k (be b (4 * k)) = wpart b (k + 1) := by
  have h2 := wpart_len b k (by omega)
  have hl : (words16 b).length = 16 := rfl
  apply List.ext_getElem?
  intro i
  by_cases hi : i = k
  · subst hi
    rw [List.getElem?_set_self (by omega)]
    unfold wpart
    rw [List.getElem?_append_left (by rw [List.length_take]; omega), List.getElem?_take_of_lt (by omega), words16_at b i h]
  · rw [List.getElem?_set_ne (by omega)]
    unfold wpart
    by_cases hlt : i < k
    · rw [List.getElem?_append_left (by rw [List.length_take]; omega), List.getElem?_append_left (by rw [List.length_take]; omega), List.getElem?_take_of_lt (by omega), List.getElem?_take_of_lt (by omega)]
    · rw [List.getElem?_append_right (by rw [List.length_take]; omega), List.getElem?_append_right (by rw [List.length_take]; omega)]
      simp only [List.length_take, hl, List.getElem?_replicate]
      have e1 : min k 16 = k := by omega
      have e2 : min (k + 1) 16 = k + 1 := by omega
      rw [e1, e2]
      by_cases hi64 : i < 64
      · rw [if_pos (by omega), if_pos (by omega)]
      · rw [if_neg (by omega), if_neg (by omega)]
/-- the first k words -/
def wl (b : List UInt8) (k : Nat) : List UInt32 := more (k - 16) (words16 b)
def spart (b : List UInt8) (k : Nat) : List UInt32 := wl b k ++ List.replicate (64 - k) 0
theorem more_succ (n : Nat) (w : List UInt32) : more (n + 1) w = more n w ++ [nextW (more n w) (more n w).length] := by
  induction n generalizing w with
  | zero => rfl
  | succ n ih => rw [more, ih]; rfl
theorem more_len (n : Nat) (w : List UInt32) : (more n w).length = w.length + n := by
  induction n generalizing w with
  | zero => rfl
  | succ n ih => rw [more, ih, List.length_append]; simp; omega
theorem wl_len (b : List UInt8) (k : Nat) (h : 16 ≤ k) : (wl b k).length = k := by
  unfold wl
  rw [more_len]
  show 16 + (k - 16) = k
  omega
theorem spart_len (b : List UInt8) (k : Nat) (h : 16 ≤ k) (h2 : k ≤ 64) : (spart b k).length = 64 := by
  unfold spart
  rw [List.length_append, wl_len b k h, List.length_replicate]; omega
theorem spart_at (b : List UInt8) (k i : Nat) (h : 16 ≤ k) (hi : i < k) : g (spart b k) i = g (wl b k) i := by
  unfold spart g
  rw [List.getD_eq_getElem?_getD, List.getD_eq_getElem?_getD, List.getElem?_append_left (by rw [wl_len b k h]; omega)]
theorem spart_set (b : List UInt8) (k : Nat) (h : 16 ≤ k) (h2 : k < 64) : (spart b k).set k (nextW (wl b k) k) = spart b (k + 1) := by
  have hl := wl_len b k h
  have e : wl b (k + 1) = wl b k ++ [nextW (wl b k) k] := by
    unfold wl at hl ⊢
    rw [show k + 1 - 16 = (k - 16) + 1 by omega, more_succ, hl]
  unfold spart
  rw [e, List.set_append_right _ _ (by omega), hl, Nat.sub_self]
  rw [show 64 - k = (64 - (k + 1)) + 1 by omega, List.replicate_succ, List.set_cons_zero, List.append_assoc]
  rfl
theorem spart16 (b : List UInt8) : spart b 16 = wpart b 16 := rfl
theorem spart64 (b : List UInt8) : spart b 64 = sched b := by
  unfold spart wl sched
  simp
theorem runs_len (l : List (UInt32 × UInt32)) (s : List UInt32) (h : s.length = 8) : (runs l s).length = 8 := by
  induction l generalizing s with
  | nil => exact h
  | cons p l ih => exact ih _ rfl
theorem runs_append (a b : List (UInt32 × UInt32)) (s : List UInt32) : runs (a ++ b) s = runs b (runs a s) := by
  induction a generalizing s with
  | nil => rfl
  | cons p a ih => exact ih _
/-- the state in the midst of a block -/
def runK (s ws : List UInt32) (k : Nat) : List UInt32 := runs ((rounds.zip ws).take k) s
theorem runK_len (s ws : List UInt32) (k : Nat) (h : s.length = 8) : (runK s ws k).length = 8 := runs_len _ _ h
theorem runK_succ (s ws : List UInt32) (k : Nat) (hw : ws.length = 64) (hk : k < 64) : runK s ws (k + 1) = round (runK s ws k) (g rounds k) (g ws k) := by
  have hl : (rounds.zip ws).length = 64 := by rw [List.length_zip, hw]; rfl
  have hr : rounds.length = 64 := rfl
  unfold runK
  rw [List.take_succ_eq_append_getElem (by omega), runs_append]
  have e : (rounds.zip ws)[k]'(by omega) = (g rounds k, g ws k) := by
    rw [List.getElem_zip]
    unfold g
    rw [List.getD_eq_getElem?_getD, List.getD_eq_getElem?_getD, List.getElem?_eq_getElem (by omega), List.getElem?_eq_getElem (by omega)]
    rfl
  rw [e]
  rfl
theorem runK_all (s ws : List UInt32) (hw : ws.length = 64) : runK s ws 64 = runs (rounds.zip ws) s := by
  unfold runK
  rw [List.take_of_length_le]
  rw [List.length_zip, hw]
  exact Nat.min_le_right _ _
/-- the sums of two states' words, the first i of them -/
def upd (s v : List UInt32) (i : Nat) : List UInt32 := (List.range 8).map fun j => if j < i then g s j + g v j else g s j
theorem upd_len (s v : List UInt32) (i : Nat) : (upd s v i).length = 8 := by simp [upd]
theorem upd_0 (s v : List UInt32) (h : s.length = 8) : upd s v 0 = s := by
  match s, h with
  | [a, b, c, d, e, f, g, h], _ => rfl
theorem upd_at (s v : List UInt32) (i j : Nat) (hj : j < 8) : g (upd s v i) j = if j < i then g s j + g v j else g s j := by
  unfold upd
  rw [g, List.getD_eq_getElem?_getD, List.getElem?_map, List.getElem?_range hj]
  rfl
theorem upd_set (s v : List UInt32) (i : Nat) (hi : i < 8) : (upd s v i).set i (g s i + g v i) = upd s v (i + 1) := by
  apply List.ext_getElem?
  intro j
  by_cases hj : j < 8
  · by_cases hij : j = i
    · subst hij
      rw [List.getElem?_set_self (by rw [upd_len]; exact hi)]
      unfold upd
      rw [List.getElem?_map, List.getElem?_range hj]
      simp
    · rw [List.getElem?_set_ne (by omega)]
      unfold upd
      rw [List.getElem?_map, List.getElem?_map, List.getElem?_range hj]
      simp only [Option.map_some]
      by_cases h1 : j < i
      · rw [if_pos h1, if_pos (by omega)]
      · rw [if_neg h1, if_neg (by omega)]
  · rw [List.getElem?_eq_none (by rw [List.length_set, upd_len]; omega), List.getElem?_eq_none (by rw [upd_len]; omega)]
theorem upd_8 (s : List UInt32) (b : List UInt8) : upd s (runs (rounds.zip (sched b)) s) 8 = block s b := rfl
/-- the words of a block, the first k of them -/
def xp (b : List UInt8) (k : Nat) : List UInt32 := if k ≤ 16 then wpart b k else spart b k
theorem xp_lo (b : List UInt8) (k : Nat) (h : k ≤ 16) : xp b k = wpart b k := if_pos h
theorem xp_hi (b : List UInt8) (k : Nat) (h : 16 ≤ k) : xp b k = spart b k := by
  unfold xp
  by_cases h2 : k ≤ 16
  · have : k = 16 := by omega
    subst this
    rfl
  · rw [if_neg h2]
theorem xp_len (b : List UInt8) (k : Nat) (h : k ≤ 64) : (xp b k).length = 64 := by
  by_cases h2 : k ≤ 16
  · rw [xp_lo b k h2, wpart_len b k h2]
  · rw [xp_hi b k (by omega), spart_len b k (by omega) h]
theorem xp_64 (b : List UInt8) : xp b 64 = sched b := by rw [xp_hi b 64 (by omega), spart64]
theorem xp_lo_set (b : List UInt8) (k : Nat) (h : k < 16) : (xp b k).set k (be b (4 * k)) = xp b (k + 1) := by
  rw [xp_lo b k (by omega), xp_lo b (k + 1) (by omega), wpart_set4 b k h]
theorem xp_hi_set (b : List UInt8) (k : Nat) (h : 16 ≤ k) (h2 : k < 64) : (xp b k).set k (nextW (wl b k) k) = xp b (k + 1) := by
  rw [xp_hi b k h, xp_hi b (k + 1) (by omega), spart_set b k h h2]
theorem xp_at (b : List UInt8) (k i : Nat) (h : 16 ≤ k) (hi : i < k) : g (xp b k) i = g (wl b k) i := by
  rw [xp_hi b k h, spart_at b k i h hi]
/-- a round as the document's answer adds it up -/
def roundR (v : List UInt32) (k w : UInt32) : List UInt32 :=
  [g v 7 + b1 (g v 4) + ch (g v 4) (g v 5) (g v 6) + k + w + (b0 (g v 0) + maj (g v 0) (g v 1) (g v 2)), g v 0, g v 1, g v 2,
   g v 3 + (g v 7 + b1 (g v 4) + ch (g v 4) (g v 5) (g v 6) + k + w), g v 4, g v 5, g v 6]
theorem roundR_eq (v : List UInt32) (k w : UInt32) : roundR v k w = round v k w := by
  unfold roundR round
  have e : g v 7 + b1 (g v 4) + ch (g v 4) (g v 5) (g v 6) + k + w = g v 7 + k + w + ch (g v 4) (g v 5) (g v 6) + b1 (g v 4) := by ac_rfl
  rw [e]
set_option maxRecDepth 100000 in
theorem abc : sha [97, 98, 99] = [0xba,0x78,0x16,0xbf,0x8f,0x01,0xcf,0xea,0x41,0x41,0x40,0xde,0x5d,0xae,0x22,0x23,0xb0,0x03,0x61,0xa3,0x96,0x17,0x7a,0x9c,0xb4,0x10,0xff,0x61,0xf2,0x00,0x15,0xad] := by decide +kernel
end Sm
end Go.Proofs.YtiofkhjpknfkgaaDoor
