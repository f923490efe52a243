/- Words of 32 bits in the walk: they stand behind a name of their own. -/
import Derived.Test.YtiofkhjpknfkgaaDoorM01
import Derived.StillTailTactics
import Derived.Deep.MidRow
import Init
import Derived.Test.YtiofkhjpknfkgaaDoorProg
import Derived.KernelRfl
import Derived.WalkKit
import Derived.RowKit3
import Derived.WalkSpells
import Derived.Lib.Hide
namespace Go.Proofs.YtiofkhjpknfkgaaDoor
namespace Sm
open Go.RowKit Ba
set_option linter.unusedVariables false

/-- a word as a number -/
def U (x : UInt32) : Int := (x.toNat : Int)
/-- a word as a value -/
def wv (x : UInt32) : Value := .int .u32 (U x)
def wvs (l : List UInt32) : List Value := l.map wv
theorem U_lt (x : UInt32) : x.toNat < 4294967296 := x.toNat_lt
theorem ofInt_u32 (x : UInt32) : (BitVec.ofInt 32 (U x)).toNat = x.toNat := by
  unfold U
  rw [BitVec.ofInt_natCast, BitVec.toNat_ofNat]; exact Nat.mod_eq_of_lt (by have := U_lt x; omega)
theorem U_add (a b : UInt32) : IntKind.u32.wrap (U a + U b) = U (a + b) := by
  unfold U
  rw [IntKind.wrap_u32, UInt32.toNat_add]; omega
theorem U_add' (a b : UInt32) : (U a + U b) % 4294967296 = U (a + b) := by
  unfold U
  rw [UInt32.toNat_add]; omega
theorem U_xor (a b : UInt32) : bits .xor .u32 (U a) (U b) = U (a ^^^ b) := by
  have h := U_lt (a ^^^ b)
  show IntKind.u32.wrap ((BitVec.ofInt 32 (U a) ^^^ BitVec.ofInt 32 (U b)).toNat : Int) = _
  rw [BitVec.toNat_xor, ofInt_u32, ofInt_u32, IntKind.wrap_u32, ← UInt32.toNat_xor]
  unfold U
  omega
theorem U_max : IntKind.u32.max = U 4294967295 := by decide
theorem U_not (a : UInt32) : bits .xor .u32 IntKind.u32.max (U a) = U (~~~a) := by
  rw [U_max, U_xor]
  have e : 4294967295 ^^^ a = ~~~a := by
    apply UInt32.toBitVec_inj.1
    rw [UInt32.toBitVec_xor, UInt32.toBitVec_not]
    show BitVec.allOnes 32 ^^^ a.toBitVec = _
    rw [BitVec.allOnes_xor]
  rw [e]
theorem U_not' (a : UInt32) : bits .xor .u32 (if IntKind.u32.signed = true then -1 else IntKind.u32.max) (U a) = U (~~~a) := U_not a
theorem U_and (a b : UInt32) : bits .and .u32 (U a) (U b) = U (a &&& b) := by
  have h := U_lt (a &&& b)
  show IntKind.u32.wrap ((BitVec.ofInt 32 (U a) &&& BitVec.ofInt 32 (U b)).toNat : Int) = _
  rw [BitVec.toNat_and, ofInt_u32, ofInt_u32, IntKind.wrap_u32, ← UInt32.toNat_and]
  unfold U
  omega
theorem U_or (a b : UInt32) : bits .or .u32 (U a) (U b) = U (a ||| b) := by
  have h := U_lt (a ||| b)
  show IntKind.u32.wrap ((BitVec.ofInt 32 (U a) ||| BitVec.ofInt 32 (U b)).toNat : Int) = _
  rw [BitVec.toNat_or, ofInt_u32, ofInt_u32, IntKind.wrap_u32, ← UInt32.toNat_or]
  unfold U
  omega
theorem U_shl (a : UInt32) (n : Nat) (hn : n < 32) : IntKind.u32.wrap (U a * (2 : Int) ^ n) = U (a <<< UInt32.ofNat n) := by
  unfold U
  rw [IntKind.wrap_u32, UInt32.toNat_shiftLeft, UInt32.toNat_ofNat', Nat.mod_eq_of_lt (show n < 2 ^ 32 by omega), Nat.mod_eq_of_lt hn, Nat.shiftLeft_eq]
  have e : ((a.toNat : Int) * 2 ^ n) = ((a.toNat * 2 ^ n : Nat) : Int) := by rw [Int.natCast_mul, Int.natCast_pow]; rfl
  rw [e]
  rfl
theorem U_shr (a : UInt32) (n : Nat) (hn : n < 32) : U a / ((2 : Int) ^ n) = U (a >>> UInt32.ofNat n) := by
  unfold U
  rw [UInt32.toNat_shiftRight, UInt32.toNat_ofNat', Nat.mod_eq_of_lt (show n < 2 ^ 32 by omega), Nat.mod_eq_of_lt hn, Nat.shiftRight_eq_div_pow]
  have e : ((2 : Int) ^ n) = ((2 ^ n : Nat) : Int) := by rw [Int.natCast_pow]; rfl
  rw [e]
  rfl
theorem U_shl' (a : UInt32) (n : Nat) (hn : n < 32) : U a * (2 : Int) ^ n % (4294967296 : Int) = U (a <<< UInt32.ofNat n) := by rw [← U_shl a n hn, IntKind.wrap_u32]
theorem U_shr3 (a : UInt32) : U a / (8 : Int) = U (a >>> 3) := U_shr a 3 (by omega)
theorem U_shr10 (a : UInt32) : U a / (1024 : Int) = U (a >>> 10) := U_shr a 10 (by omega)
theorem U_shl8 (a : UInt32) : U a * (256 : Int) % (4294967296 : Int) = U (a <<< 8) := U_shl' a 8 (by omega)
theorem U_shl16 (a : UInt32) : U a * (65536 : Int) % (4294967296 : Int) = U (a <<< 16) := U_shl' a 16 (by omega)
theorem U_shl24 (a : UInt32) : U a * (16777216 : Int) % (4294967296 : Int) = U (a <<< 24) := U_shl' a 24 (by omega)
theorem U_of_u8 (b : UInt8) : IntKind.u32.wrap (b.toNat : Int) = U b.toUInt32 := by
  have := b.toNat_lt
  unfold U
  rw [IntKind.wrap_u32, UInt8.toNat_toUInt32]; omega
/-! ### whole arrays out of and into the midst of a block -/
theorem toArray_set (l : List Value) (k : Nat) (u : Value) : l.toArray.setIfInBounds k u = (l.set k u).toArray := by simp
theorem Blk.setCells {w : World} {g : Nat} {t : TypeId} (vs : List Value) (pre old post : List Value) (h : Blk w g t (pre ++ (old ++ post)).toArray) (hl : old.length = vs.length) :
    Blk (w.setCells g pre.length vs) g t (pre ++ (vs ++ post)).toArray := by
  induction vs generalizing w pre old with
  | nil =>
    have : old = [] := List.eq_nil_of_length_eq_zero hl
    subst this
    exact h
  | cons v vs ih =>
    cases old with
    | nil => cases hl
    | cons u old =>
      have h1 := Blk.set_ h pre.length v
      rw [toArray_set] at h1
      have e : (pre ++ (u :: old ++ post)).set pre.length v = (pre ++ [v]) ++ (old ++ post) := by
        rw [List.set_append_right _ _ (by omega), Nat.sub_self]
        simp
      rw [e] at h1
      have := ih (pre ++ [v]) old h1 (by simpa using hl)
      simp only [List.length_append, List.length_cons, List.length_nil, Nat.zero_add, List.append_assoc, List.cons_append, List.nil_append] at this
      exact this
theorem only_setCells (w : World) (g o : Nat) (vs : List Value) : w.grownBy (w.setCells g o vs) (some g) := by
  induction vs generalizing w o with
  | nil => exact World.grownBy.refl w _
  | cons v vs ih => exact only_trans (only_set w g o v) (ih _ _)
theorem Blk.range {w : World} {g : Nat} {t : TypeId} (pre cs post : List Value) (h : Blk w g t (pre ++ (cs ++ post)).toArray) : w.rangeAt g pre.length cs := by
  intro j v hv
  rw [Blk.cell h]
  have hj : j < cs.length := by
    rcases Nat.lt_or_ge j cs.length with h1 | h1
    · exact h1
    · rw [List.getElem?_eq_none h1] at hv; cases hv
  simp only [List.getElem?_toArray]
  rw [List.getElem?_append_right (by omega), List.getElem?_append_left (by omega)]
  rw [show pre.length + j - pre.length = j by omega]
  exact hv
theorem Blk.there {w : World} {g : Nat} {t : TypeId} {cs : Array Value} (h : Blk w g t cs) (o n : Nat) (hn : o + n ≤ cs.size) : w.there g o n := by
  intro j hj
  refine ⟨?_, Blk.frozen h _⟩
  rw [Blk.cell h, Array.getElem?_eq_getElem (by omega)]
  rfl
/-- a row of values goes into the midst of a block -/
theorem wpList_store_blk {P : Program} {ops : Array Oper} {rest : List Oper} {op : Oper} {a : Act} {w : World} {Q : Exit → Act → World → Prop} (hgd : op.guard = none) (ty : TypeId) (x y : Operand) (ho : op.op = .store ty x y)
    (g o : Nat) (t : TypeId) (pre old post vs : List Value) (hx : a.eval x = .pointer (some ⟨g, o, none⟩)) (hy : a.eval y = .agg vs.toArray) (hb : Blk w g t (pre ++ (old ++ post)).toArray) (hp : pre.length = o) (hl : old.length = vs.length)
    (hi : (P.info? ty).map (·.size) = some vs.length) (h1 : ∀ v ∈ vs, v.oneCell' = true)
    (h : ∀ w', Blk w' g t (pre ++ (vs ++ post)).toArray → w.grownBy w' (some g) → wpList P ops Q rest (a.put op.dst undef) w') : wpList P ops Q (op :: rest) a w := by
  subst hp
  refine wpList_store_mid hgd ty x y ho g pre.length vs.toArray hx hy ?_ (by simpa using hi) (all_oneCell_toArray h1) ?_
  · refine Blk.there hb _ _ ?_
    simp
    omega
  · exact h _ (Blk.setCells vs pre old post hb hl) (only_setCells _ _ _ _)
theorem wpList_load_blk {P : Program} {ops : Array Oper} {rest : List Oper} {op : Oper} {a : Act} {w : World} {Q : Exit → Act → World → Prop} (hgd : op.guard = none) (ty : TypeId) (x : Operand) (ho : op.op = .load ty x)
    (g o : Nat) (t : TypeId) (pre cs post : List Value) (hx : a.eval x = .pointer (some ⟨g, o, none⟩)) (hb : Blk w g t (pre ++ (cs ++ post)).toArray) (hp : pre.length = o) (d : TypeDesc) (hu : P.underlying ty = some d) (hd : d.isRow = true)
    (hi : (P.info? ty).map (·.size) = some cs.length) (h : wpList P ops Q rest (a.put op.dst (.agg cs.toArray)) w) : wpList P ops Q (op :: rest) a w := by
  subst hp
  exact wpList_load_mid hgd ty x ho g pre.length hx cs d (Blk.range pre cs post hb) hu hd hi h
theorem wvs_one (l : List UInt32) : ∀ v ∈ wvs l, v.oneCell' = true := by
  intro u hu
  obtain ⟨_, _, rfl⟩ := List.mem_map.1 hu
  rfl
theorem wvs_len (l : List UInt32) : (wvs l).length = l.length := by simp [wvs]
theorem below_drewN {B : Nat} {a w : World} (h : Below B a w) (n : Nat) : Below B a (w.drewN n) := ⟨h.os, h.tape, h.output, h.size, h.block⟩
theorem only_after {a w w' : World} {g : Nat} (h : Below a.heap.size a w) (k : w.grownBy w' (some g)) (hB : a.heap.size ≤ g) : Below a.heap.size a w' := h.trans (below_of_only k hB h.size)
theorem undrewN {w w' : World} {n : Nat} {row : Option Nat} (h : (w.drewN n).grownBy w' row) : w.grownBy w' row := ⟨h.os, h.tape, h.output, h.size, h.block⟩
theorem grown_drew {w w' : World} {row : Option Nat} (h : w.grownBy w' row) : w.grownBy w'.drew row := ⟨h.os, h.tape, h.output, h.size, h.block⟩
theorem only_below {a w w' : World} {row : Option Nat} (h : a.grownBy w row) (k : Below a.heap.size w w') : a.grownBy w' row := ⟨k.os.trans h.os, k.tape.trans h.tape, k.output.trans h.output, Nat.le_trans h.size k.size, fun i hi hne => (k.block i hi).trans (h.block i hi hne)⟩
theorem undrew {w w' : World} {row : Option Nat} (h : w.drew.grownBy w' row) : w.grownBy w' row := ⟨h.os, h.tape, h.output, h.size, h.block⟩
/-- a block of words -/
def BlkW (w : World) (g : Nat) (t : TypeId) (l : List UInt32) : Prop := Blk w g t (wvs l).toArray
section
variable {w w' : World} {g : Nat} {t : TypeId} {l : List UInt32}
theorem BlkW.lt (h : BlkW w g t l) : g < w.heap.size := Blk.lt h
theorem BlkW.new_ (w : World) (t : TypeId) (cs : Array Value) (g : Nat) (l : List UInt32) (hg : g = w.heap.size) (h : cs = (wvs l).toArray) : BlkW (w.alloc (.cells cs t)) g t l := by
  subst hg h
  exact Blk.new w t _
theorem BlkW.cell (h : BlkW w g t l) (i : Nat) (hi : i < l.length) : w.cell? ⟨g, i, none⟩ = some (.int .u32 (U (Sm.g l i))) := by
  rw [Blk.cell h i]
  simp [wvs, wv, Sm.g, List.getD, hi]
theorem BlkW.frozen (h : BlkW w g t l) (i : Nat) : w.frozen? ⟨g, i, none⟩ = false := Blk.frozen h i
theorem BlkW.set_ (h : BlkW w g t l) (i : Nat) (x : UInt32) : BlkW (w.setCell ⟨g, i, none⟩ (.int .u32 (U x))) g t (l.set i x) := by
  have e : (wvs (l.set i x)).toArray = (wvs l).toArray.setIfInBounds i (.int .u32 (U x)) := by
    rw [List.setIfInBounds_toArray]
    simp [wvs, List.map_set, wv]
  unfold BlkW
  rw [e]
  exact Blk.set_ h i _
theorem BlkW.far (h : BlkW w g t l) {p : Addr} (hp : g ≠ p.block) (u : Value) : BlkW (w.setCell p u) g t l := Blk.far h hp u
theorem BlkW.below {B : Nat} (h : BlkW w g t l) (hb : Below B w w') (hg : g < B) : BlkW w' g t l := Blk.below h hb hg
theorem BlkW.drew (h : BlkW w g t l) : BlkW w.drew g t l := h
theorem BlkW.drewN (h : BlkW w g t l) (n : Nat) : BlkW (w.drewN n) g t l := h
theorem BlkW.alloc (h : BlkW w g t l) (o : Obj) : BlkW (w.alloc o) g t l := Blk.alloc h o
theorem BlkW.grown {row : Option Nat} (h : BlkW w g t l) (hb : w.grownBy w' row) (hg : some g ≠ row) : BlkW w' g t l := Blk.grown h hb hg
end
/-- a whole block of words is read -/
theorem wpList_loadW {P : Program} {ops : Array Oper} {rest : List Oper} {op : Oper} {a : Act} {w : World} {Q : Exit → Act → World → Prop} (hgd : op.guard = none) (ty : TypeId) (x : Operand) (ho : op.op = .load ty x)
    (g : Nat) (t : TypeId) (l : List UInt32) (hx : a.eval x = .pointer (some ⟨g, 0, none⟩)) (hb : BlkW w g t l) (d : TypeDesc) (hu : P.underlying ty = some d) (hd : d.isRow = true)
    (hi : (P.info? ty).map (·.size) = some l.length) (h : wpList P ops Q rest (a.put op.dst (.agg (wvs l).toArray)) w) : wpList P ops Q (op :: rest) a w :=
  wpList_load_blk hgd ty x ho g 0 t [] (wvs l) [] hx (by unfold BlkW at hb; simpa using hb) rfl d hu hd (by rw [wvs_len]; exact hi) h
/-- a whole block of words is written -/
theorem wpList_storeW {P : Program} {ops : Array Oper} {rest : List Oper} {op : Oper} {a : Act} {w : World} {Q : Exit → Act → World → Prop} (hgd : op.guard = none) (ty : TypeId) (x y : Operand) (ho : op.op = .store ty x y)
    (g : Nat) (t : TypeId) (l0 l : List UInt32) (hx : a.eval x = .pointer (some ⟨g, 0, none⟩)) (hy : a.eval y = .agg (wvs l).toArray) (hb : BlkW w g t l0) (hl : l0.length = l.length)
    (hi : (P.info? ty).map (·.size) = some l.length)
    (h : ∀ w', BlkW w' g t l → w.grownBy w' (some g) → wpList P ops Q rest (a.put op.dst undef) w') : wpList P ops Q (op :: rest) a w :=
  wpList_store_blk hgd ty x y ho g 0 t [] (wvs l0) [] (wvs l) hx hy (by unfold BlkW at hb; simpa using hb) rfl (by rw [wvs_len, wvs_len]; exact hl) (by rw [wvs_len]; exact hi) (wvs_one l) (fun w' h1 h2 => h w' (by unfold BlkW; simpa using h1) h2)
theorem cellP {w : World} {b : Nat} {t : TypeId} {l : List UInt32} {post : List Value} (h : Blk w b t (wvs l ++ post).toArray) (i : Nat) (hi : i < l.length) : w.cell? ⟨b, i, none⟩ = some (.int .u32 (U (Sm.g l i))) := by
  rw [Blk.cell h i, List.getElem?_toArray, List.getElem?_append_left (by rw [wvs_len]; exact hi)]
  simp [wvs, wv, Sm.g, List.getD, hi]
theorem setP {w : World} {b : Nat} {t : TypeId} {l : List UInt32} {post : List Value} (h : Blk w b t (wvs l ++ post).toArray) (i : Nat) (hi : i < l.length) (x : UInt32) : Blk (w.setCell ⟨b, i, none⟩ (.int .u32 (U x))) b t (wvs (l.set i x) ++ post).toArray := by
  have := Blk.set_ h i (.int .u32 (U x))
  rw [toArray_set, List.set_append_left _ _ (by rw [wvs_len]; exact hi)] at this
  have e : wvs (l.set i x) = (wvs l).set i (.int .u32 (U x)) := by simp [wvs, List.map_set, wv]
  rw [e]
  exact this
/-- one word of a row that stands in a slot -/
theorem run_index_words {P : Program} (t e : TypeId) (n : Nat) (l : List UInt32) (k : Nat) (ht : P.underlying t = some (.array n e)) (he : P.underlying e = some (.int .u32)) (hi : (P.info? e).map (·.size) = some 1) (hk : k < n) (hn : l.length = n) (w : World) :
    (Instr.index t (.agg (wvs l).toArray) (.int .i64 (k : Int))).run P w = .ok (.int .u32 (U (Sm.g l k))) w := by
  have hget : (wvs l).toArray[k]? = some (.int .u32 (U (Sm.g l k))) := by
    simp [wvs, wv, Sm.g, List.getD, show k < l.length by omega]
  cases hq : P.info? e with
  | none => simp [hq] at hi
  | some i =>
    have hs : i.size = 1 := by simpa [hq] using hi
    have hagg : (isAgg e).run P w = .ok false w := by
      unfold isAgg
      rw [Sem.run_bind, run_underlying he w]
      rfl
    have h1 : (0 : Int) ≤ (k : Int) ∧ (k : Int) < (n : Int) := by omega
    simp only [List.getElem?_toArray] at hget
    simp [Instr.index, asIntOf, Sem.run_bind, run_underlying ht, h1, sizeOf, typeInfo, hq, hs, part, hagg, hget]
    omega
end Sm
end Go.Proofs.YtiofkhjpknfkgaaDoor
/- Rows of records: slices whose elements all have the same number of cells. -/
namespace Go.Proofs.YtiofkhjpknfkgaaDoor
namespace Ba
open Go.RowKit
set_option linter.unusedVariables false
section
variable {α : Type} {f : α → List Value} {sz : Nat}
def rows (f : α → List Value) (l : List α) : List Value := l.flatMap f
def RWf (f : α → List Value) (sz : Nat) (l : List α) : Prop := ∀ x ∈ l, (f x).length = sz ∧ ∀ u ∈ f x, u.oneCell' = true
theorem RWf.nil : RWf f sz [] := fun x h => absurd h (by simp)
theorem RWf.append {l r : List α} (h : RWf f sz l) (k : RWf f sz r) : RWf f sz (l ++ r) := fun x hx => by
  rcases List.mem_append.1 hx with hx | hx
  · exact h x hx
  · exact k x hx
theorem RWf.one {x : α} (h : (f x).length = sz) (h1 : ∀ u ∈ f x, u.oneCell' = true) : RWf f sz [x] := fun y hy => by
  simp at hy
  subst hy
  exact ⟨h, h1⟩
theorem RWf.left {l r : List α} (h : RWf f sz (l ++ r)) : RWf f sz l := fun x hx => h x (List.mem_append_left _ hx)
theorem rows_append (l r : List α) : rows f (l ++ r) = rows f l ++ rows f r := by simp [rows]
theorem rows_one (x : α) : rows f [x] = f x := by simp [rows]
theorem rows_len {l : List α} (h : RWf f sz l) : (rows f l).length = l.length * sz := by
  induction l with
  | nil => simp [rows]
  | cons x l ih =>
    have h1 := (h x (by simp)).1
    have h2 := ih (fun y hy => h y (by simp [hy]))
    unfold rows at h2 ⊢
    rw [List.flatMap_cons, List.length_append, h1, h2, List.length_cons, Nat.add_mul, Nat.one_mul, Nat.add_comm]
theorem rows_one' {l : List α} (h : RWf f sz l) : ∀ u ∈ rows f l, u.oneCell' = true := fun u hu => by
  unfold rows at hu
  obtain ⟨x, hx, hu⟩ := List.mem_flatMap.1 hu
  exact (h x hx).2 u hu
theorem rows_get {l : List α} (h : RWf f sz l) {k : Nat} {x : α} (hk : l[k]? = some x) (j : Nat) (hj : j < sz) : (rows f l)[k * sz + j]? = (f x)[j]? := by
  induction l generalizing k with
  | nil => simp at hk
  | cons y l ih =>
    have h1 := (h y (by simp)).1
    unfold rows
    rw [List.flatMap_cons]
    cases k with
    | zero =>
      simp at hk
      subst hk
      rw [Nat.zero_mul, Nat.zero_add, List.getElem?_append_left (by omega)]
    | succ k =>
      have h2 := ih (fun y hy => h y (by simp [hy])) (k := k) (by simpa using hk)
      rw [List.getElem?_append_right (by rw [h1, Nat.add_mul]; omega), h1, Nat.add_mul, Nat.one_mul]
      unfold rows at h2
      rw [← h2]
      congr 1
      omega
/-- a slice that reads as records -/
def ReadRow (f : α → List Value) (sz : Nat) (w : World) (B : Nat) (A : Option Addr) (l : List α) : Prop :=
  RWf f sz l ∧ (0 < l.length → ∃ b o, A = some ⟨b, o, none⟩ ∧ b < B ∧ ∀ j u, (rows f l)[j]? = some u → w.cell? ⟨b, o + j, none⟩ = some u)
/-- a slice of records of the call's own -/
def OwnRow (f : α → List Value) (sz : Nat) (w : World) (base : Nat) (E : TypeId) (v : Value) (l : List α) : Prop := RWf f sz l ∧ w.ownsRow base E sz v l.length (rows f l)
variable {w w' : World} {B B' : Nat} {A : Option Addr} {l : List α} {E : TypeId} {v : Value} {base : Nat}
theorem ReadRow.nil : ReadRow f sz w B A [] := ⟨RWf.nil, fun h => absurd h (by simp)⟩
theorem ReadRow.keep (h : ReadRow f sz w B A l) (hk : ∀ p : Addr, p.block < B → w'.cell? p = w.cell? p) : ReadRow f sz w' B A l :=
  ⟨h.1, fun hn => by
    obtain ⟨b, o, e, hb, hc⟩ := h.2 hn
    exact ⟨b, o, e, hb, fun j u hu => (hk ⟨b, o + j, none⟩ hb).trans (hc j u hu)⟩⟩
theorem ReadRow.below (h : ReadRow f sz w B A l) (hb : Below B w w') : ReadRow f sz w' B A l := h.keep fun _ hp => hb.cell hp
theorem ReadRow.more (h : ReadRow f sz w B A l) (hB : B ≤ B') : ReadRow f sz w B' A l :=
  ⟨h.1, fun hn => by
    obtain ⟨b, o, e, hb, hc⟩ := h.2 hn
    exact ⟨b, o, e, Nat.lt_of_lt_of_le hb hB, hc⟩⟩
theorem ReadRow.drew (h : ReadRow f sz w B A l) : ReadRow f sz w.drew B A l := h
theorem ReadRow.alloc (h : ReadRow f sz w B A l) (hB : B ≤ w.heap.size) (o : Obj) : ReadRow f sz (w.alloc o) B A l := h.below ((Below.refl B w).alloc hB o)
theorem ReadRow.reads (h : ReadRow f sz w B A l) : Reads w B sz A l.length (rows f l) :=
  ⟨rows_len h.1, fun hn => by
    obtain ⟨b, o, e, hb, hc⟩ := h.2 hn
    exact ⟨⟨b, o, none⟩, e, hb, fun j u hu => by rw [add_lit_]; exact hc j u hu⟩⟩
/-- the k-th element -/
theorem ReadRow.at_ (h : ReadRow f sz w B A l) {k : Nat} {x : α} (hk : l[k]? = some x) : ∃ b o, A = some ⟨b, o, none⟩ ∧ b < B ∧ w.rangeAt b (o + k * sz) (f x) := by
  have hlt : k < l.length := by
    rcases Nat.lt_or_ge k l.length with h | h
    · exact h
    · rw [List.getElem?_eq_none h] at hk; cases hk
  obtain ⟨b, o, e, hb, hc⟩ := h.2 (by omega)
  refine ⟨b, o, e, hb, fun j u hu => ?_⟩
  have hx := (h.1 x (List.mem_of_getElem? hk)).1
  have hj : j < sz := by
    rcases Nat.lt_or_ge j sz with h | h
    · exact h
    · rw [List.getElem?_eq_none (by omega)] at hu; cases hu
  rw [Nat.add_assoc]
  exact hc _ u (by rw [rows_get h.1 hk j hj]; exact hu)
/-- all of them, at one address -/
theorem ReadRow.all (h : ReadRow f sz w B A l) (hn : 0 < l.length) : ∃ b o, A = some ⟨b, o, none⟩ ∧ b < B ∧ ∀ k x, l[k]? = some x → w.rangeAt b (o + k * sz) (f x) := by
  obtain ⟨b, o, rfl, hb, hc⟩ := h.2 hn
  refine ⟨b, o, rfl, hb, fun k x hk => ?_⟩
  obtain ⟨b', o', e, _, hr⟩ := h.at_ hk
  injection e with e
  injection e with e1 e2
  subst e1 e2
  exact hr
theorem OwnRow.nil : OwnRow f sz w base E (.slice none 0 0) [] := ⟨RWf.nil, by simp [rows], .inl ⟨rfl, rfl⟩⟩
theorem OwnRow.drew (h : OwnRow f sz w base E v l) : OwnRow f sz w.drew base E v l := h
theorem OwnRow.alloc (h : OwnRow f sz w base E v l) (o : Obj) : OwnRow f sz (w.alloc o) base E v l := ⟨h.1, World.ownsRow.alloc h.2 o⟩
theorem OwnRow.keptB (h : OwnRow f sz w base E v l) (hb : Below w.heap.size w w') : OwnRow f sz w' base E v l :=
  ⟨h.1, World.ownsRow.kept (row := none) h.2 ⟨hb.os, hb.tape, hb.output, hb.size, fun k hk _ => hb.block k hk⟩ (by cases v.ownBlock <;> simp)⟩
theorem OwnRow.grown {row : Option Nat} (h : OwnRow f sz w base E v l) (hg : w.grownBy w' row) (hne : v.ownBlock = none ∨ v.ownBlock ≠ row) : OwnRow f sz w' base E v l := ⟨h.1, World.ownsRow.kept h.2 hg hne⟩
theorem OwnRow.weak {b2 : Nat} (h : OwnRow f sz w base E v l) (hb : b2 ≤ base) : OwnRow f sz w b2 E v l := by
  refine ⟨h.1, h.2.1, ?_⟩
  rcases h.2.2 with hh | ⟨g, cap, cur, e, hbb, r⟩
  · exact .inl hh
  · exact .inr ⟨g, cap, cur, e, by omega, r⟩
theorem OwnRow.ge (h : OwnRow f sz w base E v l) : ∀ k, v.ownBlock = some k → base ≤ k ∧ k < w.heap.size := fun k hk => World.ownsRow.lt h.2 k hk
theorem OwnRow.opens (h : OwnRow f sz w base E v l) : ∃ A c, v = .slice A l.length c ∧ l.length ≤ c ∧ c ≤ 9223372036854775807 ∧ ReadRow f sz w w.heap.size A l ∧ (∀ ad, A = some ad → base ≤ ad.block ∧ ad.block < w.heap.size) := by
  rcases h.2.2 with ⟨rfl, hn⟩ | ⟨g, cap, cur, rfl, hb, hh, hnc, hm, hcs, ht⟩
  · have hl : l = [] := List.eq_nil_of_length_eq_zero hn
    subst hl
    exact ⟨none, 0, rfl, by simp, by omega, ReadRow.nil, by intro _ h; cases h⟩
  · have hg : g < w.heap.size := (Array.getElem?_eq_some_iff.1 hh).1
    refine ⟨_, _, rfl, hnc, by simpa [maxLen] using hm, ⟨h.1, fun _ => ⟨g, 0, rfl, hg, fun j u hu => ?_⟩⟩, ?_⟩
    · rw [Nat.zero_add, cell_of_row w g j cur E (0, 0) hh]
      rw [← ht, List.getElem?_take] at hu
      split at hu
      · rw [← hu]; simp
      · cases hu
    · intro ad had
      injection had with had
      subst had
      exact ⟨hb, hg⟩
theorem OwnRow.ofRead {c : Nat} (h : OwnRow f sz w base E (.slice A l.length c) l) : ReadRow f sz w w.heap.size A l := by
  obtain ⟨A', c', e, _, _, hr, _⟩ := h.opens
  injection e with e
  subst e
  exact hr
/-- a written-out record in a new block -/
theorem ReadRow.lit1 (w : World) (E : TypeId) (cs : Array Value) (x : α) (h : cs = (f x).toArray) (hx : (f x).length = sz) (h1 : ∀ u ∈ f x, u.oneCell' = true) : ReadRow f sz (w.alloc (.cells cs E)) (w.heap.size + 1) (some ⟨w.heap.size, 0, none⟩) [x] := by
  subst h
  refine ⟨RWf.one hx h1, fun _ => ⟨w.heap.size, 0, rfl, by omega, fun j u hu => ?_⟩⟩
  rw [rows_one] at hu
  rw [Nat.zero_add, cell_of_row _ w.heap.size j (f x).toArray E (0, 0) (heap_alloc_new w _)]
  simpa using hu
end
def IsRec (P : Program) (E : TypeId) (i : TypeInfo) (sz bytes : Nat) : Prop := P.info? E = some i ∧ (∃ z, i.zero = some z ∧ z.cells.size = sz) ∧ i.size = sz ∧ i.bytes = bytes
theorem isRec_of {P : Program} {E : TypeId} {sz bytes : Nat} (h : (P.info? E).map (fun i => (i.zero.map (·.cells.size), i.size, i.bytes)) = some (some sz, sz, bytes)) : ∃ i, IsRec P E i sz bytes := by
  obtain ⟨i, hi, hzz⟩ := Option.map_eq_some_iff.1 h
  simp only [Prod.mk.injEq] at hzz
  obtain ⟨z, hz, hs⟩ := Option.map_eq_some_iff.1 hzz.1
  exact ⟨i, hi, ⟨z, hz, hs⟩, hzz.2.1, hzz.2.2⟩
section
variable {α : Type} {f : α → List Value} {sz : Nat}
theorem wpList_appR {P : Program} (w : World) {ops : Array Oper} {rest : List Oper} {o : Oper} {a : Act} {Q : Exit → Act → World → Prop} (hgd : o.guard = none) (s x : Operand) (t : TypeId)
    (ho : o.op = .call { callee := .builtin .append, args := #[s, x], argTypes := #[t, t] })
    (base : Nat) (E : TypeId) (i : TypeInfo) (bytes : Nat) (ht : P.underlying t = some (.slice E)) (hi : IsRec P E i sz bytes) (hsz : 0 < sz)
    (v : Value) (l : List α) (hs : a.eval s = v) (hown : OwnRow f sz w base E v l)
    (B : Nat) (A : Option Addr) (m c : Nat) (r : List α) (hx : a.eval x = .slice A m c) (hm : m = r.length) (hr : ReadRow f sz w B A r)
    (h63 : l.length + r.length ≤ 9223372036854775807) (hbytes : (l.length + r.length) * bytes ≤ 140737488355328) (hbase : base ≤ w.heap.size)
    (h : ∀ v' w', OwnRow f sz w' base E v' (l ++ r) → w.grownBy w' v.ownBlock → (v'.ownBlock = v.ownBlock ∨ v'.ownBlock = some w.heap.size) → Below base w w' → wpList P ops Q rest (a.put o.dst v') w') : wpList P ops Q (o :: rest) a w := by
  subst hm
  obtain ⟨z, hz, hzs⟩ := hi.2.1
  refine wpList_append_any w hgd s x t ho base E i z sz bytes ht hi.1 hz hi.2.2.1 hi.2.2.2 hzs hsz v l.length (rows f l) hs hown.2 B A r.length c (rows f r) hx hr.reads (rows_one' hr.1) (by unfold maxLen; omega) hbytes hbase ?_
  intro v' w' h1 h2 h3
  refine h v' w' ⟨hown.1.append hr.1, ?_⟩ h2 h3 ((Below.refl base w).grown h2 hbase (fun k hk => (World.ownsRow.lt hown.2 k hk).1))
  rw [List.length_append, rows_append]
  exact h1
theorem step_appR {P : Program} (w : World) {ops : Array Oper} {o : Oper} {a : Act} {K : Act → World → Prop} {Q : Exit → Act → World → Prop} {R : Prop} (hgd : Region.wanted o (yielded ops a.tmps) = true) (s x : Operand) (t : TypeId)
    (ho : o.op = .call { callee := .builtin .append, args := #[s, x], argTypes := #[t, t] })
    (base : Nat) (E : TypeId) (i : TypeInfo) (bytes : Nat) (ht : P.underlying t = some (.slice E)) (hi : IsRec P E i sz bytes) (hsz : 0 < sz)
    (v : Value) (l : List α) (hs : a.eval s = v) (hown : OwnRow f sz w base E v l)
    (B : Nat) (A : Option Addr) (m c : Nat) (r : List α) (hx : a.eval x = .slice A m c) (hm : m = r.length) (hr : ReadRow f sz w B A r)
    (h63 : l.length + r.length ≤ 9223372036854775807) (hbytes : (l.length + r.length) * bytes ≤ 140737488355328) (hbase : base ≤ w.heap.size)
    (h : ∀ v' w', OwnRow f sz w' base E v' (l ++ r) → w.grownBy w' v.ownBlock → (v'.ownBlock = v.ownBlock ∨ v'.ownBlock = some w.heap.size) → Below base w w' → K (a.put o.dst v') w') :
    if Region.wanted o (yielded ops a.tmps) = true then Oper.wp P o a w K Q else R := by
  subst hm
  obtain ⟨z, hz, hzs⟩ := hi.2.1
  rw [if_pos hgd]
  refine wp_append_any w s x t ho base E i z sz bytes ht hi.1 hz hi.2.2.1 hi.2.2.2 hzs hsz v l.length (rows f l) hs hown.2 B A r.length c (rows f r) hx hr.reads (rows_one' hr.1) (by unfold maxLen; omega) hbytes hbase ?_
  intro v' w' h1 h2 h3
  refine h v' w' ⟨hown.1.append hr.1, ?_⟩ h2 h3 ((Below.refl base w).grown h2 hbase (fun k hk => (World.ownsRow.lt hown.2 k hk).1))
  rw [List.length_append, rows_append]
  exact h1
end
end Ba
end Go.Proofs.YtiofkhjpknfkgaaDoor
/- What of a new file an old one has: a search, over lists: plain words and laws. F tells where a block is. -/
namespace Go.Proofs.YtiofkhjpknfkgaaDoor
namespace Tm
set_option linter.unusedVariables false
/-- an operation -/
structure O where
  copy : Bool
  pos : Int
  n : Int
  data : List UInt8
def cp (a n : Int) : O := ⟨true, a, n, []⟩
def lit (d : List UInt8) : O := ⟨false, 0, 0, d⟩
def whole (b : List UInt8) : List O := if b.length = 0 then [] else [lit b]
def cut (b : List UInt8) (i j : Nat) : List UInt8 := (b.drop i).take (j - i)
/-- does a copy go on where the last one ended? -/
def joins (out : List O) (frm i : Nat) (a : Int) : Bool := decide (frm = i) && (match out.getLast? with | some o => o.copy && decide (o.pos + o.n = a) | none => false)
def grow (out : List O) (z : Nat) : List O := out.dropLast ++ (match out.getLast? with | some o => [{ o with n := o.n + z }] | none => [])
def put1 (z : Nat) (b : List UInt8) (out : List O) (frm i : Nat) (a : Int) : List O := if joins out frm i a then grow out z else out ++ whole (cut b frm i) ++ [cp a z]
def srch (F : List UInt8 → Int × Bool) (z : Nat) (b : List UInt8) : Nat → List O → Nat → Nat → List O × Nat
  | 0, out, frm, i => (out, frm)
  | f + 1, out, frm, i =>
    if i + z ≤ b.length then
      if (F (cut b i (i + z))).2 then srch F z b f (put1 z b out frm i (F (cut b i (i + z))).1) (i + z) (i + z) else srch F z b f out frm (i + 1)
    else (out, frm)
def fin (b : List UInt8) (r : List O × Nat) : List O := if 4096 < (r.1 ++ whole (b.drop r.2)).length then whole b else r.1 ++ whole (b.drop r.2)
def search (F : List UInt8 → Int × Bool) (z : Nat) (b : List UInt8) : List O := fin b (srch F z b (b.length + 1) [] 0 0)
def copied (l : List O) : Int := (l.map fun o => if o.copy then o.n else 0).foldl (· + ·) 0
def literal (l : List O) : Int := (l.map fun o => if o.copy then 0 else (o.data.length : Int)).foldl (· + ·) 0
theorem foldl_add (l : List Int) (a : Int) : l.foldl (· + ·) a = a + l.foldl (· + ·) 0 := by
  induction l generalizing a with
  | nil => simp
  | cons x l ih => rw [List.foldl_cons, List.foldl_cons, ih, ih (0 + x)]; omega
theorem sum_append (l r : List Int) : (l ++ r).foldl (· + ·) 0 = l.foldl (· + ·) 0 + r.foldl (· + ·) 0 := by rw [List.foldl_append, foldl_add]
theorem copied_append (l r : List O) : copied (l ++ r) = copied l + copied r := by unfold copied; rw [List.map_append, sum_append]
theorem literal_append (l r : List O) : literal (l ++ r) = literal l + literal r := by unfold literal; rw [List.map_append, sum_append]
theorem copied_whole (b : List UInt8) : copied (whole b) = 0 := by unfold whole; split <;> simp [copied, lit]
theorem literal_whole (b : List UInt8) : literal (whole b) = b.length := by unfold whole; split <;> simp_all [literal, lit]
theorem copied_cp (a n : Int) : copied [cp a n] = n := by simp [copied, cp]
theorem literal_cp (a n : Int) : literal [cp a n] = 0 := by simp [literal, cp]
theorem cut_len (b : List UInt8) (i j : Nat) (h : i ≤ j) (hj : j ≤ b.length) : (cut b i j).length = j - i := by unfold cut; rw [List.length_take, List.length_drop]; omega
theorem whole_nil (b : List UInt8) (h : b.length = 0) : whole b = [] := if_pos h
theorem whole_len (b : List UInt8) : (whole b).length ≤ 1 := by unfold whole; split <;> simp
theorem last_split (out : List O) (o : O) (h : out.getLast? = some o) : out = out.dropLast ++ [o] := by
  have hne : out ≠ [] := by intro e; rw [e] at h; cases h
  rw [List.getLast?_eq_some_getLast hne] at h
  injection h with h
  rw [← h]
  exact (List.dropLast_concat_getLast hne).symm
theorem grow_eq (out : List O) (o : O) (z : Nat) (h : out.getLast? = some o) : grow out z = out.dropLast ++ [{ o with n := o.n + z }] := by unfold grow; rw [h]
/-- an invariant of the search's steps -/
theorem srch_ind (F : List UInt8 → Int × Bool) (z : Nat) (b : List UInt8) (hz : 1 ≤ z) (I : List O → Nat → Nat → Prop)
    (h1 : ∀ out frm i, I out frm i → i + z ≤ b.length → (F (cut b i (i + z))).2 = true → I (put1 z b out frm i (F (cut b i (i + z))).1) (i + z) (i + z))
    (h2 : ∀ out frm i, I out frm i → i + z ≤ b.length → (F (cut b i (i + z))).2 = false → I out frm (i + 1)) :
    ∀ f out frm i, I out frm i → b.length < i + f → ∃ i', I (srch F z b f out frm i).1 (srch F z b f out frm i).2 i' ∧ b.length < i' + z
  | 0, out, frm, i, h, hf => ⟨i, h, by omega⟩
  | f + 1, out, frm, i, h, hf => by
    unfold srch
    by_cases hb : i + z ≤ b.length
    · rw [if_pos hb]
      cases hF : (F (cut b i (i + z))).2 with
      | true =>
        simp only [if_true]
        exact srch_ind F z b hz I h1 h2 f _ _ _ (h1 out frm i h hb hF) (by omega)
      | false =>
        simp only [Bool.false_eq_true, if_false]
        exact srch_ind F z b hz I h1 h2 f _ _ _ (h2 out frm i h hb hF) (by omega)
    · rw [if_neg hb]
      exact ⟨i, h, by omega⟩
/-- more fuel changes nothing -/
theorem srch_fuel (F : List UInt8 → Int × Bool) (z : Nat) (b : List UInt8) (hz : 1 ≤ z) : ∀ f g out frm i, b.length < i + f → b.length < i + g → srch F z b f out frm i = srch F z b g out frm i
  | 0, 0, out, frm, i, h1, h2 => rfl
  | 0, g + 1, out, frm, i, h1, h2 => by
    unfold srch
    rw [if_neg (by omega)]
  | f + 1, 0, out, frm, i, h1, h2 => by
    unfold srch
    rw [if_neg (by omega)]
  | f + 1, g + 1, out, frm, i, h1, h2 => by
    unfold srch
    by_cases hb : i + z ≤ b.length
    · rw [if_pos hb, if_pos hb]
      cases hF : (F (cut b i (i + z))).2 with
      | true =>
        simp only [if_true]
        exact srch_fuel F z b hz f g _ _ _ (by omega) (by omega)
      | false =>
        simp only [Bool.false_eq_true, if_false]
        exact srch_fuel F z b hz f g _ _ _ (by omega) (by omega)
    · rw [if_neg hb, if_neg hb]
/-- what is left of a search -/
def rest (F : List UInt8 → Int × Bool) (z : Nat) (b : List UInt8) (out : List O) (frm i : Nat) : List O × Nat := srch F z b (b.length + 1 - i) out frm i
theorem rest_zero (F : List UInt8 → Int × Bool) (z : Nat) (b : List UInt8) : rest F z b [] 0 0 = srch F z b (b.length + 1) [] 0 0 := rfl
theorem rest_hit (F : List UInt8 → Int × Bool) (z : Nat) (b : List UInt8) (hz : 1 ≤ z) (out : List O) (frm i : Nat) (hb : i + z ≤ b.length) (hF : (F (cut b i (i + z))).2 = true) : rest F z b out frm i = rest F z b (put1 z b out frm i (F (cut b i (i + z))).1) (i + z) (i + z) := by
  unfold rest
  obtain ⟨k, hk⟩ : ∃ k, b.length + 1 - i = k + 1 := ⟨b.length - i, by omega⟩
  rw [hk, srch, if_pos hb, hF]
  simp only [if_true]
  exact srch_fuel F z b hz _ _ _ _ _ (by omega) (by omega)
theorem rest_miss (F : List UInt8 → Int × Bool) (z : Nat) (b : List UInt8) (hz : 1 ≤ z) (out : List O) (frm i : Nat) (hb : i + z ≤ b.length) (hF : (F (cut b i (i + z))).2 = false) : rest F z b out frm i = rest F z b out frm (i + 1) := by
  unfold rest
  obtain ⟨k, hk⟩ : ∃ k, b.length + 1 - i = k + 1 := ⟨b.length - i, by omega⟩
  rw [hk, srch, if_pos hb, hF]
  simp only [Bool.false_eq_true, if_false]
  exact srch_fuel F z b hz _ _ _ _ _ (by omega) (by omega)
theorem rest_end (F : List UInt8 → Int × Bool) (z : Nat) (b : List UInt8) (out : List O) (frm i : Nat) (hb : ¬ i + z ≤ b.length) : rest F z b out frm i = (out, frm) := by
  unfold rest
  cases h : b.length + 1 - i with
  | zero => rfl
  | succ k => rw [srch, if_neg hb]
end Tm
end Go.Proofs.YtiofkhjpknfkgaaDoor
/- Operations in memory: rows of four cells, each with bytes of its own. -/
namespace Go.Proofs.YtiofkhjpknfkgaaDoor
namespace Os_
open Go.RowKit Ba Tm
set_option linter.unusedVariables false
/-- an operation, where its bytes lie, and the room there -/
abbrev Ow := O × Option Addr × Nat
def opv (x : Ow) : List Value := [.bool x.1.copy, .int .i64 x.1.pos, .int .i64 x.1.n, .slice x.2.1 x.1.data.length x.2.2]
theorem opv_len (x : Ow) : (opv x).length = 4 := rfl
theorem opv_one (x : Ow) : ∀ v ∈ opv x, v.oneCell' = true := by
  intro v hv
  simp only [opv, List.mem_cons, List.not_mem_nil, or_false] at hv
  rcases hv with rfl | rfl | rfl | rfl <;> rfl
def WfO (w : World) (B : Nat) (x : Ow) : Prop := (-9223372036854775808 ≤ x.1.pos ∧ x.1.pos ≤ 9223372036854775807) ∧ (-9223372036854775808 ≤ x.1.n ∧ x.1.n ≤ 9223372036854775807) ∧ x.1.data.length ≤ x.2.2 ∧ x.2.2 ≤ 9223372036854775807 ∧ ReadB w B x.2.1 x.1.data
theorem WfO.below {w w' : World} {B : Nat} {x : Ow} (h : WfO w B x) (hb : Below B w w') : WfO w' B x := ⟨h.1, h.2.1, h.2.2.1, h.2.2.2.1, h.2.2.2.2.below hb⟩
theorem WfO.more {w : World} {B B' : Nat} {x : Ow} (h : WfO w B x) (hB : B ≤ B') : WfO w B' x := ⟨h.1, h.2.1, h.2.2.1, h.2.2.2.1, h.2.2.2.2.more hB⟩
/-- operations that are read -/
def ReadO (w : World) (B : Nat) (A : Option Addr) (L : List Ow) : Prop := ReadRow opv 4 w B A L ∧ ∀ x ∈ L, WfO w B x
def ops (L : List Ow) : List O := L.map (·.1)
theorem ops_len (L : List Ow) : (ops L).length = L.length := by simp [ops]
theorem ReadO.nil {w : World} {B : Nat} {A : Option Addr} : ReadO w B A [] := ⟨ReadRow.nil, fun x h => absurd h (by simp)⟩
theorem ReadO.below {w w' : World} {B : Nat} {A : Option Addr} {L : List Ow} (h : ReadO w B A L) (hb : Below B w w') : ReadO w' B A L := ⟨h.1.below hb, fun x hx => (h.2 x hx).below hb⟩
theorem ReadO.more {w : World} {B B' : Nat} {A : Option Addr} {L : List Ow} (h : ReadO w B A L) (hB : B ≤ B') : ReadO w B' A L := ⟨h.1.more hB, fun x hx => (h.2 x hx).more hB⟩
end Os_
end Go.Proofs.YtiofkhjpknfkgaaDoor
/- Operations of the call's own: a row of its own, whose bytes lie in blocks of bytes. -/
namespace Go.Proofs.YtiofkhjpknfkgaaDoor
namespace Os_
open Go.RowKit Ba Tm
set_option linter.unusedVariables false
/-- bytes that lie in a block of bytes -/
def RT (w : World) (A : Option Addr) (l : List UInt8) : Prop :=
  0 < l.length → ∃ b o cs, A = some ⟨b, o, none⟩ ∧ Blk w b 5 cs ∧ ∀ k, k < l.length → w.cell? ⟨b, o + k, none⟩ = some (.int .u8 ((l.getD k 0).toNat : Int))
section
variable {w w' : World} {A : Option Addr} {l : List UInt8}
theorem RT.nil : RT w A [] := fun h => absurd h (by simp)
theorem RT.readB (h : RT w A l) : ReadB w w.heap.size A l := fun hn => by
  obtain ⟨b, o, cs, e, hb, hc⟩ := h hn
  exact ⟨b, o, e, hb.lt, hc⟩
theorem RT.of_own {base c : Nat} (h : OwnB w base 5 (.slice A l.length c) l) : RT w A l := fun hn => by
  rcases h.2 with ⟨hv, h0⟩ | ⟨g, cap, cur, hv, _, hh, _⟩
  · omega
  · injection hv with hA _ _
    subst hA
    exact ⟨g, 0, cur, rfl, hh, fun k hk => by rw [Nat.zero_add]; exact OwnB.cell (c := c) h hk⟩
theorem RT.below (h : RT w A l) (hb : Below w.heap.size w w') : RT w' A l := fun hn => by
  obtain ⟨b, o, cs, e, hB, hc⟩ := h hn
  exact ⟨b, o, cs, e, hB.below hb hB.lt, fun k hk => (hb.cell (p := ⟨b, o + k, none⟩) hB.lt).trans (hc k hk)⟩
theorem RT.row {row : Option Nat} (h : RT w A l) (hg : w.grownBy w' row) (hB : ∀ g, row = some g → ∃ t cs, Blk w g t cs ∧ 5 ≠ t) : RT w' A l := fun hn => by
  obtain ⟨b, o, cs', e, hb, hc⟩ := h hn
  have hbg : some b ≠ row := fun e2 => by
    obtain ⟨t, cs, h1, h2⟩ := hB b e2.symm
    exact hb.ne_ h1 h2 rfl
  exact ⟨b, o, cs', e, hb.grown hg hbg, fun k hk => (World.cell?_of_block (hg.block b hb.lt hbg)).trans (hc k hk)⟩
theorem RT.drop {b o : Nat} (h : RT w (some ⟨b, o, none⟩) l) (k : Nat) : RT w (some ⟨b, o + k, none⟩) (l.drop k) := fun hn => by
  have hk : k < l.length := by simp at hn; omega
  obtain ⟨b', o', cs, e, hb, hcl⟩ := h (by omega)
  injection e with e
  injection e with e1 e2
  subst e1 e2
  refine ⟨b, o + k, cs, rfl, hb, fun j hj => ?_⟩
  have hj' : k + j < l.length := by simp at hj; omega
  rw [Nat.add_assoc, hcl (k + j) hj']
  simp [List.getD]
end
def WfT (w : World) (x : Ow) : Prop := (-9223372036854775808 ≤ x.1.pos ∧ x.1.pos ≤ 9223372036854775807) ∧ (-9223372036854775808 ≤ x.1.n ∧ x.1.n ≤ 9223372036854775807) ∧ x.1.data.length ≤ x.2.2 ∧ x.2.2 ≤ 9223372036854775807 ∧ RT w x.2.1 x.1.data
theorem WfT.wf {w : World} {x : Ow} (h : WfT w x) : WfO w w.heap.size x := ⟨h.1, h.2.1, h.2.2.1, h.2.2.2.1, h.2.2.2.2.readB⟩
theorem WfT.below {w w' : World} {x : Ow} (h : WfT w x) (hb : Below w.heap.size w w') : WfT w' x := ⟨h.1, h.2.1, h.2.2.1, h.2.2.2.1, h.2.2.2.2.below hb⟩
theorem WfT.row {w w' : World} {x : Ow} {row : Option Nat} (h : WfT w x) (hg : w.grownBy w' row) (hB : ∀ g, row = some g → ∃ t cs, Blk w g t cs ∧ 5 ≠ t) : WfT w' x := ⟨h.1, h.2.1, h.2.2.1, h.2.2.2.1, h.2.2.2.2.row hg hB⟩
/-- operations of the call's own -/
def OwnO (w : World) (base : Nat) (v : Value) (L : List Ow) : Prop := OwnRow opv 4 w base 40 v L ∧ ∀ x ∈ L, WfT w x
section
variable {w w' : World} {base : Nat} {v : Value} {L : List Ow}
theorem op_ne : (5 : TypeId) ≠ 40 := by decide
theorem OwnO.nil : OwnO w base (.slice none 0 0) [] := ⟨OwnRow.nil, by simp⟩
theorem OwnO.keptB (h : OwnO w base v L) (hb : Below w.heap.size w w') : OwnO w' base v L := ⟨h.1.keptB hb, fun x hx => (h.2 x hx).below hb⟩
theorem OwnO.alloc (h : OwnO w base v L) (o : Obj) : OwnO (w.alloc o) base v L := h.keptB ((Below.refl _ _).alloc (Nat.le_refl _) o)
theorem OwnO.weak {b2 : Nat} (h : OwnO w base v L) (hb : b2 ≤ base) : OwnO w b2 v L := ⟨h.1.weak hb, h.2⟩
theorem OwnO.grown {row : Option Nat} (h : OwnO w base v L) (hg : w.grownBy w' row) (hne : v.ownBlock = none ∨ v.ownBlock ≠ row) (hB : ∀ g, row = some g → ∃ t cs, Blk w g t cs ∧ 5 ≠ t) : OwnO w' base v L := ⟨h.1.grown hg hne, fun x hx => (h.2 x hx).row hg hB⟩
theorem own_blk (h : OwnRow opv 4 w base 40 v L) : ∀ g, v.ownBlock = some g → ∃ cs, Blk w g 40 cs := fun g hg => by
  rcases h.2.2 with ⟨rfl, _⟩ | ⟨g2, cap, cur, rfl, hb, hh, _⟩
  · cases hg
  · simp only [Value.ownBlock, Option.some.injEq] at hg
    subst hg
    exact ⟨cur, hh⟩
/-- one more is put behind -/
theorem OwnO.app {v' : Value} {r : List Ow} (h : OwnO w base v L) (h1 : OwnRow opv 4 w' base 40 v' (L ++ r)) (hg : w.grownBy w' v.ownBlock) (hr : ∀ x ∈ r, WfT w x) : OwnO w' base v' (L ++ r) := by
  have hB : ∀ g, v.ownBlock = some g → ∃ t cs, Blk w g t cs ∧ 5 ≠ t := fun g hg => by
    obtain ⟨cs, hcs⟩ := own_blk h.1 g hg
    exact ⟨_, cs, hcs, op_ne⟩
  refine ⟨h1, fun x hx => ?_⟩
  rcases List.mem_append.1 hx with hx | hx
  · exact (h.2 x hx).row hg hB
  · exact (hr x hx).row hg hB
theorem OwnO.opens (h : OwnO w base v L) : ∃ A c, v = .slice A L.length c ∧ L.length ≤ c ∧ c ≤ 9223372036854775807 ∧ ReadO w w.heap.size A L ∧ (∀ ad, A = some ad → base ≤ ad.block ∧ ad.block < w.heap.size) := by
  obtain ⟨A, c, e, h1, h2, h3, h4⟩ := h.1.opens
  exact ⟨A, c, e, h1, h2, ⟨h3, fun x hx => (h.2 x hx).wf⟩, h4⟩
end
/-- the k-th operation -/
def oat (L : List Ow) (k : Nat) : Ow := L.getD k (⟨false, 0, 0, []⟩, none, 0)
theorem oat_get {L : List Ow} {k : Nat} (h : k < L.length) : L[k]? = some (oat L k) := by simp [oat, List.getD, h]
theorem oat_mem {L : List Ow} {k : Nat} (h : k < L.length) : oat L k ∈ L := List.mem_of_getElem? (oat_get h)
theorem opv_mk (c : Bool) (p n : Int) (d : List UInt8) (A : Option Addr) (k : Nat) : opv (⟨c, p, n, d⟩, A, k) = [.bool c, .int .i64 p, .int .i64 n, .slice A d.length k] := rfl
theorem isOp : ∃ i, IsRec Tryd.prog 40 i 4 48 := isRec_of (by kernel_rfl)
end Os_
end Go.Proofs.YtiofkhjpknfkgaaDoor
/- bytes.Clone. -/
namespace Go.Proofs.YtiofkhjpknfkgaaDoor
namespace Cl
open Go.RowKit Ba
set_option linter.unusedVariables false
theorem info5 : (Tryd.prog.info? 5).map (fun i => (i.zero, i.size, i.bytes)) = some (some (.int .u8 0), 1, 1) := by kernel_rfl

set_option maxRecDepth 100000 in
set_option maxHeartbeats 400000 in
theorem clone_calls (l : List UInt8) (A : Option Addr) (c : Nat) (hc : l.length ≤ c) (hl : l.length ≤ 140737488355328) (w : World) (hr : ReadB w w.heap.size A l) : Calls Tryd.prog 48 #[.slice A l.length c] w
    fun e w' => ∃ v, e = .returned v ∧ OwnB w' w.heap.size 5 v l ∧ Below w.heap.size w w' := by
  obtain ⟨i0, hi0⟩ := isByte_of info5
  have Hi := Lib.hid hi0
  have Hr := Lib.hid hr
  clear hi0 hr
  rcases A with _ | ad
  · have hl0 : l = [] := by
      rcases l with _ | ⟨x, l⟩
      · rfl
      · obtain ⟨_, _, hx, _⟩ := Hr.out (by simp)
        cases hx
    subst hl0
    have hnil := fun (w : World) => Lib.run_eql_slice_nil (P := Tryd.prog) w 22 5 none 0 c 0 0 Tryd.underlying22
    simp only [List.length_nil]
    go_enter Tryd.func48, Tryd.ntmps48
    go_wp2
    go_ret
    exact ⟨_, rfl, OwnB.nil, Below.refl _ _⟩
  · have hnil := fun (w : World) => Lib.run_eql_slice_nil (P := Tryd.prog) w 22 5 (some ad) l.length c 0 0 Tryd.underlying22
    go_enter Tryd.func48, Tryd.ntmps48
    have hown0 : OwnB (w.alloc (.cells #[] 5)) w.heap.size 5 (.slice (some ⟨w.heap.size, 0, none⟩) 0 0) [] := OwnB.lit0 w 5 w.heap.size w.heap.size rfl (Nat.le_refl _)
    have hr0 : ReadB (w.alloc (.cells #[] 5)) w.heap.size (some ad) l := Hr.out.alloc (Nat.le_refl _) _
    have Ho0 := Lib.hid hown0
    have Hr0 := Lib.hid hr0
    clear hown0 hr0
    go_wp2_with (at_builtin; go_loud (refine wpList_appB _ rfl (.tmp 5) (.tmp 6) 22 rfl w.heap.size 5 i0 Tryd.underlying22 Hi.out _ [] rfl Ho0.out w.heap.size (some ad) _ c l rfl rfl Hr0.out (by simp; omega) (by simp) ?_); intro v1 w1 ho1 _ _ hb1)
    go_ret
    rw [List.nil_append] at ho1
    exact ⟨v1, rfl, ho1, ((Below.refl _ _).alloc (Nat.le_refl _) _).trans hb1⟩
theorem cloneN {l : List UInt8} {A : Option Addr} {n c : Nat} {w : World} (hn : n = l.length) (hc : l.length ≤ c) (hl : l.length ≤ 140737488355328) (hr : ReadB w w.heap.size A l) : Calls Tryd.prog 48 #[.slice A n c] w
    fun e w' => ∃ v, e = .returned v ∧ OwnB w' w.heap.size 5 v l ∧ Below w.heap.size w w' := by
  subst hn
  exact clone_calls l A c hc hl w hr
end Cl
end Go.Proofs.YtiofkhjpknfkgaaDoor
