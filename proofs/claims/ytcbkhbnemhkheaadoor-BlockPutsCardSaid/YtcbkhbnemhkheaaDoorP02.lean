/- Words of 32 bits in the walk: they stand behind a name of their own. -/
import Derived.Test.YtcbkhbnemhkheaaDoorP01
import Derived.StillTailTactics
import Derived.Deep.MidRow
import Derived.Deep.RegionHeld3
import Derived.Below
namespace Go.Proofs.YtcbkhbnemhkheaaDoor
namespace Sm
open Go.RowKit Ba
set_option linter.unusedVariables false

/-- a word as a number -/
def U (x : UInt32) : Int := (x.toNat : Int)
/-- a word as a value -/
def wv (x : UInt32) : Value := .int .u32 (U x)
def wvs (l : List UInt32) : List Value := l.map wv
theorem U_lt (x : UInt32) : x.toNat < 4294967296 := x.toNat_lt
theorem ofInt_u32 (x : UInt32) : (BitVec.ofInt 32 (U x)).toNat = x.toNat := by
  unfold U
  rw [BitVec.ofInt_natCast, BitVec.toNat_ofNat]; exact Nat.mod_eq_of_lt (by have := U_lt x; omega)
theorem U_add (a b : UInt32) : IntKind.u32.wrap (U a + U b) = U (a + b) := by
  unfold U
  rw [IntKind.wrap_u32, UInt32.toNat_add]; omega
theorem U_add' (a b : UInt32) : (U a + U b) % 4294967296 = U (a + b) := by
  unfold U
  rw [UInt32.toNat_add]; omega
theorem U_xor (a b : UInt32) : bits .xor .u32 (U a) (U b) = U (a ^^^ b) := by
  have h := U_lt (a ^^^ b)
  show IntKind.u32.wrap ((BitVec.ofInt 32 (U a) ^^^ BitVec.ofInt 32 (U b)).toNat : Int) = _
  rw [BitVec.toNat_xor, ofInt_u32, ofInt_u32, IntKind.wrap_u32, ← UInt32.toNat_xor]
  unfold U
  omega
theorem U_max : IntKind.u32.max = U 4294967295 := by decide
theorem U_not (a : UInt32) : bits .xor .u32 IntKind.u32.max (U a) = U (~~~a) := by
  rw [U_max, U_xor]
  have e : 4294967295 ^^^ a = ~~~a := by
    apply UInt32.toBitVec_inj.1
    rw [UInt32.toBitVec_xor, UInt32.toBitVec_not]
    show BitVec.allOnes 32 ^^^ a.toBitVec = _
    rw [BitVec.allOnes_xor]
  rw [e]
theorem U_not' (a : UInt32) : bits .xor .u32 (if IntKind.u32.signed = true then -1 else IntKind.u32.max) (U a) = U (~~~a) := U_not a
theorem U_and (a b : UInt32) : bits .and .u32 (U a) (U b) = U (a &&& b) := by
  have h := U_lt (a &&& b)
  show IntKind.u32.wrap ((BitVec.ofInt 32 (U a) &&& BitVec.ofInt 32 (U b)).toNat : Int) = _
  rw [BitVec.toNat_and, ofInt_u32, ofInt_u32, IntKind.wrap_u32, ← UInt32.toNat_and]
  unfold U
  omega
theorem U_or (a b : UInt32) : bits .or .u32 (U a) (U b) = U (a ||| b) := by
  have h := U_lt (a ||| b)
  show IntKind.u32.wrap ((BitVec.ofInt 32 (U a) ||| BitVec.ofInt 32 (U b)).toNat : Int) = _
  rw [BitVec.toNat_or, ofInt_u32, ofInt_u32, IntKind.wrap_u32, ← UInt32.toNat_or]
  unfold U
  omega
theorem U_shl (a : UInt32) (n : Nat) (hn : n < 32) : IntKind.u32.wrap (U a * (2 : Int) ^ n) = U (a <<< UInt32.ofNat n) := by
  unfold U
  rw [IntKind.wrap_u32, UInt32.toNat_shiftLeft, UInt32.toNat_ofNat', Nat.mod_eq_of_lt (show n < 2 ^ 32 by omega), Nat.mod_eq_of_lt hn, Nat.shiftLeft_eq]
  have e : ((a.toNat : Int) * 2 ^ n) = ((a.toNat * 2 ^ n : Nat) : Int) := by rw [Int.natCast_mul, Int.natCast_pow]; rfl
  rw [e]
  rfl
theorem U_shr (a : UInt32) (n : Nat) (hn : n < 32) : U a / ((2 : Int) ^ n) = U (a >>> UInt32.ofNat n) := by
  unfold U
  rw [UInt32.toNat_shiftRight, UInt32.toNat_ofNat', Nat.mod_eq_of_lt (show n < 2 ^ 32 by omega), Nat.mod_eq_of_lt hn, Nat.shiftRight_eq_div_pow]
  have e : ((2 : Int) ^ n) = ((2 ^ n : Nat) : Int) := by rw [Int.natCast_pow]; rfl
  rw [e]
  rfl
theorem U_shl' (a : UInt32) (n : Nat) (hn : n < 32) : U a * (2 : Int) ^ n % (4294967296 : Int) = U (a <<< UInt32.ofNat n) := by rw [← U_shl a n hn, IntKind.wrap_u32]
theorem U_shr3 (a : UInt32) : U a / (8 : Int) = U (a >>> 3) := U_shr a 3 (by omega)
theorem U_shr10 (a : UInt32) : U a / (1024 : Int) = U (a >>> 10) := U_shr a 10 (by omega)
theorem U_shl8 (a : UInt32) : U a * (256 : Int) % (4294967296 : Int) = U (a <<< 8) := U_shl' a 8 (by omega)
theorem U_shl16 (a : UInt32) : U a * (65536 : Int) % (4294967296 : Int) = U (a <<< 16) := U_shl' a 16 (by omega)
theorem U_shl24 (a : UInt32) : U a * (16777216 : Int) % (4294967296 : Int) = U (a <<< 24) := U_shl' a 24 (by omega)
theorem U_of_u8 (b : UInt8) : IntKind.u32.wrap (b.toNat : Int) = U b.toUInt32 := by
  have := b.toNat_lt
  unfold U
  rw [IntKind.wrap_u32, UInt8.toNat_toUInt32]; omega
/-! ### whole arrays out of and into the midst of a block -/
theorem toArray_set (l : List Value) (k : Nat) (u : Value) : l.toArray.setIfInBounds k u = (l.set k u).toArray := by simp
theorem Blk.setCells {w : World} {g : Nat} {t : TypeId} (vs : List Value) (pre old post : List Value) (h : Blk w g t (pre ++ (old ++ post)).toArray) (hl : old.length = vs.length) :
    Blk (w.setCells g pre.length vs) g t (pre ++ (vs ++ post)).toArray := by
  induction vs generalizing w pre old with
  | nil =>
    have : old = [] := List.eq_nil_of_length_eq_zero hl
    subst this
    exact h
  | cons v vs ih =>
    cases old with
    | nil => cases hl
    | cons u old =>
      have h1 := Blk.set_ h pre.length v
      rw [toArray_set] at h1
      have e : (pre ++ (u :: old ++ post)).set pre.length v = (pre ++ [v]) ++ (old ++ post) := by
        rw [List.set_append_right _ _ (by omega), Nat.sub_self]
        simp
      rw [e] at h1
      have := ih (pre ++ [v]) old h1 (by simpa using hl)
      simp only [List.length_append, List.length_cons, List.length_nil, Nat.zero_add, List.append_assoc, List.cons_append, List.nil_append] at this
      exact this
theorem only_setCells (w : World) (g o : Nat) (vs : List Value) : w.grownBy (w.setCells g o vs) (some g) := by
  induction vs generalizing w o with
  | nil => exact World.grownBy.refl w _
  | cons v vs ih => exact only_trans (only_set w g o v) (ih _ _)
theorem Blk.range {w : World} {g : Nat} {t : TypeId} (pre cs post : List Value) (h : Blk w g t (pre ++ (cs ++ post)).toArray) : w.rangeAt g pre.length cs := by
  intro j v hv
  rw [Blk.cell h]
  have hj : j < cs.length := by
    rcases Nat.lt_or_ge j cs.length with h1 | h1
    · exact h1
    · rw [List.getElem?_eq_none h1] at hv; cases hv
  simp only [List.getElem?_toArray]
  rw [List.getElem?_append_right (by omega), List.getElem?_append_left (by omega)]
  rw [show pre.length + j - pre.length = j by omega]
  exact hv
theorem Blk.there {w : World} {g : Nat} {t : TypeId} {cs : Array Value} (h : Blk w g t cs) (o n : Nat) (hn : o + n ≤ cs.size) : w.there g o n := by
  intro j hj
  refine ⟨?_, Blk.frozen h _⟩
  rw [Blk.cell h, Array.getElem?_eq_getElem (by omega)]
  rfl
/-- a row of values goes into the midst of a block -/
theorem wpList_store_blk {P : Program} {ops : Array Oper} {rest : List Oper} {op : Oper} {a : Act} {w : World} {Q : Exit → Act → World → Prop} (hgd : op.guard = none) (ty : TypeId) (x y : Operand) (ho : op.op = .store ty x y)
    (g o : Nat) (t : TypeId) (pre old post vs : List Value) (hx : a.eval x = .pointer (some ⟨g, o, none⟩)) (hy : a.eval y = .agg vs.toArray) (hb : Blk w g t (pre ++ (old ++ post)).toArray) (hp : pre.length = o) (hl : old.length = vs.length)
    (hi : (P.info? ty).map (·.size) = some vs.length) (h1 : ∀ v ∈ vs, v.oneCell' = true)
    (h : ∀ w', Blk w' g t (pre ++ (vs ++ post)).toArray → w.grownBy w' (some g) → wpList P ops Q rest (a.put op.dst undef) w') : wpList P ops Q (op :: rest) a w := by
  subst hp
  refine wpList_store_mid hgd ty x y ho g pre.length vs.toArray hx hy ?_ (by simpa using hi) (all_oneCell_toArray h1) ?_
  · refine Blk.there hb _ _ ?_
    simp
    omega
  · exact h _ (Blk.setCells vs pre old post hb hl) (only_setCells _ _ _ _)
theorem wpList_load_blk {P : Program} {ops : Array Oper} {rest : List Oper} {op : Oper} {a : Act} {w : World} {Q : Exit → Act → World → Prop} (hgd : op.guard = none) (ty : TypeId) (x : Operand) (ho : op.op = .load ty x)
    (g o : Nat) (t : TypeId) (pre cs post : List Value) (hx : a.eval x = .pointer (some ⟨g, o, none⟩)) (hb : Blk w g t (pre ++ (cs ++ post)).toArray) (hp : pre.length = o) (d : TypeDesc) (hu : P.underlying ty = some d) (hd : d.isRow = true)
    (hi : (P.info? ty).map (·.size) = some cs.length) (h : wpList P ops Q rest (a.put op.dst (.agg cs.toArray)) w) : wpList P ops Q (op :: rest) a w := by
  subst hp
  exact wpList_load_mid hgd ty x ho g pre.length hx cs d (Blk.range pre cs post hb) hu hd hi h
theorem wvs_one (l : List UInt32) : ∀ v ∈ wvs l, v.oneCell' = true := by
  intro u hu
  obtain ⟨_, _, rfl⟩ := List.mem_map.1 hu
  rfl
theorem wvs_len (l : List UInt32) : (wvs l).length = l.length := by simp [wvs]
theorem below_drewN {B : Nat} {a w : World} (h : Below B a w) (n : Nat) : Below B a (w.drewN n) := ⟨h.os, h.tape, h.output, h.size, h.block⟩
theorem only_after {a w w' : World} {g : Nat} (h : Below a.heap.size a w) (k : w.grownBy w' (some g)) (hB : a.heap.size ≤ g) : Below a.heap.size a w' := h.trans (below_of_only k hB h.size)
theorem undrewN {w w' : World} {n : Nat} {row : Option Nat} (h : (w.drewN n).grownBy w' row) : w.grownBy w' row := ⟨h.os, h.tape, h.output, h.size, h.block⟩
theorem grown_drew {w w' : World} {row : Option Nat} (h : w.grownBy w' row) : w.grownBy w'.drew row := ⟨h.os, h.tape, h.output, h.size, h.block⟩
theorem only_below {a w w' : World} {row : Option Nat} (h : a.grownBy w row) (k : Below a.heap.size w w') : a.grownBy w' row := ⟨k.os.trans h.os, k.tape.trans h.tape, k.output.trans h.output, Nat.le_trans h.size k.size, fun i hi hne => (k.block i hi).trans (h.block i hi hne)⟩
theorem undrew {w w' : World} {row : Option Nat} (h : w.drew.grownBy w' row) : w.grownBy w' row := ⟨h.os, h.tape, h.output, h.size, h.block⟩
/-- a block of words -/
def BlkW (w : World) (g : Nat) (t : TypeId) (l : List UInt32) : Prop := Blk w g t (wvs l).toArray
section
variable {w w' : World} {g : Nat} {t : TypeId} {l : List UInt32}
theorem BlkW.lt (h : BlkW w g t l) : g < w.heap.size := Blk.lt h
theorem BlkW.new_ (w : World) (t : TypeId) (cs : Array Value) (g : Nat) (l : List UInt32) (hg : g = w.heap.size) (h : cs = (wvs l).toArray) : BlkW (w.alloc (.cells cs t)) g t l := by
  subst hg h
  exact Blk.new w t _
theorem BlkW.cell (h : BlkW w g t l) (i : Nat) (hi : i < l.length) : w.cell? ⟨g, i, none⟩ = some (.int .u32 (U (Sm.g l i))) := by
  rw [Blk.cell h i]
  simp [wvs, wv, Sm.g, List.getD, hi]
theorem BlkW.frozen (h : BlkW w g t l) (i : Nat) : w.frozen? ⟨g, i, none⟩ = false := Blk.frozen h i
theorem BlkW.set_ (h : BlkW w g t l) (i : Nat) (x : UInt32) : BlkW (w.setCell ⟨g, i, none⟩ (.int .u32 (U x))) g t (l.set i x) := by
  have e : (wvs (l.set i x)).toArray = (wvs l).toArray.setIfInBounds i (.int .u32 (U x)) := by
    rw [List.setIfInBounds_toArray]
    simp [wvs, List.map_set, wv]
  unfold BlkW
  rw [e]
  exact Blk.set_ h i _
theorem BlkW.far (h : BlkW w g t l) {p : Addr} (hp : g ≠ p.block) (u : Value) : BlkW (w.setCell p u) g t l := Blk.far h hp u
theorem BlkW.below {B : Nat} (h : BlkW w g t l) (hb : Below B w w') (hg : g < B) : BlkW w' g t l := Blk.below h hb hg
theorem BlkW.drew (h : BlkW w g t l) : BlkW w.drew g t l := h
theorem BlkW.drewN (h : BlkW w g t l) (n : Nat) : BlkW (w.drewN n) g t l := h
theorem BlkW.alloc (h : BlkW w g t l) (o : Obj) : BlkW (w.alloc o) g t l := Blk.alloc h o
theorem BlkW.grown {row : Option Nat} (h : BlkW w g t l) (hb : w.grownBy w' row) (hg : some g ≠ row) : BlkW w' g t l := Blk.grown h hb hg
end
/-- a whole block of words is read -/
theorem wpList_loadW {P : Program} {ops : Array Oper} {rest : List Oper} {op : Oper} {a : Act} {w : World} {Q : Exit → Act → World → Prop} (hgd : op.guard = none) (ty : TypeId) (x : Operand) (ho : op.op = .load ty x)
    (g : Nat) (t : TypeId) (l : List UInt32) (hx : a.eval x = .pointer (some ⟨g, 0, none⟩)) (hb : BlkW w g t l) (d : TypeDesc) (hu : P.underlying ty = some d) (hd : d.isRow = true)
    (hi : (P.info? ty).map (·.size) = some l.length) (h : wpList P ops Q rest (a.put op.dst (.agg (wvs l).toArray)) w) : wpList P ops Q (op :: rest) a w :=
  wpList_load_blk hgd ty x ho g 0 t [] (wvs l) [] hx (by unfold BlkW at hb; simpa using hb) rfl d hu hd (by rw [wvs_len]; exact hi) h
/-- a whole block of words is written -/
theorem wpList_storeW {P : Program} {ops : Array Oper} {rest : List Oper} {op : Oper} {a : Act} {w : World} {Q : Exit → Act → World → Prop} (hgd : op.guard = none) (ty : TypeId) (x y : Operand) (ho : op.op = .store ty x y)
    (g : Nat) (t : TypeId) (l0 l : List UInt32) (hx : a.eval x = .pointer (some ⟨g, 0, none⟩)) (hy : a.eval y = .agg (wvs l).toArray) (hb : BlkW w g t l0) (hl : l0.length = l.length)
    (hi : (P.info? ty).map (·.size) = some l.length)
    (h : ∀ w', BlkW w' g t l → w.grownBy w' (some g) → wpList P ops Q rest (a.put op.dst undef) w') : wpList P ops Q (op :: rest) a w :=
  wpList_store_blk hgd ty x y ho g 0 t [] (wvs l0) [] (wvs l) hx hy (by unfold BlkW at hb; simpa using hb) rfl (by rw [wvs_len, wvs_len]; exact hl) (by rw [wvs_len]; exact hi) (wvs_one l) (fun w' h1 h2 => h w' (by unfold BlkW; simpa using h1) h2)
theorem cellP {w : World} {b : Nat} {t : TypeId} {l : List UInt32} {post : List Value} (h : Blk w b t (wvs l ++ post).toArray) (i : Nat) (hi : i < l.length) : w.cell? ⟨b, i, none⟩ = some (.int .u32 (U (Sm.g l i))) := by
  rw [Blk.cell h i, List.getElem?_toArray, List.getElem?_append_left (by rw [wvs_len]; exact hi)]
  simp [wvs, wv, Sm.g, List.getD, hi]
theorem setP {w : World} {b : Nat} {t : TypeId} {l : List UInt32} {post : List Value} (h : Blk w b t (wvs l ++ post).toArray) (i : Nat) (hi : i < l.length) (x : UInt32) : Blk (w.setCell ⟨b, i, none⟩ (.int .u32 (U x))) b t (wvs (l.set i x) ++ post).toArray := by
  have := Blk.set_ h i (.int .u32 (U x))
  rw [toArray_set, List.set_append_left _ _ (by rw [wvs_len]; exact hi)] at this
  have e : wvs (l.set i x) = (wvs l).set i (.int .u32 (U x)) := by simp [wvs, List.map_set, wv]
  rw [e]
  exact this
/-- one word of a row that stands in a slot -/
theorem run_index_words {P : Program} (t e : TypeId) (n : Nat) (l : List UInt32) (k : Nat) (ht : P.underlying t = some (.array n e)) (he : P.underlying e = some (.int .u32)) (hi : (P.info? e).map (·.size) = some 1) (hk : k < n) (hn : l.length = n) (w : World) :
    (Instr.index t (.agg (wvs l).toArray) (.int .i64 (k : Int))).run P w = .ok (.int .u32 (U (Sm.g l k))) w := by
  have hget : (wvs l).toArray[k]? = some (.int .u32 (U (Sm.g l k))) := by
    simp [wvs, wv, Sm.g, List.getD, show k < l.length by omega]
  cases hq : P.info? e with
  | none => simp [hq] at hi
  | some i =>
    have hs : i.size = 1 := by simpa [hq] using hi
    have hagg : (isAgg e).run P w = .ok false w := by
      unfold isAgg
      rw [Sem.run_bind, run_underlying he w]
      rfl
    have h1 : (0 : Int) ≤ (k : Int) ∧ (k : Int) < (n : Int) := by omega
    simp only [List.getElem?_toArray] at hget
    simp [Instr.index, asIntOf, Sem.run_bind, run_underlying ht, h1, sizeOf, typeInfo, hq, hs, part, hagg, hget]
    omega
end Sm
end Go.Proofs.YtcbkhbnemhkheaaDoor
/- Rows of records: slices whose elements all have the same number of cells. -/
namespace Go.Proofs.YtcbkhbnemhkheaaDoor
namespace Ba
open Go.RowKit
set_option linter.unusedVariables false
section
variable {α : Type} {f : α → List Value} {sz : Nat}
def rows (f : α → List Value) (l : List α) : List Value := l.flatMap f
def RWf (f : α → List Value) (sz : Nat) (l : List α) : Prop := ∀ x ∈ l, (f x).length = sz ∧ ∀ u ∈ f x, u.oneCell' = true
theorem RWf.nil : RWf f sz [] := fun x h => absurd h (by simp)
theorem RWf.append {l r : List α} (h : RWf f sz l) (k : RWf f sz r) : RWf f sz (l ++ r) := fun x hx => by
  rcases List.mem_append.1 hx with hx | hx
  · exact h x hx
  · exact k x hx
theorem RWf.one {x : α} (h : (f x).length = sz) (h1 : ∀ u ∈ f x, u.oneCell' = true) : RWf f sz [x] := fun y hy => by
  simp at hy
  subst hy
  exact ⟨h, h1⟩
theorem RWf.left {l r : List α} (h : RWf f sz (l ++ r)) : RWf f sz l := fun x hx => h x (List.mem_append_left _ hx)
theorem rows_append (l r : List α) : rows f (l ++ r) = rows f l ++ rows f r := by simp [rows]
theorem rows_one (x : α) : rows f [x] = f x := by simp [rows]
theorem rows_len {l : List α} (h : RWf f sz l) : (rows f l).length = l.length * sz := by
  induction l with
  | nil => simp [rows]
  | cons x l ih =>
    have h1 := (h x (by simp)).1
    have h2 := ih (fun y hy => h y (by simp [hy]))
    unfold rows at h2 ⊢
    rw [List.flatMap_cons, List.length_append, h1, h2, List.length_cons, Nat.add_mul, Nat.one_mul, Nat.add_comm]
theorem rows_one' {l : List α} (h : RWf f sz l) : ∀ u ∈ rows f l, u.oneCell' = true := fun u hu => by
  unfold rows at hu
  obtain ⟨x, hx, hu⟩ := List.mem_flatMap.1 hu
  exact (h x hx).2 u hu
theorem rows_get {l : List α} (h : RWf f sz l) {k : Nat} {x : α} (hk : l[k]? = some x) (j : Nat) (hj : j < sz) : (rows f l)[k * sz + j]? = (f x)[j]? := by
  induction l generalizing k with
  | nil => simp at hk
  | cons y l ih =>
    have h1 := (h y (by simp)).1
    unfold rows
    rw [List.flatMap_cons]
    cases k with
    | zero =>
      simp at hk
      subst hk
      rw [Nat.zero_mul, Nat.zero_add, List.getElem?_append_left (by omega)]
    | succ k =>
      have h2 := ih (fun y hy => h y (by simp [hy])) (k := k) (by simpa using hk)
      rw [List.getElem?_append_right (by rw [h1, Nat.add_mul]; omega), h1, Nat.add_mul, Nat.one_mul]
      unfold rows at h2
      rw [← h2]
      congr 1
      omega
/-- a slice that reads as records -/
def ReadRow (f : α → List Value) (sz : Nat) (w : World) (B : Nat) (A : Option Addr) (l : List α) : Prop :=
  RWf f sz l ∧ (0 < l.length → ∃ b o, A = some ⟨b, o, none⟩ ∧ b < B ∧ ∀ j u, (rows f l)[j]? = some u → w.cell? ⟨b, o + j, none⟩ = some u)
/-- a slice of records of the call's own -/
def OwnRow (f : α → List Value) (sz : Nat) (w : World) (base : Nat) (E : TypeId) (v : Value) (l : List α) : Prop := RWf f sz l ∧ w.ownsRow base E sz v l.length (rows f l)
variable {w w' : World} {B B' : Nat} {A : Option Addr} {l : List α} {E : TypeId} {v : Value} {base : Nat}
theorem ReadRow.nil : ReadRow f sz w B A [] := ⟨RWf.nil, fun h => absurd h (by simp)⟩
theorem ReadRow.keep (h : ReadRow f sz w B A l) (hk : ∀ p : Addr, p.block < B → w'.cell? p = w.cell? p) : ReadRow f sz w' B A l :=
  ⟨h.1, fun hn => by
    obtain ⟨b, o, e, hb, hc⟩ := h.2 hn
    exact ⟨b, o, e, hb, fun j u hu => (hk ⟨b, o + j, none⟩ hb).trans (hc j u hu)⟩⟩
theorem ReadRow.below (h : ReadRow f sz w B A l) (hb : Below B w w') : ReadRow f sz w' B A l := h.keep fun _ hp => hb.cell hp
theorem ReadRow.more (h : ReadRow f sz w B A l) (hB : B ≤ B') : ReadRow f sz w B' A l :=
  ⟨h.1, fun hn => by
    obtain ⟨b, o, e, hb, hc⟩ := h.2 hn
    exact ⟨b, o, e, Nat.lt_of_lt_of_le hb hB, hc⟩⟩
theorem ReadRow.drew (h : ReadRow f sz w B A l) : ReadRow f sz w.drew B A l := h
theorem ReadRow.alloc (h : ReadRow f sz w B A l) (hB : B ≤ w.heap.size) (o : Obj) : ReadRow f sz (w.alloc o) B A l := h.below ((Below.refl B w).alloc hB o)
theorem ReadRow.reads (h : ReadRow f sz w B A l) : Reads w B sz A l.length (rows f l) :=
  ⟨rows_len h.1, fun hn => by
    obtain ⟨b, o, e, hb, hc⟩ := h.2 hn
    exact ⟨⟨b, o, none⟩, e, hb, fun j u hu => by rw [add_lit_]; exact hc j u hu⟩⟩
/-- the k-th element -/
theorem ReadRow.at_ (h : ReadRow f sz w B A l) {k : Nat} {x : α} (hk : l[k]? = some x) : ∃ b o, A = some ⟨b, o, none⟩ ∧ b < B ∧ w.rangeAt b (o + k * sz) (f x) := by
  have hlt : k < l.length := by
    rcases Nat.lt_or_ge k l.length with h | h
    · exact h
    · rw [List.getElem?_eq_none h] at hk; cases hk
  obtain ⟨b, o, e, hb, hc⟩ := h.2 (by omega)
  refine ⟨b, o, e, hb, fun j u hu => ?_⟩
  have hx := (h.1 x (List.mem_of_getElem? hk)).1
  have hj : j < sz := by
    rcases Nat.lt_or_ge j sz with h | h
    · exact h
    · rw [List.getElem?_eq_none (by omega)] at hu; cases hu
  rw [Nat.add_assoc]
  exact hc _ u (by rw [rows_get h.1 hk j hj]; exact hu)
/-- all of them, at one address -/
theorem ReadRow.all (h : ReadRow f sz w B A l) (hn : 0 < l.length) : ∃ b o, A = some ⟨b, o, none⟩ ∧ b < B ∧ ∀ k x, l[k]? = some x → w.rangeAt b (o + k * sz) (f x) := by
  obtain ⟨b, o, rfl, hb, hc⟩ := h.2 hn
  refine ⟨b, o, rfl, hb, fun k x hk => ?_⟩
  obtain ⟨b', o', e, _, hr⟩ := h.at_ hk
  injection e with e
  injection e with e1 e2
  subst e1 e2
  exact hr
theorem OwnRow.nil : OwnRow f sz w base E (.slice none 0 0) [] := ⟨RWf.nil, by simp [rows], .inl ⟨rfl, rfl⟩⟩
theorem OwnRow.drew (h : OwnRow f sz w base E v l) : OwnRow f sz w.drew base E v l := h
theorem OwnRow.alloc (h : OwnRow f sz w base E v l) (o : Obj) : OwnRow f sz (w.alloc o) base E v l := ⟨h.1, World.ownsRow.alloc h.2 o⟩
theorem OwnRow.keptB (h : OwnRow f sz w base E v l) (hb : Below w.heap.size w w') : OwnRow f sz w' base E v l :=
  ⟨h.1, World.ownsRow.kept (row := none) h.2 ⟨hb.os, hb.tape, hb.output, hb.size, fun k hk _ => hb.block k hk⟩ (by cases v.ownBlock <;> simp)⟩
theorem OwnRow.grown {row : Option Nat} (h : OwnRow f sz w base E v l) (hg : w.grownBy w' row) (hne : v.ownBlock = none ∨ v.ownBlock ≠ row) : OwnRow f sz w' base E v l := ⟨h.1, World.ownsRow.kept h.2 hg hne⟩
theorem OwnRow.weak {b2 : Nat} (h : OwnRow f sz w base E v l) (hb : b2 ≤ base) : OwnRow f sz w b2 E v l := by
  refine ⟨h.1, h.2.1, ?_⟩
  rcases h.2.2 with hh | ⟨g, cap, cur, e, hbb, r⟩
  · exact .inl hh
  · exact .inr ⟨g, cap, cur, e, by omega, r⟩
theorem OwnRow.ge (h : OwnRow f sz w base E v l) : ∀ k, v.ownBlock = some k → base ≤ k ∧ k < w.heap.size := fun k hk => World.ownsRow.lt h.2 k hk
theorem OwnRow.opens (h : OwnRow f sz w base E v l) : ∃ A c, v = .slice A l.length c ∧ l.length ≤ c ∧ c ≤ 9223372036854775807 ∧ ReadRow f sz w w.heap.size A l ∧ (∀ ad, A = some ad → base ≤ ad.block ∧ ad.block < w.heap.size) := by
  rcases h.2.2 with ⟨rfl, hn⟩ | ⟨g, cap, cur, rfl, hb, hh, hnc, hm, hcs, ht⟩
  · have hl : l = [] := List.eq_nil_of_length_eq_zero hn
    subst hl
    exact ⟨none, 0, rfl, by simp, by omega, ReadRow.nil, by intro _ h; cases h⟩
  · have hg : g < w.heap.size := (Array.getElem?_eq_some_iff.1 hh).1
    refine ⟨_, _, rfl, hnc, by simpa [maxLen] using hm, ⟨h.1, fun _ => ⟨g, 0, rfl, hg, fun j u hu => ?_⟩⟩, ?_⟩
    · rw [Nat.zero_add, cell_of_row w g j cur E (0, 0) hh]
      rw [← ht, List.getElem?_take] at hu
      split at hu
      · rw [← hu]; simp
      · cases hu
    · intro ad had
      injection had with had
      subst had
      exact ⟨hb, hg⟩
theorem OwnRow.ofRead {c : Nat} (h : OwnRow f sz w base E (.slice A l.length c) l) : ReadRow f sz w w.heap.size A l := by
  obtain ⟨A', c', e, _, _, hr, _⟩ := h.opens
  injection e with e
  subst e
  exact hr
/-- a written-out record in a new block -/
theorem ReadRow.lit1 (w : World) (E : TypeId) (cs : Array Value) (x : α) (h : cs = (f x).toArray) (hx : (f x).length = sz) (h1 : ∀ u ∈ f x, u.oneCell' = true) : ReadRow f sz (w.alloc (.cells cs E)) (w.heap.size + 1) (some ⟨w.heap.size, 0, none⟩) [x] := by
  subst h
  refine ⟨RWf.one hx h1, fun _ => ⟨w.heap.size, 0, rfl, by omega, fun j u hu => ?_⟩⟩
  rw [rows_one] at hu
  rw [Nat.zero_add, cell_of_row _ w.heap.size j (f x).toArray E (0, 0) (heap_alloc_new w _)]
  simpa using hu
end
def IsRec (P : Program) (E : TypeId) (i : TypeInfo) (sz bytes : Nat) : Prop := P.info? E = some i ∧ (∃ z, i.zero = some z ∧ z.cells.size = sz) ∧ i.size = sz ∧ i.bytes = bytes
theorem isRec_of {P : Program} {E : TypeId} {sz bytes : Nat} (h : (P.info? E).map (fun i => (i.zero.map (·.cells.size), i.size, i.bytes)) = some (some sz, sz, bytes)) : ∃ i, IsRec P E i sz bytes := by
  obtain ⟨i, hi, hzz⟩ := Option.map_eq_some_iff.1 h
  simp only [Prod.mk.injEq] at hzz
  obtain ⟨z, hz, hs⟩ := Option.map_eq_some_iff.1 hzz.1
  exact ⟨i, hi, ⟨z, hz, hs⟩, hzz.2.1, hzz.2.2⟩
section
variable {α : Type} {f : α → List Value} {sz : Nat}
theorem wpList_appR {P : Program} (w : World) {ops : Array Oper} {rest : List Oper} {o : Oper} {a : Act} {Q : Exit → Act → World → Prop} (hgd : o.guard = none) (s x : Operand) (t : TypeId)
    (ho : o.op = .call { callee := .builtin .append, args := #[s, x], argTypes := #[t, t] })
    (base : Nat) (E : TypeId) (i : TypeInfo) (bytes : Nat) (ht : P.underlying t = some (.slice E)) (hi : IsRec P E i sz bytes) (hsz : 0 < sz)
    (v : Value) (l : List α) (hs : a.eval s = v) (hown : OwnRow f sz w base E v l)
    (B : Nat) (A : Option Addr) (m c : Nat) (r : List α) (hx : a.eval x = .slice A m c) (hm : m = r.length) (hr : ReadRow f sz w B A r)
    (h63 : l.length + r.length ≤ 9223372036854775807) (hbytes : (l.length + r.length) * bytes ≤ 140737488355328) (hbase : base ≤ w.heap.size)
    (h : ∀ v' w', OwnRow f sz w' base E v' (l ++ r) → w.grownBy w' v.ownBlock → (v'.ownBlock = v.ownBlock ∨ v'.ownBlock = some w.heap.size) → Below base w w' → wpList P ops Q rest (a.put o.dst v') w') : wpList P ops Q (o :: rest) a w := by
  subst hm
  obtain ⟨z, hz, hzs⟩ := hi.2.1
  refine wpList_append_any w hgd s x t ho base E i z sz bytes ht hi.1 hz hi.2.2.1 hi.2.2.2 hzs hsz v l.length (rows f l) hs hown.2 B A r.length c (rows f r) hx hr.reads (rows_one' hr.1) (by unfold maxLen; omega) hbytes hbase ?_
  intro v' w' h1 h2 h3
  refine h v' w' ⟨hown.1.append hr.1, ?_⟩ h2 h3 ((Below.refl base w).grown h2 hbase (fun k hk => (World.ownsRow.lt hown.2 k hk).1))
  rw [List.length_append, rows_append]
  exact h1
theorem step_appR {P : Program} (w : World) {ops : Array Oper} {o : Oper} {a : Act} {K : Act → World → Prop} {Q : Exit → Act → World → Prop} {R : Prop} (hgd : Region.wanted o (yielded ops a.tmps) = true) (s x : Operand) (t : TypeId)
    (ho : o.op = .call { callee := .builtin .append, args := #[s, x], argTypes := #[t, t] })
    (base : Nat) (E : TypeId) (i : TypeInfo) (bytes : Nat) (ht : P.underlying t = some (.slice E)) (hi : IsRec P E i sz bytes) (hsz : 0 < sz)
    (v : Value) (l : List α) (hs : a.eval s = v) (hown : OwnRow f sz w base E v l)
    (B : Nat) (A : Option Addr) (m c : Nat) (r : List α) (hx : a.eval x = .slice A m c) (hm : m = r.length) (hr : ReadRow f sz w B A r)
    (h63 : l.length + r.length ≤ 9223372036854775807) (hbytes : (l.length + r.length) * bytes ≤ 140737488355328) (hbase : base ≤ w.heap.size)
    (h : ∀ v' w', OwnRow f sz w' base E v' (l ++ r) → w.grownBy w' v.ownBlock → (v'.ownBlock = v.ownBlock ∨ v'.ownBlock = some w.heap.size) → Below base w w' → K (a.put o.dst v') w') :
    if Region.wanted o (yielded ops a.tmps) = true then Oper.wp P o a w K Q else R := by
  subst hm
  obtain ⟨z, hz, hzs⟩ := hi.2.1
  rw [if_pos hgd]
  refine wp_append_any w s x t ho base E i z sz bytes ht hi.1 hz hi.2.2.1 hi.2.2.2 hzs hsz v l.length (rows f l) hs hown.2 B A r.length c (rows f r) hx hr.reads (rows_one' hr.1) (by unfold maxLen; omega) hbytes hbase ?_
  intro v' w' h1 h2 h3
  refine h v' w' ⟨hown.1.append hr.1, ?_⟩ h2 h3 ((Below.refl base w).grown h2 hbase (fun k hk => (World.ownsRow.lt hown.2 k hk).1))
  rw [List.length_append, rows_append]
  exact h1
end
end Ba
end Go.Proofs.YtcbkhbnemhkheaaDoor
/- A region that draws its order, holds calls and loads, and ends in a store to what it has read: one walk serves every order. F holds till the operation k comes up, which waits for all that lean on F; behind a call F may be made stronger. -/
namespace Go.Proofs.YtcbkhbnemhkheaaDoor
namespace CanM
set_option linter.unusedVariables false
section
variable {P : Program} {ops : Array Oper} {Q : Exit → Act → World → Prop} {F : World → Prop} {k : Nat}

def St (F : World → Prop) (k : Nat) (listed : Array Bool) (w : World) : Prop := listed.getD k false = false → F w
theorem St.mono {listed : Array Bool} {w : World} (h : St F k listed w) (i : Nat) : St F k (listed.setIfInBounds i true) w := fun h1 => h (by
  cases hb : listed.getD k false
  · rfl
  · rw [getD_set_true hb] at h1; cases h1)
def wpAnyL (P : Program) (ops : Array Oper) (Q : Exit → Act → World → Prop) (F : World → Prop) (k : Nat) : Nat → Array Bool → Act → World → Prop
  | 0, listed, a, w => Region.ready .any ops listed = [] ∧ Q .normal a w
  | fuel + 1, listed, a, w => (Region.ready .any ops listed = [] → Q .normal a w) ∧
    ∀ i ∈ Region.ready .any ops listed, wpOp P ops Q i (fun a' w' => St F k (listed.setIfInBounds i true) w' ∧ wpAnyL P ops Q F k fuel (listed.setIfInBounds i true) a' w') a w
theorem wpAny_of_L : ∀ (fuel : Nat) (listed : Array Bool) (a : Act) (w : World), wpAnyL P ops Q F k fuel listed a w → wpAny P .any ops Q fuel listed a w
  | 0, _, _, _, h => h
  | fuel + 1, _, _, _, h => ⟨h.1, fun i hi => wpOp_mono (fun a' w' h' => wpAny_of_L fuel _ a' w' h'.2) (h.2 i hi)⟩
/-- the operation k waits for i -/
def waits (ops : Array Oper) (k i : Nat) : Bool := match ops[k]? with | some o => o.after.any fun e => Region.binds .any e && e.on == i | none => true

theorem unlisted_of_ready {listed : Array Bool} {i : Nat} {oj : Oper} (hr : i ∈ Region.ready .any ops listed) (hall : ∀ e ∈ oj.after, Region.binds .any e = true → listed.getD e.on false = true) : ∀ e ∈ oj.after, Region.binds .any e = true → e.on ≠ i := fun e he hb heq => by
  have h1 := hall e he hb
  have h0 := (mem_ready.1 hr).1
  rw [heq] at h1
  rcases Nat.lt_or_ge i listed.size with h' | h'
  · simp [h'] at h0 h1; rw [h0] at h1; cases h1
  · simp [Array.getElem?_eq_none h'] at h1

/-- what yields under F, before k, may be taken first -/
theorem first {i : Nat} {oi : Oper} {v : Value} (hi : ops[i]? = some oi) (hsel : ∀ (j : Nat) (o : Oper) cs b, ops[j]? = some o → o.op ≠ .select cs b)
    (hQ : ∀ c a w, Q (.panic c) (a.put oi.dst v) w → Q (.panic c) a w) (hk : waits ops k i = true) :
    ∀ (fuel : Nat) (listed : Array Bool) (a : Act) (w : World),
      (∀ j oj, ops[j]? = some oj → j ≠ i → listed.getD j true = false → (∀ e ∈ oj.after, Region.binds .any e = true → e.on ≠ i) → oi.apart ops oj = true) →
      i ∈ Region.ready .any ops listed → YieldsIf P ops F oi v a → listed.getD k false = false → F w →
      wpAnyL P ops Q F k fuel (listed.setIfInBounds i true) (a.put oi.dst v) w → wpAnyL P ops Q F k (fuel + 1) listed a w := by
  intro fuel
  induction fuel with
  | zero =>
    intro listed a w _ hr hy hkl hF H
    refine ⟨fun h => (by rw [h] at hr; cases hr), fun j hj => ?_⟩
    by_cases hji : j = i
    · subst hji; exact hy.wpOp hi hF ⟨fun _ => hF, H⟩
    · have := ready_mono hj hji
      rw [H.1] at this
      cases this
  | succ fuel ih =>
    intro listed a w hfree hr hy hkl hF H
    refine ⟨fun h => (by rw [h] at hr; cases hr), fun j hj => ?_⟩
    by_cases hji : j = i
    · subst hji; exact hy.wpOp hi hF ⟨fun _ => hF, H⟩
    · have h1 := H.2 j (ready_mono hj hji)
      obtain ⟨hjun, oj, hoj, hall⟩ := mem_ready.1 hj
      have hnot := unlisted_of_ready hr hall
      have hjk : j ≠ k := fun e => by
        subst e
        unfold waits at hk
        rw [hoj] at hk
        simp only [Array.any_eq_true', Bool.and_eq_true, beq_iff_eq] at hk
        obtain ⟨e, he, hb, heq⟩ := hk
        exact hnot e he hb heq
      have hkl' : (listed.setIfInBounds j true).getD k false = false := by rw [getD_set_ne false hjk]; exact hkl
      have h2 := wpOp_putIf hoj (hfree j oj hoj hji hjun hnot) (fun cs b => hsel i oi cs b hi) (fun cs b => hsel j oj cs b hoj) hQ hy h1
      have hfree' : ∀ m om, ops[m]? = some om → m ≠ i → (listed.setIfInBounds j true).getD m true = false →
          (∀ e ∈ om.after, Region.binds .any e = true → e.on ≠ i) → oi.apart ops om = true := fun m om hm hmi hun hno => by
        refine hfree m om hm hmi ?_ hno
        by_cases hjm : j = m
        · subst hjm; exact hjun
        · rw [getD_set_ne true hjm] at hun; exact hun
      refine wpOp_mono (fun a' w' h3 => ?_) h2
      obtain ⟨hy', hS', h4⟩ := h3
      have hS2 : F w' := hS' (by rw [Array.setIfInBounds_comm _ _ (Ne.symm hji)]; rw [getD_set_ne false (fun e => by
        subst e
        unfold waits at hk
        rw [hi] at hk
        simp only [Array.any_eq_true', Bool.and_eq_true, beq_iff_eq] at hk
        obtain ⟨e, he, hb, heq⟩ := hk
        obtain ⟨hun, oi', hoi', hall'⟩ := mem_ready.1 hr
        rw [hi] at hoi'
        injection hoi' with hoi'
        subst hoi'
        exact unlisted_of_ready hr hall' e he hb heq)]; exact hkl')
      refine ⟨fun _ => hS2, ih (listed.setIfInBounds j true) a' w' hfree' (ready_mono hr (Ne.symm hji)) hy' hkl' hS2 ?_⟩
      rw [Array.setIfInBounds_comm _ _ hji]
      exact h4

/-- what yields in whatever world may be taken first -/
theorem firstAll {i : Nat} {oi : Oper} {v : Value} (hi : ops[i]? = some oi) (hsel : ∀ (j : Nat) (o : Oper) cs b, ops[j]? = some o → o.op ≠ .select cs b)
    (hQ : ∀ c a w, Q (.panic c) (a.put oi.dst v) w → Q (.panic c) a w) (hik : i ≠ k) :
    ∀ (fuel : Nat) (listed : Array Bool) (a : Act) (w : World),
      (∀ j oj, ops[j]? = some oj → j ≠ i → listed.getD j true = false → (∀ e ∈ oj.after, Region.binds .any e = true → e.on ≠ i) → oi.apart ops oj = true) →
      i ∈ Region.ready .any ops listed → Yields P ops oi v a → St F k listed w →
      wpAnyL P ops Q F k fuel (listed.setIfInBounds i true) (a.put oi.dst v) w → wpAnyL P ops Q F k (fuel + 1) listed a w := by
  intro fuel
  induction fuel with
  | zero =>
    intro listed a w _ hr hy hS H
    refine ⟨fun h => (by rw [h] at hr; cases hr), fun j hj => ?_⟩
    by_cases hji : j = i
    · subst hji; exact hy.wpOp hi ⟨hS.mono _, H⟩
    · have := ready_mono hj hji
      rw [H.1] at this
      cases this
  | succ fuel ih =>
    intro listed a w hfree hr hy hS H
    refine ⟨fun h => (by rw [h] at hr; cases hr), fun j hj => ?_⟩
    by_cases hji : j = i
    · subst hji; exact hy.wpOp hi ⟨hS.mono _, H⟩
    · have h1 := H.2 j (ready_mono hj hji)
      obtain ⟨hjun, oj, hoj, hall⟩ := mem_ready.1 hj
      have hnot := unlisted_of_ready hr hall
      have h2 := wpOp_put hoj (hfree j oj hoj hji hjun hnot) (fun cs b => hsel i oi cs b hi) (fun cs b => hsel j oj cs b hoj) hQ hy h1
      have hfree' : ∀ m om, ops[m]? = some om → m ≠ i → (listed.setIfInBounds j true).getD m true = false →
          (∀ e ∈ om.after, Region.binds .any e = true → e.on ≠ i) → oi.apart ops om = true := fun m om hm hmi hun hno => by
        refine hfree m om hm hmi ?_ hno
        by_cases hjm : j = m
        · subst hjm; exact hjun
        · rw [getD_set_ne true hjm] at hun; exact hun
      refine wpOp_mono (fun a' w' h3 => ?_) h2
      obtain ⟨hy', hS', h4⟩ := h3
      have hS2 : St F k (listed.setIfInBounds j true) w' := fun h5 => hS' (by rw [Array.setIfInBounds_comm _ _ (Ne.symm hji), getD_set_ne false hik]; exact h5)
      refine ⟨hS2, ih (listed.setIfInBounds j true) a' w' hfree' (ready_mono hr (Ne.symm hji)) hy' hS2 ?_⟩
      rw [Array.setIfInBounds_comm _ _ hji]
      exact h4

theorem L_mono {F' : World → Prop} (hF : ∀ w, F' w → F w) : ∀ (fuel : Nat) (listed : Array Bool) (a : Act) (w : World), wpAnyL P ops Q F' k fuel listed a w → wpAnyL P ops Q F k fuel listed a w
  | 0, _, _, _, h => h
  | fuel + 1, _, _, _, h => ⟨h.1, fun i hi => wpOp_mono (fun a' w' h' => ⟨fun h1 => hF _ (h'.1 h1), L_mono hF fuel _ a' w' h'.2⟩) (h.2 i hi)⟩
/-- the walk: (i, 0) a call, a store ..; (i, 1) yields under F; (i, 2) yields in whatever world -/
def wpCan (P : Program) (ops : Array Oper) (Q : Exit → Act → World → Prop) (k : Nat) : List (Nat × Nat) → (World → Prop) → Act → World → Prop
  | [], _, a, w => Q .normal a w
  | (i, 0) :: rest, F, a, w => ∃ o, ops[i]? = some o ∧ ((Region.wanted o (yielded ops a.tmps) = false ∧ wpCan P ops Q k rest F (a.put o.dst undef) w) ∨
      wpOp P ops Q i (fun a w => ∃ F' : World → Prop, (∀ w, F' w → F w) ∧ (i = k ∨ F' w) ∧ wpCan P ops Q k rest F' a w) a w)
  | (i, 1) :: rest, F, a, w => ∃ o v, ops[i]? = some o ∧ YieldsIf P ops F o v a ∧ wpCan P ops Q k rest F (a.put o.dst v) w
  | (i, _ + 2) :: rest, F, a, w => ∃ o v, ops[i]? = some o ∧ Yields P ops o v a ∧ wpCan P ops Q k rest F (a.put o.dst v) w
def canB (ops : Array Oper) (k : Nat) : List (Nat × Nat) → Array Bool → Bool
  | [], listed => (Region.ready .any ops listed).isEmpty
  | (i, 0) :: rest, listed => (Region.ready .any ops listed == [i]) && canB ops k rest (listed.setIfInBounds i true) && (!listed.getD k false || rest.all fun x => x.2 == 2) && (i < listed.size)
  | (i, 1) :: rest, listed => (Region.ready .any ops listed).contains i && Region.free .any ops listed i && waits ops k i && !listed.getD k false && canB ops k rest (listed.setIfInBounds i true)
  | (i, _ + 2) :: rest, listed => (Region.ready .any ops listed).contains i && Region.free .any ops listed i && (i != k) && canB ops k rest (listed.setIfInBounds i true)

theorem wpAny_can (hs : Region.noSelect ops = true) (hQ : ∀ c (dst : Option Tmp) v a w, Q (.panic c) (a.put dst v) w → Q (.panic c) a w) :
    ∀ (ord : List (Nat × Nat)) (F : World → Prop) (listed : Array Bool) (a : Act) (w : World), St F k listed w → canB ops k ord listed = true → wpCan P ops Q k ord F a w → wpAnyL P ops Q F k ord.length listed a w
  | [], _, _, _, _, _, hB, h => ⟨by simpa [canB] using hB, h⟩
  | (i, 0) :: rest, F, listed, a, w, hw, hB, h => by
    simp only [canB, Bool.and_eq_true, beq_iff_eq, decide_eq_true_eq] at hB
    obtain ⟨⟨⟨hr, hB'⟩, _⟩, hsz⟩ := hB
    obtain ⟨o, ho, h⟩ := h
    refine ⟨fun h0 => (by rw [hr] at h0; cases h0), fun j hj => ?_⟩
    rw [hr, List.mem_singleton] at hj
    subst hj
    rcases h with ⟨hg, h⟩ | h
    · unfold wpOp
      simp only [ho, hg, Bool.false_eq_true, if_false]
      exact ⟨hw.mono _, wpAny_can hs hQ rest F _ _ _ (hw.mono _) hB' h⟩
    · refine wpOp_mono (fun a w h1 => ?_) h
      obtain ⟨F', hFF, h1, h2⟩ := h1
      have hS : St F' k (listed.setIfInBounds j true) w := fun h5 => by
        rcases h1 with rfl | hF
        · simp [hsz] at h5
        · exact hF
      exact ⟨fun h5 => hFF _ (hS h5), L_mono hFF _ _ _ _ (wpAny_can hs hQ rest F' _ a w hS hB' h2)⟩
  | (i, 1) :: rest, F, listed, a, w, hw, hB, h => by
    simp only [canB, Bool.and_eq_true, Bool.not_eq_true'] at hB
    obtain ⟨⟨⟨⟨hr, hf⟩, hk⟩, hkl⟩, hB'⟩ := hB
    obtain ⟨o, v, ho, hy, h⟩ := h
    exact first ho (Region.noSelect_spec hs) (fun c a w => hQ c o.dst v a w) hk rest.length listed a w (Region.free_spec ho hf) (by simpa using hr) hy hkl (hw hkl) (wpAny_can hs hQ rest F _ _ _ (hw.mono _) hB' h)
  | (i, _ + 2) :: rest, F, listed, a, w, hw, hB, h => by
    simp only [canB, Bool.and_eq_true, bne_iff_ne] at hB
    obtain ⟨⟨⟨hr, hf⟩, hik⟩, hB'⟩ := hB
    obtain ⟨o, v, ho, hy, h⟩ := h
    exact firstAll ho (Region.noSelect_spec hs) (fun c a w => hQ c o.dst v a w) hik rest.length listed a w (Region.free_spec ho hf) (by simpa using hr) hy hw (wpAny_can hs hQ rest F _ _ _ (hw.mono _) hB' h)

theorem region {id : Nat} {l : List Oper} {a : Act} {w : World} (F : World → Prop) (k : Nat) (ord : List (Nat × Nat)) (hm : P.follows .mixedOrders = true)
    (hB : (Region.noSelect l.toArray && (ord.length == l.length) && canB l.toArray k ord (Array.replicate l.length false)) = true) (hF : F w.drew)
    (h : wpCan P l.toArray (NoPanic Q) k ord F a w.drew) : (Code.region id l.toArray true).wp P Q a w := by
  simp only [Bool.and_eq_true, beq_iff_eq] at hB
  refine wp_region_noPanic (wp_region_any hm ?_)
  have := wpAny_of_L _ _ _ _ (wpAny_can (P := P) (Q := NoPanic Q) (k := k) hB.1.1 (fun c dst v a w h => h.elim) ord F (Array.replicate l.length false) a w.drew (fun _ => hF) hB.2 h)
  rw [hB.1.2] at this
  simpa using this

variable {i : Nat} {o : Oper} {a : Act} {w : World} {b : Nat} {rest : List (Nat × Nat)}
theorem held (hi : ops[i]? = some o) (hg : Region.wanted o (yielded ops a.tmps) = true) (hv : ∃ v, (∀ w', F w' → (execOp a.eval o).run P w' = .ok (.value v) w') ∧ ∀ K : Act → Prop, (∀ a, wpCan P ops Q k rest F a w → K a) → K (a.put o.dst v)) : wpCan P ops Q k ((i, 1) :: rest) F a w :=
  let ⟨v, hv, h⟩ := hv; ⟨o, v, hi, .inl ⟨hg, hv⟩, h _ fun _ h => h⟩
theorem pur (hi : ops[i]? = some o) (hg : Region.wanted o (yielded ops a.tmps) = true) (hv : ∃ v, (∀ w', (execOp a.eval o).run P w' = .ok (.value v) w') ∧ ∀ K : Act → Prop, (∀ a, wpCan P ops Q k rest F a w → K a) → K (a.put o.dst v)) : wpCan P ops Q k ((i, 2) :: rest) F a w :=
  let ⟨v, hv, h⟩ := hv; ⟨o, v, hi, .inl ⟨hg, hv⟩, h _ fun _ h => h⟩
theorem skip (hi : ops[i]? = some o) (hg : Region.wanted o (yielded ops a.tmps) = false) (h : ∀ K : Act → Prop, (∀ a, wpCan P ops Q k rest F a w → K a) → K (a.put o.dst undef)) : wpCan P ops Q k ((i, b) :: rest) F a w :=
  match b with
  | 0 => ⟨o, hi, .inl ⟨hg, h _ fun _ h => h⟩⟩
  | 1 => ⟨o, undef, hi, .inr ⟨hg, rfl⟩, h _ fun _ h => h⟩
  | _ + 2 => ⟨o, undef, hi, .inr ⟨hg, rfl⟩, h _ fun _ h => h⟩
theorem impF (hi : ops[i]? = some o) (h : ∀ K : Act → World → Prop, Go.RowKit.Hid (∀ (F' : World → Prop) a w, (∀ w, F' w → F w) → F' w → wpCan P ops Q k rest F' a w → K a w) → if Region.wanted o (yielded ops a.tmps) then o.wp P a w K Q else K (a.put o.dst undef) w) : wpCan P ops Q k ((i, 0) :: rest) F a w := by
  refine ⟨o, hi, .inr ?_⟩
  have := h (fun a w => ∃ F' : World → Prop, (∀ w, F' w → F w) ∧ (i = k ∨ F' w) ∧ wpCan P ops Q k rest F' a w) (Lib.hid fun F' _ _ hFF hS h => ⟨F', hFF, .inr hS, h⟩)
  unfold wpOp
  simp only [hi]
  split
  · rename_i hw; rw [if_pos hw] at this; exact .inl this
  · rename_i hw; rw [if_neg hw] at this; exact this
theorem imp (hi : ops[i]? = some o) (h : ∀ K : Act → World → Prop, Go.RowKit.Hid (∀ a w, F w → wpCan P ops Q k rest F a w → K a w) → if Region.wanted o (yielded ops a.tmps) then o.wp P a w K Q else K (a.put o.dst undef) w) : wpCan P ops Q k ((i, 0) :: rest) F a w :=
  impF hi fun K hK => h K (Lib.hid fun a w hF h => hK.out F a w (fun _ h => h) hF h)
/-- the operation k itself -/
theorem last (hi : ops[k]? = some o) (h : ∀ K : Act → World → Prop, Go.RowKit.Hid (∀ a w, wpCan P ops Q k rest F a w → K a w) → if Region.wanted o (yielded ops a.tmps) then o.wp P a w K Q else K (a.put o.dst undef) w) : wpCan P ops Q k ((k, 0) :: rest) F a w := by
  refine ⟨o, hi, .inr (wpOp_mono (fun a w h => ⟨F, fun _ h => h, .inl rfl, h⟩) (K := wpCan P ops Q k rest F) ?_)⟩
  have := h (wpCan P ops Q k rest F) (Lib.hid fun _ _ h => h)
  unfold wpOp
  simp only [hi]
  split
  · rename_i hw; rw [if_pos hw] at this; exact .inl this
  · rename_i hw; rw [if_neg hw] at this; exact this
theorem done (h : Q .normal a w) : wpCan P ops (NoPanic Q) k [] F a w := h
end
end CanM
end Go.Proofs.YtcbkhbnemhkheaaDoor
/- A region that draws its order, holds calls and loads, and makes several things in an open order: a tree of orders. F holds till the operation k comes up; behind a call F may be made stronger. -/
namespace Go.Proofs.YtcbkhbnemhkheaaDoor
namespace CanT
open CanM (St wpAny_of_L waits first firstAll L_mono)
open Go.RowKit Ba
set_option linter.unusedVariables false
inductive Ord where
  | nil : Ord
  | op : Nat → Nat → Ord → Ord
  | fork : Ord → Ord → Ord
def ofList : List (Nat × Nat) → Ord
  | [] => .nil
  | (i, b) :: l => .op i b (ofList l)
section
variable {P : Program} {ops : Array Oper} {Q : Exit → Act → World → Prop} {F : World → Prop} {k : Nat}
def heads : Ord → List Nat
  | .nil => []
  | .op i _ _ => [i]
  | .fork l r => heads l ++ heads r
def okLen : Ord → Nat → Bool
  | .nil, 0 => true
  | .nil, _ + 1 => false
  | .op _ _ r, n + 1 => okLen r n
  | .op _ _ _, 0 => false
  | .fork l r, n => okLen l n && okLen r n
def wpCan (P : Program) (ops : Array Oper) (Q : Exit → Act → World → Prop) (k : Nat) : Ord → (World → Prop) → Act → World → Prop
  | .nil, _, a, w => Q .normal a w
  | .op i 0 rest, F, a, w => ∃ o, ops[i]? = some o ∧ ((Region.wanted o (yielded ops a.tmps) = false ∧ wpCan P ops Q k rest F (a.put o.dst undef) w) ∨
      wpOp P ops Q i (fun a w => ∃ F' : World → Prop, (∀ w, F' w → F w) ∧ (i = k ∨ F' w) ∧ wpCan P ops Q k rest F' a w) a w)
  | .op i 1 rest, F, a, w => ∃ o v, ops[i]? = some o ∧ YieldsIf P ops F o v a ∧ wpCan P ops Q k rest F (a.put o.dst v) w
  | .op i (_ + 2) rest, F, a, w => ∃ o v, ops[i]? = some o ∧ Yields P ops o v a ∧ wpCan P ops Q k rest F (a.put o.dst v) w
  | .fork l r, F, a, w => wpCan P ops Q k l F a w ∧ wpCan P ops Q k r F a w
def canB (ops : Array Oper) (k : Nat) : Ord → Bool → Array Bool → Bool
  | .nil, inF, listed => !inF && (Region.ready .any ops listed).isEmpty
  | .op i 0 rest, inF, listed => (inF || Region.ready .any ops listed == [i]) && canB ops k rest false (listed.setIfInBounds i true) && (i < listed.size)
  | .op i 1 rest, inF, listed => !inF && ((Region.ready .any ops listed).contains i && Region.free .any ops listed i && waits ops k i && !listed.getD k false && canB ops k rest false (listed.setIfInBounds i true))
  | .op i (_ + 2) rest, inF, listed => !inF && ((Region.ready .any ops listed).contains i && Region.free .any ops listed i && (i != k) && canB ops k rest false (listed.setIfInBounds i true))
  | .fork l r, inF, listed => (inF || Region.ready .any ops listed == heads l ++ heads r) && canB ops k l true listed && canB ops k r true listed
theorem heads_ne : ∀ (t : Ord) (listed : Array Bool), canB ops k t true listed = true → heads t ≠ []
  | .nil, _, h => by simp [canB] at h
  | .op i _ _, _, _ => by simp [heads]
  | .fork l r, listed, h => by
    simp only [canB, Bool.true_or, Bool.true_and, Bool.and_eq_true] at h
    have := heads_ne l listed h.1
    simp only [heads]
    intro h2
    exact this (List.append_eq_nil_iff.1 h2).1
theorem wpAny_can (hs : Region.noSelect ops = true) (hQ : ∀ c (dst : Option Tmp) v a w, Q (.panic c) (a.put dst v) w → Q (.panic c) a w) :
    ∀ (t : Ord) (F : World → Prop) (n : Nat) (listed : Array Bool) (a : Act) (w : World), St F k listed w → okLen t n = true → wpCan P ops Q k t F a w →
      (canB ops k t false listed = true → CanM.wpAnyL P ops Q F k n listed a w) ∧
      (canB ops k t true listed = true → ∃ m, n = m + 1 ∧ ∀ j ∈ heads t, wpOp P ops Q j (fun a' w' => St F k (listed.setIfInBounds j true) w' ∧ CanM.wpAnyL P ops Q F k m (listed.setIfInBounds j true) a' w') a w)
  | .nil, F, 0, listed, a, w, hw, hl, h => ⟨fun hB => ⟨by simpa [canB] using hB, h⟩, fun hB => by simp [canB] at hB⟩
  | .nil, F, n + 1, listed, a, w, hw, hl, h => by simp [okLen] at hl
  | .op i b rest, F, 0, listed, a, w, hw, hl, h => by simp [okLen] at hl
  | .op i 0 rest, F, n + 1, listed, a, w, hw, hl, h => by
    obtain ⟨o, ho, h⟩ := h
    have key : canB ops k rest false (listed.setIfInBounds i true) = true → i < listed.size → wpOp P ops Q i (fun a' w' => St F k (listed.setIfInBounds i true) w' ∧ CanM.wpAnyL P ops Q F k n (listed.setIfInBounds i true) a' w') a w := by
      intro hB' hsz
      rcases h with ⟨hg, h⟩ | h
      · unfold wpOp
        simp only [ho, hg, Bool.false_eq_true, if_false]
        exact ⟨hw.mono _, (wpAny_can hs hQ rest F n _ _ _ (hw.mono _) hl h).1 hB'⟩
      · refine wpOp_mono (fun a w h1 => ?_) h
        obtain ⟨F', hFF, h1, h2⟩ := h1
        have hS : St F' k (listed.setIfInBounds i true) w := fun h5 => by
          rcases h1 with rfl | hF
          · simp [hsz] at h5
          · exact hF
        exact ⟨fun h5 => hFF _ (hS h5), L_mono hFF _ _ _ _ ((wpAny_can hs hQ rest F' n _ a w hS hl h2).1 hB')⟩
    refine ⟨fun hB => ?_, fun hB => ⟨n, rfl, fun j hj => ?_⟩⟩
    · simp only [canB, Bool.false_or, Bool.and_eq_true, beq_iff_eq, decide_eq_true_eq] at hB
      obtain ⟨⟨hr, hB'⟩, hsz⟩ := hB
      refine ⟨fun h0 => (by rw [hr] at h0; cases h0), fun j hj => ?_⟩
      rw [hr, List.mem_singleton] at hj
      subst hj
      exact key hB' hsz
    · simp only [canB, Bool.true_or, Bool.true_and, Bool.and_eq_true, decide_eq_true_eq] at hB
      simp only [heads, List.mem_singleton] at hj
      subst hj
      exact key hB.1 hB.2
  | .op i 1 rest, F, n + 1, listed, a, w, hw, hl, h => by
    refine ⟨fun hB => ?_, fun hB => by simp [canB] at hB⟩
    simp only [canB, Bool.not_false, Bool.true_and, Bool.and_eq_true, Bool.not_eq_true'] at hB
    obtain ⟨⟨⟨⟨hr, hf⟩, hk⟩, hkl⟩, hB'⟩ := hB
    obtain ⟨o, v, ho, hy, h⟩ := h
    exact first ho (Region.noSelect_spec hs) (fun c a w => hQ c o.dst v a w) hk n listed a w (Region.free_spec ho hf) (by simpa using hr) hy hkl (hw hkl) ((wpAny_can hs hQ rest F n _ _ _ (hw.mono _) hl h).1 hB')
  | .op i (_ + 2) rest, F, n + 1, listed, a, w, hw, hl, h => by
    refine ⟨fun hB => ?_, fun hB => by simp [canB] at hB⟩
    simp only [canB, Bool.not_false, Bool.true_and, Bool.and_eq_true, bne_iff_ne] at hB
    obtain ⟨⟨⟨hr, hf⟩, hik⟩, hB'⟩ := hB
    obtain ⟨o, v, ho, hy, h⟩ := h
    exact firstAll ho (Region.noSelect_spec hs) (fun c a w => hQ c o.dst v a w) hik n listed a w (Region.free_spec ho hf) (by simpa using hr) hy hw ((wpAny_can hs hQ rest F n _ _ _ (hw.mono _) hl h).1 hB')
  | .fork l r, F, n, listed, a, w, hw, hl, h => by
    simp only [okLen, Bool.and_eq_true] at hl
    have key : canB ops k l true listed = true → canB ops k r true listed = true → ∃ m, n = m + 1 ∧ ∀ j ∈ heads l ++ heads r, wpOp P ops Q j (fun a' w' => St F k (listed.setIfInBounds j true) w' ∧ CanM.wpAnyL P ops Q F k m (listed.setIfInBounds j true) a' w') a w := by
      intro h1 h2
      obtain ⟨m, hm, g1⟩ := (wpAny_can hs hQ l F n listed a w hw hl.1 h.1).2 h1
      obtain ⟨m', hm', g2⟩ := (wpAny_can hs hQ r F n listed a w hw hl.2 h.2).2 h2
      have : m' = m := by omega
      subst this
      refine ⟨m', hm, fun j hj => ?_⟩
      rcases List.mem_append.1 hj with h | h
      · exact g1 j h
      · exact g2 j h
    refine ⟨fun hB => ?_, fun hB => ?_⟩
    · simp only [canB, Bool.false_or, Bool.and_eq_true, beq_iff_eq] at hB
      obtain ⟨m, rfl, hk⟩ := key hB.1.2 hB.2
      have hne := heads_ne l listed hB.1.2
      refine ⟨fun h0 => ?_, fun j hj => hk j (by rw [← hB.1.1]; exact hj)⟩
      rw [hB.1.1] at h0
      exact absurd (List.append_eq_nil_iff.1 h0).1 hne
    · simp only [canB, Bool.true_or, Bool.true_and, Bool.and_eq_true] at hB
      exact key hB.1 hB.2

theorem region {id : Nat} {l : List Oper} {a : Act} {w : World} (F : World → Prop) (k : Nat) (ord : Ord) (hm : P.follows .mixedOrders = true)
    (hB : (Region.noSelect l.toArray && okLen ord l.length && canB l.toArray k ord false (Array.replicate l.length false)) = true) (hF : F w.drew)
    (h : wpCan P l.toArray (NoPanic Q) k ord F a w.drew) : (Code.region id l.toArray true).wp P Q a w := by
  simp only [Bool.and_eq_true] at hB
  refine wp_region_noPanic (wp_region_any hm ?_)
  have := wpAny_of_L _ _ _ _ ((wpAny_can (P := P) (Q := NoPanic Q) (k := k) hB.1.1 (fun c dst v a w h => h.elim) ord F l.length (Array.replicate l.length false) a w.drew (fun _ => hF) hB.1.2 h).1 hB.2)
  simpa using this

variable {i : Nat} {o : Oper} {a : Act} {w : World} {b : Nat} {rest : Ord}
theorem held (hi : ops[i]? = some o) (hg : Region.wanted o (yielded ops a.tmps) = true) (hv : ∃ v, (∀ w', F w' → (execOp a.eval o).run P w' = .ok (.value v) w') ∧ ∀ K : Act → Prop, (∀ a, wpCan P ops Q k rest F a w → K a) → K (a.put o.dst v)) : wpCan P ops Q k (.op i 1 rest) F a w :=
  let ⟨v, hv, h⟩ := hv; ⟨o, v, hi, .inl ⟨hg, hv⟩, h _ fun _ h => h⟩
theorem pur (hi : ops[i]? = some o) (hg : Region.wanted o (yielded ops a.tmps) = true) (hv : ∃ v, (∀ w', (execOp a.eval o).run P w' = .ok (.value v) w') ∧ ∀ K : Act → Prop, (∀ a, wpCan P ops Q k rest F a w → K a) → K (a.put o.dst v)) : wpCan P ops Q k (.op i 2 rest) F a w :=
  let ⟨v, hv, h⟩ := hv; ⟨o, v, hi, .inl ⟨hg, hv⟩, h _ fun _ h => h⟩
theorem skip (hi : ops[i]? = some o) (hg : Region.wanted o (yielded ops a.tmps) = false) (h : ∀ K : Act → Prop, (∀ a, wpCan P ops Q k rest F a w → K a) → K (a.put o.dst undef)) : wpCan P ops Q k (.op i b rest) F a w :=
  match b with
  | 0 => ⟨o, hi, .inl ⟨hg, h _ fun _ h => h⟩⟩
  | 1 => ⟨o, undef, hi, .inr ⟨hg, rfl⟩, h _ fun _ h => h⟩
  | _ + 2 => ⟨o, undef, hi, .inr ⟨hg, rfl⟩, h _ fun _ h => h⟩
theorem impF (hi : ops[i]? = some o) (h : ∀ K : Act → World → Prop, Go.RowKit.Hid (∀ (F' : World → Prop) a w, (∀ w, F' w → F w) → F' w → wpCan P ops Q k rest F' a w → K a w) → if Region.wanted o (yielded ops a.tmps) then o.wp P a w K Q else K (a.put o.dst undef) w) : wpCan P ops Q k (.op i 0 rest) F a w := by
  refine ⟨o, hi, .inr ?_⟩
  have := h (fun a w => ∃ F' : World → Prop, (∀ w, F' w → F w) ∧ (i = k ∨ F' w) ∧ wpCan P ops Q k rest F' a w) (Lib.hid fun F' _ _ hFF hS h => ⟨F', hFF, .inr hS, h⟩)
  unfold wpOp
  simp only [hi]
  split
  · rename_i hw; rw [if_pos hw] at this; exact .inl this
  · rename_i hw; rw [if_neg hw] at this; exact this
theorem imp (hi : ops[i]? = some o) (h : ∀ K : Act → World → Prop, Go.RowKit.Hid (∀ a w, F w → wpCan P ops Q k rest F a w → K a w) → if Region.wanted o (yielded ops a.tmps) then o.wp P a w K Q else K (a.put o.dst undef) w) : wpCan P ops Q k (.op i 0 rest) F a w :=
  impF hi fun K hK => h K (Lib.hid fun a w hF h => hK.out F a w (fun _ h => h) hF h)
theorem last (hi : ops[k]? = some o) (h : ∀ K : Act → World → Prop, Go.RowKit.Hid (∀ a w, wpCan P ops Q k rest F a w → K a w) → if Region.wanted o (yielded ops a.tmps) then o.wp P a w K Q else K (a.put o.dst undef) w) : wpCan P ops Q k (.op k 0 rest) F a w := by
  refine ⟨o, hi, .inr (wpOp_mono (fun a w h => ⟨F, fun _ h => h, .inl rfl, h⟩) (K := wpCan P ops Q k rest F) ?_)⟩
  have := h (wpCan P ops Q k rest F) (Lib.hid fun _ _ h => h)
  unfold wpOp
  simp only [hi]
  split
  · rename_i hw; rw [if_pos hw] at this; exact .inl this
  · rename_i hw; rw [if_neg hw] at this; exact this
theorem both {l r : Ord} (h1 : wpCan P ops Q k l F a w) (h2 : wpCan P ops Q k r F a w) : wpCan P ops Q k (.fork l r) F a w := ⟨h1, h2⟩
theorem done (h : Q .normal a w) : wpCan P ops (NoPanic Q) k .nil F a w := h
/-- a row of values out of the midst of a block -/
theorem heldR (hi : ops[i]? = some o) (hg : Region.wanted o (yielded ops a.tmps) = true)
    (ty : TypeId) (x : Operand) (ho : o.op = .load ty x) (g p : Nat) (cs : List Value) (hx : a.eval x = .pointer (some ⟨g, p, none⟩)) (hF : ∀ w', F w' → w'.rangeAt g p cs) (d : TypeDesc) (hu : P.underlying ty = some d) (hd : d.isRow = true)
    (hs : (P.info? ty).map (·.size) = some cs.length) (h : ∀ K : Act → Prop, (∀ a, wpCan P ops Q k rest F a w → K a) → K (a.put o.dst (.agg cs.toArray))) : wpCan P ops Q k (.op i 1 rest) F a w := by
  refine held hi hg ⟨.agg cs.toArray, fun w' hF' => ?_, h⟩
  unfold execOp
  simp only [ho, hx, Instr.loadAt, Instr.sureAddr, Sem.run_bind, Sem.run_pure, Result.andThen_ok, run_loadVar_mid w' g p ty cs d (hF w' hF') hu hd hs]
end
end CanT
end Go.Proofs.YtcbkhbnemhkheaaDoor
