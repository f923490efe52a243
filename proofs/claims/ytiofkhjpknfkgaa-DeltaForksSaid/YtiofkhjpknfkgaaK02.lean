/- Words of 32 bits in the walk: they stand behind a name of their own. -/
import Derived.Test.YtiofkhjpknfkgaaK01
import Derived.StillTailTactics
import Derived.Deep.MidRow
import Init
import GoSem.Op.String
namespace Go.Proofs.Ytiofkhjpknfkgaa
namespace Sm
open Go.RowKit Ba
set_option linter.unusedVariables false

/-- a word as a number -/
def U (x : UInt32) : Int := (x.toNat : Int)
/-- a word as a value -/
def wv (x : UInt32) : Value := .int .u32 (U x)
def wvs (l : List UInt32) : List Value := l.map wv
theorem U_lt (x : UInt32) : x.toNat < 4294967296 := x.toNat_lt
theorem ofInt_u32 (x : UInt32) : (BitVec.ofInt 32 (U x)).toNat = x.toNat := by
  unfold U
  rw [BitVec.ofInt_natCast, BitVec.toNat_ofNat]; exact Nat.mod_eq_of_lt (by have := U_lt x; omega)
theorem U_add (a b : UInt32) : IntKind.u32.wrap (U a + U b) = U (a + b) := by
  unfold U
  rw [IntKind.wrap_u32, UInt32.toNat_add]; omega
theorem U_add' (a b : UInt32) : (U a + U b) % 4294967296 = U (a + b) := by
  unfold U
  rw [UInt32.toNat_add]; omega
theorem U_xor (a b : UInt32) : bits .xor .u32 (U a) (U b) = U (a ^^^ b) := by
  have h := U_lt (a ^^^ b)
  show IntKind.u32.wrap ((BitVec.ofInt 32 (U a) ^^^ BitVec.ofInt 32 (U b)).toNat : Int) = _
  rw [BitVec.toNat_xor, ofInt_u32, ofInt_u32, IntKind.wrap_u32, ← UInt32.toNat_xor]
  unfold U
  omega
theorem U_max : IntKind.u32.max = U 4294967295 := by decide
theorem U_not (a : UInt32) : bits .xor .u32 IntKind.u32.max (U a) = U (~~~a) := by
  rw [U_max, U_xor]
  have e : 4294967295 ^^^ a = ~~~a := by
    apply UInt32.toBitVec_inj.1
    rw [UInt32.toBitVec_xor, UInt32.toBitVec_not]
    show BitVec.allOnes 32 ^^^ a.toBitVec = _
    rw [BitVec.allOnes_xor]
  rw [e]
theorem U_not' (a : UInt32) : bits .xor .u32 (if IntKind.u32.signed = true then -1 else IntKind.u32.max) (U a) = U (~~~a) := U_not a
theorem U_and (a b : UInt32) : bits .and .u32 (U a) (U b) = U (a &&& b) := by
  have h := U_lt (a &&& b)
  show IntKind.u32.wrap ((BitVec.ofInt 32 (U a) &&& BitVec.ofInt 32 (U b)).toNat : Int) = _
  rw [BitVec.toNat_and, ofInt_u32, ofInt_u32, IntKind.wrap_u32, ← UInt32.toNat_and]
  unfold U
  omega
theorem U_or (a b : UInt32) : bits .or .u32 (U a) (U b) = U (a ||| b) := by
  have h := U_lt (a ||| b)
  show IntKind.u32.wrap ((BitVec.ofInt 32 (U a) ||| BitVec.ofInt 32 (U b)).toNat : Int) = _
  rw [BitVec.toNat_or, ofInt_u32, ofInt_u32, IntKind.wrap_u32, ← UInt32.toNat_or]
  unfold U
  omega
theorem U_shl (a : UInt32) (n : Nat) (hn : n < 32) : IntKind.u32.wrap (U a * (2 : Int) ^ n) = U (a <<< UInt32.ofNat n) := by
  unfold U
  rw [IntKind.wrap_u32, UInt32.toNat_shiftLeft, UInt32.toNat_ofNat', Nat.mod_eq_of_lt (show n < 2 ^ 32 by omega), Nat.mod_eq_of_lt hn, Nat.shiftLeft_eq]
  have e : ((a.toNat : Int) * 2 ^ n) = ((a.toNat * 2 ^ n : Nat) : Int) := by rw [Int.natCast_mul, Int.natCast_pow]; rfl
  rw [e]
  rfl
theorem U_shr (a : UInt32) (n : Nat) (hn : n < 32) : U a / ((2 : Int) ^ n) = U (a >>> UInt32.ofNat n) := by
  unfold U
  rw [UInt32.toNat_shiftRight, UInt32.toNat_ofNat', Nat.mod_eq_of_lt (show n < 2 ^ 32 by omega), Nat.mod_eq_of_lt hn, Nat.shiftRight_eq_div_pow]
  have e : ((2 : Int) ^ n) = ((2 ^ n : Nat) : Int) := by rw [Int.natCast_pow]; rfl
  rw [e]
  rfl
theorem U_shl' (a : UInt32) (n : Nat) (hn : n < 32) : U a * (2 : Int) ^ n % (4294967296 : Int) = U (a <<< UInt32.ofNat n) := by rw [← U_shl a n hn, IntKind.wrap_u32]
theorem U_shr3 (a : UInt32) : U a / (8 : Int) = U (a >>> 3) := U_shr a 3 (by omega)
theorem U_shr10 (a : UInt32) : U a / (1024 : Int) = U (a >>> 10) := U_shr a 10 (by omega)
theorem U_shl8 (a : UInt32) : U a * (256 : Int) % (4294967296 : Int) = U (a <<< 8) := U_shl' a 8 (by omega)
theorem U_shl16 (a : UInt32) : U a * (65536 : Int) % (4294967296 : Int) = U (a <<< 16) := U_shl' a 16 (by omega)
theorem U_shl24 (a : UInt32) : U a * (16777216 : Int) % (4294967296 : Int) = U (a <<< 24) := U_shl' a 24 (by omega)
theorem U_of_u8 (b : UInt8) : IntKind.u32.wrap (b.toNat : Int) = U b.toUInt32 := by
  have := b.toNat_lt
  unfold U
  rw [IntKind.wrap_u32, UInt8.toNat_toUInt32]; omega
/-! ### whole arrays out of and into the midst of a block -/
theorem toArray_set (l : List Value) (k : Nat) (u : Value) : l.toArray.setIfInBounds k u = (l.set k u).toArray := by simp
theorem Blk.setCells {w : World} {g : Nat} {t : TypeId} (vs : List Value) (pre old post : List Value) (h : Blk w g t (pre ++ (old ++ post)).toArray) (hl : old.length = vs.length) :
    Blk (w.setCells g pre.length vs) g t (pre ++ (vs ++ post)).toArray := by
  induction vs generalizing w pre old with
  | nil =>
    have : old = [] := List.eq_nil_of_length_eq_zero hl
    subst this
    exact h
  | cons v vs ih =>
    cases old with
    | nil => cases hl
    | cons u old =>
      have h1 := Blk.set_ h pre.length v
      rw [toArray_set] at h1
      have e : (pre ++ (u :: old ++ post)).set pre.length v = (pre ++ [v]) ++ (old ++ post) := by
        rw [List.set_append_right _ _ (by omega), Nat.sub_self]
        simp
      rw [e] at h1
      have := ih (pre ++ [v]) old h1 (by simpa using hl)
      simp only [List.length_append, List.length_cons, List.length_nil, Nat.zero_add, List.append_assoc, List.cons_append, List.nil_append] at this
      exact this
theorem only_setCells (w : World) (g o : Nat) (vs : List Value) : w.grownBy (w.setCells g o vs) (some g) := by
  induction vs generalizing w o with
  | nil => exact World.grownBy.refl w _
  | cons v vs ih => exact only_trans (only_set w g o v) (ih _ _)
theorem Blk.range {w : World} {g : Nat} {t : TypeId} (pre cs post : List Value) (h : Blk w g t (pre ++ (cs ++ post)).toArray) : w.rangeAt g pre.length cs := by
  intro j v hv
  rw [Blk.cell h]
  have hj : j < cs.length := by
    rcases Nat.lt_or_ge j cs.length with h1 | h1
    · exact h1
    · rw [List.getElem?_eq_none h1] at hv; cases hv
  simp only [List.getElem?_toArray]
  rw [List.getElem?_append_right (by omega), List.getElem?_append_left (by omega)]
  rw [show pre.length + j - pre.length = j by omega]
  exact hv
theorem Blk.there {w : World} {g : Nat} {t : TypeId} {cs : Array Value} (h : Blk w g t cs) (o n : Nat) (hn : o + n ≤ cs.size) : w.there g o n := by
  intro j hj
  refine ⟨?_, Blk.frozen h _⟩
  rw [Blk.cell h, Array.getElem?_eq_getElem (by omega)]
  rfl
/-- a row of values goes into the midst of a block -/
theorem wpList_store_blk {P : Program} {ops : Array Oper} {rest : List Oper} {op : Oper} {a : Act} {w : World} {Q : Exit → Act → World → Prop} (hgd : op.guard = none) (ty : TypeId) (x y : Operand) (ho : op.op = .store ty x y)
    (g o : Nat) (t : TypeId) (pre old post vs : List Value) (hx : a.eval x = .pointer (some ⟨g, o, none⟩)) (hy : a.eval y = .agg vs.toArray) (hb : Blk w g t (pre ++ (old ++ post)).toArray) (hp : pre.length = o) (hl : old.length = vs.length)
    (hi : (P.info? ty).map (·.size) = some vs.length) (h1 : ∀ v ∈ vs, v.oneCell' = true)
    (h : ∀ w', Blk w' g t (pre ++ (vs ++ post)).toArray → w.grownBy w' (some g) → wpList P ops Q rest (a.put op.dst undef) w') : wpList P ops Q (op :: rest) a w := by
  subst hp
  refine wpList_store_mid hgd ty x y ho g pre.length vs.toArray hx hy ?_ (by simpa using hi) (all_oneCell_toArray h1) ?_
  · refine Blk.there hb _ _ ?_
    simp
    omega
  · exact h _ (Blk.setCells vs pre old post hb hl) (only_setCells _ _ _ _)
theorem wpList_load_blk {P : Program} {ops : Array Oper} {rest : List Oper} {op : Oper} {a : Act} {w : World} {Q : Exit → Act → World → Prop} (hgd : op.guard = none) (ty : TypeId) (x : Operand) (ho : op.op = .load ty x)
    (g o : Nat) (t : TypeId) (pre cs post : List Value) (hx : a.eval x = .pointer (some ⟨g, o, none⟩)) (hb : Blk w g t (pre ++ (cs ++ post)).toArray) (hp : pre.length = o) (d : TypeDesc) (hu : P.underlying ty = some d) (hd : d.isRow = true)
    (hi : (P.info? ty).map (·.size) = some cs.length) (h : wpList P ops Q rest (a.put op.dst (.agg cs.toArray)) w) : wpList P ops Q (op :: rest) a w := by
  subst hp
  exact wpList_load_mid hgd ty x ho g pre.length hx cs d (Blk.range pre cs post hb) hu hd hi h
theorem wvs_one (l : List UInt32) : ∀ v ∈ wvs l, v.oneCell' = true := by
  intro u hu
  obtain ⟨_, _, rfl⟩ := List.mem_map.1 hu
  rfl
theorem wvs_len (l : List UInt32) : (wvs l).length = l.length := by simp [wvs]
theorem below_drewN {B : Nat} {a w : World} (h : Below B a w) (n : Nat) : Below B a (w.drewN n) := ⟨h.os, h.tape, h.output, h.size, h.block⟩
theorem only_after {a w w' : World} {g : Nat} (h : Below a.heap.size a w) (k : w.grownBy w' (some g)) (hB : a.heap.size ≤ g) : Below a.heap.size a w' := h.trans (below_of_only k hB h.size)
theorem undrewN {w w' : World} {n : Nat} {row : Option Nat} (h : (w.drewN n).grownBy w' row) : w.grownBy w' row := ⟨h.os, h.tape, h.output, h.size, h.block⟩
theorem grown_drew {w w' : World} {row : Option Nat} (h : w.grownBy w' row) : w.grownBy w'.drew row := ⟨h.os, h.tape, h.output, h.size, h.block⟩
theorem only_below {a w w' : World} {row : Option Nat} (h : a.grownBy w row) (k : Below a.heap.size w w') : a.grownBy w' row := ⟨k.os.trans h.os, k.tape.trans h.tape, k.output.trans h.output, Nat.le_trans h.size k.size, fun i hi hne => (k.block i hi).trans (h.block i hi hne)⟩
theorem undrew {w w' : World} {row : Option Nat} (h : w.drew.grownBy w' row) : w.grownBy w' row := ⟨h.os, h.tape, h.output, h.size, h.block⟩
/-- a block of words -/
def BlkW (w : World) (g : Nat) (t : TypeId) (l : List UInt32) : Prop := Blk w g t (wvs l).toArray
section
variable {w w' : World} {g : Nat} {t : TypeId} {l : List UInt32}
theorem BlkW.lt (h : BlkW w g t l) : g < w.heap.size := Blk.lt h
theorem BlkW.new_ (w : World) (t : TypeId) (cs : Array Value) (g : Nat) (l : List UInt32) (hg : g = w.heap.size) (h : cs = (wvs l).toArray) : BlkW (w.alloc (.cells cs t)) g t l := by
  subst hg h
  exact Blk.new w t _
theorem BlkW.cell (h : BlkW w g t l) (i : Nat) (hi : i < l.length) : w.cell? ⟨g, i, none⟩ = some (.int .u32 (U (Sm.g l i))) := by
  rw [Blk.cell h i]
  simp [wvs, wv, Sm.g, List.getD, hi]
theorem BlkW.frozen (h : BlkW w g t l) (i : Nat) : w.frozen? ⟨g, i, none⟩ = false := Blk.frozen h i
theorem BlkW.set_ (h : BlkW w g t l) (i : Nat) (x : UInt32) : BlkW (w.setCell ⟨g, i, none⟩ (.int .u32 (U x))) g t (l.set i x) := by
  have e : (wvs (l.set i x)).toArray = (wvs l).toArray.setIfInBounds i (.int .u32 (U x)) := by
    rw [List.setIfInBounds_toArray]
    simp [wvs, List.map_set, wv]
  unfold BlkW
  rw [e]
  exact Blk.set_ h i _
theorem BlkW.far (h : BlkW w g t l) {p : Addr} (hp : g ≠ p.block) (u : Value) : BlkW (w.setCell p u) g t l := Blk.far h hp u
theorem BlkW.below {B : Nat} (h : BlkW w g t l) (hb : Below B w w') (hg : g < B) : BlkW w' g t l := Blk.below h hb hg
theorem BlkW.drew (h : BlkW w g t l) : BlkW w.drew g t l := h
theorem BlkW.drewN (h : BlkW w g t l) (n : Nat) : BlkW (w.drewN n) g t l := h
theorem BlkW.alloc (h : BlkW w g t l) (o : Obj) : BlkW (w.alloc o) g t l := Blk.alloc h o
theorem BlkW.grown {row : Option Nat} (h : BlkW w g t l) (hb : w.grownBy w' row) (hg : some g ≠ row) : BlkW w' g t l := Blk.grown h hb hg
end
/-- a whole block of words is read -/
theorem wpList_loadW {P : Program} {ops : Array Oper} {rest : List Oper} {op : Oper} {a : Act} {w : World} {Q : Exit → Act → World → Prop} (hgd : op.guard = none) (ty : TypeId) (x : Operand) (ho : op.op = .load ty x)
    (g : Nat) (t : TypeId) (l : List UInt32) (hx : a.eval x = .pointer (some ⟨g, 0, none⟩)) (hb : BlkW w g t l) (d : TypeDesc) (hu : P.underlying ty = some d) (hd : d.isRow = true)
    (hi : (P.info? ty).map (·.size) = some l.length) (h : wpList P ops Q rest (a.put op.dst (.agg (wvs l).toArray)) w) : wpList P ops Q (op :: rest) a w :=
  wpList_load_blk hgd ty x ho g 0 t [] (wvs l) [] hx (by unfold BlkW at hb; simpa using hb) rfl d hu hd (by rw [wvs_len]; exact hi) h
/-- a whole block of words is written -/
theorem wpList_storeW {P : Program} {ops : Array Oper} {rest : List Oper} {op : Oper} {a : Act} {w : World} {Q : Exit → Act → World → Prop} (hgd : op.guard = none) (ty : TypeId) (x y : Operand) (ho : op.op = .store ty x y)
    (g : Nat) (t : TypeId) (l0 l : List UInt32) (hx : a.eval x = .pointer (some ⟨g, 0, none⟩)) (hy : a.eval y = .agg (wvs l).toArray) (hb : BlkW w g t l0) (hl : l0.length = l.length)
    (hi : (P.info? ty).map (·.size) = some l.length)
    (h : ∀ w', BlkW w' g t l → w.grownBy w' (some g) → wpList P ops Q rest (a.put op.dst undef) w') : wpList P ops Q (op :: rest) a w :=
  wpList_store_blk hgd ty x y ho g 0 t [] (wvs l0) [] (wvs l) hx hy (by unfold BlkW at hb; simpa using hb) rfl (by rw [wvs_len, wvs_len]; exact hl) (by rw [wvs_len]; exact hi) (wvs_one l) (fun w' h1 h2 => h w' (by unfold BlkW; simpa using h1) h2)
theorem cellP {w : World} {b : Nat} {t : TypeId} {l : List UInt32} {post : List Value} (h : Blk w b t (wvs l ++ post).toArray) (i : Nat) (hi : i < l.length) : w.cell? ⟨b, i, none⟩ = some (.int .u32 (U (Sm.g l i))) := by
  rw [Blk.cell h i, List.getElem?_toArray, List.getElem?_append_left (by rw [wvs_len]; exact hi)]
  simp [wvs, wv, Sm.g, List.getD, hi]
theorem setP {w : World} {b : Nat} {t : TypeId} {l : List UInt32} {post : List Value} (h : Blk w b t (wvs l ++ post).toArray) (i : Nat) (hi : i < l.length) (x : UInt32) : Blk (w.setCell ⟨b, i, none⟩ (.int .u32 (U x))) b t (wvs (l.set i x) ++ post).toArray := by
  have := Blk.set_ h i (.int .u32 (U x))
  rw [toArray_set, List.set_append_left _ _ (by rw [wvs_len]; exact hi)] at this
  have e : wvs (l.set i x) = (wvs l).set i (.int .u32 (U x)) := by simp [wvs, List.map_set, wv]
  rw [e]
  exact this
/-- one word of a row that stands in a slot -/
theorem run_index_words {P : Program} (t e : TypeId) (n : Nat) (l : List UInt32) (k : Nat) (ht : P.underlying t = some (.array n e)) (he : P.underlying e = some (.int .u32)) (hi : (P.info? e).map (·.size) = some 1) (hk : k < n) (hn : l.length = n) (w : World) :
    (Instr.index t (.agg (wvs l).toArray) (.int .i64 (k : Int))).run P w = .ok (.int .u32 (U (Sm.g l k))) w := by
  have hget : (wvs l).toArray[k]? = some (.int .u32 (U (Sm.g l k))) := by
    simp [wvs, wv, Sm.g, List.getD, show k < l.length by omega]
  cases hq : P.info? e with
  | none => simp [hq] at hi
  | some i =>
    have hs : i.size = 1 := by simpa [hq] using hi
    have hagg : (isAgg e).run P w = .ok false w := by
      unfold isAgg
      rw [Sem.run_bind, run_underlying he w]
      rfl
    have h1 : (0 : Int) ≤ (k : Int) ∧ (k : Int) < (n : Int) := by omega
    simp only [List.getElem?_toArray] at hget
    simp [Instr.index, asIntOf, Sem.run_bind, run_underlying ht, h1, sizeOf, typeInfo, hq, hs, part, hagg, hget]
    omega
end Sm
end Go.Proofs.Ytiofkhjpknfkgaa
/- Rows of records: slices whose elements all have the same number of cells. -/
namespace Go.Proofs.Ytiofkhjpknfkgaa
namespace Ba
open Go.RowKit
set_option linter.unusedVariables false
section
variable {α : Type} {f : α → List Value} {sz : Nat}
def rows (f : α → List Value) (l : List α) : List Value := l.flatMap f
def RWf (f : α → List Value) (sz : Nat) (l : List α) : Prop := ∀ x ∈ l, (f x).length = sz ∧ ∀ u ∈ f x, u.oneCell' = true
theorem RWf.nil : RWf f sz [] := fun x h => absurd h (by simp)
theorem RWf.append {l r : List α} (h : RWf f sz l) (k : RWf f sz r) : RWf f sz (l ++ r) := fun x hx => by
  rcases List.mem_append.1 hx with hx | hx
  · exact h x hx
  · exact k x hx
theorem RWf.one {x : α} (h : (f x).length = sz) (h1 : ∀ u ∈ f x, u.oneCell' = true) : RWf f sz [x] := fun y hy => by
  simp at hy
  subst hy
  exact ⟨h, h1⟩
theorem RWf.left {l r : List α} (h : RWf f sz (l ++ r)) : RWf f sz l := fun x hx => h x (List.mem_append_left _ hx)
theorem rows_append (l r : List α) : rows f (l ++ r) = rows f l ++ rows f r := by simp [rows]
theorem rows_one (x : α) : rows f [x] = f x := by simp [rows]
theorem rows_len {l : List α} (h : RWf f sz l) : (rows f l).length = l.length * sz := by
  induction l with
  | nil => simp [rows]
  | cons x l ih =>
    have h1 := (h x (by simp)).1
    have h2 := ih (fun y hy => h y (by simp [hy]))
    unfold rows at h2 ⊢
    rw [List.flatMap_cons, List.length_append, h1, h2, List.length_cons, Nat.add_mul, Nat.one_mul, Nat.add_comm]
theorem rows_one' {l : List α} (h : RWf f sz l) : ∀ u ∈ rows f l, u.oneCell' = true := fun u hu => by
  unfold rows at hu
  obtain ⟨x, hx, hu⟩ := List.mem_flatMap.1 hu
  exact (h x hx).2 u hu
theorem rows_get {l : List α} (h : RWf f sz l) {k : Nat} {x : α} (hk : l[k]? = some x) (j : Nat) (hj : j < sz) : (rows f l)[k * sz + j]? = (f x)[j]? := by
  induction l generalizing k with
  | nil => simp at hk
  | cons y l ih =>
    have h1 := (h y (by simp)).1
    unfold rows
    rw [List.flatMap_cons]
    cases k with
    | zero =>
      simp at hk
      subst hk
      rw [Nat.zero_mul, Nat.zero_add, List.getElem?_append_left (by omega)]
    | succ k =>
      have h2 := ih (fun y hy => h y (by simp [hy])) (k := k) (by simpa using hk)
      rw [List.getElem?_append_right (by rw [h1, Nat.add_mul]; omega), h1, Nat.add_mul, Nat.one_mul]
      unfold rows at h2
      rw [← h2]
      congr 1
      omega
/-- a slice that reads as records -/
def ReadRow (f : α → List Value) (sz : Nat) (w : World) (B : Nat) (A : Option Addr) (l : List α) : Prop :=
  RWf f sz l ∧ (0 < l.length → ∃ b o, A = some ⟨b, o, none⟩ ∧ b < B ∧ ∀ j u, (rows f l)[j]? = some u → w.cell? ⟨b, o + j, none⟩ = some u)
/-- a slice of records of the call's own -/
def OwnRow (f : α → List Value) (sz : Nat) (w : World) (base : Nat) (E : TypeId) (v : Value) (l : List α) : Prop := RWf f sz l ∧ w.ownsRow base E sz v l.length (rows f l)
variable {w w' : World} {B B' : Nat} {A : Option Addr} {l : List α} {E : TypeId} {v : Value} {base : Nat}
theorem ReadRow.nil : ReadRow f sz w B A [] := ⟨RWf.nil, fun h => absurd h (by simp)⟩
theorem ReadRow.keep (h : ReadRow f sz w B A l) (hk : ∀ p : Addr, p.block < B → w'.cell? p = w.cell? p) : ReadRow f sz w' B A l :=
  ⟨h.1, fun hn => by
    obtain ⟨b, o, e, hb, hc⟩ := h.2 hn
    exact ⟨b, o, e, hb, fun j u hu => (hk ⟨b, o + j, none⟩ hb).trans (hc j u hu)⟩⟩
theorem ReadRow.below (h : ReadRow f sz w B A l) (hb : Below B w w') : ReadRow f sz w' B A l := h.keep fun _ hp => hb.cell hp
theorem ReadRow.more (h : ReadRow f sz w B A l) (hB : B ≤ B') : ReadRow f sz w B' A l :=
  ⟨h.1, fun hn => by
    obtain ⟨b, o, e, hb, hc⟩ := h.2 hn
    exact ⟨b, o, e, Nat.lt_of_lt_of_le hb hB, hc⟩⟩
theorem ReadRow.drew (h : ReadRow f sz w B A l) : ReadRow f sz w.drew B A l := h
theorem ReadRow.alloc (h : ReadRow f sz w B A l) (hB : B ≤ w.heap.size) (o : Obj) : ReadRow f sz (w.alloc o) B A l := h.below ((Below.refl B w).alloc hB o)
theorem ReadRow.reads (h : ReadRow f sz w B A l) : Reads w B sz A l.length (rows f l) :=
  ⟨rows_len h.1, fun hn => by
    obtain ⟨b, o, e, hb, hc⟩ := h.2 hn
    exact ⟨⟨b, o, none⟩, e, hb, fun j u hu => by rw [add_lit_]; exact hc j u hu⟩⟩
/-- the k-th element -/
theorem ReadRow.at_ (h : ReadRow f sz w B A l) {k : Nat} {x : α} (hk : l[k]? = some x) : ∃ b o, A = some ⟨b, o, none⟩ ∧ b < B ∧ w.rangeAt b (o + k * sz) (f x) := by
  have hlt : k < l.length := by
    rcases Nat.lt_or_ge k l.length with h | h
    · exact h
    · rw [List.getElem?_eq_none h] at hk; cases hk
  obtain ⟨b, o, e, hb, hc⟩ := h.2 (by omega)
  refine ⟨b, o, e, hb, fun j u hu => ?_⟩
  have hx := (h.1 x (List.mem_of_getElem? hk)).1
  have hj : j < sz := by
    rcases Nat.lt_or_ge j sz with h | h
    · exact h
    · rw [List.getElem?_eq_none (by omega)] at hu; cases hu
  rw [Nat.add_assoc]
  exact hc _ u (by rw [rows_get h.1 hk j hj]; exact hu)
/-- all of them, at one address -/
theorem ReadRow.all (h : ReadRow f sz w B A l) (hn : 0 < l.length) : ∃ b o, A = some ⟨b, o, none⟩ ∧ b < B ∧ ∀ k x, l[k]? = some x → w.rangeAt b (o + k * sz) (f x) := by
  obtain ⟨b, o, rfl, hb, hc⟩ := h.2 hn
  refine ⟨b, o, rfl, hb, fun k x hk => ?_⟩
  obtain ⟨b', o', e, _, hr⟩ := h.at_ hk
  injection e with e
  injection e with e1 e2
  subst e1 e2
  exact hr
theorem OwnRow.nil : OwnRow f sz w base E (.slice none 0 0) [] := ⟨RWf.nil, by simp [rows], .inl ⟨rfl, rfl⟩⟩
theorem OwnRow.drew (h : OwnRow f sz w base E v l) : OwnRow f sz w.drew base E v l := h
theorem OwnRow.alloc (h : OwnRow f sz w base E v l) (o : Obj) : OwnRow f sz (w.alloc o) base E v l := ⟨h.1, World.ownsRow.alloc h.2 o⟩
theorem OwnRow.keptB (h : OwnRow f sz w base E v l) (hb : Below w.heap.size w w') : OwnRow f sz w' base E v l :=
  ⟨h.1, World.ownsRow.kept (row := none) h.2 ⟨hb.os, hb.tape, hb.output, hb.size, fun k hk _ => hb.block k hk⟩ (by cases v.ownBlock <;> simp)⟩
theorem OwnRow.grown {row : Option Nat} (h : OwnRow f sz w base E v l) (hg : w.grownBy w' row) (hne : v.ownBlock = none ∨ v.ownBlock ≠ row) : OwnRow f sz w' base E v l := ⟨h.1, World.ownsRow.kept h.2 hg hne⟩
theorem OwnRow.weak {b2 : Nat} (h : OwnRow f sz w base E v l) (hb : b2 ≤ base) : OwnRow f sz w b2 E v l := by
  refine ⟨h.1, h.2.1, ?_⟩
  rcases h.2.2 with hh | ⟨g, cap, cur, e, hbb, r⟩
  · exact .inl hh
  · exact .inr ⟨g, cap, cur, e, by omega, r⟩
theorem OwnRow.ge (h : OwnRow f sz w base E v l) : ∀ k, v.ownBlock = some k → base ≤ k ∧ k < w.heap.size := fun k hk => World.ownsRow.lt h.2 k hk
theorem OwnRow.opens (h : OwnRow f sz w base E v l) : ∃ A c, v = .slice A l.length c ∧ l.length ≤ c ∧ c ≤ 9223372036854775807 ∧ ReadRow f sz w w.heap.size A l ∧ (∀ ad, A = some ad → base ≤ ad.block ∧ ad.block < w.heap.size) := by
  rcases h.2.2 with ⟨rfl, hn⟩ | ⟨g, cap, cur, rfl, hb, hh, hnc, hm, hcs, ht⟩
  · have hl : l = [] := List.eq_nil_of_length_eq_zero hn
    subst hl
    exact ⟨none, 0, rfl, by simp, by omega, ReadRow.nil, by intro _ h; cases h⟩
  · have hg : g < w.heap.size := (Array.getElem?_eq_some_iff.1 hh).1
    refine ⟨_, _, rfl, hnc, by simpa [maxLen] using hm, ⟨h.1, fun _ => ⟨g, 0, rfl, hg, fun j u hu => ?_⟩⟩, ?_⟩
    · rw [Nat.zero_add, cell_of_row w g j cur E (0, 0) hh]
      rw [← ht, List.getElem?_take] at hu
      split at hu
      · rw [← hu]; simp
      · cases hu
    · intro ad had
      injection had with had
      subst had
      exact ⟨hb, hg⟩
theorem OwnRow.ofRead {c : Nat} (h : OwnRow f sz w base E (.slice A l.length c) l) : ReadRow f sz w w.heap.size A l := by
  obtain ⟨A', c', e, _, _, hr, _⟩ := h.opens
  injection e with e
  subst e
  exact hr
/-- a written-out record in a new block -/
theorem ReadRow.lit1 (w : World) (E : TypeId) (cs : Array Value) (x : α) (h : cs = (f x).toArray) (hx : (f x).length = sz) (h1 : ∀ u ∈ f x, u.oneCell' = true) : ReadRow f sz (w.alloc (.cells cs E)) (w.heap.size + 1) (some ⟨w.heap.size, 0, none⟩) [x] := by
  subst h
  refine ⟨RWf.one hx h1, fun _ => ⟨w.heap.size, 0, rfl, by omega, fun j u hu => ?_⟩⟩
  rw [rows_one] at hu
  rw [Nat.zero_add, cell_of_row _ w.heap.size j (f x).toArray E (0, 0) (heap_alloc_new w _)]
  simpa using hu
end
def IsRec (P : Program) (E : TypeId) (i : TypeInfo) (sz bytes : Nat) : Prop := P.info? E = some i ∧ (∃ z, i.zero = some z ∧ z.cells.size = sz) ∧ i.size = sz ∧ i.bytes = bytes
theorem isRec_of {P : Program} {E : TypeId} {sz bytes : Nat} (h : (P.info? E).map (fun i => (i.zero.map (·.cells.size), i.size, i.bytes)) = some (some sz, sz, bytes)) : ∃ i, IsRec P E i sz bytes := by
  obtain ⟨i, hi, hzz⟩ := Option.map_eq_some_iff.1 h
  simp only [Prod.mk.injEq] at hzz
  obtain ⟨z, hz, hs⟩ := Option.map_eq_some_iff.1 hzz.1
  exact ⟨i, hi, ⟨z, hz, hs⟩, hzz.2.1, hzz.2.2⟩
section
variable {α : Type} {f : α → List Value} {sz : Nat}
theorem wpList_appR {P : Program} (w : World) {ops : Array Oper} {rest : List Oper} {o : Oper} {a : Act} {Q : Exit → Act → World → Prop} (hgd : o.guard = none) (s x : Operand) (t : TypeId)
    (ho : o.op = .call { callee := .builtin .append, args := #[s, x], argTypes := #[t, t] })
    (base : Nat) (E : TypeId) (i : TypeInfo) (bytes : Nat) (ht : P.underlying t = some (.slice E)) (hi : IsRec P E i sz bytes) (hsz : 0 < sz)
    (v : Value) (l : List α) (hs : a.eval s = v) (hown : OwnRow f sz w base E v l)
    (B : Nat) (A : Option Addr) (m c : Nat) (r : List α) (hx : a.eval x = .slice A m c) (hm : m = r.length) (hr : ReadRow f sz w B A r)
    (h63 : l.length + r.length ≤ 9223372036854775807) (hbytes : (l.length + r.length) * bytes ≤ 140737488355328) (hbase : base ≤ w.heap.size)
    (h : ∀ v' w', OwnRow f sz w' base E v' (l ++ r) → w.grownBy w' v.ownBlock → (v'.ownBlock = v.ownBlock ∨ v'.ownBlock = some w.heap.size) → Below base w w' → wpList P ops Q rest (a.put o.dst v') w') : wpList P ops Q (o :: rest) a w := by
  subst hm
  obtain ⟨z, hz, hzs⟩ := hi.2.1
  refine wpList_append_any w hgd s x t ho base E i z sz bytes ht hi.1 hz hi.2.2.1 hi.2.2.2 hzs hsz v l.length (rows f l) hs hown.2 B A r.length c (rows f r) hx hr.reads (rows_one' hr.1) (by unfold maxLen; omega) hbytes hbase ?_
  intro v' w' h1 h2 h3
  refine h v' w' ⟨hown.1.append hr.1, ?_⟩ h2 h3 ((Below.refl base w).grown h2 hbase (fun k hk => (World.ownsRow.lt hown.2 k hk).1))
  rw [List.length_append, rows_append]
  exact h1
theorem step_appR {P : Program} (w : World) {ops : Array Oper} {o : Oper} {a : Act} {K : Act → World → Prop} {Q : Exit → Act → World → Prop} {R : Prop} (hgd : Region.wanted o (yielded ops a.tmps) = true) (s x : Operand) (t : TypeId)
    (ho : o.op = .call { callee := .builtin .append, args := #[s, x], argTypes := #[t, t] })
    (base : Nat) (E : TypeId) (i : TypeInfo) (bytes : Nat) (ht : P.underlying t = some (.slice E)) (hi : IsRec P E i sz bytes) (hsz : 0 < sz)
    (v : Value) (l : List α) (hs : a.eval s = v) (hown : OwnRow f sz w base E v l)
    (B : Nat) (A : Option Addr) (m c : Nat) (r : List α) (hx : a.eval x = .slice A m c) (hm : m = r.length) (hr : ReadRow f sz w B A r)
    (h63 : l.length + r.length ≤ 9223372036854775807) (hbytes : (l.length + r.length) * bytes ≤ 140737488355328) (hbase : base ≤ w.heap.size)
    (h : ∀ v' w', OwnRow f sz w' base E v' (l ++ r) → w.grownBy w' v.ownBlock → (v'.ownBlock = v.ownBlock ∨ v'.ownBlock = some w.heap.size) → Below base w w' → K (a.put o.dst v') w') :
    if Region.wanted o (yielded ops a.tmps) = true then Oper.wp P o a w K Q else R := by
  subst hm
  obtain ⟨z, hz, hzs⟩ := hi.2.1
  rw [if_pos hgd]
  refine wp_append_any w s x t ho base E i z sz bytes ht hi.1 hz hi.2.2.1 hi.2.2.2 hzs hsz v l.length (rows f l) hs hown.2 B A r.length c (rows f r) hx hr.reads (rows_one' hr.1) (by unfold maxLen; omega) hbytes hbase ?_
  intro v' w' h1 h2 h3
  refine h v' w' ⟨hown.1.append hr.1, ?_⟩ h2 h3 ((Below.refl base w).grown h2 hbase (fun k hk => (World.ownsRow.lt hown.2 k hk).1))
  rw [List.length_append, rows_append]
  exact h1
end
end Ba
end Go.Proofs.Ytiofkhjpknfkgaa
/- What of a new file an old one has: a search, over lists: plain words and laws. F tells where a block is. -/
namespace Go.Proofs.Ytiofkhjpknfkgaa
namespace Tm
set_option linter.unusedVariables false
/-- an operation -/
structure O where
  copy : Bool
  pos : Int
  n : Int
  data : List UInt8
def cp (a n : Int) : O := ⟨true, a, n, []⟩
def lit (d : List UInt8) : O := ⟨false, 0, 0, d⟩
def whole (b : List UInt8) : List O := if b.length = 0 then [] else [lit b]
def cut (b : List UInt8) (i j : Nat) : List UInt8 := (b.drop i).take (j - i)
/-- does a copy go on where the last one ended? -/
def joins (out : List O) (frm i : Nat) (a : Int) : Bool := decide (frm = i) && (match out.getLast? with | some o => o.copy && decide (o.pos + o.n = a) | none => false)
def grow (out : List O) (z : Nat) : List O := out.dropLast ++ (match out.getLast? with | some o => [{ o with n := o.n + z }] | none => [])
def put1 (z : Nat) (b : List UInt8) (out : List O) (frm i : Nat) (a : Int) : List O := if joins out frm i a then grow out z else out ++ whole (cut b frm i) ++ [cp a z]
def srch (F : List UInt8 → Int × Bool) (z : Nat) (b : List UInt8) : Nat → List O → Nat → Nat → List O × Nat
  | 0, out, frm, i => (out, frm)
  | f + 1, out, frm, i =>
    if i + z ≤ b.length then
      if (F (cut b i (i + z))).2 then srch F z b f (put1 z b out frm i (F (cut b i (i + z))).1) (i + z) (i + z) else srch F z b f out frm (i + 1)
    else (out, frm)
def fin (b : List UInt8) (r : List O × Nat) : List O := if 4096 < (r.1 ++ whole (b.drop r.2)).length then whole b else r.1 ++ whole (b.drop r.2)
def search (F : List UInt8 → Int × Bool) (z : Nat) (b : List UInt8) : List O := fin b (srch F z b (b.length + 1) [] 0 0)
def copied (l : List O) : Int := (l.map fun o => if o.copy then o.n else 0).foldl (· + ·) 0
def literal (l : List O) : Int := (l.map fun o => if o.copy then 0 else (o.data.length : Int)).foldl (· + ·) 0
theorem foldl_add (l : List Int) (a : Int) : l.foldl (· + ·) a = a + l.foldl (· + ·) 0 := by
  induction l generalizing a with
  | nil => simp
  | cons x l ih => rw [List.foldl_cons, List.foldl_cons, ih, ih (0 + x)]; omega
theorem sum_append (l r : List Int) : (l ++ r).foldl (· + ·) 0 = l.foldl (· + ·) 0 + r.foldl (· + ·) 0 := by rw [List.foldl_append, foldl_add]
theorem copied_append (l r : List O) : copied (l ++ r) = copied l + copied r := by unfold copied; rw [List.map_append, sum_append]
theorem literal_append (l r : List O) : literal (l ++ r) = literal l + literal r := by unfold literal; rw [List.map_append, sum_append]
theorem copied_whole (b : List UInt8) : copied (whole b) = 0 := by unfold whole; split <;> simp [copied, lit]
theorem literal_whole (b : List UInt8) : literal (whole b) = b.length := by unfold whole; split <;> simp_all [literal, lit]
theorem copied_cp (a n : Int) : copied [cp a n] = n := by simp [copied, cp]
theorem literal_cp (a n : Int) : literal [cp a n] = 0 := by simp [literal, cp]
theorem cut_len (b : List UInt8) (i j : Nat) (h : i ≤ j) (hj : j ≤ b.length) : (cut b i j).length = j - i := by unfold cut; rw [List.length_take, List.length_drop]; omega
theorem whole_nil (b : List UInt8) (h : b.length = 0) : whole b = [] := if_pos h
theorem whole_len (b : List UInt8) : (whole b).length ≤ 1 := by unfold whole; split <;> simp
theorem last_split (out : List O) (o : O) (h : out.getLast? = some o) : out = out.dropLast ++ [o] := by
  have hne : out ≠ [] := by intro e; rw [e] at h; cases h
  rw [List.getLast?_eq_some_getLast hne] at h
  injection h with h
  rw [← h]
  exact (List.dropLast_concat_getLast hne).symm
theorem grow_eq (out : List O) (o : O) (z : Nat) (h : out.getLast? = some o) : grow out z = out.dropLast ++ [{ o with n := o.n + z }] := by unfold grow; rw [h]
/-- an invariant of the search's steps -/
theorem srch_ind (F : List UInt8 → Int × Bool) (z : Nat) (b : List UInt8) (hz : 1 ≤ z) (I : List O → Nat → Nat → Prop)
    (h1 : ∀ out frm i, I out frm i → i + z ≤ b.length → (F (cut b i (i + z))).2 = true → I (put1 z b out frm i (F (cut b i (i + z))).1) (i + z) (i + z))
    (h2 : ∀ out frm i, I out frm i → i + z ≤ b.length → (F (cut b i (i + z))).2 = false → I out frm (i + 1)) :
    ∀ f out frm i, I out frm i → b.length < i + f → ∃ i', I (srch F z b f out frm i).1 (srch F z b f out frm i).2 i' ∧ b.length < i' + z
  | 0, out, frm, i, h, hf => ⟨i, h, by omega⟩
  | f + 1, out, frm, i, h, hf => by
    unfold srch
    by_cases hb : i + z ≤ b.length
    · rw [if_pos hb]
      cases hF : (F (cut b i (i + z))).2 with
      | true =>
        simp only [if_true]
        exact srch_ind F z b hz I h1 h2 f _ _ _ (h1 out frm i h hb hF) (by omega)
      | false =>
        simp only [Bool.false_eq_true, if_false]
        exact srch_ind F z b hz I h1 h2 f _ _ _ (h2 out frm i h hb hF) (by omega)
    · rw [if_neg hb]
      exact ⟨i, h, by omega⟩
/-- more fuel changes nothing -/
theorem srch_fuel (F : List UInt8 → Int × Bool) (z : Nat) (b : List UInt8) (hz : 1 ≤ z) : ∀ f g out frm i, b.length < i + f → b.length < i + g → srch F z b f out frm i = srch F z b g out frm i
  | 0, 0, out, frm, i, h1, h2 => rfl
  | 0, g + 1, out, frm, i, h1, h2 => by
    unfold srch
    rw [if_neg (by omega)]
  | f + 1, 0, out, frm, i, h1, h2 => by
    unfold srch
    rw [if_neg (by omega)]
  | f + 1, g + 1, out, frm, i, h1, h2 => by
    unfold srch
    by_cases hb : i + z ≤ b.length
    · rw [if_pos hb, if_pos hb]
      cases hF : (F (cut b i (i + z))).2 with
      | true =>
        simp only [if_true]
        exact srch_fuel F z b hz f g _ _ _ (by omega) (by omega)
      | false =>
        simp only [Bool.false_eq_true, if_false]
        exact srch_fuel F z b hz f g _ _ _ (by omega) (by omega)
    · rw [if_neg hb, if_neg hb]
/-- what is left of a search -/
def rest (F : List UInt8 → Int × Bool) (z : Nat) (b : List UInt8) (out : List O) (frm i : Nat) : List O × Nat := srch F z b (b.length + 1 - i) out frm i
theorem rest_zero (F : List UInt8 → Int × Bool) (z : Nat) (b : List UInt8) : rest F z b [] 0 0 = srch F z b (b.length + 1) [] 0 0 := rfl
theorem rest_hit (F : List UInt8 → Int × Bool) (z : Nat) (b : List UInt8) (hz : 1 ≤ z) (out : List O) (frm i : Nat) (hb : i + z ≤ b.length) (hF : (F (cut b i (i + z))).2 = true) : rest F z b out frm i = rest F z b (put1 z b out frm i (F (cut b i (i + z))).1) (i + z) (i + z) := by
  unfold rest
  obtain ⟨k, hk⟩ : ∃ k, b.length + 1 - i = k + 1 := ⟨b.length - i, by omega⟩
  rw [hk, srch, if_pos hb, hF]
  simp only [if_true]
  exact srch_fuel F z b hz _ _ _ _ _ (by omega) (by omega)
theorem rest_miss (F : List UInt8 → Int × Bool) (z : Nat) (b : List UInt8) (hz : 1 ≤ z) (out : List O) (frm i : Nat) (hb : i + z ≤ b.length) (hF : (F (cut b i (i + z))).2 = false) : rest F z b out frm i = rest F z b out frm (i + 1) := by
  unfold rest
  obtain ⟨k, hk⟩ : ∃ k, b.length + 1 - i = k + 1 := ⟨b.length - i, by omega⟩
  rw [hk, srch, if_pos hb, hF]
  simp only [Bool.false_eq_true, if_false]
  exact srch_fuel F z b hz _ _ _ _ _ (by omega) (by omega)
theorem rest_end (F : List UInt8 → Int × Bool) (z : Nat) (b : List UInt8) (out : List O) (frm i : Nat) (hb : ¬ i + z ≤ b.length) : rest F z b out frm i = (out, frm) := by
  unfold rest
  cases h : b.length + 1 - i with
  | zero => rfl
  | succ k => rw [srch, if_neg hb]
end Tm
end Go.Proofs.Ytiofkhjpknfkgaa
/- Operations in memory: rows of four cells, each with bytes of its own. -/
namespace Go.Proofs.Ytiofkhjpknfkgaa
namespace Os_
open Go.RowKit Ba Tm
set_option linter.unusedVariables false
/-- an operation, where its bytes lie, and the room there -/
abbrev Ow := O × Option Addr × Nat
def opv (x : Ow) : List Value := [.bool x.1.copy, .int .i64 x.1.pos, .int .i64 x.1.n, .slice x.2.1 x.1.data.length x.2.2]
theorem opv_len (x : Ow) : (opv x).length = 4 := rfl
theorem opv_one (x : Ow) : ∀ v ∈ opv x, v.oneCell' = true := by
  intro v hv
  simp only [opv, List.mem_cons, List.not_mem_nil, or_false] at hv
  rcases hv with rfl | rfl | rfl | rfl <;> rfl
def WfO (w : World) (B : Nat) (x : Ow) : Prop := (-9223372036854775808 ≤ x.1.pos ∧ x.1.pos ≤ 9223372036854775807) ∧ (-9223372036854775808 ≤ x.1.n ∧ x.1.n ≤ 9223372036854775807) ∧ x.1.data.length ≤ x.2.2 ∧ x.2.2 ≤ 9223372036854775807 ∧ ReadB w B x.2.1 x.1.data
theorem WfO.below {w w' : World} {B : Nat} {x : Ow} (h : WfO w B x) (hb : Below B w w') : WfO w' B x := ⟨h.1, h.2.1, h.2.2.1, h.2.2.2.1, h.2.2.2.2.below hb⟩
theorem WfO.more {w : World} {B B' : Nat} {x : Ow} (h : WfO w B x) (hB : B ≤ B') : WfO w B' x := ⟨h.1, h.2.1, h.2.2.1, h.2.2.2.1, h.2.2.2.2.more hB⟩
/-- operations that are read -/
def ReadO (w : World) (B : Nat) (A : Option Addr) (L : List Ow) : Prop := ReadRow opv 4 w B A L ∧ ∀ x ∈ L, WfO w B x
def ops (L : List Ow) : List O := L.map (·.1)
theorem ops_len (L : List Ow) : (ops L).length = L.length := by simp [ops]
theorem ReadO.nil {w : World} {B : Nat} {A : Option Addr} : ReadO w B A [] := ⟨ReadRow.nil, fun x h => absurd h (by simp)⟩
theorem ReadO.below {w w' : World} {B : Nat} {A : Option Addr} {L : List Ow} (h : ReadO w B A L) (hb : Below B w w') : ReadO w' B A L := ⟨h.1.below hb, fun x hx => (h.2 x hx).below hb⟩
theorem ReadO.more {w : World} {B B' : Nat} {A : Option Addr} {L : List Ow} (h : ReadO w B A L) (hB : B ≤ B') : ReadO w B' A L := ⟨h.1.more hB, fun x hx => (h.2 x hx).more hB⟩
end Os_
end Go.Proofs.Ytiofkhjpknfkgaa
/- The numbers of the wire, in plain lists: their least width, their bytes, and how they are read. -/
namespace Go.Proofs.Ytiofkhjpknfkgaa
namespace Vm
/-- a width -/
def W4 (w : Nat) : Prop := w = 1 ∨ w = 2 ∨ w = 4 ∨ w = 8
def lim : Nat → Int | 1 => 64 | 2 => 16384 | 4 => 1073741824 | _ => 4611686018427387904
def tag : Nat → Nat | 1 => 0 | 2 => 1 | 4 => 2 | _ => 3
def len (n : Int) : Nat := if n < 0 then 0 else if n < 64 then 1 else if n < 16384 then 2 else if n < 1073741824 then 4 else if n < 4611686018427387904 then 8 else 0
def be : Nat → Nat → List UInt8
  | 0, _ => []
  | w + 1, m => UInt8.ofNat (m / 256 ^ w) :: be w m
theorem be_length (w m : Nat) : (be w m).length = w := by induction w with | zero => rfl | succ w ih => simp [be, ih]
def top (w : Nat) : Nat := tag w * 64 * 256 ^ (w - 1)
def enc (n w : Nat) : List UInt8 := be w (n + top w)
def putIn (n w : Int) : List UInt8 × Int :=
  if ¬ (w = 1 ∨ w = 2 ∨ w = 4 ∨ w = 8) then ([], 2) else if n < 0 ∨ lim w.toNat ≤ n then ([], 13) else (enc n.toNat w.toNat, 0)
def put (n : Int) : List UInt8 × Int := if len n = 0 then ([], 13) else (enc n.toNat (len n), 0)
def w8 (b : UInt8) : Nat := 2 ^ (b.toNat / 64)
def val (acc : Nat) (l : List UInt8) : Nat := l.foldl (fun a c => a * 256 + c.toNat) acc
def get : List UInt8 → Nat × Nat × Int
  | [] => (0, 0, 3)
  | b :: r => if (b :: r).length < w8 b then (0, 0, 3) else (val (b.toNat % 64) (r.take (w8 b - 1)), w8 b, 0)
def shortest (l : List UInt8) : Nat × Nat × Int := if (get l).2.2 ≠ 0 then (0, 0, (get l).2.2) else if len (get l).1 < (get l).2.1 then (0, 0, 4) else get l

theorem w8_cases (b : UInt8) : w8 b = 1 ∨ w8 b = 2 ∨ w8 b = 4 ∨ w8 b = 8 := by
  unfold w8
  have := b.toNat_lt
  have h : b.toNat / 64 = 0 ∨ b.toNat / 64 = 1 ∨ b.toNat / 64 = 2 ∨ b.toNat / 64 = 3 := by omega
  rcases h with h | h | h | h <;> simp [h]
theorem val_lt (acc : Nat) (l : List UInt8) : val acc l < (acc + 1) * 256 ^ l.length := by
  induction l generalizing acc with
  | nil => simp [val]
  | cons c l ih =>
    have h := ih (acc * 256 + c.toNat)
    have hc := c.toNat_lt
    have e : val acc (c :: l) = val (acc * 256 + c.toNat) l := rfl
    rw [e]
    refine Nat.lt_of_lt_of_le h ?_
    rw [List.length_cons, Nat.pow_succ, Nat.mul_comm (256 ^ l.length) 256, ← Nat.mul_assoc]
    exact Nat.mul_le_mul_right _ (by omega)
theorem get_lt (b : UInt8) (r : List UInt8) (h : (b :: r).length < w8 b) : get (b :: r) = (0, 0, 3) := if_pos h
theorem get_ge (b : UInt8) (r : List UInt8) (h : ¬ (b :: r).length < w8 b) : get (b :: r) = (val (b.toNat % 64) (r.take (w8 b - 1)), w8 b, 0) := if_neg h
theorem get_bound (l : List UInt8) : (get l).1 < 4611686018427387904 ∧ ((get l).2.2 = 0 → ((get l).2.1 = 1 ∨ (get l).2.1 = 2 ∨ (get l).2.1 = 4 ∨ (get l).2.1 = 8) ∧ (get l).2.1 ≤ l.length) ∧ ((get l).2.2 = 0 ∨ (get l).2.2 = 3) := by
  cases l with
  | nil => simp [get]
  | cons b r =>
    by_cases h : (b :: r).length < w8 b
    · rw [get_lt b r h]; simp
    · rw [get_ge b r h]
      have hl : (r.take (w8 b - 1)).length ≤ 7 := by have := w8_cases b; simp; omega
      have hv := val_lt (b.toNat % 64) (r.take (w8 b - 1))
      have hp : 256 ^ (r.take (w8 b - 1)).length ≤ 256 ^ 7 := Nat.pow_le_pow_right (by omega) hl
      have hm : (b.toNat % 64 + 1) * 256 ^ (r.take (w8 b - 1)).length ≤ 64 * 256 ^ 7 := Nat.mul_le_mul (by omega) hp
      have := w8_cases b
      refine ⟨?_, fun _ => ⟨this, ?_⟩, .inl rfl⟩
      · show val (b.toNat % 64) (r.take (w8 b - 1)) < _
        omega
      · show w8 b ≤ _
        omega
theorem get_err (l : List UInt8) (h : (get l).2.2 ≠ 0) : get l = (0, 0, 3) := by
  cases l with
  | nil => rfl
  | cons b r =>
    by_cases hl : (b :: r).length < w8 b
    · exact get_lt b r hl
    · rw [get_ge b r hl] at h; simp at h
theorem be_mod (w m k : Nat) : be w (m + k * 256 ^ w) = be w m := by
  induction w generalizing k with
  | zero => rfl
  | succ w ih =>
    simp only [be]
    have e : m + k * 256 ^ (w + 1) = m + (k * 256) * 256 ^ w := by rw [Nat.pow_succ, Nat.mul_comm (256 ^ w), Nat.mul_assoc]
    rw [e, ih, Nat.add_mul_div_right _ _ (Nat.pow_pos (by omega))]
    congr 1
    apply UInt8.toNat_inj.1
    simp
theorem val_be (w m acc : Nat) : val acc (be w m) = acc * 256 ^ w + m % 256 ^ w := by
  induction w generalizing acc with
  | zero => simp [be, val]; omega
  | succ w ih =>
    have e : val acc (be (w + 1) m) = val (acc * 256 + (UInt8.ofNat (m / 256 ^ w)).toNat) (be w m) := rfl
    rw [e, ih]
    have h1 : (UInt8.ofNat (m / 256 ^ w)).toNat = m / 256 ^ w % 256 := by simp
    rw [h1, Nat.pow_succ, Nat.mod_mul, Nat.add_mul, Nat.mul_assoc, Nat.mul_comm (256 ^ w) 256]
    rw [Nat.mul_comm (m / 256 ^ w % 256)]
    omega
theorem enc_length (n w : Nat) : (enc n w).length = w := be_length ..
theorem enc_cons (n w : Nat) (hw : W4 w) (hn : (n : Int) < lim w) : enc n w = UInt8.ofNat (n / 256 ^ (w - 1) + tag w * 64) :: be (w - 1) n := by
  have key : ∀ k t, be (k + 1) (n + t * 64 * 256 ^ k) = UInt8.ofNat (n / 256 ^ k + t * 64) :: be k n := fun k t => by
    rw [be, Nat.add_mul_div_right _ _ (Nat.pow_pos (by omega)), be_mod]
  rcases hw with rfl | rfl | rfl | rfl
  · exact key 0 0
  · exact key 1 1
  · exact key 3 2
  · exact key 7 3
theorem get_enc (n w : Nat) (hw : W4 w) (hn : (n : Int) < lim w) (r : List UInt8) : get (enc n w ++ r) = (n, w, 0) := by
  rw [enc_cons n w hw hn, List.cons_append, get]
  have hlt : n / 256 ^ (w - 1) < 64 := by rcases hw with rfl | rfl | rfl | rfl <;> simp only [lim] at hn <;> simp only [Nat.reduceSub, Nat.reducePow] <;> omega
  have ht : tag w < 4 := by rcases hw with rfl | rfl | rfl | rfl <;> simp [tag]
  have hb : (UInt8.ofNat (n / 256 ^ (w - 1) + tag w * 64)).toNat = n / 256 ^ (w - 1) + tag w * 64 := by
    rw [UInt8.toNat_ofNat']; exact Nat.mod_eq_of_lt (by omega)
  have h8 : w8 (UInt8.ofNat (n / 256 ^ (w - 1) + tag w * 64)) = w := by
    unfold w8
    rw [hb, show ∀ x t : Nat, x < 64 → (x + t * 64) / 64 = t from fun x t h => by omega] <;> first | exact hlt | skip
    rcases hw with rfl | rfl | rfl | rfl <;> rfl
  have hm : (n / 256 ^ (w - 1) + tag w * 64) % 64 = n / 256 ^ (w - 1) := (show ∀ x t : Nat, x < 64 → (x + t * 64) % 64 = x from fun x t h => by omega) _ _ hlt
  have hpos : 0 < w := by rcases hw with rfl | rfl | rfl | rfl <;> omega
  rw [h8, hb, hm, if_neg (by simp [be_length]; omega)]
  rw [List.take_append_of_le_length (by rw [be_length]; exact Nat.le_refl _), List.take_of_length_le (by rw [be_length]; exact Nat.le_refl _), val_be]
  rw [Nat.mul_comm, Nat.div_add_mod]
theorem len_w4 (n : Int) : len n = 0 ∨ (W4 (len n) ∧ 0 ≤ n ∧ n < lim (len n)) := by
  unfold len
  repeat' split
  all_goals (first | (left; rfl) | (right; refine ⟨by simp [W4], by omega, by simp [lim]; omega⟩))
theorem len_min (n : Int) (w : Nat) (hw : W4 w) (h0 : 0 ≤ n) (h : n < lim w) : len n ≤ w ∧ len n ≠ 0 := by
  rcases hw with rfl | rfl | rfl | rfl <;> simp only [lim] at h <;> unfold len <;> (repeat' split) <;> omega
theorem len_zero (n : Int) : len n = 0 ↔ n < 0 ∨ 4611686018427387904 ≤ n := by
  unfold len
  repeat' split
  all_goals simp
  all_goals omega
theorem putIn_ok (n : Int) (w : Nat) (hw : W4 w) (h0 : 0 ≤ n) (h : n < lim w) : putIn n w = (enc n.toNat w, 0) := by
  have h1 : ((w : Int) = 1 ∨ (w : Int) = 2 ∨ (w : Int) = 4 ∨ (w : Int) = 8) := by unfold W4 at hw; omega
  unfold putIn
  rw [if_neg (by rw [Classical.not_not]; exact h1), if_neg (by simp; omega)]
  simp
theorem put_eq (n : Int) : put n = if len n = 0 then ([], 13) else putIn n (len n) := by
  unfold put
  split
  · rfl
  · rename_i h
    rcases len_w4 n with h' | ⟨hw, h0, hl⟩
    · exact absurd h' h
    · rw [putIn_ok n _ hw h0 hl]
def tell (d : Int) : Int := if d = 1 then 0 else if d = 2 then 1 else if d = 4 then 2 else if d = 8 then 3 else -1
theorem tell_pow (k : Nat) (h : k < 4) : tell ((2 ^ k : Nat) : Int) = k := by
  have : k = 0 ∨ k = 1 ∨ k = 2 ∨ k = 3 := by omega
  rcases this with rfl | rfl | rfl | rfl <;> rfl
theorem tell_none (d : Int) (h : ∀ j : Nat, j < 4 → d ≠ ((2 ^ j : Nat) : Int)) : tell d = -1 := by
  have h0 := h 0 (by omega); have h1 := h 1 (by omega); have h2 := h 2 (by omega); have h3 := h 3 (by omega)
  simp at h0 h1 h2 h3
  simp [tell, h0, h1, h2, h3]
theorem tell_tag (w : Nat) (h : W4 w) : tell w = tag w := by rcases h with rfl | rfl | rfl | rfl <;> rfl
theorem len_pow (n : Int) (k : Nat) (h : k < 4) (h0 : 0 ≤ n) (h1 : n < lim (2 ^ k)) (hp : 0 < k → n < 0 ∨ lim (2 ^ (k - 1)) ≤ n) : len n = 2 ^ k := by
  have : k = 0 ∨ k = 1 ∨ k = 2 ∨ k = 3 := by omega
  rcases this with rfl | rfl | rfl | rfl <;> simp [lim] at h1 hp <;> unfold len <;> (repeat' split) <;> (first | rfl | omega)
theorem len_none (n : Int) (h : n < 0 ∨ 4611686018427387904 ≤ n) : len n = 0 := (len_zero n).2 h
theorem val_snoc (acc : Nat) (l : List UInt8) (k : Nat) (h : k < l.length) : val acc (l.take (k + 1)) = val acc (l.take k) * 256 + (l.getD k 0).toNat := by
  rw [List.take_succ_eq_append_getElem h, val, List.foldl_append]
  simp [val, List.getD, h]
theorem val_small (b : UInt8) (l : List UInt8) (k : Nat) (h : k ≤ 6) : val (b.toNat % 64) (l.take k) < 18014398509481984 := by
  have hv := val_lt (b.toNat % 64) (l.take k)
  have hp : 256 ^ (l.take k).length ≤ 256 ^ 6 := Nat.pow_le_pow_right (by omega) (by simp; omega)
  have hm : (b.toNat % 64 + 1) * 256 ^ (l.take k).length ≤ 64 * 256 ^ 6 := Nat.mul_le_mul (by omega) hp
  omega
theorem be_set (N k m : Nat) (h : m + 1 ≤ k) : (List.replicate (m + 1) (0 : UInt8) ++ be (k - (m + 1)) N).set m (UInt8.ofNat (N / 256 ^ (k - (m + 1)) % 256)) = List.replicate m 0 ++ be (k - m) N := by
  have e : k - m = (k - (m + 1)) + 1 := by omega
  have e2 : UInt8.ofNat (N / 256 ^ (k - (m + 1)) % 256) = UInt8.ofNat (N / 256 ^ (k - (m + 1))) := UInt8.toNat_inj.1 (by simp)
  rw [e, be, List.replicate_succ', List.append_assoc, List.set_append_right _ _ (by simp), e2]
  simp
theorem enc_of_be (N k : Nat) (hk : W4 k) (hN : (N : Int) < lim k) : (be k N).set 0 (UInt8.ofNat ((N / 256 ^ (k - 1)) % 256 ||| tag k * 64)) = enc N k := by
  rw [enc_cons N k hk hN]
  have hlt : N / 256 ^ (k - 1) < 64 := by rcases hk with rfl | rfl | rfl | rfl <;> simp only [lim] at hN <;> simp only [Nat.reduceSub, Nat.reducePow] <;> omega
  have e : N / 256 ^ (k - 1) % 256 ||| tag k * 64 = N / 256 ^ (k - 1) + tag k * 64 := by
    rw [Nat.mod_eq_of_lt (by omega)]
    have := Nat.two_pow_add_eq_or_of_lt (i := 6) (b := N / 256 ^ (k - 1)) (by omega) (tag k)
    rw [Nat.or_comm, Nat.mul_comm (tag k) 64, show (64 : Nat) = 2 ^ 6 from rfl, ← this]
    omega
  rw [e]
  have hpos : ∃ j, k = j + 1 := ⟨k - 1, by rcases hk with rfl | rfl | rfl | rfl <;> rfl⟩
  obtain ⟨j, rfl⟩ := hpos
  simp [be]
theorem be_head (N k : Nat) (hk : 1 ≤ k) : (be k N).getD 0 0 = UInt8.ofNat (N / 256 ^ (k - 1)) := by
  obtain ⟨j, rfl⟩ : ∃ j, k = j + 1 := ⟨k - 1, by omega⟩
  simp [be]
theorem be_take_succ (N k j : Nat) (h : j < k) : (be k N).take (j + 1) = (be k N).take j ++ [UInt8.ofNat (N / 256 ^ (k - 1 - j))] := by
  induction k generalizing j with
  | zero => omega
  | succ k ih =>
    cases j with
    | zero => simp [be]
    | succ j => simp only [be, List.take_succ_cons, List.cons_append]; rw [ih j (by omega), show k + 1 - 1 - (j + 1) = k - 1 - j by omega]
theorem be_add_enc (N k : Nat) (hk : W4 k) (hN : (N : Int) < lim k) : (be k N).set 0 (UInt8.ofNat ((N / 256 ^ (k - 1)) % 256 + tag k * 64)) = enc N k := by
  rw [enc_cons N k hk hN]
  have hlt : N / 256 ^ (k - 1) < 64 := by rcases hk with rfl | rfl | rfl | rfl <;> simp only [lim] at hN <;> simp only [Nat.reduceSub, Nat.reducePow] <;> omega
  rw [Nat.mod_eq_of_lt (by omega)]
  obtain ⟨j, rfl⟩ : ∃ j, k = j + 1 := ⟨k - 1, by rcases hk with rfl | rfl | rfl | rfl <;> rfl⟩
  simp [be]
end Vm
end Go.Proofs.Ytiofkhjpknfkgaa
/- Laws on the numbers of the wire, in plain lists: read as put, cut off, in their order. -/
namespace Go.Proofs.Ytiofkhjpknfkgaa
namespace Vm
theorem shortest_enc (n w : Nat) (hw : W4 w) (hn : (n : Int) < lim w) : shortest (enc n w) = if len n < w then (0, 0, 4) else (n, w, 0) := by
  have h := get_enc n w hw hn []
  rw [List.append_nil] at h
  unfold shortest
  rw [h]
  simp
theorem get_cut (n w m : Nat) (hw : W4 w) (hn : (n : Int) < lim w) (hm : m < w) : get ((enc n w).take m) = (0, 0, 3) := by
  rw [enc_cons n w hw hn]
  rcases m with _ | m
  · rfl
  · rw [List.take_succ_cons]
    apply get_lt
    have hlt : n / 256 ^ (w - 1) < 64 := by rcases hw with rfl | rfl | rfl | rfl <;> simp only [lim] at hn <;> simp only [Nat.reduceSub, Nat.reducePow] <;> omega
    have ht : tag w < 4 := by rcases hw with rfl | rfl | rfl | rfl <;> simp [tag]
    have hb : (UInt8.ofNat (n / 256 ^ (w - 1) + tag w * 64)).toNat = n / 256 ^ (w - 1) + tag w * 64 := by
      rw [UInt8.toNat_ofNat']; exact Nat.mod_eq_of_lt (by omega)
    have h8 : w8 (UInt8.ofNat (n / 256 ^ (w - 1) + tag w * 64)) = w := by
      unfold w8
      rw [hb, (show ∀ x t : Nat, x < 64 → (x + t * 64) / 64 = t from fun x t h => by omega) _ _ hlt]
      rcases hw with rfl | rfl | rfl | rfl <;> rfl
    rw [h8]
    simp
    omega
theorem be_less (w a b : Nat) (ha : a < 256 ^ w) (hb : b < 256 ^ w) : Op.bytesLess (be w a) (be w b) = decide (a < b) := by
  induction w generalizing a b with
  | zero => simp at ha hb; subst ha hb; rfl
  | succ w ih =>
    have hp : 0 < 256 ^ w := Nat.pow_pos (by omega)
    rw [Nat.pow_succ, Nat.mul_comm] at ha hb
    have hqa : a / 256 ^ w < 256 := Nat.div_lt_of_lt_mul (by rw [Nat.mul_comm]; exact ha)
    have hqb : b / 256 ^ w < 256 := Nat.div_lt_of_lt_mul (by rw [Nat.mul_comm]; exact hb)
    have hra : a % 256 ^ w < 256 ^ w := Nat.mod_lt _ hp
    have hrb : b % 256 ^ w < 256 ^ w := Nat.mod_lt _ hp
    have hma : be w a = be w (a % 256 ^ w) := by
      conv => lhs; rw [← Nat.mod_add_div a (256 ^ w), Nat.mul_comm, be_mod]
    have hmb : be w b = be w (b % 256 ^ w) := by
      conv => lhs; rw [← Nat.mod_add_div b (256 ^ w), Nat.mul_comm, be_mod]
    have ea := Nat.div_add_mod a (256 ^ w)
    have eb := Nat.div_add_mod b (256 ^ w)
    simp only [be, Op.bytesLess]
    rw [hma, hmb, ih _ _ hra hrb, Bool.eq_iff_iff]
    simp only [Bool.or_eq_true, Bool.and_eq_true, decide_eq_true_eq, beq_iff_eq, UInt8.lt_iff_toNat_lt, ← UInt8.toNat_inj, UInt8.toNat_ofNat', Nat.reducePow, Nat.mod_eq_of_lt hqa, Nat.mod_eq_of_lt hqb]
    rcases Nat.lt_trichotomy (a / 256 ^ w) (b / 256 ^ w) with h | h | h
    · have h3 : 256 ^ w * (a / 256 ^ w + 1) ≤ 256 ^ w * (b / 256 ^ w) := Nat.mul_le_mul_left _ h
      rw [Nat.mul_add] at h3
      constructor
      · intro _; omega
      · intro _; exact .inl h
    · rw [h] at ea
      constructor
      · rintro (h2 | h2) <;> omega
      · intro h2; right; omega
    · have h3 : 256 ^ w * (b / 256 ^ w + 1) ≤ 256 ^ w * (a / 256 ^ w) := Nat.mul_le_mul_left _ h
      rw [Nat.mul_add] at h3
      constructor
      · rintro (h2 | h2) <;> omega
      · intro _; omega
theorem enc_less (a b w : Nat) (hw : W4 w) (ha : (a : Int) < lim w) (hb : (b : Int) < lim w) : Op.bytesLess (enc a w) (enc b w) = decide (a < b) := by
  unfold enc
  rw [be_less]
  · simp
  · rcases hw with rfl | rfl | rfl | rfl <;> simp only [lim] at ha <;> simp only [top, tag] <;> omega
  · rcases hw with rfl | rfl | rfl | rfl <;> simp only [lim] at hb <;> simp only [top, tag] <;> omega
theorem enc_inj (a b w v : Nat) (hw : W4 w) (hv : W4 v) (ha : (a : Int) < lim w) (hb : (b : Int) < lim v) (h : enc a w = enc b v) : a = b := by
  have h1 := get_enc a w hw ha []
  have h2 := get_enc b v hv hb []
  rw [h, h2] at h1
  simp only [Prod.mk.injEq] at h1
  exact h1.1.symm
end Vm
end Go.Proofs.Ytiofkhjpknfkgaa
