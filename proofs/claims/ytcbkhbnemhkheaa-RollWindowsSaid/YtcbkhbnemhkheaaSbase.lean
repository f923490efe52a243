/- Words of 32 bits in the walk: they stand behind a name of their own. -/
import Derived.Test.YtcbkhbnemhkheaaBase2
import Derived.Test.YtcbkhbnemhkheaaSmath
import Derived.StillTailTactics
import Derived.Deep.MidRow
namespace Go.Proofs.Ytcbkhbnemhkheaa
namespace Sm
open Go.RowKit Ba
set_option linter.unusedVariables false

/-- a word as a number -/
def U (x : UInt32) : Int := (x.toNat : Int)
/-- a word as a value -/
def wv (x : UInt32) : Value := .int .u32 (U x)
def wvs (l : List UInt32) : List Value := l.map wv
theorem U_lt (x : UInt32) : x.toNat < 4294967296 := x.toNat_lt
theorem ofInt_u32 (x : UInt32) : (BitVec.ofInt 32 (U x)).toNat = x.toNat := by
  unfold U
  rw [BitVec.ofInt_natCast, BitVec.toNat_ofNat]; exact Nat.mod_eq_of_lt (by have := U_lt x; omega)
theorem U_add (a b : UInt32) : IntKind.u32.wrap (U a + U b) = U (a + b) := by
  unfold U
  rw [IntKind.wrap_u32, UInt32.toNat_add]; omega
theorem U_add' (a b : UInt32) : (U a + U b) % 4294967296 = U (a + b) := by
  unfold U
  rw [UInt32.toNat_add]; omega
theorem U_xor (a b : UInt32) : bits .xor .u32 (U a) (U b) = U (a ^^^ b) := by
  have h := U_lt (a ^^^ b)
  show IntKind.u32.wrap ((BitVec.ofInt 32 (U a) ^^^ BitVec.ofInt 32 (U b)).toNat : Int) = _
  rw [BitVec.toNat_xor, ofInt_u32, ofInt_u32, IntKind.wrap_u32, ← UInt32.toNat_xor]
  unfold U
  omega
theorem U_max : IntKind.u32.max = U 4294967295 := by decide
theorem U_not (a : UInt32) : bits .xor .u32 IntKind.u32.max (U a) = U (~~~a) := by
  rw [U_max, U_xor]
  have e : 4294967295 ^^^ a = ~~~a := by
    apply UInt32.toBitVec_inj.1
    rw [UInt32.toBitVec_xor, UInt32.toBitVec_not]
    show BitVec.allOnes 32 ^^^ a.toBitVec = _
    rw [BitVec.allOnes_xor]
  rw [e]
theorem U_not' (a : UInt32) : bits .xor .u32 (if IntKind.u32.signed = true then -1 else IntKind.u32.max) (U a) = U (~~~a) := U_not a
theorem U_and (a b : UInt32) : bits .and .u32 (U a) (U b) = U (a &&& b) := by
  have h := U_lt (a &&& b)
  show IntKind.u32.wrap ((BitVec.ofInt 32 (U a) &&& BitVec.ofInt 32 (U b)).toNat : Int) = _
  rw [BitVec.toNat_and, ofInt_u32, ofInt_u32, IntKind.wrap_u32, ← UInt32.toNat_and]
  unfold U
  omega
theorem U_or (a b : UInt32) : bits .or .u32 (U a) (U b) = U (a ||| b) := by
  have h := U_lt (a ||| b)
  show IntKind.u32.wrap ((BitVec.ofInt 32 (U a) ||| BitVec.ofInt 32 (U b)).toNat : Int) = _
  rw [BitVec.toNat_or, ofInt_u32, ofInt_u32, IntKind.wrap_u32, ← UInt32.toNat_or]
  unfold U
  omega
theorem U_shl (a : UInt32) (n : Nat) (hn : n < 32) : IntKind.u32.wrap (U a * (2 : Int) ^ n) = U (a <<< UInt32.ofNat n) := by
  unfold U
  rw [IntKind.wrap_u32, UInt32.toNat_shiftLeft, UInt32.toNat_ofNat', Nat.mod_eq_of_lt (show n < 2 ^ 32 by omega), Nat.mod_eq_of_lt hn, Nat.shiftLeft_eq]
  have e : ((a.toNat : Int) * 2 ^ n) = ((a.toNat * 2 ^ n : Nat) : Int) := by rw [Int.natCast_mul, Int.natCast_pow]; rfl
  rw [e]
  rfl
theorem U_shr (a : UInt32) (n : Nat) (hn : n < 32) : U a / ((2 : Int) ^ n) = U (a >>> UInt32.ofNat n) := by
  unfold U
  rw [UInt32.toNat_shiftRight, UInt32.toNat_ofNat', Nat.mod_eq_of_lt (show n < 2 ^ 32 by omega), Nat.mod_eq_of_lt hn, Nat.shiftRight_eq_div_pow]
  have e : ((2 : Int) ^ n) = ((2 ^ n : Nat) : Int) := by rw [Int.natCast_pow]; rfl
  rw [e]
  rfl
theorem U_shl' (a : UInt32) (n : Nat) (hn : n < 32) : U a * (2 : Int) ^ n % (4294967296 : Int) = U (a <<< UInt32.ofNat n) := by rw [← U_shl a n hn, IntKind.wrap_u32]
theorem U_shr3 (a : UInt32) : U a / (8 : Int) = U (a >>> 3) := U_shr a 3 (by omega)
theorem U_shr10 (a : UInt32) : U a / (1024 : Int) = U (a >>> 10) := U_shr a 10 (by omega)
theorem U_shl8 (a : UInt32) : U a * (256 : Int) % (4294967296 : Int) = U (a <<< 8) := U_shl' a 8 (by omega)
theorem U_shl16 (a : UInt32) : U a * (65536 : Int) % (4294967296 : Int) = U (a <<< 16) := U_shl' a 16 (by omega)
theorem U_shl24 (a : UInt32) : U a * (16777216 : Int) % (4294967296 : Int) = U (a <<< 24) := U_shl' a 24 (by omega)
theorem U_of_u8 (b : UInt8) : IntKind.u32.wrap (b.toNat : Int) = U b.toUInt32 := by
  have := b.toNat_lt
  unfold U
  rw [IntKind.wrap_u32, UInt8.toNat_toUInt32]; omega
/-! ### whole arrays out of and into the midst of a block -/
theorem toArray_set (l : List Value) (k : Nat) (u : Value) : l.toArray.setIfInBounds k u = (l.set k u).toArray := by simp
theorem Blk.setCells {w : World} {g : Nat} {t : TypeId} (vs : List Value) (pre old post : List Value) (h : Blk w g t (pre ++ (old ++ post)).toArray) (hl : old.length = vs.length) :
    Blk (w.setCells g pre.length vs) g t (pre ++ (vs ++ post)).toArray := by
  induction vs generalizing w pre old with
  | nil =>
    have : old = [] := List.eq_nil_of_length_eq_zero hl
    subst this
    exact h
  | cons v vs ih =>
    cases old with
    | nil => cases hl
    | cons u old =>
      have h1 := Blk.set_ h pre.length v
      rw [toArray_set] at h1
      have e : (pre ++ (u :: old ++ post)).set pre.length v = (pre ++ [v]) ++ (old ++ post) := by
        rw [List.set_append_right _ _ (by omega), Nat.sub_self]
        simp
      rw [e] at h1
      have := ih (pre ++ [v]) old h1 (by simpa using hl)
      simp only [List.length_append, List.length_cons, List.length_nil, Nat.zero_add, List.append_assoc, List.cons_append, List.nil_append] at this
      exact this
theorem only_setCells (w : World) (g o : Nat) (vs : List Value) : w.grownBy (w.setCells g o vs) (some g) := by
  induction vs generalizing w o with
  | nil => exact World.grownBy.refl w _
  | cons v vs ih => exact only_trans (only_set w g o v) (ih _ _)
theorem Blk.range {w : World} {g : Nat} {t : TypeId} (pre cs post : List Value) (h : Blk w g t (pre ++ (cs ++ post)).toArray) : w.rangeAt g pre.length cs := by
  intro j v hv
  rw [Blk.cell h]
  have hj : j < cs.length := by
    rcases Nat.lt_or_ge j cs.length with h1 | h1
    · exact h1
    · rw [List.getElem?_eq_none h1] at hv; cases hv
  simp only [List.getElem?_toArray]
  rw [List.getElem?_append_right (by omega), List.getElem?_append_left (by omega)]
  rw [show pre.length + j - pre.length = j by omega]
  exact hv
theorem Blk.there {w : World} {g : Nat} {t : TypeId} {cs : Array Value} (h : Blk w g t cs) (o n : Nat) (hn : o + n ≤ cs.size) : w.there g o n := by
  intro j hj
  refine ⟨?_, Blk.frozen h _⟩
  rw [Blk.cell h, Array.getElem?_eq_getElem (by omega)]
  rfl
/-- a row of values goes into the midst of a block -/
theorem wpList_store_blk {P : Program} {ops : Array Oper} {rest : List Oper} {op : Oper} {a : Act} {w : World} {Q : Exit → Act → World → Prop} (hgd : op.guard = none) (ty : TypeId) (x y : Operand) (ho : op.op = .store ty x y)
    (g o : Nat) (t : TypeId) (pre old post vs : List Value) (hx : a.eval x = .pointer (some ⟨g, o, none⟩)) (hy : a.eval y = .agg vs.toArray) (hb : Blk w g t (pre ++ (old ++ post)).toArray) (hp : pre.length = o) (hl : old.length = vs.length)
    (hi : (P.info? ty).map (·.size) = some vs.length) (h1 : ∀ v ∈ vs, v.oneCell' = true)
    (h : ∀ w', Blk w' g t (pre ++ (vs ++ post)).toArray → w.grownBy w' (some g) → wpList P ops Q rest (a.put op.dst undef) w') : wpList P ops Q (op :: rest) a w := by
  subst hp
  refine wpList_store_mid hgd ty x y ho g pre.length vs.toArray hx hy ?_ (by simpa using hi) (all_oneCell_toArray h1) ?_
  · refine Blk.there hb _ _ ?_
    simp
    omega
  · exact h _ (Blk.setCells vs pre old post hb hl) (only_setCells _ _ _ _)
theorem wpList_load_blk {P : Program} {ops : Array Oper} {rest : List Oper} {op : Oper} {a : Act} {w : World} {Q : Exit → Act → World → Prop} (hgd : op.guard = none) (ty : TypeId) (x : Operand) (ho : op.op = .load ty x)
    (g o : Nat) (t : TypeId) (pre cs post : List Value) (hx : a.eval x = .pointer (some ⟨g, o, none⟩)) (hb : Blk w g t (pre ++ (cs ++ post)).toArray) (hp : pre.length = o) (d : TypeDesc) (hu : P.underlying ty = some d) (hd : d.isRow = true)
    (hi : (P.info? ty).map (·.size) = some cs.length) (h : wpList P ops Q rest (a.put op.dst (.agg cs.toArray)) w) : wpList P ops Q (op :: rest) a w := by
  subst hp
  exact wpList_load_mid hgd ty x ho g pre.length hx cs d (Blk.range pre cs post hb) hu hd hi h
theorem wvs_one (l : List UInt32) : ∀ v ∈ wvs l, v.oneCell' = true := by
  intro u hu
  obtain ⟨_, _, rfl⟩ := List.mem_map.1 hu
  rfl
theorem wvs_len (l : List UInt32) : (wvs l).length = l.length := by simp [wvs]
theorem below_drewN {B : Nat} {a w : World} (h : Below B a w) (n : Nat) : Below B a (w.drewN n) := ⟨h.os, h.tape, h.output, h.size, h.block⟩
theorem only_after {a w w' : World} {g : Nat} (h : Below a.heap.size a w) (k : w.grownBy w' (some g)) (hB : a.heap.size ≤ g) : Below a.heap.size a w' := h.trans (below_of_only k hB h.size)
theorem undrewN {w w' : World} {n : Nat} {row : Option Nat} (h : (w.drewN n).grownBy w' row) : w.grownBy w' row := ⟨h.os, h.tape, h.output, h.size, h.block⟩
theorem grown_drew {w w' : World} {row : Option Nat} (h : w.grownBy w' row) : w.grownBy w'.drew row := ⟨h.os, h.tape, h.output, h.size, h.block⟩
theorem only_below {a w w' : World} {row : Option Nat} (h : a.grownBy w row) (k : Below a.heap.size w w') : a.grownBy w' row := ⟨k.os.trans h.os, k.tape.trans h.tape, k.output.trans h.output, Nat.le_trans h.size k.size, fun i hi hne => (k.block i hi).trans (h.block i hi hne)⟩
theorem undrew {w w' : World} {row : Option Nat} (h : w.drew.grownBy w' row) : w.grownBy w' row := ⟨h.os, h.tape, h.output, h.size, h.block⟩
/-- a block of words -/
def BlkW (w : World) (g : Nat) (t : TypeId) (l : List UInt32) : Prop := Blk w g t (wvs l).toArray
section
variable {w w' : World} {g : Nat} {t : TypeId} {l : List UInt32}
theorem BlkW.lt (h : BlkW w g t l) : g < w.heap.size := Blk.lt h
theorem BlkW.new_ (w : World) (t : TypeId) (cs : Array Value) (g : Nat) (l : List UInt32) (hg : g = w.heap.size) (h : cs = (wvs l).toArray) : BlkW (w.alloc (.cells cs t)) g t l := by
  subst hg h
  exact Blk.new w t _
theorem BlkW.cell (h : BlkW w g t l) (i : Nat) (hi : i < l.length) : w.cell? ⟨g, i, none⟩ = some (.int .u32 (U (Sm.g l i))) := by
  rw [Blk.cell h i]
  simp [wvs, wv, Sm.g, List.getD, hi]
theorem BlkW.frozen (h : BlkW w g t l) (i : Nat) : w.frozen? ⟨g, i, none⟩ = false := Blk.frozen h i
theorem BlkW.set_ (h : BlkW w g t l) (i : Nat) (x : UInt32) : BlkW (w.setCell ⟨g, i, none⟩ (.int .u32 (U x))) g t (l.set i x) := by
  have e : (wvs (l.set i x)).toArray = (wvs l).toArray.setIfInBounds i (.int .u32 (U x)) := by
    rw [List.setIfInBounds_toArray]
    simp [wvs, List.map_set, wv]
  unfold BlkW
  rw [e]
  exact Blk.set_ h i _
theorem BlkW.far (h : BlkW w g t l) {p : Addr} (hp : g ≠ p.block) (u : Value) : BlkW (w.setCell p u) g t l := Blk.far h hp u
theorem BlkW.below {B : Nat} (h : BlkW w g t l) (hb : Below B w w') (hg : g < B) : BlkW w' g t l := Blk.below h hb hg
theorem BlkW.drew (h : BlkW w g t l) : BlkW w.drew g t l := h
theorem BlkW.drewN (h : BlkW w g t l) (n : Nat) : BlkW (w.drewN n) g t l := h
theorem BlkW.alloc (h : BlkW w g t l) (o : Obj) : BlkW (w.alloc o) g t l := Blk.alloc h o
theorem BlkW.grown {row : Option Nat} (h : BlkW w g t l) (hb : w.grownBy w' row) (hg : some g ≠ row) : BlkW w' g t l := Blk.grown h hb hg
end
/-- a whole block of words is read -/
theorem wpList_loadW {P : Program} {ops : Array Oper} {rest : List Oper} {op : Oper} {a : Act} {w : World} {Q : Exit → Act → World → Prop} (hgd : op.guard = none) (ty : TypeId) (x : Operand) (ho : op.op = .load ty x)
    (g : Nat) (t : TypeId) (l : List UInt32) (hx : a.eval x = .pointer (some ⟨g, 0, none⟩)) (hb : BlkW w g t l) (d : TypeDesc) (hu : P.underlying ty = some d) (hd : d.isRow = true)
    (hi : (P.info? ty).map (·.size) = some l.length) (h : wpList P ops Q rest (a.put op.dst (.agg (wvs l).toArray)) w) : wpList P ops Q (op :: rest) a w :=
  wpList_load_blk hgd ty x ho g 0 t [] (wvs l) [] hx (by unfold BlkW at hb; simpa using hb) rfl d hu hd (by rw [wvs_len]; exact hi) h
/-- a whole block of words is written -/
theorem wpList_storeW {P : Program} {ops : Array Oper} {rest : List Oper} {op : Oper} {a : Act} {w : World} {Q : Exit → Act → World → Prop} (hgd : op.guard = none) (ty : TypeId) (x y : Operand) (ho : op.op = .store ty x y)
    (g : Nat) (t : TypeId) (l0 l : List UInt32) (hx : a.eval x = .pointer (some ⟨g, 0, none⟩)) (hy : a.eval y = .agg (wvs l).toArray) (hb : BlkW w g t l0) (hl : l0.length = l.length)
    (hi : (P.info? ty).map (·.size) = some l.length)
    (h : ∀ w', BlkW w' g t l → w.grownBy w' (some g) → wpList P ops Q rest (a.put op.dst undef) w') : wpList P ops Q (op :: rest) a w :=
  wpList_store_blk hgd ty x y ho g 0 t [] (wvs l0) [] (wvs l) hx hy (by unfold BlkW at hb; simpa using hb) rfl (by rw [wvs_len, wvs_len]; exact hl) (by rw [wvs_len]; exact hi) (wvs_one l) (fun w' h1 h2 => h w' (by unfold BlkW; simpa using h1) h2)
theorem cellP {w : World} {b : Nat} {t : TypeId} {l : List UInt32} {post : List Value} (h : Blk w b t (wvs l ++ post).toArray) (i : Nat) (hi : i < l.length) : w.cell? ⟨b, i, none⟩ = some (.int .u32 (U (Sm.g l i))) := by
  rw [Blk.cell h i, List.getElem?_toArray, List.getElem?_append_left (by rw [wvs_len]; exact hi)]
  simp [wvs, wv, Sm.g, List.getD, hi]
theorem setP {w : World} {b : Nat} {t : TypeId} {l : List UInt32} {post : List Value} (h : Blk w b t (wvs l ++ post).toArray) (i : Nat) (hi : i < l.length) (x : UInt32) : Blk (w.setCell ⟨b, i, none⟩ (.int .u32 (U x))) b t (wvs (l.set i x) ++ post).toArray := by
  have := Blk.set_ h i (.int .u32 (U x))
  rw [toArray_set, List.set_append_left _ _ (by rw [wvs_len]; exact hi)] at this
  have e : wvs (l.set i x) = (wvs l).set i (.int .u32 (U x)) := by simp [wvs, List.map_set, wv]
  rw [e]
  exact this
/-- one word of a row that stands in a slot -/
theorem run_index_words {P : Program} (t e : TypeId) (n : Nat) (l : List UInt32) (k : Nat) (ht : P.underlying t = some (.array n e)) (he : P.underlying e = some (.int .u32)) (hi : (P.info? e).map (·.size) = some 1) (hk : k < n) (hn : l.length = n) (w : World) :
    (Instr.index t (.agg (wvs l).toArray) (.int .i64 (k : Int))).run P w = .ok (.int .u32 (U (Sm.g l k))) w := by
  have hget : (wvs l).toArray[k]? = some (.int .u32 (U (Sm.g l k))) := by
    simp [wvs, wv, Sm.g, List.getD, show k < l.length by omega]
  cases hq : P.info? e with
  | none => simp [hq] at hi
  | some i =>
    have hs : i.size = 1 := by simpa [hq] using hi
    have hagg : (isAgg e).run P w = .ok false w := by
      unfold isAgg
      rw [Sem.run_bind, run_underlying he w]
      rfl
    have h1 : (0 : Int) ≤ (k : Int) ∧ (k : Int) < (n : Int) := by omega
    simp only [List.getElem?_toArray] at hget
    simp [Instr.index, asIntOf, Sem.run_bind, run_underlying ht, h1, sizeOf, typeInfo, hq, hs, part, hagg, hget]
    omega
end Sm
end Go.Proofs.Ytcbkhbnemhkheaa
