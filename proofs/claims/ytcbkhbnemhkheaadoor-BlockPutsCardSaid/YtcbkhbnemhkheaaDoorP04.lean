/- Blocks and their sums, over lists: plain words. -/
import Derived.Test.YtcbkhbnemhkheaaDoorP01
import Derived.Test.YtcbkhbnemhkheaaDoorP02
import Derived.Test.YtcbkhbnemhkheaaDoorP03
import Derived.Test.YtcbkhbnemhkheaaDoorProg
import Derived.Deep.RegionWith
namespace Go.Proofs.YtcbkhbnemhkheaaDoor
namespace Bk
open Ro Sm
set_option linter.unusedVariables false
/-- a block's sums: the weak one, the strong one -/
abbrev Sg := Nat × List UInt8
def sg (l : List Sg) (i : Nat) : Sg := l.getD i (0, [])
/-- a size for so many bytes -/
def bsize (n : Int) : Nat := if n ≤ 256 then 16 else if n ≤ 1024 then 32 else if n ≤ 4096 then 64 else if n ≤ 16384 then 128 else if n ≤ 65536 then 256 else if n ≤ 262144 then 512 else if n ≤ 1048576 then 1024 else if n ≤ 4194304 then 2048 else 4096
/-- the i-th block -/
def blk (size : Nat) (b : List UInt8) (i : Nat) : List UInt8 := (b.drop (i * size)).take size
def sgOf (x : List UInt8) : Sg := (rsum x, sha x)
/-- the first k blocks' sums -/
def signK (size : Nat) (b : List UInt8) (k : Nat) : List Sg := (List.range k).map fun i => sgOf (blk size b i)
def sign (size : Int) (b : List UInt8) : List Sg × Int :=
  if size < 1 ∨ 4096 < size then ([], 2) else if 65536 < b.length ∨ 4096 < b.length / size.toNat then ([], 5) else (signK size.toNat b (b.length / size.toNat), 0)
def check (size n : Int) (m : Nat) : Int := if size < 1 ∨ 4096 < size then 2 else if n < 0 ∨ 65536 < n then 5 else if (m : Int) ≠ n / size ∨ 4096 < m then 13 else 0
theorem signK_succ (size : Nat) (b : List UInt8) (k : Nat) : signK size b (k + 1) = signK size b k ++ [sgOf (blk size b k)] := by
  unfold signK
  rw [List.range_succ, List.map_append]
  rfl
theorem signK_len (size : Nat) (b : List UInt8) (k : Nat) : (signK size b k).length = k := by simp [signK]
theorem blk_len (size : Nat) (b : List UInt8) (i : Nat) (h : (i + 1) * size ≤ b.length) : (blk size b i).length = size := by
  unfold blk
  rw [List.length_take, List.length_drop]
  rw [Nat.add_mul] at h
  omega
/-! ### the entries of one weak sum -/
def grpK (size : Nat) (l : List Sg) (k w : Nat) : List (List UInt8 × Nat) := ((List.range k).filter fun i => (sg l i).1 == w).map fun i => ((sg l i).2, i * size)
theorem grpK_zero (size : Nat) (l : List Sg) (w : Nat) : grpK size l 0 w = [] := rfl
theorem grpK_succ (size : Nat) (l : List Sg) (k w : Nat) : grpK size l (k + 1) w = if (sg l k).1 = w then grpK size l k w ++ [((sg l k).2, k * size)] else grpK size l k w := by
  unfold grpK
  rw [List.range_succ, List.filter_append, List.map_append]
  by_cases h : (sg l k).1 = w
  · rw [if_pos h]
    congr 1
    rw [List.filter_cons_of_pos (by simpa using h)]
    rfl
  · rw [if_neg h, List.filter_cons_of_neg (by simpa using h)]
    simp
theorem grpK_len (size : Nat) (l : List Sg) (k w : Nat) : (grpK size l k w).length ≤ k := by
  unfold grpK
  rw [List.length_map]
  exact Nat.le_trans (List.length_filter_le _ _) (by simp)
theorem grpK_nil_iff (size : Nat) (l : List Sg) (k w : Nat) : grpK size l k w = [] ↔ ∀ i, i < k → (sg l i).1 ≠ w := by
  unfold grpK
  rw [List.map_eq_nil_iff, List.filter_eq_nil_iff]
  simp
/-- where a block is found -/
def findIx (l : List Sg) (s : Sg) : Option Nat := (List.range l.length).find? fun i => sg l i == s
def tellIx (size : Nat) : Option Nat → Int × Bool
  | some i => (((i * size : Nat) : Int), true)
  | none => (0, false)
def findB (size : Nat) (l : List Sg) (b : List UInt8) : Int × Bool := if b.length = size then tellIx size (findIx l (sgOf b)) else (0, false)
theorem grp_find (size : Nat) (l : List Sg) (s : Sg) : (grpK size l l.length s.1).find? (fun p => p.1 == s.2) = (findIx l s).map fun i => ((sg l i).2, i * size) := by
  unfold grpK findIx
  rw [List.find?_map, List.find?_filter]
  congr 2
  funext i
  obtain ⟨a, b⟩ := s
  simp only [Function.comp_apply]
  rw [Bool.eq_iff_iff]
  rw [decide_eq_true_iff, beq_iff_eq, beq_iff_eq, beq_iff_eq, Prod.ext_iff]
theorem find_take_none {α : Type} (p : α → Bool) (l : List α) (k : Nat) (d : α) (h : (l.take k).find? p = none) (hk : k < l.length) (hp : p (l.getD k d) = true) : l.find? p = some (l.getD k d) := by
  have e : l = l.take k ++ l.getD k d :: l.drop (k + 1) := by
    conv => lhs; rw [← List.take_append_drop k l, List.drop_eq_getElem_cons hk]
    simp [List.getD, hk]
  conv => lhs; rw [e]
  rw [List.find?_append, h, List.find?_cons_of_pos hp]
  rfl
theorem find_take_succ {α : Type} (p : α → Bool) (l : List α) (k : Nat) (d : α) (h : (l.take k).find? p = none) (hk : k < l.length) (hp : p (l.getD k d) = false) : (l.take (k + 1)).find? p = none := by
  rw [List.take_succ_eq_append_getElem hk, List.find?_append, h]
  have : l.getD k d = l[k] := by simp [List.getD, hk]
  rw [this] at hp
  rw [List.find?_cons_of_neg (by simp [hp])]
  rfl
/-! ### a list of sums as bytes -/
def sgB (s : Sg) : List UInt8 := Vm.be 4 s.1 ++ s.2
def sgsB (l : List Sg) : List UInt8 := l.flatMap sgB
def put (size n : Int) (l : List Sg) : List UInt8 × Int := if check size n l.length ≠ 0 then ([], check size n l.length) else (Fm.num size ++ Fm.num n ++ sgsB l, 0)
def ofB (x : List UInt8) : Sg := (Vm.val 0 (x.take 4), x.drop 4)
def sigsK (x : List UInt8) (k : Nat) : List Sg := (List.range k).map fun i => ofB ((x.drop (i * 36)).take 36)
theorem sigsK_succ (x : List UInt8) (k : Nat) : sigsK x (k + 1) = sigsK x k ++ [ofB ((x.drop (k * 36)).take 36)] := by
  unfold sigsK
  rw [List.range_succ, List.map_append]
  rfl
theorem sigsK_len (x : List UInt8) (k : Nat) : (sigsK x k).length = k := by simp [sigsK]
def none4 : Int × Int × List Sg × Int := (0, 0, [], 4)
/-- the program's reading -/
def get (raw : List UInt8) : Int × Int × List Sg × Int :=
  let a := (Fm.Rd.mk raw 0).num 4096
  let b := a.1.num 65536
  if b.1.e ≠ 0 ∨ a.2 < 1 ∨ 4096 < a.2 ∨ b.1.l.length ≠ b.2 / a.2 * 36 then none4
  else if check a.2 b.2 (b.2 / a.2) ≠ 0 then none4
  else ((a.2 : Int), (b.2 : Int), sigsK b.1.l (b.2 / a.2), 0)
/-- the bytes of a number are those that it was read of -/
theorem val_zero (acc : Nat) (s : List UInt8) : Vm.val acc s = acc * 256 ^ s.length + Vm.val 0 s := by
  induction s generalizing acc with
  | nil => simp [Vm.val]
  | cons c s ih =>
    have e : ∀ a, Vm.val a (c :: s) = Vm.val (a * 256 + c.toNat) s := fun a => rfl
    rw [e acc, e 0, ih (acc * 256 + c.toNat), ih (0 * 256 + c.toNat), List.length_cons, Nat.pow_succ, Nat.add_mul]
    rw [Nat.mul_comm (256 ^ s.length) 256, Nat.mul_assoc]
    simp
    omega
theorem be_val (s : List UInt8) (acc : Nat) : Vm.be s.length (Vm.val acc s) = s := by
  induction s generalizing acc with
  | nil => rfl
  | cons c s ih =>
    have e : Vm.val acc (c :: s) = Vm.val (acc * 256 + c.toNat) s := rfl
    rw [List.length_cons, Vm.be, e, ih]
    congr 1
    rw [val_zero]
    have hlt : Vm.val 0 s < 256 ^ s.length := by simpa using Vm.val_lt 0 s
    rw [Nat.mul_comm, Nat.mul_add_div (Nat.pow_pos (by omega)), Nat.div_eq_of_lt hlt]
    apply UInt8.toNat_inj.1
    simp
theorem val_be0 (n w : Nat) (h : n < 256 ^ w) : Vm.val 0 (Vm.be w n) = n := by
  rw [Vm.val_be, Nat.zero_mul, Nat.zero_add, Nat.mod_eq_of_lt h]
theorem get_take (l : List UInt8) (n w : Nat) (h : Vm.get l = (n, w, 0)) : l.take w = Vm.enc n w ∧ Vm.W4 w ∧ (n : Int) < Vm.lim w ∧ w ≤ l.length := by
  cases l with
  | nil => simp [Vm.get] at h
  | cons b r =>
    by_cases hl : (b :: r).length < Vm.w8 b
    · rw [Vm.get_lt b r hl] at h; simp at h
    · rw [Vm.get_ge b r hl] at h
      simp only [Prod.mk.injEq, and_true] at h
      obtain ⟨h1, h2⟩ := h
      have hb := b.toNat_lt
      have hw8 : ∃ t, t < 4 ∧ b.toNat / 64 = t ∧ Vm.w8 b = 2 ^ t ∧ Vm.tag (2 ^ t) = t := by
        refine ⟨b.toNat / 64, by omega, rfl, rfl, ?_⟩
        have h : b.toNat / 64 = 0 ∨ b.toNat / 64 = 1 ∨ b.toNat / 64 = 2 ∨ b.toNat / 64 = 3 := by omega
        rcases h with h | h | h | h <;> rw [h] <;> rfl
      obtain ⟨t, ht, hbt, hw, htag⟩ := hw8
      have hW : Vm.W4 w := by rw [← h2]; exact Vm.w8_cases b
      have hwp : 1 ≤ w := by rcases hW with rfl | rfl | rfl | rfl <;> omega
      have hrl : (r.take (w - 1)).length = w - 1 := by
        rw [List.length_take]
        rw [h2, List.length_cons] at hl
        omega
      rw [h2] at h1
      have hn : n + Vm.top w = Vm.val b.toNat (r.take (w - 1)) := by
        rw [← h1, val_zero, val_zero b.toNat, hrl]
        have htw : Vm.tag w = b.toNat / 64 := by rw [← h2, hw, htag, hbt]
        unfold Vm.top
        rw [htw]
        generalize 256 ^ (w - 1) = q
        generalize Vm.val 0 (r.take (w - 1)) = z
        have : b.toNat = b.toNat % 64 + b.toNat / 64 * 64 := by omega
        have e2 : b.toNat * q = b.toNat % 64 * q + b.toNat / 64 * 64 * q := by rw [← Nat.add_mul, ← this]
        omega
      have hlim : (n : Int) < Vm.lim w := by
        have := Vm.val_lt (b.toNat % 64) (r.take (w - 1))
        rw [h1, hrl] at this
        have h64 : (b.toNat % 64 + 1) * 256 ^ (w - 1) ≤ 64 * 256 ^ (w - 1) := Nat.mul_le_mul_right _ (by omega)
        have hlt : n < 64 * 256 ^ (w - 1) := Nat.lt_of_lt_of_le this h64
        rcases hW with rfl | rfl | rfl | rfl <;> simp [Vm.lim] at * <;> omega
      refine ⟨?_, hW, hlim, by rw [h2] at hl; omega⟩
      have hbe := be_val (b :: r.take (w - 1)) 0
      have e1 : Vm.val 0 (b :: r.take (w - 1)) = Vm.val b.toNat (r.take (w - 1)) := by
        show Vm.val (0 * 256 + b.toNat) _ = _
        rw [Nat.zero_mul, Nat.zero_add]
      rw [e1, ← hn, List.length_cons, hrl, show w - 1 + 1 = w by omega] at hbe
      unfold Vm.enc
      rw [hbe]
      obtain ⟨j, hj⟩ : ∃ j, w = j + 1 := ⟨w - 1, by omega⟩
      rw [hj]
      simp
theorem shortest_take (l : List UInt8) (n u : Nat) (h : Vm.shortest l = (n, u, 0)) : l.take u = Fm.num (n : Int) ∧ u ≤ l.length ∧ l = Fm.num (n : Int) ++ l.drop u ∧ n < 4611686018427387904 := by
  unfold Vm.shortest at h
  split at h
  · rename_i h0
    simp only [Prod.mk.injEq] at h
    exact absurd h.2.2 h0
  · split at h
    · simp at h
    · rename_i h1 h2
      obtain ⟨g1, g2, g3, g4⟩ := get_take l n u h
      rw [h] at h2
      have hb := (Vm.get_bound l).1
      rw [h] at hb
      have hle : Vm.len (n : Int) ≤ u ∧ Vm.len (n : Int) ≠ 0 := Vm.len_min n u g2 (by omega) g3
      have hlu : Vm.len (n : Int) = u := by simp only at h2; omega
      have hnum : Fm.num (n : Int) = Vm.enc n u := by rw [(Fm.num_some n hb).1, hlu]
      refine ⟨by rw [g1, hnum], g4, ?_, hb⟩
      rw [hnum, ← g1, List.take_append_drop]
theorem rnum_take (l : List UInt8) (most : Int) (h : ((Fm.Rd.mk l 0).num most).1.e = 0) : l = Fm.num (((Fm.Rd.mk l 0).num most).2 : Int) ++ ((Fm.Rd.mk l 0).num most).1.l ∧ (((Fm.Rd.mk l 0).num most).2 : Int) ≤ most ∧ ((Fm.Rd.mk l 0).num most).2 < 4611686018427387904 := by
  obtain ⟨n, u, x, hs⟩ : ∃ n u x, Vm.shortest l = (n, u, x) := ⟨_, _, _, rfl⟩
  unfold Fm.Rd.num at h ⊢
  simp only [hs, ne_eq, not_true_eq_false, if_false] at h ⊢
  by_cases hx : x = 0
  · subst hx
    simp only [not_true_eq_false, if_false] at h ⊢
    by_cases hm : most < (n : Int)
    · rw [if_pos hm] at h; simp at h
    · rw [if_neg hm] at h ⊢
      have := shortest_take l n u hs
      exact ⟨this.2.2.1, by omega, this.2.2.2⟩
  · rw [if_pos hx] at h
    exact absurd h hx
end Bk
end Go.Proofs.YtcbkhbnemhkheaaDoor
namespace Go.Proofs.YtcbkhbnemhkheaaDoor
namespace Sm
open Go.RowKit Ba
set_option linter.unusedVariables false
attribute [local go_sem] U_add U_add' U_xor U_and U_or U_of_u8 U_shr3 U_shr10 U_shl8 U_shl16 U_shl24
theorem ret_U {a b : UInt32} (h : a = b) : Ending.returned (.int .u32 (U a)) = .returned (.int .u32 (U b)) := by rw [h]
set_option maxHeartbeats 400000 in
theorem turn_calls (x : UInt32) (n : Nat) (h0 : 0 < n) (h : n < 32) (w : World) : Calls Tryd.prog 65 #[.int .u32 (U x), .int .i64 (n : Int)] w
    fun e w' => e = .returned (.int .u32 (U (rotr x (UInt32.ofNat n)))) ∧ ∃ k, w' = w.drewN k := by
  have e1 : U x / 2 ^ n = U (x >>> UInt32.ofNat n) := U_shr x n h
  have e2 : U x * 2 ^ (32 - n) % 4294967296 = U (x <<< (32 - UInt32.ofNat n)) := by
    rw [U_shl' x (32 - n) (by omega)]
    have : n < 2 ^ 32 := by omega
    have : UInt32.ofNat (32 - n) = 32 - UInt32.ofNat n := by
      apply UInt32.toNat.inj
      rw [UInt32.toNat_sub_of_le _ _ (by rw [UInt32.le_iff_toNat_le, UInt32.toNat_ofNat', Nat.mod_eq_of_lt (by omega)]; show n ≤ 32; omega)]
      rw [UInt32.toNat_ofNat', UInt32.toNat_ofNat', Nat.mod_eq_of_lt (by omega), Nat.mod_eq_of_lt (by omega)]
      rfl
    rw [this]
  go_enter Tryd.func65, Tryd.ntmps65
  go_wp2
  go_quiet (fail)
  go_wp2
  go_ret
  exact ⟨rfl, _, rfl⟩
set_option maxHeartbeats 400000 in
theorem rot_calls (x : UInt32) (m : Int) (n : Nat) (h0 : 0 < n) (h : n < 32) (hm : bits .and .u64 (IntKind.u64.wrap m) 31 = ((32 - n : Nat) : Int)) (w : World) : Calls Tryd.prog 77 #[.int .u32 (U x), .int .i64 m] w
    fun e w' => e = .returned (.int .u32 (U (rotr x (UInt32.ofNat n)))) ∧ w = w' := by
  have e1 : U x / 2 ^ n = U (x >>> UInt32.ofNat n) := U_shr x n h
  have e2 : U x * 2 ^ (32 - n) % 4294967296 = U (x <<< (32 - UInt32.ofNat n)) := by
    rw [U_shl' x (32 - n) (by omega)]
    have : n < 2 ^ 32 := by omega
    have : UInt32.ofNat (32 - n) = 32 - UInt32.ofNat n := by
      apply UInt32.toNat.inj
      rw [UInt32.toNat_sub_of_le _ _ (by rw [UInt32.le_iff_toNat_le, UInt32.toNat_ofNat', Nat.mod_eq_of_lt (by omega)]; show n ≤ 32; omega)]
      rw [UInt32.toNat_ofNat', UInt32.toNat_ofNat', Nat.mod_eq_of_lt (by omega), Nat.mod_eq_of_lt (by omega)]
      rfl
    rw [this]
  obtain ⟨k, hk⟩ : ∃ k, k = 32 - n := ⟨_, rfl⟩
  rw [← hk] at e2 hm
  have hkn : n = 32 - k := by omega
  have Hkn := Lib.hid hkn
  have e1' : U x / 2 ^ (32 - k) = U (x >>> UInt32.ofNat n) := by rw [← Hkn.out]; exact e1
  have hk1 : k < 32 := by omega
  clear hk hkn h h0 e1
  go_enter Tryd.func77, Tryd.ntmps77
  go_wp2
  go_ret
  exact ⟨ret_U (by unfold rotr; rw [UInt32.or_comm]), rfl⟩
theorem turn_any (x : UInt32) (m : Int) (hm : m ∈ [(2 : Int), 6, 7, 11, 13, 17, 18, 19, 22, 25]) (w : World) : Calls Tryd.prog 65 #[.int .u32 (U x), .int .i64 m] w
    fun e w' => e = .returned (.int .u32 (U (rotr x (UInt32.ofNat m.toNat)))) ∧ ∃ k, w' = w.drewN k := by
  simp only [List.mem_cons, List.not_mem_nil, or_false] at hm
  rcases hm with rfl | rfl | rfl | rfl | rfl | rfl | rfl | rfl | rfl | rfl
  · exact turn_calls x 2 (by omega) (by omega) w
  · exact turn_calls x 6 (by omega) (by omega) w
  · exact turn_calls x 7 (by omega) (by omega) w
  · exact turn_calls x 11 (by omega) (by omega) w
  · exact turn_calls x 13 (by omega) (by omega) w
  · exact turn_calls x 17 (by omega) (by omega) w
  · exact turn_calls x 18 (by omega) (by omega) w
  · exact turn_calls x 19 (by omega) (by omega) w
  · exact turn_calls x 22 (by omega) (by omega) w
  · exact turn_calls x 25 (by omega) (by omega) w
theorem rot_any (x : UInt32) (m : Int) (hm : m ∈ [(-2 : Int), -6, -7, -11, -13, -17, -18, -19, -22, -25]) (w : World) : Calls Tryd.prog 77 #[.int .u32 (U x), .int .i64 m] w
    fun e w' => e = .returned (.int .u32 (U (rotr x (UInt32.ofNat (-m).toNat)))) ∧ w = w' := by
  simp only [List.mem_cons, List.not_mem_nil, or_false] at hm
  rcases hm with rfl | rfl | rfl | rfl | rfl | rfl | rfl | rfl | rfl | rfl
  · exact rot_calls x (-2) 2 (by omega) (by omega) (by decide) w
  · exact rot_calls x (-6) 6 (by omega) (by omega) (by decide) w
  · exact rot_calls x (-7) 7 (by omega) (by omega) (by decide) w
  · exact rot_calls x (-11) 11 (by omega) (by omega) (by decide) w
  · exact rot_calls x (-13) 13 (by omega) (by omega) (by decide) w
  · exact rot_calls x (-17) 17 (by omega) (by omega) (by decide) w
  · exact rot_calls x (-18) 18 (by omega) (by omega) (by decide) w
  · exact rot_calls x (-19) 19 (by omega) (by omega) (by decide) w
  · exact rot_calls x (-22) 22 (by omega) (by omega) (by decide) w
  · exact rot_calls x (-25) 25 (by omega) (by omega) (by decide) w
end Sm
end Go.Proofs.YtcbkhbnemhkheaaDoor
namespace Go.Proofs.YtcbkhbnemhkheaaDoor
namespace Sm
open Go.RowKit Ba
set_option linter.unusedVariables false
attribute [local go_sem] U_add U_add' U_xor U_and U_or U_of_u8 U_shr3 U_shr10 U_shl8 U_shl16 U_shl24
set_option maxRecDepth 100000 in
set_option maxHeartbeats 1000000 in
theorem spread_calls (b : List UInt8) (hb : b.length = 64) (A : Option Addr) (c : Nat) (hc : 64 ≤ c) (hcm : c ≤ 9223372036854775807) (w : World) (hr : ReadB w w.heap.size A b) : Calls Tryd.prog 76 #[.slice A 64 c] w
    fun e w' => e = .returned (.agg (wvs (sched b)).toArray) ∧ Below w.heap.size w w' := by
  obtain ⟨ab, ao, rfl, hab, hcell⟩ := hr (by omega)
  have Hcell := Lib.hid hcell
  clear hcell hr
  go_enter Tryd.func76, Tryd.ntmps76
  go_wp2
  go_loopw [12] (fun i wr => ∃ k : Nat, k ≤ 16 ∧ i = .int .i64 k ∧ BlkW wr (w.heap.size + 1) 100 (wpart b k) ∧ BlkW wr w.heap.size 100 (List.replicate 64 0) ∧ Below w.heap.size w wr) (fun i _ => 16 - (intOf i).toNat)
  case atStart => exact ⟨0, Nat.zero_le _, rfl, BlkW.new_ _ _ _ _ _ (by simp) (by rfl), BlkW.alloc (BlkW.new_ _ _ _ _ _ (by rfl) (by rfl)) _, ((Below.refl _ _).alloc (Nat.le_refl _) _).alloc (by simp) _⟩
  case round =>
    obtain ⟨k, hk, rfl, hB, hR, hbel⟩ := hrel
    by_cases hkl : k < 16
    · have HB := Lib.hid hB
      have HR := Lib.hid hR
      have Hbel := Lib.hid hbel
      clear hB hR hbel
      go_wp2
      go_loopw [6, 23] (fun x i wx => ∃ j : Nat, j ≤ 4 ∧ i = .int .i64 j ∧ BlkW wx (w.heap.size + 1) 100 ((wpart b k).set k (prt b (4 * k) j)) ∧ BlkW wx w.heap.size 100 (List.replicate 64 0) ∧ Below w.heap.size w wx) (fun _ i _ => 4 - (intOf i).toNat)
      case atStart => exact ⟨0, Nat.zero_le _, rfl, by rw [wpart_set0 b k hkl]; exact HB.out, HR.out, Hbel.out⟩
      case round =>
        obtain ⟨j, hj, rfl, hB2, hR2, hbel2⟩ := hrel
        have hlen : (wpart b k).length = 64 := wpart_len b k hk
        have Hlen := Lib.hid hlen
        have hc1 := hB2.cell k (by rw [List.length_set, hlen]; omega)
        have hf1 := hB2.frozen k
        have hg1 : g ((wpart b k).set k (prt b (4 * k) j)) k = prt b (4 * k) j := by unfold g; rw [List.getD_eq_getElem?_getD, List.getElem?_set_self (by omega)]; rfl
        rw [hg1] at hc1
        have hb1 := (hbel2.cell (p := ⟨ab, ao + (4 * k + j), none⟩) hab)
        by_cases hjl : j < 4
        · rw [Hcell.out (4 * k + j) (by omega), ← Nat.add_assoc] at hb1
          have HB2 := Lib.hid hB2
          have HR2 := Lib.hid hR2
          have Hbel2 := Lib.hid hbel2
          clear hB2 hR2 hbel2 hlen hg1
          go_wp2
          go_roundw
          case rel =>
            refine ⟨j + 1, by omega, by go_num, ?_, HR2.out.far (by simp) _, Hbel2.out.setCell (by simp) _⟩
            rw [← List.getD_eq_getElem?_getD]
            have := HB2.out.set_ k (prt b (4 * k) (j + 1))
            rw [List.set_set] at this
            exact this
          case measure => simp [intOf]; omega
        · have hj4 : j = 4 := by omega
          subst hj4
          rw [prt4, wpart_set4 b k hkl] at hB2
          have HB2 := Lib.hid hB2
          have HR2 := Lib.hid hR2
          have Hbel2 := Lib.hid hbel2
          clear hb1 hB2 hR2 hbel2 hc1 hf1 hg1 hjl hj hlen
          go_wp2
          go_roundw
          case rel => exact ⟨k + 1, by omega, by go_num, HB2.out, HR2.out, Hbel2.out⟩
          case measure => simp [intOf]; omega
    · have hk16 : k = 16 := by omega
      rw [hk16] at hB
      have HB := Lib.hid hB
      have HR := Lib.hid hR
      have Hbel := Lib.hid hbel
      clear hB hR hbel hk hk16
      go_wp2
      rw [← spart16] at HB
      go_loopw [7, 8, 9, 10, 11] (fun i _ _ _ _ wr => ∃ k : Nat, 16 ≤ k ∧ k ≤ 64 ∧ i = .int .i64 k ∧ BlkW wr (w.heap.size + 1) 100 (spart b k) ∧ BlkW wr w.heap.size 100 (List.replicate 64 0) ∧ Below w.heap.size w wr) (fun i _ _ _ _ _ => 64 - (intOf i).toNat)
      case atStart => exact ⟨16, Nat.le_refl _, by omega, rfl, HB.out, HR.out, Hbel.out⟩
      case round =>
        obtain ⟨k, hk16, hk, rfl, hB, hR, hbel⟩ := hrel
        by_cases hkl : k < 64
        · have hlen := spart_len b k hk16 hk
          have hc15 := hB.cell (k - 15) (by omega)
          have hc2 := hB.cell (k - 2) (by omega)
          have hc16 := hB.cell (k - 16) (by omega)
          have hc7 := hB.cell (k - 7) (by omega)
          have hck := hB.cell k (by omega)
          have hfk := hB.frozen k
          rw [spart_at b k _ hk16 (by omega)] at hc15 hc2 hc16 hc7
          have HB := Lib.hid hB
          have HR := Lib.hid hR
          have Hbel := Lib.hid hbel
          have Hlen := Lib.hid hlen
          clear hB hR hbel hlen
          go_wp2
          go_quiet (fail)
          go_wp2_with (go_at_call 77; refine (rot_any _ _ (by decide) _).mono ?_; rintro e w1 ⟨rfl, rfl⟩)
          go_region
          go_wp2
          go_roundw
          case rel =>
            refine ⟨k + 1, by omega, by omega, by go_num, ?_, (HR.out.drewN (nq + 1)).far (by simp) _, (below_drewN Hbel.out (nq + 1)).setCell (by simp) _⟩
            have := (HB.out.drewN (nq + 1)).set_ k (nextW (wl b k) k)
            rw [spart_set b k hk16 hkl] at this
            exact this
          case measure => simp [intOf]; omega
        · have hk64 : k = 64 := by omega
          subst hk64
          rw [spart64] at hB
          have hlen : (sched b).length = 64 := by rw [← spart64]; exact spart_len b 64 (by omega) (by omega)
          have HB := Lib.hid hB
          have HR := Lib.hid hR
          have Hbel := Lib.hid hbel
          have Hlen := Lib.hid hlen
          clear hB hR hbel hlen hkl hk hk16
          go_wp2_with (first
            | (refine wpList_loadW rfl 100 (.tmp 3) rfl (w.heap.size + 1) 100 (sched b) rfl HB.out _ Tryd.underlying100 rfl (by rw [Hlen.out]; kernel_rfl) ?_)
            | (refine wpList_storeW rfl 100 (.tmp 2) (.tmp 81) rfl w.heap.size 100 (List.replicate 64 0) (sched b) rfl rfl HR.out (by rw [Hlen.out]; rfl) (by rw [Hlen.out]; kernel_rfl) ?_; intro w5 hR5 hg5))
          refine bodyPost_ret (results_cell_row (p := 2) (ty := 100) (by kernel_rfl) _ w5 w.heap.size 100 (wvs (sched b)).toArray (0, 0) _ rfl hR5 Tryd.underlying100 rfl (by rw [List.size_toArray, wvs_len, Hlen.out]; kernel_rfl)) rfl ⟨rfl, Hbel.out.trans (below_of_only hg5 (Nat.le_refl _) Hbel.out.size)⟩
end Sm
end Go.Proofs.YtcbkhbnemhkheaaDoor
/- A block of 64 bytes is worked into the state, of the program. -/
namespace Go.Proofs.YtcbkhbnemhkheaaDoor
namespace Sm
open Go.RowKit Ba
set_option linter.unusedVariables false
attribute [local go_sem] U_add U_add' U_xor U_and U_or U_of_u8 U_shr3 U_shr10 U_shl8 U_shl16 U_shl24 U_not U_not'
/-- the round words lie in the first variable -/
def Tab (w : World) : Prop := 0 < w.heap.size ∧ w.rangeAt 0 0 (wvs rounds)
theorem Tab.below {w w' : World} (h : Tab w) (hb : Below w.heap.size w w') : Tab w' := ⟨Nat.lt_of_lt_of_le h.1 hb.size, fun j v hv => (hb.cell (p := ⟨0, 0 + j, none⟩) h.1).trans (h.2 j v hv)⟩
theorem Tab.grown {w w' : World} {g : Nat} (h : Tab w) (hb : w.grownBy w' (some g)) (hg : 0 < g) : Tab w' := ⟨Nat.lt_of_lt_of_le h.1 hb.size, fun j v hv => (World.cell?_of_block (hb.block 0 h.1 (by simp; omega))).trans (h.2 j v hv)⟩

set_option maxRecDepth 100000 in
set_option maxHeartbeats 400000 in
theorem work_calls (s : List UInt32) (hs : s.length = 8) (g : Nat) (t : TypeId) (post : List Value) (b : List UInt8) (hb : b.length = 64) (A : Option Addr) (c : Nat) (hc : 64 ≤ c) (hcm : c ≤ 9223372036854775807) (w : World) (hr : ReadB w w.heap.size A b)
    (hblk : Blk w g t (wvs s ++ post).toArray) (hg0 : 0 < g) (htab : Tab w) : Calls Tryd.prog 64 #[.pointer (some ⟨g, 0, none⟩), .slice A 64 c] w
    fun e w' => e = .returned (.tuple #[]) ∧ Blk w' g t (wvs (block s b) ++ post).toArray ∧ w.grownBy w' (some g) := by
  have hlen : (sched b).length = 64 := by rw [← spart64]; exact spart_len b 64 (by omega) (by omega)
  have Hlen := Lib.hid hlen
  have Hblk := Lib.hid hblk
  have Htab := Lib.hid htab
  have Hs := Lib.hid hs
  clear hblk htab hlen hs
  go_enter Tryd.func64, Tryd.ntmps64
  go_wp2_with fail
  refine (spread_calls b hb A c hc hcm w hr).mono ?_
  rintro e w1 ⟨rfl, hb1⟩
  have hb1' := Lib.hid hb1
  have hg1 := (Hblk.out.below hb1 Hblk.out.lt)
  have Hblk1 := Lib.hid hg1
  have Htab1 := Lib.hid (Htab.out.below hb1)
  clear hb1 hg1
  have hglt := Hblk1.out.lt
  have Hglt := Lib.hid hglt
  clear hglt
  go_wp2_with (first
    | (refine wpList_storeW rfl 100 (.tmp 4) (.tmp 14) rfl w1.heap.size 100 (List.replicate 64 0) (sched b) rfl rfl (BlkW.new_ _ _ _ _ _ (by rfl) (by rfl)) (by rw [Hlen.out]; rfl) (by rw [Hlen.out]; kernel_rfl) ?_; intro w2 hW2 hg2; have Hblk2 := Lib.hid (Blk.grown (Blk.alloc Hblk1.out _) hg2 (by simp; have := Hglt.out; omega)); have Htab2 := Lib.hid (Tab.grown (Htab1.out.below ((Below.refl _ _).alloc (Nat.le_refl _) _)) hg2 (by have := Htab1.out.1; omega)); have HW2 := Lib.hid hW2; have Hb2 := Lib.hid (only_after ((Below.refl _ _).alloc (Nat.le_refl _) _) hg2 (Nat.le_refl _)); clear hW2 hg2)
    | (refine wpList_load_blk rfl 117 (.tmp 16) rfl g 0 t [] (wvs s) post rfl Hblk2.out rfl _ Tryd.underlying117 rfl (by rw [wvs_len, Hs.out]; kernel_rfl) ?_)
    | (refine wpList_storeW rfl 117 (.tmp 5) (.tmp 17) rfl w2.heap.size 117 (List.replicate 8 0) s rfl rfl (BlkW.new_ _ _ _ _ _ (by rfl) (by rfl)) (by rw [Hs.out]; rfl) (by rw [Hs.out]; kernel_rfl) ?_; intro w3 hV3 hg3; have Hblk3 := Lib.hid (Blk.grown (Blk.alloc Hblk2.out _) hg3 (by simp; have := Hblk2.out.lt; omega)); have HW3 := Lib.hid (BlkW.grown (BlkW.alloc HW2.out _) hg3 (by simp; have := HW2.out.lt; omega)); have Htab3 := Lib.hid (Tab.grown (Htab2.out.below ((Below.refl _ _).alloc (Nat.le_refl _) _)) hg3 (by have := Htab2.out.1; omega)); have HV3 := Lib.hid hV3; have Hb3 := Lib.hid (only_after (Hb2.out.alloc Hb2.out.size _) hg3 Hb2.out.size); clear hV3 hg3)
    | (refine wpList_load_mid rfl 100 (.global 0) rfl 0 0 rfl (wvs rounds) _ Htab3.out.2 Tryd.underlying100 rfl (by kernel_rfl) ?_))
  have hg12 : w1.heap.size < w2.heap.size := HW2.out.lt
  have Hg12 := Lib.hid hg12
  clear Hblk2 Htab2 HW2 Hb2 hg12 Hblk1 Htab1
  generalize hg1e : w1.heap.size = g1 at *
  generalize hg2e : w2.heap.size = g2 at *
  clear hg2e
  have Hidx : Hid (∀ k : Nat, k < 64 → ∀ w', (Instr.index 100 (.agg (wvs rounds).toArray) (.int .i64 (k : Int))).run Tryd.prog w' = .ok (.int .u32 (U (Sm.g rounds k))) w') := Lib.hid (fun k hk w' => run_index_words 100 33 64 rounds k Tryd.underlying100 Tryd.underlying33 (by kernel_rfl) hk rfl w')
  obtain ⟨rt, hrt⟩ : ∃ rt, rt = Sm.g rounds := ⟨_, rfl⟩
  rw [← hrt] at Hidx
  have Hrt := Lib.hid hrt
  clear hrt
  generalize (wvs rounds).toArray = RA at Hidx ⊢
  obtain ⟨ws, hws⟩ : ∃ ws, ws = sched b := ⟨_, rfl⟩
  have Hws := Lib.hid hws
  rw [← hws] at Hlen HW3 ⊢
  clear hws
  go_loopw [6, 7, 8, 9, 10, 11, 19] (fun _ _ _ _ _ _ i wr => ∃ k : Nat, k ≤ 64 ∧ i = .int .i64 k ∧ BlkW wr g2 117 (runK s ws k) ∧ BlkW wr g1 100 ws ∧ Blk wr g t (wvs s ++ post).toArray ∧ Below g1 w1 wr) (fun _ _ _ _ _ _ i _ => 64 - (intOf i).toNat)
  case atStart => exact ⟨0, Nat.zero_le _, rfl, HV3.out, HW3.out, Hblk3.out, Hb3.out⟩
  case round =>
    obtain ⟨k, hk, rfl, hV, hW, hB, hbel⟩ := hrel
    obtain ⟨v, hv⟩ : ∃ v, v = runK s ws k := ⟨_, rfl⟩
    have hvl : (runK s ws k).length = 8 := runK_len s ws k Hs.out
    rw [← hv] at hV hvl
    have Hv := Lib.hid hv
    clear hv
    by_cases hkl : k < 64
    · have hidx := Hidx.out k hkl
      have hwk := hW.cell k (by rw [Hlen.out]; exact hkl)
      have hv0 := hV.cell 0 (by omega)
      have hv1 := hV.cell 1 (by omega)
      have hv2 := hV.cell 2 (by omega)
      have hv3 := hV.cell 3 (by omega)
      have hv4 := hV.cell 4 (by omega)
      have hv5 := hV.cell 5 (by omega)
      have hv6 := hV.cell 6 (by omega)
      have hv7 := hV.cell 7 (by omega)
      have HV := Lib.hid hV
      have HW := Lib.hid hW
      have HB := Lib.hid hB
      have Hbel := Lib.hid hbel
      have Hvl := Lib.hid hvl
      clear hV hW hB hbel hvl
      go_wp2_with fail
      go_quiet (fail)
      go_wp2_with fail
      go_quiet (fail)
      go_wp2_with (first
        | (go_at_call 77; refine (rot_any _ _ (by decide) _).mono ?_; rintro e w5 ⟨rfl, rfl⟩)
        | (refine wpList_storeW rfl 117 (.tmp 5) (.tmp 100) rfl g2 117 v (round v (rt k) (Sm.g ws k)) rfl rfl HV.out (by rw [Hvl.out]; rfl) (by kernel_rfl) ?_; intro w5 hV5 hg5))
      go_roundw
      case rel =>
        have hg5 := undrewN hg5
        refine ⟨k + 1, by omega, by go_num, ?_, HW.out.grown hg5 (by have := Hg12.out; simp; omega), Blk.grown HB.out hg5 (by have := Hg12.out; have := Hglt.out; simp; omega), Hbel.out.trans (below_of_only hg5 (by have := Hg12.out; omega) (by rw [← hg1e]; exact Hbel.out.size))⟩
        rw [runK_succ s ws k Hlen.out hkl, ← Hv.out, ← Hrt.out]
        exact hV5
      case measure => simp [intOf]; omega
    · have hk64 : k = 64 := by omega
      have hv := Hv.out
      rw [hk64, runK_all s ws Hlen.out, Hws.out] at hv
      clear hW
      have HV := Lib.hid hV
      have HB := Lib.hid hB
      have Hbel := Lib.hid hbel
      have Hvl := Lib.hid hvl
      have Hv2 := Lib.hid hv
      clear hV hB hbel hvl hv hk hk64 Hv
      go_wp2
      go_loopw [12, 102] (fun _ i wr => ∃ k : Nat, k ≤ 8 ∧ i = .int .i64 k ∧ BlkW wr g2 117 v ∧ Blk wr g t (wvs (upd s v k) ++ post).toArray ∧ w1.grownBy wr (some g)) (fun _ i _ => 8 - (intOf i).toNat)
      case atStart => exact ⟨0, Nat.zero_le _, rfl, HV.out, by rw [upd_0 s v Hs.out]; exact HB.out, only_of_below (by rw [hg1e]; exact Hbel.out) _⟩
      case round =>
        obtain ⟨i, hi, rfl, hV, hB, hbel⟩ := hrel
        by_cases hil : i < 8
        · have hvi := hV.cell i (by rw [Hvl.out]; exact hil)
          have hsi := cellP hB i (by rw [upd_len]; exact hil)
          rw [upd_at s v i i hil, if_neg (by omega)] at hsi
          have hfi := Blk.frozen hB i
          have HV := Lib.hid hV
          have HB := Lib.hid hB
          have Hbel := Lib.hid hbel
          clear hV hB hbel
          go_wp2
          go_region
          go_wp2
          go_roundw
          case rel =>
            refine ⟨i + 1, by omega, by go_num, (HV.out.far (by have := Hg12.out; have := Hglt.out; simp; omega) _).drew, ?_, grown_drew (only_trans Hbel.out (only_set _ _ _ _))⟩
            have := setP HB.out i (by rw [upd_len]; exact hil) (Sm.g s i + Sm.g v i)
            rw [upd_set s v i hil] at this
            exact this
          case measure => simp [intOf]; omega
        · have hi8 : i = 8 := by omega
          rw [hi8, Hv2.out, upd_8] at hB
          have HB := Lib.hid hB
          have Hbel := Lib.hid hbel
          clear hB hbel hV hi8 hi
          go_wp2
          refine bodyPost_end (results_none rfl _ _ _) rfl ⟨rfl, HB.out, ?_⟩
          exact only_trans (only_of_below hb1'.out _) Hbel.out
end Sm
end Go.Proofs.YtcbkhbnemhkheaaDoor
/- The hasher, of the program: a new one, what is written, the sum, the length, a fork. -/
namespace Go.Proofs.YtcbkhbnemhkheaaDoor
namespace Sm
open Go.RowKit Ba
set_option linter.unusedVariables false

/-- bytes that lie in a block of bytes -/
def ReadT (w : World) (E : TypeId) (A : Option Addr) (l : List UInt8) : Prop :=
  0 < l.length → ∃ b o cs, A = some ⟨b, o, none⟩ ∧ Blk w b E cs ∧ ∀ k, k < l.length → w.cell? ⟨b, o + k, none⟩ = some (.int .u8 ((l.getD k 0).toNat : Int))
section
variable {w w' : World} {E : TypeId} {A : Option Addr} {l : List UInt8}
theorem ReadT.readB (h : ReadT w E A l) : ReadB w w.heap.size A l := fun hn => by
  obtain ⟨b, o, cs, e, hb, hc⟩ := h hn
  exact ⟨b, o, e, hb.lt, hc⟩
theorem ReadT.of_own {base c : Nat} (h : OwnB w base E (.slice A l.length c) l) : ReadT w E A l := fun hn => by
  rcases h.2 with ⟨hv, h0⟩ | ⟨g, cap, cur, hv, _, hh, _⟩
  · omega
  · injection hv with hA _ _
    subst hA
    exact ⟨g, 0, cur, rfl, hh, fun k hk => by rw [Nat.zero_add]; have := h.2; exact OwnB.cell (c := c) (by simpa using h) hk⟩
theorem ReadT.below (h : ReadT w E A l) (hb : Below w.heap.size w w') : ReadT w' E A l := fun hn => by
  obtain ⟨b, o, cs, e, hB, hc⟩ := h hn
  exact ⟨b, o, cs, e, hB.below hb hB.lt, fun k hk => (hb.cell (p := ⟨b, o + k, none⟩) hB.lt).trans (hc k hk)⟩
theorem ReadT.grown {g : Nat} {t : TypeId} {cs : Array Value} (h : ReadT w E A l) (hg : w.grownBy w' (some g)) (hB : Blk w g t cs) (hne : E ≠ t) : ReadT w' E A l := fun hn => by
  obtain ⟨b, o, cs', e, hb, hc⟩ := h hn
  have hbg : b ≠ g := hb.ne_ hB hne
  exact ⟨b, o, cs', e, hb.grown hg (by simpa using hbg), fun k hk => (World.cell?_of_block (hg.block b hb.lt (by simpa using hbg))).trans (hc k hk)⟩
theorem ReadT.drop {b o : Nat} (h : ReadT w E (some ⟨b, o, none⟩) l) (k : Nat) : ReadT w E (some ⟨b, o + k, none⟩) (l.drop k) := fun hn => by
  have hk : k < l.length := by simp at hn; omega
  obtain ⟨b', o', cs, e, hb, hcl⟩ := h (by omega)
  injection e with e
  injection e with e1 e2
  subst e1 e2
  refine ⟨b, o + k, cs, rfl, hb, fun j hj => ?_⟩
  have hj' : k + j < l.length := by simp at hj; omega
  rw [Nat.add_assoc, hcl (k + j) hj']
  simp [List.getD]
theorem ReadT.nil : ReadT w E A [] := fun h => absurd h (by simp)
end

/-- a hasher in block g: its state, what is left over, how many bytes were written -/
def IsG (w : World) (g : Nat) (s : List UInt32) (r : List UInt8) (n : Nat) : Prop :=
  ∃ A c, Blk w g 120 (wvs s ++ [Value.slice A r.length c, Value.int .i64 (n : Int)]).toArray ∧ s.length = 8 ∧ r.length ≤ c ∧ c ≤ 9223372036854775807 ∧ ReadT w 5 A r
/-- .. behind all these bytes -/
def IsH (w : World) (g : Nat) (l : List UInt8) : Prop := IsG w g (st l) (rs l) l.length
theorem IsG.lt {w : World} {g : Nat} {s : List UInt32} {r : List UInt8} {n : Nat} (h : IsG w g s r n) : g < w.heap.size := by
  obtain ⟨A, c, h, _⟩ := h
  exact h.lt
theorem IsG.below {w w' : World} {g : Nat} {s : List UInt32} {r : List UInt8} {n : Nat} (h : IsG w g s r n) (hb : Below w.heap.size w w') : IsG w' g s r n := by
  obtain ⟨A, c, h1, h2, h3, h4, h5⟩ := h
  exact ⟨A, c, h1.below hb h1.lt, h2, h3, h4, h5.below hb⟩
theorem IsG.other {w w' : World} {g k : Nat} {t : TypeId} {cs : Array Value} {s : List UInt32} {r : List UInt8} {n : Nat} (h : IsG w g s r n) (hg : w.grownBy w' (some k)) (hk : g ≠ k) (hB : Blk w k t cs) (hne : 5 ≠ t) : IsG w' g s r n := by
  obtain ⟨A, c, h1, h2, h3, h4, h5⟩ := h
  exact ⟨A, c, h1.grown hg (by simpa using hk), h2, h3, h4, h5.grown hg hB hne⟩
theorem set8 {w : World} {g : Nat} {t : TypeId} {s : List UInt32} {x y : Value} (h : Blk w g t (wvs s ++ [x, y]).toArray) (hs : s.length = 8) (v : Value) : Blk (w.setCell ⟨g, 8, none⟩ v) g t (wvs s ++ [v, y]).toArray := by
  have := Blk.set_ h 8 v
  rw [toArray_set, List.set_append_right _ _ (by rw [wvs_len]; omega), wvs_len, hs] at this
  exact this
theorem set9 {w : World} {g : Nat} {t : TypeId} {s : List UInt32} {x y : Value} (h : Blk w g t (wvs s ++ [x, y]).toArray) (hs : s.length = 8) (v : Value) : Blk (w.setCell ⟨g, 9, none⟩ v) g t (wvs s ++ [x, v]).toArray := by
  have := Blk.set_ h 9 v
  rw [toArray_set, List.set_append_right _ _ (by rw [wvs_len]; omega), wvs_len, hs] at this
  exact this
theorem cell8 {w : World} {g : Nat} {t : TypeId} {s : List UInt32} {x y : Value} (h : Blk w g t (wvs s ++ [x, y]).toArray) (hs : s.length = 8) : w.cell? ⟨g, 8, none⟩ = some x := by
  rw [Blk.cell h, List.getElem?_toArray, List.getElem?_append_right (by rw [wvs_len]; omega), wvs_len, hs]
  rfl
theorem cell9 {w : World} {g : Nat} {t : TypeId} {s : List UInt32} {x y : Value} (h : Blk w g t (wvs s ++ [x, y]).toArray) (hs : s.length = 8) : w.cell? ⟨g, 9, none⟩ = some y := by
  rw [Blk.cell h, List.getElem?_toArray, List.getElem?_append_right (by rw [wvs_len]; omega), wvs_len, hs]
  rfl

theorem info5 : (Tryd.prog.info? 5).map (fun i => (i.zero, i.size, i.bytes)) = some (some (.int .u8 0), 1, 1) := by kernel_rfl

set_option maxRecDepth 100000 in
set_option maxHeartbeats 400000 in
theorem clone_calls (l : List UInt8) (A : Option Addr) (c : Nat) (hc : l.length ≤ c) (hl : l.length ≤ 140737488355328) (w : World) (hr : ReadB w w.heap.size A l) : Calls Tryd.prog 63 #[.slice A l.length c] w
    fun e w' => ∃ v, e = .returned v ∧ OwnB w' w.heap.size 5 v l ∧ Below w.heap.size w w' := by
  obtain ⟨i0, hi0⟩ := isByte_of info5
  have Hi := Lib.hid hi0
  have Hr := Lib.hid hr
  clear hi0 hr
  rcases A with _ | ad
  · have hl0 : l = [] := by
      rcases l with _ | ⟨x, l⟩
      · rfl
      · obtain ⟨_, _, hx, _⟩ := Hr.out (by simp)
        cases hx
    subst hl0
    have hnil := fun (w : World) => Lib.run_eql_slice_nil (P := Tryd.prog) w 22 5 none 0 c 0 0 Tryd.underlying22
    simp only [List.length_nil]
    go_enter Tryd.func63, Tryd.ntmps63
    go_wp2
    go_ret
    exact ⟨_, rfl, OwnB.nil, Below.refl _ _⟩
  · have hnil := fun (w : World) => Lib.run_eql_slice_nil (P := Tryd.prog) w 22 5 (some ad) l.length c 0 0 Tryd.underlying22
    go_enter Tryd.func63, Tryd.ntmps63
    have hown0 : OwnB (w.alloc (.cells #[] 5)) w.heap.size 5 (.slice (some ⟨w.heap.size, 0, none⟩) 0 0) [] := OwnB.lit0 w 5 w.heap.size w.heap.size rfl (Nat.le_refl _)
    have hr0 : ReadB (w.alloc (.cells #[] 5)) w.heap.size (some ad) l := Hr.out.alloc (Nat.le_refl _) _
    have Ho0 := Lib.hid hown0
    have Hr0 := Lib.hid hr0
    clear hown0 hr0
    go_wp2_with (at_builtin; go_loud (refine wpList_appB _ rfl (.tmp 5) (.tmp 6) 22 rfl w.heap.size 5 i0 Tryd.underlying22 Hi.out _ [] rfl Ho0.out w.heap.size (some ad) _ c l rfl rfl Hr0.out (by simp; omega) (by simp) ?_); intro v1 w1 ho1 _ _ hb1)
    go_ret
    rw [List.nil_append] at ho1
    exact ⟨v1, rfl, ho1, ((Below.refl _ _).alloc (Nat.le_refl _) _).trans hb1⟩
theorem st_nil : st [] = first := rfl
theorem wvs_first : #[Value.int .u32 1779033703, .int .u32 3144134277, .int .u32 1013904242, .int .u32 2773480762, .int .u32 1359893119, .int .u32 2600822924, .int .u32 528734635, .int .u32 1541459225] = (wvs first).toArray := rfl
set_option maxRecDepth 100000 in
set_option maxHeartbeats 400000 in
theorem first_calls (w : World) : Calls Tryd.prog 62 #[] w fun e w' => e = .returned (.agg (wvs first).toArray) ∧ Below w.heap.size w w' := by
  go_enter Tryd.func62, Tryd.ntmps62
  go_wp2_with (refine wpList_storeW rfl 117 (.tmp 0) (.tmp 1) rfl w.heap.size 117 (List.replicate 8 0) first rfl rfl (BlkW.new_ _ _ _ _ _ (by rfl) (by rfl)) (by rfl) (by kernel_rfl) ?_; intro w2 hW2 hg2)
  refine bodyPost_ret (results_cell_row (p := 0) (ty := 117) (by kernel_rfl) _ w2 w.heap.size 117 (wvs first).toArray (0, 0) _ rfl hW2 Tryd.underlying117 rfl (by kernel_rfl)) rfl ⟨rfl, ?_⟩
  exact only_after ((Below.refl _ _).alloc (Nat.le_refl _) _) hg2 (Nat.le_refl _)
set_option maxRecDepth 100000 in
set_option maxHeartbeats 400000 in
theorem new_calls (w : World) : Calls Tryd.prog 46 #[] w fun e w' => ∃ g, e = .returned (.pointer (some ⟨g, 0, none⟩)) ∧ w.heap.size ≤ g ∧ IsH w' g [] ∧ Below w.heap.size w w' := by
  go_enter Tryd.func46, Tryd.ntmps46
  go_wp2_with fail
  refine (first_calls w).mono ?_
  rintro e w1 ⟨rfl, hb1⟩
  have Hb1 := Lib.hid hb1
  clear hb1
  rw [← wvs_first]
  go_wp2_with fail
  go_ret
  exact ⟨w1.heap.size, rfl, Hb1.out.size, ⟨none, 0, heap_alloc_new _ _, rfl, Nat.le_refl _, by omega, ReadT.nil⟩, Hb1.out.alloc Hb1.out.size _⟩
set_option maxHeartbeats 400000 in
theorem write_nil (w : World) (A : Option Addr) (n c : Nat) : Calls Tryd.prog 47 #[.pointer none, .slice A n c] w fun e w' => e = .returned (.tuple #[]) ∧ w = w' := by
  go_enter Tryd.func47, Tryd.ntmps47
  go_wp2
  refine bodyPost_ret (results_none rfl _ _ _) rfl ⟨rfl, rfl⟩
end Sm
end Go.Proofs.YtcbkhbnemhkheaaDoor
/- What is written to a hasher. -/
namespace Go.Proofs.YtcbkhbnemhkheaaDoor
namespace Sm
open Go.RowKit Ba
set_option linter.unusedVariables false
/-- a hasher whose remainder lies in block lo or behind it -/
def IsGL (w : World) (g : Nat) (s : List UInt32) (r : List UInt8) (n lo : Nat) : Prop :=
  ∃ A c, Blk w g 120 (wvs s ++ [Value.slice A r.length c, Value.int .i64 (n : Int)]).toArray ∧ s.length = 8 ∧ r.length ≤ c ∧ c ≤ 9223372036854775807 ∧ ReadT w 5 A r ∧ ∀ ad, A = some ad → lo ≤ ad.block
theorem IsGL.g {w : World} {g : Nat} {s : List UInt32} {r : List UInt8} {n lo : Nat} (h : IsGL w g s r n lo) : IsG w g s r n := by
  obtain ⟨A, c, h1, h2, h3, h4, h5, _⟩ := h
  exact ⟨A, c, h1, h2, h3, h4, h5⟩
theorem IsGL.weak {w : World} {g : Nat} {s : List UInt32} {r : List UInt8} {n lo lo' : Nat} (h : IsGL w g s r n lo) (hl : lo' ≤ lo) : IsGL w g s r n lo' := by
  obtain ⟨A, c, h1, h2, h3, h4, h5, h6⟩ := h
  exact ⟨A, c, h1, h2, h3, h4, h5, fun ad had => Nat.le_trans hl (h6 ad had)⟩
theorem IsGL.below {w w' : World} {g : Nat} {s : List UInt32} {r : List UInt8} {n lo : Nat} (h : IsGL w g s r n lo) (hb : Below w.heap.size w w') : IsGL w' g s r n lo := by
  obtain ⟨A, c, h1, h2, h3, h4, h5, h6⟩ := h
  exact ⟨A, c, h1.below hb h1.lt, h2, h3, h4, h5.below hb, h6⟩
/-- what one row's growth leaves, where the row lies ahead of the remainder -/
theorem IsGL.rowed {w w' : World} {g : Nat} {s : List UInt32} {r : List UInt8} {n lo : Nat} {row : Option Nat} (h : IsGL w g s r n lo) (hg : w.grownBy w' row) (hr : ∀ k, row = some k → g ≠ k ∧ k < lo) : IsGL w' g s r n lo := by
  obtain ⟨A, c, h1, h2, h3, h4, h5, h6⟩ := h
  refine ⟨A, c, h1.grown hg (fun e => (hr g e.symm).1 rfl), h2, h3, h4, fun hn => ?_, h6⟩
  obtain ⟨b, o, cs, e, hB, hc⟩ := h5 hn
  have hb : some b ≠ row := fun e2 => by have := (hr b e2.symm).2; have := h6 _ e; simp at this; omega
  exact ⟨b, o, cs, e, hB.grown hg hb, fun k hk => (World.cell?_of_block (hg.block b hB.lt hb)).trans (hc k hk)⟩
set_option maxRecDepth 100000 in
set_option maxHeartbeats 1000000 in
theorem writeL_calls (w : World) (g B : Nat) (l b : List UInt8) (A : Option Addr) (c : Nat) (h : IsH w g l) (hg : 0 < g) (htab : Tab w) (hr : ReadB w B A b) (hBg : B ≤ g) (hbc : b.length ≤ c) (hcm : c ≤ 9223372036854775807) (hbl : b.length ≤ 140737488351232) (hsum : l.length + b.length ≤ 4611686018427387904) :
    Calls Tryd.prog 47 #[.pointer (some ⟨g, 0, none⟩), .slice A b.length c] w fun e w' => e = .returned (.tuple #[]) ∧ IsGL w' g (st (l ++ b)) (rs (l ++ b)) (l ++ b).length w.heap.size ∧ w.grownBy w' (some g) := by
  obtain ⟨i0, hi0⟩ := isByte_of info5
  have Hi := Lib.hid hi0
  obtain ⟨A0, c0, h1, h2, h3, h4, h5⟩ := h
  have hc9 := cell9 h1 h2
  have hf9 := Blk.frozen h1 9
  have hrl := rs_len l
  have Hr := Lib.hid hr
  have Hrl := Lib.hid hrl
  have H1 := Lib.hid h1
  have H2 := Lib.hid h2
  have H5 := Lib.hid h5
  have Htab := Lib.hid htab
  have hgl := h1.lt
  have Hgl := Lib.hid hgl
  have hg1 := only_set w g 9 (.int .i64 ((l.length : Int) + (b.length : Int)))
  have h1' := set9 h1 h2 (.int .i64 ((l.length : Int) + (b.length : Int)))
  have H1' := Lib.hid h1'
  have Hg1 := Lib.hid hg1
  have H5' := Lib.hid (h5.grown hg1 h1 (by decide))
  have Hr' := Lib.hid (hr.setFar (p := ⟨g, 9, none⟩) hBg (.int .i64 ((l.length : Int) + (b.length : Int))))
  have hc8 := cell8 h1' h2
  have hlen : (rs l).length ≤ 63 := by omega
  clear hr hrl h1 h2 h5 htab hgl hi0 h1' hg1
  go_enter Tryd.func47, Tryd.ntmps47
  go_wp2_with fail
  refine (clone_calls (rs l) A0 c0 h3 (by omega) _ H5'.out.readB).mono ?_
  rintro e w2 ⟨v2, rfl, ho2, hb2⟩
  have hW1s : (w.setCell ⟨g, 9, none⟩ (.int .i64 ((l.length : Int) + (b.length : Int)))).heap.size = w.heap.size := by simp
  rw [hW1s] at ho2 hb2
  have hb2' : Below w.heap.size (w.setCell ⟨g, 9, none⟩ (.int .i64 ((l.length : Int) + (b.length : Int)))) w2 := hb2
  have H2b := Lib.hid (H1'.out.below hb2' Hgl.out)
  have Hr2 := Lib.hid (Hr'.out.below (hb2'.mono (by have := Hgl.out; omega)))
  have Hg2 := Lib.hid (only_trans Hg1.out (only_of_below (by rw [hW1s]; exact hb2') (some g)))
  have Ho2 := Lib.hid ho2
  have Hs2 := Lib.hid hb2.size
  rw [hW1s] at Hs2
  clear ho2 hb2 hb2' hW1s hc8 hc9 hf9 H1' Hr' Hg1 H5'
  go_wp2_with ((at_builtin; go_loud (refine wpList_appB _ rfl (.tmp 20) (.tmp 21) 22 rfl w.heap.size 5 i0 Tryd.underlying22 Hi.out v2 (rs l) rfl Ho2.out B A _ c b rfl rfl Hr2.out (by omega) Hs2.out ?_); intro v3 w3 ho3 _ _ hb3; have hB3 := H2b.out.below hb3 Hgl.out; have hc8 := cell8 hB3 H2.out; have hf8 := Blk.frozen hB3 8; have HB3 := Lib.hid hB3; have Ho3 := Lib.hid ho3; obtain ⟨A3, c3, rfl, q1, q2, q3, q4⟩ := ho3.opens; have Hq3 := Lib.hid q3; have Hq4 := Lib.hid q4; have Hb3 := Lib.hid hb3; clear hB3 hb3 ho3 q3 q4))
  have q5 := ReadT.of_own Ho3.out
  have hB4 := set8 HB3.out H2.out (.slice A3 (rs l ++ b).length c3)
  have hg4 : w.grownBy (w3.setCell ⟨g, 8, none⟩ (.slice A3 (rs l ++ b).length c3)) (some g) := only_trans (only_below Hg2.out Hb3.out) (only_set _ _ _ _)
  have q6 := q5.grown (only_set w3 g 8 (.slice A3 (rs l ++ b).length c3)) HB3.out (by decide)
  obtain ⟨a, ha⟩ : ∃ a, a = l ++ b := ⟨_, rfl⟩
  have hal : (l.length : Int) + (b.length : Int) = (a.length : Int) := by rw [ha, List.length_append]; omega
  have hst0 : IsGL (w3.setCell ⟨g, 8, none⟩ (.slice A3 ((rs l).length + b.length) c3)) g (stk a (l.length / 64)) (a.drop (64 * (l.length / 64))) a.length w.heap.size := by
    rw [ha, ← rs_append, ← st_append]
    rw [hal, ha] at hB4
    rw [← List.length_append]
    exact ⟨A3, c3, hB4, H2.out, q1, q2, q6, fun ad had => (Hq4.out ad had).1⟩
  have hle0 : 64 * (l.length / 64) ≤ a.length := by rw [ha, List.length_append]; omega
  rw [List.length_append] at hg4
  have Ha := Lib.hid ha
  have Hst0 := Lib.hid hst0
  have Hg4 := Lib.hid hg4
  clear hal hst0 hg4 q6 hB4 q5 q1 q2 Hq3 Hq4 Hb3 Ho3 HB3 hc8 hf8 Ho2 Hr2 H2b Hg2 Hs2 ha H5 H1 H2
  go_loopg [] (a.length - 64 * (l.length / 64)) (fun n wr => ∃ j : Nat, 64 * j ≤ a.length ∧ n = a.length - 64 * j ∧ IsGL wr g (stk a j) (a.drop (64 * j)) a.length w.heap.size ∧ w.grownBy wr (some g))
  case atStart => exact ⟨_, hle0, rfl, Hst0.out, Hg4.out⟩
  case round =>
    obtain ⟨j, hj, hgk, ⟨A5, c5, hB, hs, hrc, hcc, hT, hlo⟩, hgw⟩ := hrel
    have Hlo := Lib.hid hlo
    clear hlo
    have hc8 := cell8 hB hs
    obtain ⟨r, hr⟩ : ∃ r, r = a.drop (64 * j) := ⟨_, rfl⟩
    rw [← hr] at hB hrc hT hc8
    have hrlen : r.length = a.length - 64 * j := by rw [hr, List.length_drop]
    have HB := Lib.hid hB
    have Hs := Lib.hid hs
    have HT := Lib.hid hT
    have Hgw := Lib.hid hgw
    have Hgk := Lib.hid hgk
    have Hrr := Lib.hid hr
    have Hrlen := Lib.hid hrlen
    have hrm : r.length ≤ 9223372036854775807 := Nat.le_trans hrc hcc
    clear hB hs hT hgw hgk hr hrlen
    by_cases h64 : 64 ≤ r.length
    · obtain ⟨b5, o5, cs5, rfl, hb5, hc5⟩ := HT.out (by omega)
      have hwk : Calls Tryd.prog 64 #[.pointer (some ⟨g, 0, none⟩), .slice (some ⟨b5, o5, none⟩) 64 c5] wr.drew
          fun e w' => e = .returned (.tuple #[]) ∧ Blk w' g 120 (wvs (stk a (j + 1)) ++ [Value.slice (some ⟨b5, o5, none⟩) r.length c5, Value.int .i64 (a.length : Int)]).toArray ∧ wr.grownBy w' (some g) := by
        have hr64 : ReadB wr.drew wr.drew.heap.size (some ⟨b5, o5, none⟩) (r.take 64) := HT.out.readB.take 64
        refine (work_calls (stk a j) Hs.out g 120 _ (r.take 64) (by rw [List.length_take]; omega) (some ⟨b5, o5, none⟩) c5 (by omega) hcc wr.drew hr64 HB.out hg (Htab.out.grown (grown_drew Hgw.out) hg)).mono ?_
        rintro e w' ⟨h1, h2, h3⟩
        refine ⟨h1, ?_, undrew h3⟩
        rw [Hrr.out] at h2
        rw [Hrr.out]
        exact h2
      have Hwk := Lib.hid hwk
      clear hwk hb5 hc5
      have i1 : (0 : Int) ≤ 64 := by omega
      have i2 : (64 : Int) ≤ (c5 : Int) := by omega
      go_wp2_with fail
      go_region_with (go_at_call 64; refine Hwk.out.mono ?_; rintro e w5 ⟨rfl, hB5, hg5⟩)
      have k8 := cell8 hB5 (stk_len a (j + 1))
      have kf := Blk.frozen hB5 8
      have hT5 := HT.out.grown hg5 HB.out (by decide)
      have hfin : ∀ A' c', A' = (if c5 = 64 then (some ⟨b5, o5, none⟩) else (some ⟨b5, o5 + 64, none⟩)) → c' = c5 - 64 →
          IsGL (w5.setCell ⟨g, 8, none⟩ (.slice A' (r.length - 64) c')) g (stk a (j + 1)) (a.drop (64 * (j + 1))) a.length w.heap.size ∧ w.grownBy (w5.setCell ⟨g, 8, none⟩ (.slice A' (r.length - 64) c')) (some g) := by
        intro A' c' hA hc'
        have hs6 := only_set w5 g 8 (.slice A' (r.length - 64) c')
        have hB6 := set8 hB5 (stk_len a (j + 1)) (.slice A' (r.length - 64) c')
        have hT6 : ReadT w5 5 A' (r.drop 64) := by
          subst hA
          by_cases hc : c5 = 64
          · have : r.drop 64 = [] := by rw [List.drop_eq_nil_iff]; omega
            rw [this]
            exact ReadT.nil
          · rw [if_neg hc]
            exact hT5.drop 64
        have e : a.drop (64 * (j + 1)) = r.drop 64 := by rw [Hrr.out, drop_drop64]
        rw [e]
        refine ⟨⟨A', c', ?_, stk_len _ _, by rw [List.length_drop]; omega, by omega, hT6.grown hs6 hB5 (by decide), fun ad had => ?_⟩, only_trans (only_trans Hgw.out hg5) hs6⟩
        · rw [List.length_drop]
          exact hB6
        · have h0 := Hlo.out ⟨b5, o5, none⟩ rfl
          subst hA
          by_cases hc : c5 = 64
          · rw [if_pos hc] at had; injection had with had; subst had; exact h0
          · rw [if_neg hc] at had; injection had with had; subst had; exact h0
      have Hfin := Lib.hid hfin
      clear hB5 hT5 hg5 hfin
      by_cases hc64 : c5 = 64
      all_goals
        go_wp2
        go_roundg (a.length - 64 * (j + 1))
        case rel =>
          have := Hrlen.out
          exact ⟨j + 1, by omega, rfl, Hfin.out _ _ (by simp [hc64]) (by omega)⟩
        case measure =>
          have := Hgk.out
          have := Hrlen.out
          omega
    · go_wp2
      have hjj : j = a.length / 64 := by have := Hrlen.out; omega
      refine bodyPost_end (results_none rfl _ _ _) rfl ⟨rfl, ?_, Hgw.out⟩
      rw [← Ha.out]
      unfold st rs
      rw [← hjj, ← Hrr.out]
      exact ⟨A5, c5, HB.out, Hs.out, hrc, hcc, HT.out, Hlo.out⟩
theorem write_calls (w : World) (g B : Nat) (l b : List UInt8) (A : Option Addr) (c : Nat) (h : IsH w g l) (hg : 0 < g) (htab : Tab w) (hr : ReadB w B A b) (hBg : B ≤ g) (hbc : b.length ≤ c) (hcm : c ≤ 9223372036854775807) (hbl : b.length ≤ 140737488351232) (hsum : l.length + b.length ≤ 4611686018427387904) :
    Calls Tryd.prog 47 #[.pointer (some ⟨g, 0, none⟩), .slice A b.length c] w fun e w' => e = .returned (.tuple #[]) ∧ IsH w' g (l ++ b) ∧ w.grownBy w' (some g) :=
  (writeL_calls w g B l b A c h hg htab hr hBg hbc hcm hbl hsum).mono fun e w' ⟨h1, h2, h3⟩ => ⟨h1, h2.g, h3⟩
end Sm
end Go.Proofs.YtcbkhbnemhkheaaDoor
