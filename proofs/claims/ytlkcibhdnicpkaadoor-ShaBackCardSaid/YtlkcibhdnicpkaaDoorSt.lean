import Derived.Test.YtlkcibhdnicpkaaDoorProg
import Derived.Test.YtlkcibhdnicpkaaDoorSbase
namespace Go.Proofs.YtlkcibhdnicpkaaDoor
namespace Sm
open Go.RowKit Ba
set_option linter.unusedVariables false
attribute [local go_sem] U_add U_add' U_xor U_and U_or U_of_u8 U_shr3 U_shr10 U_shl8 U_shl16 U_shl24
theorem ret_U {a b : UInt32} (h : a = b) : Ending.returned (.int .u32 (U a)) = .returned (.int .u32 (U b)) := by rw [h]
set_option maxHeartbeats 400000 in
theorem turn_calls (x : UInt32) (n : Nat) (h0 : 0 < n) (h : n < 32) (w : World) : Calls Tryd.prog 54 #[.int .u32 (U x), .int .i64 (n : Int)] w
    fun e w' => e = .returned (.int .u32 (U (rotr x (UInt32.ofNat n)))) ∧ ∃ k, w' = w.drewN k := by
  have e1 : U x / 2 ^ n = U (x >>> UInt32.ofNat n) := U_shr x n h
  have e2 : U x * 2 ^ (32 - n) % 4294967296 = U (x <<< (32 - UInt32.ofNat n)) := by
    rw [U_shl' x (32 - n) (by omega)]
    have : n < 2 ^ 32 := by omega
    have : UInt32.ofNat (32 - n) = 32 - UInt32.ofNat n := by
      apply UInt32.toNat.inj
      rw [UInt32.toNat_sub_of_le _ _ (by rw [UInt32.le_iff_toNat_le, UInt32.toNat_ofNat', Nat.mod_eq_of_lt (by omega)]; show n ≤ 32; omega)]
      rw [UInt32.toNat_ofNat', UInt32.toNat_ofNat', Nat.mod_eq_of_lt (by omega), Nat.mod_eq_of_lt (by omega)]
      rfl
    rw [this]
  go_enter Tryd.func54, Tryd.ntmps54
  go_wp2
  go_quiet (fail)
  go_wp2
  go_ret
  exact ⟨rfl, _, rfl⟩
set_option maxHeartbeats 400000 in
theorem rot_calls (x : UInt32) (m : Int) (n : Nat) (h0 : 0 < n) (h : n < 32) (hm : bits .and .u64 (IntKind.u64.wrap m) 31 = ((32 - n : Nat) : Int)) (w : World) : Calls Tryd.prog 56 #[.int .u32 (U x), .int .i64 m] w
    fun e w' => e = .returned (.int .u32 (U (rotr x (UInt32.ofNat n)))) ∧ w = w' := by
  have e1 : U x / 2 ^ n = U (x >>> UInt32.ofNat n) := U_shr x n h
  have e2 : U x * 2 ^ (32 - n) % 4294967296 = U (x <<< (32 - UInt32.ofNat n)) := by
    rw [U_shl' x (32 - n) (by omega)]
    have : n < 2 ^ 32 := by omega
    have : UInt32.ofNat (32 - n) = 32 - UInt32.ofNat n := by
      apply UInt32.toNat.inj
      rw [UInt32.toNat_sub_of_le _ _ (by rw [UInt32.le_iff_toNat_le, UInt32.toNat_ofNat', Nat.mod_eq_of_lt (by omega)]; show n ≤ 32; omega)]
      rw [UInt32.toNat_ofNat', UInt32.toNat_ofNat', Nat.mod_eq_of_lt (by omega), Nat.mod_eq_of_lt (by omega)]
      rfl
    rw [this]
  obtain ⟨k, hk⟩ : ∃ k, k = 32 - n := ⟨_, rfl⟩
  rw [← hk] at e2 hm
  have hkn : n = 32 - k := by omega
  have Hkn := Lib.hid hkn
  have e1' : U x / 2 ^ (32 - k) = U (x >>> UInt32.ofNat n) := by rw [← Hkn.out]; exact e1
  have hk1 : k < 32 := by omega
  clear hk hkn h h0 e1
  go_enter Tryd.func56, Tryd.ntmps56
  go_wp2
  go_ret
  exact ⟨ret_U (by unfold rotr; rw [UInt32.or_comm]), rfl⟩
theorem turn_any (x : UInt32) (m : Int) (hm : m ∈ [(2 : Int), 6, 7, 11, 13, 17, 18, 19, 22, 25]) (w : World) : Calls Tryd.prog 54 #[.int .u32 (U x), .int .i64 m] w
    fun e w' => e = .returned (.int .u32 (U (rotr x (UInt32.ofNat m.toNat)))) ∧ ∃ k, w' = w.drewN k := by
  simp only [List.mem_cons, List.not_mem_nil, or_false] at hm
  rcases hm with rfl | rfl | rfl | rfl | rfl | rfl | rfl | rfl | rfl | rfl
  · exact turn_calls x 2 (by omega) (by omega) w
  · exact turn_calls x 6 (by omega) (by omega) w
  · exact turn_calls x 7 (by omega) (by omega) w
  · exact turn_calls x 11 (by omega) (by omega) w
  · exact turn_calls x 13 (by omega) (by omega) w
  · exact turn_calls x 17 (by omega) (by omega) w
  · exact turn_calls x 18 (by omega) (by omega) w
  · exact turn_calls x 19 (by omega) (by omega) w
  · exact turn_calls x 22 (by omega) (by omega) w
  · exact turn_calls x 25 (by omega) (by omega) w
theorem rot_any (x : UInt32) (m : Int) (hm : m ∈ [(-2 : Int), -6, -7, -11, -13, -17, -18, -19, -22, -25]) (w : World) : Calls Tryd.prog 56 #[.int .u32 (U x), .int .i64 m] w
    fun e w' => e = .returned (.int .u32 (U (rotr x (UInt32.ofNat (-m).toNat)))) ∧ w = w' := by
  simp only [List.mem_cons, List.not_mem_nil, or_false] at hm
  rcases hm with rfl | rfl | rfl | rfl | rfl | rfl | rfl | rfl | rfl | rfl
  · exact rot_calls x (-2) 2 (by omega) (by omega) (by decide) w
  · exact rot_calls x (-6) 6 (by omega) (by omega) (by decide) w
  · exact rot_calls x (-7) 7 (by omega) (by omega) (by decide) w
  · exact rot_calls x (-11) 11 (by omega) (by omega) (by decide) w
  · exact rot_calls x (-13) 13 (by omega) (by omega) (by decide) w
  · exact rot_calls x (-17) 17 (by omega) (by omega) (by decide) w
  · exact rot_calls x (-18) 18 (by omega) (by omega) (by decide) w
  · exact rot_calls x (-19) 19 (by omega) (by omega) (by decide) w
  · exact rot_calls x (-22) 22 (by omega) (by omega) (by decide) w
  · exact rot_calls x (-25) 25 (by omega) (by omega) (by decide) w
end Sm
end Go.Proofs.YtlkcibhdnicpkaaDoor
