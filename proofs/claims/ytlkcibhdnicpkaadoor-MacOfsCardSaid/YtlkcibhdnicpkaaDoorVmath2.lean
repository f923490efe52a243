/- Laws on the numbers of the wire, in plain lists: read as put, cut off, in their order. -/
import Derived.Test.YtlkcibhdnicpkaaDoorVmath
import GoSem.Op.String
namespace Go.Proofs.YtlkcibhdnicpkaaDoor
namespace Vm
theorem shortest_enc (n w : Nat) (hw : W4 w) (hn : (n : Int) < lim w) : shortest (enc n w) = if len n < w then (0, 0, 4) else (n, w, 0) := by
  have h := get_enc n w hw hn []
  rw [List.append_nil] at h
  unfold shortest
  rw [h]
  simp
theorem get_cut (n w m : Nat) (hw : W4 w) (hn : (n : Int) < lim w) (hm : m < w) : get ((enc n w).take m) = (0, 0, 3) := by
  rw [enc_cons n w hw hn]
  rcases m with _ | m
  · rfl
  · rw [List.take_succ_cons]
    apply get_lt
    have hlt : n / 256 ^ (w - 1) < 64 := by rcases hw with rfl | rfl | rfl | rfl <;> simp only [lim] at hn <;> simp only [Nat.reduceSub, Nat.reducePow] <;> omega
    have ht : tag w < 4 := by rcases hw with rfl | rfl | rfl | rfl <;> simp [tag]
    have hb : (UInt8.ofNat (n / 256 ^ (w - 1) + tag w * 64)).toNat = n / 256 ^ (w - 1) + tag w * 64 := by
      rw [UInt8.toNat_ofNat']; exact Nat.mod_eq_of_lt (by omega)
    have h8 : w8 (UInt8.ofNat (n / 256 ^ (w - 1) + tag w * 64)) = w := by
      unfold w8
      rw [hb, (show ∀ x t : Nat, x < 64 → (x + t * 64) / 64 = t from fun x t h => by omega) _ _ hlt]
      rcases hw with rfl | rfl | rfl | rfl <;> rfl
    rw [h8]
    simp
    omega
theorem be_less (w a b : Nat) (ha : a < 256 ^ w) (hb : b < 256 ^ w) : Op.bytesLess (be w a) (be w b) = decide (a < b) := by
  induction w generalizing a b with
  | zero => simp at ha hb; subst ha hb; rfl
  | succ w ih =>
    have hp : 0 < 256 ^ w := Nat.pow_pos (by omega)
    rw [Nat.pow_succ, Nat.mul_comm] at ha hb
    have hqa : a / 256 ^ w < 256 := Nat.div_lt_of_lt_mul (by rw [Nat.mul_comm]; exact ha)
    have hqb : b / 256 ^ w < 256 := Nat.div_lt_of_lt_mul (by rw [Nat.mul_comm]; exact hb)
    have hra : a % 256 ^ w < 256 ^ w := Nat.mod_lt _ hp
    have hrb : b % 256 ^ w < 256 ^ w := Nat.mod_lt _ hp
    have hma : be w a = be w (a % 256 ^ w) := by
      conv => lhs; rw [← Nat.mod_add_div a (256 ^ w), Nat.mul_comm, be_mod]
    have hmb : be w b = be w (b % 256 ^ w) := by
      conv => lhs; rw [← Nat.mod_add_div b (256 ^ w), Nat.mul_comm, be_mod]
    have ea := Nat.div_add_mod a (256 ^ w)
    have eb := Nat.div_add_mod b (256 ^ w)
    simp only [be, Op.bytesLess]
    rw [hma, hmb, ih _ _ hra hrb, Bool.eq_iff_iff]
    simp only [Bool.or_eq_true, Bool.and_eq_true, decide_eq_true_eq, beq_iff_eq, UInt8.lt_iff_toNat_lt, ← UInt8.toNat_inj, UInt8.toNat_ofNat', Nat.reducePow, Nat.mod_eq_of_lt hqa, Nat.mod_eq_of_lt hqb]
    rcases Nat.lt_trichotomy (a / 256 ^ w) (b / 256 ^ w) with h | h | h
    · have h3 : 256 ^ w * (a / 256 ^ w + 1) ≤ 256 ^ w * (b / 256 ^ w) := Nat.mul_le_mul_left _ h
      rw [Nat.mul_add] at h3
      constructor
      · intro _; omega
      · intro _; exact .inl h
    · rw [h] at ea
      constructor
      · rintro (h2 | h2) <;> omega
      · intro h2; right; omega
    · have h3 : 256 ^ w * (b / 256 ^ w + 1) ≤ 256 ^ w * (a / 256 ^ w) := Nat.mul_le_mul_left _ h
      rw [Nat.mul_add] at h3
      constructor
      · rintro (h2 | h2) <;> omega
      · intro _; omega
theorem enc_less (a b w : Nat) (hw : W4 w) (ha : (a : Int) < lim w) (hb : (b : Int) < lim w) : Op.bytesLess (enc a w) (enc b w) = decide (a < b) := by
  unfold enc
  rw [be_less]
  · simp
  · rcases hw with rfl | rfl | rfl | rfl <;> simp only [lim] at ha <;> simp only [top, tag] <;> omega
  · rcases hw with rfl | rfl | rfl | rfl <;> simp only [lim] at hb <;> simp only [top, tag] <;> omega
theorem enc_inj (a b w v : Nat) (hw : W4 w) (hv : W4 v) (ha : (a : Int) < lim w) (hb : (b : Int) < lim v) (h : enc a w = enc b v) : a = b := by
  have h1 := get_enc a w hw ha []
  have h2 := get_enc b v hv hb []
  rw [h, h2] at h1
  simp only [Prod.mk.injEq] at h1
  exact h1.1.symm
end Vm
end Go.Proofs.YtlkcibhdnicpkaaDoor
