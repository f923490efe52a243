/- The checksum that rolls, over lists: plain words. -/
import Derived.Test.YtiofkhjpknfkgaaDoorP01
import Derived.Test.YtiofkhjpknfkgaaDoorP02
import Derived.Test.YtiofkhjpknfkgaaDoorP03
import Init
import GoSem.Op.String
import Derived.Test.YtiofkhjpknfkgaaDoorProg
namespace Go.Proofs.YtiofkhjpknfkgaaDoor
namespace Ro
set_option linter.unusedVariables false
def sA : List UInt8 → Nat
  | [] => 0
  | c :: l => c.toNat + sA l
def sB : List UInt8 → Nat
  | [] => 0
  | c :: l => (l.length + 1) * c.toNat + sB l
theorem sA_snoc (l : List UInt8) (x : UInt8) : sA (l ++ [x]) = sA l + x.toNat := by
  induction l with
  | nil => simp [sA]
  | cons c l ih => simp only [List.cons_append, sA, ih]; omega
theorem sB_snoc (l : List UInt8) (x : UInt8) : sB (l ++ [x]) = sB l + (sA l + x.toNat) := by
  induction l with
  | nil => simp [sB, sA]
  | cons c l ih =>
    simp only [List.cons_append, sB, sA, ih, List.length_append, List.length_cons, List.length_nil]
    have : (l.length + (0 + 1) + 1) * c.toNat = (l.length + 1) * c.toNat + c.toNat := by rw [Nat.add_mul (l.length + (0 + 1)) 1, Nat.one_mul]
    omega
/-- the two halves -/
def ha (l : List UInt8) : Nat := sA l % 65536
def hb (l : List UInt8) : Nat := sB l % 65536
def rsum (l : List UInt8) : Nat := hb l * 65536 + ha l
theorem ha_lt (l : List UInt8) : ha l < 65536 := Nat.mod_lt _ (by omega)
theorem hb_lt (l : List UInt8) : hb l < 65536 := Nat.mod_lt _ (by omega)
theorem rsum_lt (l : List UInt8) : rsum l < 4294967296 := by have := ha_lt l; have := hb_lt l; unfold rsum; omega
theorem ha_snoc (l : List UInt8) (x : UInt8) : ha (l ++ [x]) = (ha l + x.toNat) % 65536 := by
  unfold ha; rw [sA_snoc]; omega
theorem hb_snoc (l : List UInt8) (x : UInt8) : hb (l ++ [x]) = (hb l + (ha l + x.toNat)) % 65536 := by
  unfold hb ha; rw [sB_snoc]; omega
/-- the first byte is taken away -/
theorem ha_out (c : UInt8) (l : List UInt8) : ((ha (c :: l) : Int) - (c.toNat : Int)) % 65536 = (ha l : Int) := by
  unfold ha; simp only [sA]; omega
theorem hb_out (c : UInt8) (l : List UInt8) : ((hb (c :: l) : Int) - (c.toNat : Int) * (((l.length + 1) % 65536 : Nat) : Int)) % 65536 = (hb l : Int) := by
  unfold hb
  simp only [sB]
  have e1 : (((((l.length + 1) * c.toNat + sB l) % 65536 : Nat) : Int)) = (((l.length + 1 : Nat) : Int) * (c.toNat : Int) + (sB l : Int)) % 65536 := by
    rw [Int.natCast_emod, Int.natCast_add, Int.natCast_mul]; rfl
  have e2 : (c.toNat : Int) * (((l.length + 1) % 65536 : Nat) : Int) % 65536 = ((l.length + 1 : Nat) : Int) * (c.toNat : Int) % 65536 := by
    rw [Int.natCast_emod, Int.mul_comm ((l.length + 1 : Nat) : Int), Int.mul_emod (c.toNat : Int) (((l.length + 1 : Nat) : Int) % _), Int.mul_emod (c.toNat : Int) ((l.length + 1 : Nat) : Int)]
    congr 2
    exact Int.emod_emod_of_dvd _ (Int.dvd_refl _)
  rw [e1]
  generalize ((l.length + 1 : Nat) : Int) * (c.toNat : Int) = q at *
  generalize (c.toNat : Int) * (((l.length + 1) % 65536 : Nat) : Int) = p at *
  omega
/-- the document's half so far -/
theorem sB_drop (l : List UInt8) (k : Nat) (hk : k < l.length) : sB (l.drop k) = (l.length - k) * (l.getD k 0).toNat + sB (l.drop (k + 1)) := by
  have e : l.drop k = l.getD k 0 :: l.drop (k + 1) := by
    rw [List.drop_eq_getElem_cons hk]
    simp [List.getD, hk]
  rw [e, sB, List.length_drop]
  congr 2
  omega
theorem sB_drop_le (l : List UInt8) : ∀ k, sB (l.drop k) ≤ sB l
  | 0 => Nat.le_refl _
  | k + 1 => by
    rcases Nat.lt_or_ge k l.length with h | h
    · have := sB_drop l k h; have := sB_drop_le l k; omega
    · rw [List.drop_eq_nil_of_le (by omega)]; exact Nat.zero_le _
def yk (l : List UInt8) (k : Nat) : Nat := (sB l - sB (l.drop k)) % 65536
theorem yk_zero (l : List UInt8) : yk l 0 = 0 := by simp [yk]
theorem yk_all (l : List UInt8) : yk l l.length = hb l := by simp [yk, hb, sB]
theorem yk_succ (l : List UInt8) (k : Nat) (hk : k < l.length) : yk l (k + 1) = (yk l k + (l.length - k) % 65536 * (l.getD k 0).toNat) % 65536 := by
  have h1 := sB_drop l k hk
  have h2 := sB_drop_le l k
  unfold yk
  have e : ∀ a b c : Nat, (a % 65536 + b % 65536 * c) % 65536 = (a + b * c) % 65536 := fun a b c => by
    rw [Nat.add_mod, Nat.mod_mod, Nat.mul_mod, Nat.mod_mod, ← Nat.mul_mod, ← Nat.add_mod]
  rw [e]
  congr 1
  omega
theorem ha_take (l : List UInt8) (k : Nat) (hk : k < l.length) : ha (l.take (k + 1)) = (ha (l.take k) + (l.getD k 0).toNat) % 65536 := by
  have e : l.take (k + 1) = l.take k ++ [l.getD k 0] := by
    rw [List.take_succ_eq_append_getElem hk]
    simp [List.getD, hk]
  rw [e, ha_snoc]
theorem hb_take (l : List UInt8) (k : Nat) (hk : k < l.length) : hb (l.take (k + 1)) = (hb (l.take k) + (ha (l.take k) + (l.getD k 0).toNat)) % 65536 := by
  have e : l.take (k + 1) = l.take k ++ [l.getD k 0] := by
    rw [List.take_succ_eq_append_getElem hk]
    simp [List.getD, hk]
  rw [e, hb_snoc]
end Ro
end Go.Proofs.YtiofkhjpknfkgaaDoor
/- The numbers of the wire, in plain lists: their least width, their bytes, and how they are read. -/
namespace Go.Proofs.YtiofkhjpknfkgaaDoor
namespace Vm
/-- a width -/
def W4 (w : Nat) : Prop := w = 1 ∨ w = 2 ∨ w = 4 ∨ w = 8
def lim : Nat → Int | 1 => 64 | 2 => 16384 | 4 => 1073741824 | _ => 4611686018427387904
def tag : Nat → Nat | 1 => 0 | 2 => 1 | 4 => 2 | _ => 3
def len (n : Int) : Nat := if n < 0 then 0 else if n < 64 then 1 else if n < 16384 then 2 else if n < 1073741824 then 4 else if n < 4611686018427387904 then 8 else 0
def be : Nat → Nat → List UInt8
  | 0, _ => []
  | w + 1, m => UInt8.ofNat (m / 256 ^ w) :: be w m
theorem be_length (w m : Nat) : (be w m).length = w := by induction w with | zero => rfl | succ w ih => simp [be, ih]
def top (w : Nat) : Nat := tag w * 64 * 256 ^ (w - 1)
def enc (n w : Nat) : List UInt8 := be w (n + top w)
def putIn (n w : Int) : List UInt8 × Int :=
  if ¬ (w = 1 ∨ w = 2 ∨ w = 4 ∨ w = 8) then ([], 2) else if n < 0 ∨ lim w.toNat ≤ n then ([], 13) else (enc n.toNat w.toNat, 0)
def put (n : Int) : List UInt8 × Int := if len n = 0 then ([], 13) else (enc n.toNat (len n), 0)
def w8 (b : UInt8) : Nat := 2 ^ (b.toNat / 64)
def val (acc : Nat) (l : List UInt8) : Nat := l.foldl (fun a c => a * 256 + c.toNat) acc
def get : List UInt8 → Nat × Nat × Int
  | [] => (0, 0, 3)
  | b :: r => if (b :: r).length < w8 b then (0, 0, 3) else (val (b.toNat % 64) (r.take (w8 b - 1)), w8 b, 0)
def shortest (l : List UInt8) : Nat × Nat × Int := if (get l).2.2 ≠ 0 then (0, 0, (get l).2.2) else if len (get l).1 < (get l).2.1 then (0, 0, 4) else get l

theorem w8_cases (b : UInt8) : w8 b = 1 ∨ w8 b = 2 ∨ w8 b = 4 ∨ w8 b = 8 := by
  unfold w8
  have := b.toNat_lt
  have h : b.toNat / 64 = 0 ∨ b.toNat / 64 = 1 ∨ b.toNat / 64 = 2 ∨ b.toNat / 64 = 3 := by omega
  rcases h with h | h | h | h <;> simp [h]
theorem val_lt (acc : Nat) (l : List UInt8) : val acc l < (acc + 1) * 256 ^ l.length := by
  induction l generalizing acc with
  | nil => simp [val]
  | cons c l ih =>
    have h := ih (acc * 256 + c.toNat)
    have hc := c.toNat_lt
    have e : val acc (c :: l) = val (acc * 256 + c.toNat) l := rfl
    rw [e]
    refine Nat.lt_of_lt_of_le h ?_
    rw [List.length_cons, Nat.pow_succ, Nat.mul_comm (256 ^ l.length) 256, ← Nat.mul_assoc]
    exact Nat.mul_le_mul_right _ (by omega)
theorem get_lt (b : UInt8) (r : List UInt8) (h : (b :: r).length < w8 b) : get (b :: r) = (0, 0, 3) := if_pos h
theorem get_ge (b : UInt8) (r : List UInt8) (h : ¬ (b :: r).length < w8 b) : get (b :: r) = (val (b.toNat % 64) (r.take (w8 b - 1)), w8 b, 0) := if_neg h
theorem get_bound (l : List UInt8) : (get l).1 < 4611686018427387904 ∧ ((get l).2.2 = 0 → ((get l).2.1 = 1 ∨ (get l).2.1 = 2 ∨ (get l).2.1 = 4 ∨ (get l).2.1 = 8) ∧ (get l).2.1 ≤ l.length) ∧ ((get l).2.2 = 0 ∨ (get l).2.2 = 3) := by
  cases l with
  | nil => simp [get]
  | cons b r =>
    by_cases h : (b :: r).length < w8 b
    · rw [get_lt b r h]; simp
    · rw [get_ge b r h]
      have hl : (r.take (w8 b - 1)).length ≤ 7 := by have := w8_cases b; simp; omega
      have hv := val_lt (b.toNat % 64) (r.take (w8 b - 1))
      have hp : 256 ^ (r.take (w8 b - 1)).length ≤ 256 ^ 7 := Nat.pow_le_pow_right (by omega) hl
      have hm : (b.toNat % 64 + 1) * 256 ^ (r.take (w8 b - 1)).length ≤ 64 * 256 ^ 7 := Nat.mul_le_mul (by omega) hp
      have := w8_cases b
      refine ⟨?_, fun _ => ⟨this, ?_⟩, .inl rfl⟩
      · show val (b.toNat % 64) (r.take (w8 b - 1)) < _
        omega
      · show w8 b ≤ _
        omega
theorem get_err (l : List UInt8) (h : (get l).2.2 ≠ 0) : get l = (0, 0, 3) := by
  cases l with
  | nil => rfl
  | cons b r =>
    by_cases hl : (b :: r).length < w8 b
    · exact get_lt b r hl
    · rw [get_ge b r hl] at h; simp at h
theorem be_mod (w m k : Nat) : be w (m + k * 256 ^ w) = be w m := by
  induction w generalizing k with
  | zero => rfl
  | succ w ih =>
    simp only [be]
    have e : m + k * 256 ^ (w + 1) = m + (k * 256) * 256 ^ w := by rw [Nat.pow_succ, Nat.mul_comm (256 ^ w), Nat.mul_assoc]
    rw [e, ih, Nat.add_mul_div_right _ _ (Nat.pow_pos (by omega))]
    congr 1
    apply UInt8.toNat_inj.1
    simp
theorem val_be (w m acc : Nat) : val acc (be w m) = acc * 256 ^ w + m % 256 ^ w := by
  induction w generalizing acc with
  | zero => simp [be, val]; omega
  | succ w ih =>
    have e : val acc (be (w + 1) m) = val (acc * 256 + (UInt8.ofNat (m / 256 ^ w)).toNat) (be w m) := rfl
    rw [e, ih]
    have h1 : (UInt8.ofNat (m / 256 ^ w)).toNat = m / 256 ^ w % 256 := by simp
    rw [h1, Nat.pow_succ, Nat.mod_mul, Nat.add_mul, Nat.mul_assoc, Nat.mul_comm (256 ^ w) 256]
    rw [Nat.mul_comm (m / 256 ^ w % 256)]
    omega
theorem enc_length (n w : Nat) : (enc n w).length = w := be_length ..
theorem enc_cons (n w : Nat) (hw : W4 w) (hn : (n : Int) < lim w) : enc n w = UInt8.ofNat (n / 256 ^ (w - 1) + tag w * 64) :: be (w - 1) n := by
  have key : ∀ k t, be (k + 1) (n + t * 64 * 256 ^ k) = UInt8.ofNat (n / 256 ^ k + t * 64) :: be k n := fun k t => by
    rw [be, Nat.add_mul_div_right _ _ (Nat.pow_pos (by omega)), be_mod]
  rcases hw with rfl | rfl | rfl | rfl
  · exact key 0 0
  · exact key 1 1
  · exact key 3 2
  · exact key 7 3
theorem get_enc (n w : Nat) (hw : W4 w) (hn : (n : Int) < lim w) (r : List UInt8) : get (enc n w ++ r) = (n, w, 0) := by
  rw [enc_cons n w hw hn, List.cons_append, get]
  have hlt : n / 256 ^ (w - 1) < 64 := by rcases hw with rfl | rfl | rfl | rfl <;> simp only [lim] at hn <;> simp only [Nat.reduceSub, Nat.reducePow] <;> omega
  have ht : tag w < 4 := by rcases hw with rfl | rfl | rfl | rfl <;> simp [tag]
  have hb : (UInt8.ofNat (n / 256 ^ (w - 1) + tag w * 64)).toNat = n / 256 ^ (w - 1) + tag w * 64 := by
    rw [UInt8.toNat_ofNat']; exact Nat.mod_eq_of_lt (by omega)
  have h8 : w8 (UInt8.ofNat (n / 256 ^ (w - 1) + tag w * 64)) = w := by
    unfold w8
    rw [hb, show ∀ x t : Nat, x < 64 → (x + t * 64) / 64 = t from fun x t h => by omega] <;> first | exact hlt | skip
    rcases hw with rfl | rfl | rfl | rfl <;> rfl
  have hm : (n / 256 ^ (w - 1) + tag w * 64) % 64 = n / 256 ^ (w - 1) := (show ∀ x t : Nat, x < 64 → (x + t * 64) % 64 = x from fun x t h => by omega) _ _ hlt
  have hpos : 0 < w := by rcases hw with rfl | rfl | rfl | rfl <;> omega
  rw [h8, hb, hm, if_neg (by simp [be_length]; omega)]
  rw [List.take_append_of_le_length (by rw [be_length]; exact Nat.le_refl _), List.take_of_length_le (by rw [be_length]; exact Nat.le_refl _), val_be]
  rw [Nat.mul_comm, Nat.div_add_mod]
theorem len_w4 (n : Int) : len n = 0 ∨ (W4 (len n) ∧ 0 ≤ n ∧ n < lim (len n)) := by
  unfold len
  repeat' split
  all_goals (first | (left; rfl) | (right; refine ⟨by simp [W4], by omega, by simp [lim]; omega⟩))
theorem len_min (n : Int) (w : Nat) (hw : W4 w) (h0 : 0 ≤ n) (h : n < lim w) : len n ≤ w ∧ len n ≠ 0 := by
  rcases hw with rfl | rfl | rfl | rfl <;> simp only [lim] at h <;> unfold len <;> (repeat' split) <;> omega
theorem len_zero (n : Int) : len n = 0 ↔ n < 0 ∨ 4611686018427387904 ≤ n := by
  unfold len
  repeat' split
  all_goals simp
  all_goals omega
theorem putIn_ok (n : Int) (w : Nat) (hw : W4 w) (h0 : 0 ≤ n) (h : n < lim w) : putIn n w = (enc n.toNat w, 0) := by
  have h1 : ((w : Int) = 1 ∨ (w : Int) = 2 ∨ (w : Int) = 4 ∨ (w : Int) = 8) := by unfold W4 at hw; omega
  unfold putIn
  rw [if_neg (by rw [Classical.not_not]; exact h1), if_neg (by simp; omega)]
  simp
theorem put_eq (n : Int) : put n = if len n = 0 then ([], 13) else putIn n (len n) := by
  unfold put
  split
  · rfl
  · rename_i h
    rcases len_w4 n with h' | ⟨hw, h0, hl⟩
    · exact absurd h' h
    · rw [putIn_ok n _ hw h0 hl]
def tell (d : Int) : Int := if d = 1 then 0 else if d = 2 then 1 else if d = 4 then 2 else if d = 8 then 3 else -1
theorem tell_pow (k : Nat) (h : k < 4) : tell ((2 ^ k : Nat) : Int) = k := by
  have : k = 0 ∨ k = 1 ∨ k = 2 ∨ k = 3 := by omega
  rcases this with rfl | rfl | rfl | rfl <;> rfl
theorem tell_none (d : Int) (h : ∀ j : Nat, j < 4 → d ≠ ((2 ^ j : Nat) : Int)) : tell d = -1 := by
  have h0 := h 0 (by omega); have h1 := h 1 (by omega); have h2 := h 2 (by omega); have h3 := h 3 (by omega)
  simp at h0 h1 h2 h3
  simp [tell, h0, h1, h2, h3]
theorem tell_tag (w : Nat) (h : W4 w) : tell w = tag w := by rcases h with rfl | rfl | rfl | rfl <;> rfl
theorem len_pow (n : Int) (k : Nat) (h : k < 4) (h0 : 0 ≤ n) (h1 : n < lim (2 ^ k)) (hp : 0 < k → n < 0 ∨ lim (2 ^ (k - 1)) ≤ n) : len n = 2 ^ k := by
  have : k = 0 ∨ k = 1 ∨ k = 2 ∨ k = 3 := by omega
  rcases this with rfl | rfl | rfl | rfl <;> simp [lim] at h1 hp <;> unfold len <;> (repeat' split) <;> (first | rfl | omega)
theorem len_none (n : Int) (h : n < 0 ∨ 4611686018427387904 ≤ n) : len n = 0 := (len_zero n).2 h
theorem val_snoc (acc : Nat) (l : List UInt8) (k : Nat) (h : k < l.length) : val acc (l.take (k + 1)) = val acc (l.take k) * 256 + (l.getD k 0).toNat := by
  rw [List.take_succ_eq_append_getElem h, val, List.foldl_append]
  simp [val, List.getD, h]
theorem val_small (b : UInt8) (l : List UInt8) (k : Nat) (h : k ≤ 6) : val (b.toNat % 64) (l.take k) < 18014398509481984 := by
  have hv := val_lt (b.toNat % 64) (l.take k)
  have hp : 256 ^ (l.take k).length ≤ 256 ^ 6 := Nat.pow_le_pow_right (by omega) (by simp; omega)
  have hm : (b.toNat % 64 + 1) * 256 ^ (l.take k).length ≤ 64 * 256 ^ 6 := Nat.mul_le_mul (by omega) hp
  omega
theorem be_set (N k m : Nat) (h : m + 1 ≤ k) : (List.replicate (m + 1) (0 : UInt8) ++ be (k - (m + 1)) N).set m (UInt8.ofNat (N / 256 ^ (k - (m + 1)) % 256)) = List.replicate m 0 ++ be (k - m) N := by
  have e : k - m = (k - (m + 1)) + 1 := by omega
  have e2 : UInt8.ofNat (N / 256 ^ (k - (m + 1)) % 256) = UInt8.ofNat (N / 256 ^ (k - (m + 1))) := UInt8.toNat_inj.1 (by simp)
  rw [e, be, List.replicate_succ', List.append_assoc, List.set_append_right _ _ (by simp), e2]
  simp
theorem enc_of_be (N k : Nat) (hk : W4 k) (hN : (N : Int) < lim k) : (be k N).set 0 (UInt8.ofNat ((N / 256 ^ (k - 1)) % 256 ||| tag k * 64)) = enc N k := by
  rw [enc_cons N k hk hN]
  have hlt : N / 256 ^ (k - 1) < 64 := by rcases hk with rfl | rfl | rfl | rfl <;> simp only [lim] at hN <;> simp only [Nat.reduceSub, Nat.reducePow] <;> omega
  have e : N / 256 ^ (k - 1) % 256 ||| tag k * 64 = N / 256 ^ (k - 1) + tag k * 64 := by
    rw [Nat.mod_eq_of_lt (by omega)]
    have := Nat.two_pow_add_eq_or_of_lt (i := 6) (b := N / 256 ^ (k - 1)) (by omega) (tag k)
    rw [Nat.or_comm, Nat.mul_comm (tag k) 64, show (64 : Nat) = 2 ^ 6 from rfl, ← this]
    omega
  rw [e]
  have hpos : ∃ j, k = j + 1 := ⟨k - 1, by rcases hk with rfl | rfl | rfl | rfl <;> rfl⟩
  obtain ⟨j, rfl⟩ := hpos
  simp [be]
theorem be_head (N k : Nat) (hk : 1 ≤ k) : (be k N).getD 0 0 = UInt8.ofNat (N / 256 ^ (k - 1)) := by
  obtain ⟨j, rfl⟩ : ∃ j, k = j + 1 := ⟨k - 1, by omega⟩
  simp [be]
theorem be_take_succ (N k j : Nat) (h : j < k) : (be k N).take (j + 1) = (be k N).take j ++ [UInt8.ofNat (N / 256 ^ (k - 1 - j))] := by
  induction k generalizing j with
  | zero => omega
  | succ k ih =>
    cases j with
    | zero => simp [be]
    | succ j => simp only [be, List.take_succ_cons, List.cons_append]; rw [ih j (by omega), show k + 1 - 1 - (j + 1) = k - 1 - j by omega]
theorem be_add_enc (N k : Nat) (hk : W4 k) (hN : (N : Int) < lim k) : (be k N).set 0 (UInt8.ofNat ((N / 256 ^ (k - 1)) % 256 + tag k * 64)) = enc N k := by
  rw [enc_cons N k hk hN]
  have hlt : N / 256 ^ (k - 1) < 64 := by rcases hk with rfl | rfl | rfl | rfl <;> simp only [lim] at hN <;> simp only [Nat.reduceSub, Nat.reducePow] <;> omega
  rw [Nat.mod_eq_of_lt (by omega)]
  obtain ⟨j, rfl⟩ : ∃ j, k = j + 1 := ⟨k - 1, by rcases hk with rfl | rfl | rfl | rfl <;> rfl⟩
  simp [be]
end Vm
end Go.Proofs.YtiofkhjpknfkgaaDoor
/- Laws on the numbers of the wire, in plain lists: read as put, cut off, in their order. -/
namespace Go.Proofs.YtiofkhjpknfkgaaDoor
namespace Vm
theorem shortest_enc (n w : Nat) (hw : W4 w) (hn : (n : Int) < lim w) : shortest (enc n w) = if len n < w then (0, 0, 4) else (n, w, 0) := by
  have h := get_enc n w hw hn []
  rw [List.append_nil] at h
  unfold shortest
  rw [h]
  simp
theorem get_cut (n w m : Nat) (hw : W4 w) (hn : (n : Int) < lim w) (hm : m < w) : get ((enc n w).take m) = (0, 0, 3) := by
  rw [enc_cons n w hw hn]
  rcases m with _ | m
  · rfl
  · rw [List.take_succ_cons]
    apply get_lt
    have hlt : n / 256 ^ (w - 1) < 64 := by rcases hw with rfl | rfl | rfl | rfl <;> simp only [lim] at hn <;> simp only [Nat.reduceSub, Nat.reducePow] <;> omega
    have ht : tag w < 4 := by rcases hw with rfl | rfl | rfl | rfl <;> simp [tag]
    have hb : (UInt8.ofNat (n / 256 ^ (w - 1) + tag w * 64)).toNat = n / 256 ^ (w - 1) + tag w * 64 := by
      rw [UInt8.toNat_ofNat']; exact Nat.mod_eq_of_lt (by omega)
    have h8 : w8 (UInt8.ofNat (n / 256 ^ (w - 1) + tag w * 64)) = w := by
      unfold w8
      rw [hb, (show ∀ x t : Nat, x < 64 → (x + t * 64) / 64 = t from fun x t h => by omega) _ _ hlt]
      rcases hw with rfl | rfl | rfl | rfl <;> rfl
    rw [h8]
    simp
    omega
theorem be_less (w a b : Nat) (ha : a < 256 ^ w) (hb : b < 256 ^ w) : Op.bytesLess (be w a) (be w b) = decide (a < b) := by
  induction w generalizing a b with
  | zero => simp at ha hb; subst ha hb; rfl
  | succ w ih =>
    have hp : 0 < 256 ^ w := Nat.pow_pos (by omega)
    rw [Nat.pow_succ, Nat.mul_comm] at ha hb
    have hqa : a / 256 ^ w < 256 := Nat.div_lt_of_lt_mul (by rw [Nat.mul_comm]; exact ha)
    have hqb : b / 256 ^ w < 256 := Nat.div_lt_of_lt_mul (by rw [Nat.mul_comm]; exact hb)
    have hra : a % 256 ^ w < 256 ^ w := Nat.mod_lt _ hp
    have hrb : b % 256 ^ w < 256 ^ w := Nat.mod_lt _ hp
    have hma : be w a = be w (a % 256 ^ w) := by
      conv => lhs; rw [← Nat.mod_add_div a (256 ^ w), Nat.mul_comm, be_mod]
    have hmb : be w b = be w (b % 256 ^ w) := by
      conv => lhs; rw [← Nat.mod_add_div b (256 ^ w), Nat.mul_comm, be_mod]
    have ea := Nat.div_add_mod a (256 ^ w)
    have eb := Nat.div_add_mod b (256 ^ w)
    simp only [be, Op.bytesLess]
    rw [hma, hmb, ih _ _ hra hrb, Bool.eq_iff_iff]
    simp only [Bool.or_eq_true, Bool.and_eq_true, decide_eq_true_eq, beq_iff_eq, UInt8.lt_iff_toNat_lt, ← UInt8.toNat_inj, UInt8.toNat_ofNat', Nat.reducePow, Nat.mod_eq_of_lt hqa, Nat.mod_eq_of_lt hqb]
    rcases Nat.lt_trichotomy (a / 256 ^ w) (b / 256 ^ w) with h | h | h
    · have h3 : 256 ^ w * (a / 256 ^ w + 1) ≤ 256 ^ w * (b / 256 ^ w) := Nat.mul_le_mul_left _ h
      rw [Nat.mul_add] at h3
      constructor
      · intro _; omega
      · intro _; exact .inl h
    · rw [h] at ea
      constructor
      · rintro (h2 | h2) <;> omega
      · intro h2; right; omega
    · have h3 : 256 ^ w * (b / 256 ^ w + 1) ≤ 256 ^ w * (a / 256 ^ w) := Nat.mul_le_mul_left _ h
      rw [Nat.mul_add] at h3
      constructor
      · rintro (h2 | h2) <;> omega
      · intro _; omega
theorem enc_less (a b w : Nat) (hw : W4 w) (ha : (a : Int) < lim w) (hb : (b : Int) < lim w) : Op.bytesLess (enc a w) (enc b w) = decide (a < b) := by
  unfold enc
  rw [be_less]
  · simp
  · rcases hw with rfl | rfl | rfl | rfl <;> simp only [lim] at ha <;> simp only [top, tag] <;> omega
  · rcases hw with rfl | rfl | rfl | rfl <;> simp only [lim] at hb <;> simp only [top, tag] <;> omega
theorem enc_inj (a b w v : Nat) (hw : W4 w) (hv : W4 v) (ha : (a : Int) < lim w) (hb : (b : Int) < lim v) (h : enc a w = enc b v) : a = b := by
  have h1 := get_enc a w hw ha []
  have h2 := get_enc b v hv hb []
  rw [h, h2] at h1
  simp only [Prod.mk.injEq] at h1
  exact h1.1.symm
end Vm
end Go.Proofs.YtiofkhjpknfkgaaDoor
/- Numbers and texts one behind the other, in plain lists; a reader of them. -/
namespace Go.Proofs.YtiofkhjpknfkgaaDoor
namespace Fm
open Vm
def num (n : Int) : List UInt8 := (put n).1
def text (r : List UInt8) : List UInt8 := num (r.length : Int) ++ r
/-- a reader: what is left, and the first error -/
structure Rd where
  l : List UInt8
  e : Int
def Rd.num (r : Rd) (most : Int) : Rd × Nat :=
  if r.e ≠ 0 then (r, 0) else if (shortest r.l).2.2 ≠ 0 then (⟨r.l, (shortest r.l).2.2⟩, 0) else if most < ((shortest r.l).1 : Int) then (⟨r.l, 5⟩, 0) else (⟨r.l.drop (shortest r.l).2.1, 0⟩, (shortest r.l).1)
def Rd.raw (r : Rd) (n : Int) : Rd × List UInt8 :=
  if r.e ≠ 0 then (r, []) else if n < 0 then (⟨r.l, 2⟩, []) else if (r.l.length : Int) < n then (⟨r.l, 3⟩, []) else (⟨r.l.drop n.toNat, 0⟩, r.l.take n.toNat)
def Rd.text (r : Rd) (most : Int) : Rd × List UInt8 :=
  if r.e ≠ 0 then (r, []) else if (r.num most).1.e ≠ 0 then (⟨r.l, (r.num most).1.e⟩, []) else if (((r.num most).1.raw (r.num most).2).1).e ≠ 0 then (⟨r.l, (((r.num most).1.raw (r.num most).2).1).e⟩, []) else (r.num most).1.raw (r.num most).2
def Rd.byte (r : Rd) : Rd × UInt8 := ((r.raw 1).1, (r.raw 1).2.getD 0 0)
def Rd.done (r : Rd) : Int := if r.e ≠ 0 then r.e else if 0 < r.l.length then 4 else 0

theorem enc_len8 (n w : Nat) (hw : W4 w) : (enc n w).length ≤ 8 := by rw [enc_length]; rcases hw with rfl | rfl | rfl | rfl <;> omega
theorem num_len (n : Int) : (num n).length ≤ 8 := by
  unfold num put
  split
  · simp
  · rename_i h
    rcases len_w4 n with h' | ⟨hw, _, _⟩
    · exact absurd h' h
    · exact enc_len8 _ _ hw
theorem num_none (n : Int) (h : (put n).2 ≠ 0) : num n = [] := by
  unfold num
  unfold put at h ⊢
  split
  · rfl
  · rename_i h2; rw [if_neg h2] at h; simp at h
theorem put_snd (n : Int) : (put n).2 = 0 ∨ (put n).2 = 13 := by unfold put; split <;> simp
theorem shortest_bound (l : List UInt8) : (shortest l).1 < 4611686018427387904 ∧ (shortest l).2.1 ≤ l.length ∧ ((shortest l).2.2 = 0 ∨ (shortest l).2.2 = 3 ∨ (shortest l).2.2 = 4) ∧ (shortest l).2.1 ≤ 8 ∧ ((shortest l).2.2 = 0 → 1 ≤ (shortest l).2.1) := by
  have h := get_bound l
  unfold shortest
  split
  · rename_i h0
    refine ⟨by simp, by simp, ?_, by simp, fun h1 => absurd h1 h0⟩
    rcases h.2.2 with h1 | h1
    · exact absurd h1 h0
    · exact .inr (.inl h1)
  · rename_i h0
    have h0 : (get l).2.2 = 0 := by rcases h.2.2 with h1 | h1 <;> omega
    split
    · exact ⟨by simp, by simp, .inr (.inr rfl), by simp, fun h1 => absurd h1 (by simp)⟩
    · have h1 := h.2.1 h0
      refine ⟨h.1, h1.2, .inl h0, ?_, fun _ => ?_⟩ <;> omega
theorem Rd.text_bad (r : Rd) (most : Int) (he : r.e ≠ 0) : r.text most = (r, []) := by unfold Rd.text; rw [if_pos he]
/-- a text, by what is looked at -/
theorem Rd.text_eq (r : Rd) (most : Int) (n u : Nat) (x : Int) (he : r.e = 0) (hs : shortest r.l = (n, u, x)) :
    r.text most = if x ≠ 0 then (⟨r.l, x⟩, []) else if most < (n : Int) then (⟨r.l, 5⟩, []) else if ((r.l.drop u).length : Int) < (n : Int) then (⟨r.l, 3⟩, []) else (⟨(r.l.drop u).drop n, 0⟩, (r.l.drop u).take n) := by
  have hr : r.num most = if x ≠ 0 then (⟨r.l, x⟩, 0) else if most < (n : Int) then (⟨r.l, 5⟩, 0) else (⟨r.l.drop u, 0⟩, n) := by unfold Rd.num; rw [hs, if_neg (by simpa using he)]
  unfold Rd.text
  rw [if_neg (by simpa using he), hr]
  by_cases hx : x = 0
  · subst hx
    simp only [ne_eq, not_true_eq_false, if_false]
    by_cases hm : most < (n : Int)
    · simp only [if_pos hm]; simp
    · simp only [if_neg hm]
      simp only [Rd.raw, ne_eq, not_true_eq_false, if_false]
      rw [if_neg (show ¬ ((n : Nat) : Int) < 0 by omega)]
      by_cases hc : ((r.l.drop u).length : Int) < (n : Int)
      · simp only [if_pos hc]; simp
      · simp only [if_neg hc]; simp
  · rw [if_pos hx, if_pos hx, if_pos hx]
theorem Rd.raw1_cases (r : Rd) : (∃ b, r.raw 1 = (⟨r.l.drop 1, 0⟩, [b])) ∨ (∃ x, x ≠ 0 ∧ r.raw 1 = (⟨r.l, x⟩, [])) := by
  unfold Rd.raw
  split
  · rename_i h; exact .inr ⟨r.e, h, rfl⟩
  · rw [if_neg (by omega)]
    split
    · exact .inr ⟨3, by omega, rfl⟩
    · rename_i h
      left
      rcases hl : r.l with _ | ⟨b, t⟩
      · rw [hl] at h; simp at h
      · exact ⟨b, by simp⟩
theorem num_some (n : Nat) (h : n < 4611686018427387904) : num (n : Int) = enc n (len n) ∧ W4 (len n) ∧ (n : Int) < lim (len n) := by
  rcases len_w4 (n : Int) with h0 | ⟨hw, h0, hl⟩
  · rw [len_zero] at h0; omega
  · refine ⟨?_, hw, hl⟩
    unfold num put
    rw [if_neg (by rcases hw with h | h | h | h <;> omega)]
    simp
theorem shortest_num (n : Nat) (h : n < 4611686018427387904) (x : List UInt8) : shortest (num (n : Int) ++ x) = (n, (num (n : Int)).length, 0) := by
  obtain ⟨h1, h2, h3⟩ := num_some n h
  have hg := get_enc n (len n) h2 h3 x
  rw [h1, enc_length]
  unfold shortest
  rw [hg]
  simp
theorem shortest_cut (n : Nat) (h : n < 4611686018427387904) (k : Nat) (hk : k < (num (n : Int)).length) : shortest ((num (n : Int)).take k) = (0, 0, 3) := by
  obtain ⟨h1, h2, h3⟩ := num_some n h
  rw [h1] at hk ⊢
  rw [enc_length] at hk
  have hg := get_cut n (len n) k h2 h3 hk
  unfold shortest
  rw [hg]
  simp
theorem num_pos (n : Nat) (h : n < 4611686018427387904) : 1 ≤ (num (n : Int)).length := by
  obtain ⟨h1, h2, h3⟩ := num_some n h
  rw [h1, enc_length]
  rcases h2 with h | h | h | h <;> omega
theorem tx_of (L : List UInt8) (most : Int) (n u : Nat) (x : Int) (hs : shortest L = (n, u, x)) :
    (Rd.mk L 0).text most = if x ≠ 0 then (⟨L, x⟩, []) else if most < (n : Int) then (⟨L, 5⟩, []) else if ((L.drop u).length : Int) < (n : Int) then (⟨L, 3⟩, []) else (⟨(L.drop u).drop n, 0⟩, (L.drop u).take n) := Rd.text_eq ⟨L, 0⟩ most n u x rfl hs
theorem tx_cut (r : List UInt8) (k most : Nat) (hr : r.length ≤ most) (hr2 : r.length < 4611686018427387904) (hk : k < (text r).length) : (Rd.mk ((text r).take k) 0).text (most : Int) = (⟨(text r).take k, 3⟩, []) := by
  unfold Fm.text at hk ⊢
  rw [List.length_append] at hk
  by_cases hw : k < (num (r.length : Int)).length
  · have hs : shortest ((num (r.length : Int) ++ r).take k) = (0, 0, 3) := by
      rw [List.take_append_of_le_length (by omega)]; exact shortest_cut r.length hr2 k hw
    rw [tx_of _ _ 0 0 3 hs]
    rfl
  · have ht : (num (r.length : Int) ++ r).take k = num (r.length : Int) ++ r.take (k - (num (r.length : Int)).length) := by
      rw [List.take_append, List.take_of_length_le (by omega)]
    have hs := shortest_num r.length hr2 (r.take (k - (num (r.length : Int)).length))
    rw [← ht] at hs
    rw [tx_of _ _ _ _ 0 hs]
    simp only [ne_eq, not_true_eq_false, if_false]
    rw [if_neg (by omega), if_pos]
    simp only [List.length_drop, List.length_take, List.length_append]
    omega
theorem tx_all (r x : List UInt8) (most : Int) (hr : (r.length : Int) ≤ most) (hr2 : r.length < 4611686018427387904) : (Rd.mk (text r ++ x) 0).text most = (⟨x, 0⟩, r) := by
  unfold Fm.text
  rw [List.append_assoc]
  have hs := shortest_num r.length hr2 (r ++ x)
  rw [tx_of _ _ _ _ 0 hs]
  simp only [ne_eq, not_true_eq_false, if_false]
  have hd : List.drop (num (r.length : Int)).length (num (r.length : Int) ++ (r ++ x)) = r ++ x := List.drop_left
  rw [hd, if_neg (by omega), if_neg (by simp only [List.length_append]; omega)]
  simp
theorem nm_all (n : Nat) (x : List UInt8) (most : Int) (hn : (n : Int) ≤ most) (h : n < 4611686018427387904) : (Rd.mk (Fm.num (n : Int) ++ x) 0).num most = (⟨x, 0⟩, n) := by
  have hs := shortest_num n h x
  unfold Rd.num
  rw [hs]
  simp only [ne_eq, not_true_eq_false, if_false]
  rw [if_neg (by omega)]
  simp
theorem nm_more (n : Nat) (x : List UInt8) (most : Int) (hn : most < (n : Int)) (h : n < 4611686018427387904) : (Rd.mk (Fm.num (n : Int) ++ x) 0).num most = (⟨Fm.num (n : Int) ++ x, 5⟩, 0) := by
  have hs := shortest_num n h x
  unfold Rd.num
  rw [hs]
  simp only [ne_eq, not_true_eq_false, if_false]
  rw [if_pos hn]
theorem tx_more (r x : List UInt8) (most : Int) (hr : most < (r.length : Int)) (hr2 : r.length < 4611686018427387904) : (Rd.mk (Fm.text r ++ x) 0).text most = (⟨Fm.text r ++ x, 5⟩, []) := by
  unfold Fm.text
  rw [List.append_assoc]
  have hs := shortest_num r.length hr2 (r ++ x)
  rw [tx_of _ _ _ _ 0 hs]
  simp only [ne_eq, not_true_eq_false, if_false]
  rw [if_pos hr]
end Fm
end Go.Proofs.YtiofkhjpknfkgaaDoor
/- Blocks and their sums, over lists: plain words. -/
namespace Go.Proofs.YtiofkhjpknfkgaaDoor
namespace Bk
open Ro Sm
set_option linter.unusedVariables false
/-- a block's sums: the weak one, the strong one -/
abbrev Sg := Nat × List UInt8
def sg (l : List Sg) (i : Nat) : Sg := l.getD i (0, [])
/-- a size for so many bytes -/
def bsize (n : Int) : Nat := if n ≤ 256 then 16 else if n ≤ 1024 then 32 else if n ≤ 4096 then 64 else if n ≤ 16384 then 128 else if n ≤ 65536 then 256 else if n ≤ 262144 then 512 else if n ≤ 1048576 then 1024 else if n ≤ 4194304 then 2048 else 4096
/-- the i-th block -/
def blk (size : Nat) (b : List UInt8) (i : Nat) : List UInt8 := (b.drop (i * size)).take size
def sgOf (x : List UInt8) : Sg := (rsum x, sha x)
/-- the first k blocks' sums -/
def signK (size : Nat) (b : List UInt8) (k : Nat) : List Sg := (List.range k).map fun i => sgOf (blk size b i)
def sign (size : Int) (b : List UInt8) : List Sg × Int :=
  if size < 1 ∨ 4096 < size then ([], 2) else if 65536 < b.length ∨ 4096 < b.length / size.toNat then ([], 5) else (signK size.toNat b (b.length / size.toNat), 0)
def check (size n : Int) (m : Nat) : Int := if size < 1 ∨ 4096 < size then 2 else if n < 0 ∨ 65536 < n then 5 else if (m : Int) ≠ n / size ∨ 4096 < m then 13 else 0
theorem signK_succ (size : Nat) (b : List UInt8) (k : Nat) : signK size b (k + 1) = signK size b k ++ [sgOf (blk size b k)] := by
  unfold signK
  rw [List.range_succ, List.map_append]
  rfl
theorem signK_len (size : Nat) (b : List UInt8) (k : Nat) : (signK size b k).length = k := by simp [signK]
theorem blk_len (size : Nat) (b : List UInt8) (i : Nat) (h : (i + 1) * size ≤ b.length) : (blk size b i).length = size := by
  unfold blk
  rw [List.length_take, List.length_drop]
  rw [Nat.add_mul] at h
  omega
/-! ### the entries of one weak sum -/
def grpK (size : Nat) (l : List Sg) (k w : Nat) : List (List UInt8 × Nat) := ((List.range k).filter fun i => (sg l i).1 == w).map fun i => ((sg l i).2, i * size)
theorem grpK_zero (size : Nat) (l : List Sg) (w : Nat) : grpK size l 0 w = [] := rfl
theorem grpK_succ (size : Nat) (l : List Sg) (k w : Nat) : grpK size l (k + 1) w = if (sg l k).1 = w then grpK size l k w ++ [((sg l k).2, k * size)] else grpK size l k w := by
  unfold grpK
  rw [List.range_succ, List.filter_append, List.map_append]
  by_cases h : (sg l k).1 = w
  · rw [if_pos h]
    congr 1
    rw [List.filter_cons_of_pos (by simpa using h)]
    rfl
  · rw [if_neg h, List.filter_cons_of_neg (by simpa using h)]
    simp
theorem grpK_len (size : Nat) (l : List Sg) (k w : Nat) : (grpK size l k w).length ≤ k := by
  unfold grpK
  rw [List.length_map]
  exact Nat.le_trans (List.length_filter_le _ _) (by simp)
theorem grpK_nil_iff (size : Nat) (l : List Sg) (k w : Nat) : grpK size l k w = [] ↔ ∀ i, i < k → (sg l i).1 ≠ w := by
  unfold grpK
  rw [List.map_eq_nil_iff, List.filter_eq_nil_iff]
  simp
/-- where a block is found -/
def findIx (l : List Sg) (s : Sg) : Option Nat := (List.range l.length).find? fun i => sg l i == s
def tellIx (size : Nat) : Option Nat → Int × Bool
  | some i => (((i * size : Nat) : Int), true)
  | none => (0, false)
def findB (size : Nat) (l : List Sg) (b : List UInt8) : Int × Bool := if b.length = size then tellIx size (findIx l (sgOf b)) else (0, false)
theorem grp_find (size : Nat) (l : List Sg) (s : Sg) : (grpK size l l.length s.1).find? (fun p => p.1 == s.2) = (findIx l s).map fun i => ((sg l i).2, i * size) := by
  unfold grpK findIx
  rw [List.find?_map, List.find?_filter]
  congr 2
  funext i
  obtain ⟨a, b⟩ := s
  simp only [Function.comp_apply]
  rw [Bool.eq_iff_iff]
  rw [decide_eq_true_iff, beq_iff_eq, beq_iff_eq, beq_iff_eq, Prod.ext_iff]
theorem find_take_none {α : Type} (p : α → Bool) (l : List α) (k : Nat) (d : α) (h : (l.take k).find? p = none) (hk : k < l.length) (hp : p (l.getD k d) = true) : l.find? p = some (l.getD k d) := by
  have e : l = l.take k ++ l.getD k d :: l.drop (k + 1) := by
    conv => lhs; rw [← List.take_append_drop k l, List.drop_eq_getElem_cons hk]
    simp [List.getD, hk]
  conv => lhs; rw [e]
  rw [List.find?_append, h, List.find?_cons_of_pos hp]
  rfl
theorem find_take_succ {α : Type} (p : α → Bool) (l : List α) (k : Nat) (d : α) (h : (l.take k).find? p = none) (hk : k < l.length) (hp : p (l.getD k d) = false) : (l.take (k + 1)).find? p = none := by
  rw [List.take_succ_eq_append_getElem hk, List.find?_append, h]
  have : l.getD k d = l[k] := by simp [List.getD, hk]
  rw [this] at hp
  rw [List.find?_cons_of_neg (by simp [hp])]
  rfl
/-! ### a list of sums as bytes -/
def sgB (s : Sg) : List UInt8 := Vm.be 4 s.1 ++ s.2
def sgsB (l : List Sg) : List UInt8 := l.flatMap sgB
def put (size n : Int) (l : List Sg) : List UInt8 × Int := if check size n l.length ≠ 0 then ([], check size n l.length) else (Fm.num size ++ Fm.num n ++ sgsB l, 0)
def ofB (x : List UInt8) : Sg := (Vm.val 0 (x.take 4), x.drop 4)
def sigsK (x : List UInt8) (k : Nat) : List Sg := (List.range k).map fun i => ofB ((x.drop (i * 36)).take 36)
theorem sigsK_succ (x : List UInt8) (k : Nat) : sigsK x (k + 1) = sigsK x k ++ [ofB ((x.drop (k * 36)).take 36)] := by
  unfold sigsK
  rw [List.range_succ, List.map_append]
  rfl
theorem sigsK_len (x : List UInt8) (k : Nat) : (sigsK x k).length = k := by simp [sigsK]
def none4 : Int × Int × List Sg × Int := (0, 0, [], 4)
/-- the program's reading -/
def get (raw : List UInt8) : Int × Int × List Sg × Int :=
  let a := (Fm.Rd.mk raw 0).num 4096
  let b := a.1.num 65536
  if b.1.e ≠ 0 ∨ a.2 < 1 ∨ 4096 < a.2 ∨ b.1.l.length ≠ b.2 / a.2 * 36 then none4
  else if check a.2 b.2 (b.2 / a.2) ≠ 0 then none4
  else ((a.2 : Int), (b.2 : Int), sigsK b.1.l (b.2 / a.2), 0)
/-- the bytes of a number are those that it was read of -/
theorem val_zero (acc : Nat) (s : List UInt8) : Vm.val acc s = acc * 256 ^ s.length + Vm.val 0 s := by
  induction s generalizing acc with
  | nil => simp [Vm.val]
  | cons c s ih =>
    have e : ∀ a, Vm.val a (c :: s) = Vm.val (a * 256 + c.toNat) s := fun a => rfl
    rw [e acc, e 0, ih (acc * 256 + c.toNat), ih (0 * 256 + c.toNat), List.length_cons, Nat.pow_succ, Nat.add_mul]
    rw [Nat.mul_comm (256 ^ s.length) 256, Nat.mul_assoc]
    simp
    omega
theorem be_val (s : List UInt8) (acc : Nat) : Vm.be s.length (Vm.val acc s) = s := by
  induction s generalizing acc with
  | nil => rfl
  | cons c s ih =>
    have e : Vm.val acc (c :: s) = Vm.val (acc * 256 + c.toNat) s := rfl
    rw [List.length_cons, Vm.be, e, ih]
    congr 1
    rw [val_zero]
    have hlt : Vm.val 0 s < 256 ^ s.length := by simpa using Vm.val_lt 0 s
    rw [Nat.mul_comm, Nat.mul_add_div (Nat.pow_pos (by omega)), Nat.div_eq_of_lt hlt]
    apply UInt8.toNat_inj.1
    simp
theorem val_be0 (n w : Nat) (h : n < 256 ^ w) : Vm.val 0 (Vm.be w n) = n := by
  rw [Vm.val_be, Nat.zero_mul, Nat.zero_add, Nat.mod_eq_of_lt h]
theorem get_take (l : List UInt8) (n w : Nat) (h : Vm.get l = (n, w, 0)) : l.take w = Vm.enc n w ∧ Vm.W4 w ∧ (n : Int) < Vm.lim w ∧ w ≤ l.length := by
  cases l with
  | nil => simp [Vm.get] at h
  | cons b r =>
    by_cases hl : (b :: r).length < Vm.w8 b
    · rw [Vm.get_lt b r hl] at h; simp at h
    · rw [Vm.get_ge b r hl] at h
      simp only [Prod.mk.injEq, and_true] at h
      obtain ⟨h1, h2⟩ := h
      have hb := b.toNat_lt
      have hw8 : ∃ t, t < 4 ∧ b.toNat / 64 = t ∧ Vm.w8 b = 2 ^ t ∧ Vm.tag (2 ^ t) = t := by
        refine ⟨b.toNat / 64, by omega, rfl, rfl, ?_⟩
        have h : b.toNat / 64 = 0 ∨ b.toNat / 64 = 1 ∨ b.toNat / 64 = 2 ∨ b.toNat / 64 = 3 := by omega
        rcases h with h | h | h | h <;> rw [h] <;> rfl
      obtain ⟨t, ht, hbt, hw, htag⟩ := hw8
      have hW : Vm.W4 w := by rw [← h2]; exact Vm.w8_cases b
      have hwp : 1 ≤ w := by rcases hW with rfl | rfl | rfl | rfl <;> omega
      have hrl : (r.take (w - 1)).length = w - 1 := by
        rw [List.length_take]
        rw [h2, List.length_cons] at hl
        omega
      rw [h2] at h1
      have hn : n + Vm.top w = Vm.val b.toNat (r.take (w - 1)) := by
        rw [← h1, val_zero, val_zero b.toNat, hrl]
        have htw : Vm.tag w = b.toNat / 64 := by rw [← h2, hw, htag, hbt]
        unfold Vm.top
        rw [htw]
        generalize 256 ^ (w - 1) = q
        generalize Vm.val 0 (r.take (w - 1)) = z
        have : b.toNat = b.toNat % 64 + b.toNat / 64 * 64 := by omega
        have e2 : b.toNat * q = b.toNat % 64 * q + b.toNat / 64 * 64 * q := by rw [← Nat.add_mul, ← this]
        omega
      have hlim : (n : Int) < Vm.lim w := by
        have := Vm.val_lt (b.toNat % 64) (r.take (w - 1))
        rw [h1, hrl] at this
        have h64 : (b.toNat % 64 + 1) * 256 ^ (w - 1) ≤ 64 * 256 ^ (w - 1) := Nat.mul_le_mul_right _ (by omega)
        have hlt : n < 64 * 256 ^ (w - 1) := Nat.lt_of_lt_of_le this h64
        rcases hW with rfl | rfl | rfl | rfl <;> simp [Vm.lim] at * <;> omega
      refine ⟨?_, hW, hlim, by rw [h2] at hl; omega⟩
      have hbe := be_val (b :: r.take (w - 1)) 0
      have e1 : Vm.val 0 (b :: r.take (w - 1)) = Vm.val b.toNat (r.take (w - 1)) := by
        show Vm.val (0 * 256 + b.toNat) _ = _
        rw [Nat.zero_mul, Nat.zero_add]
      rw [e1, ← hn, List.length_cons, hrl, show w - 1 + 1 = w by omega] at hbe
      unfold Vm.enc
      rw [hbe]
      obtain ⟨j, hj⟩ : ∃ j, w = j + 1 := ⟨w - 1, by omega⟩
      rw [hj]
      simp
theorem shortest_take (l : List UInt8) (n u : Nat) (h : Vm.shortest l = (n, u, 0)) : l.take u = Fm.num (n : Int) ∧ u ≤ l.length ∧ l = Fm.num (n : Int) ++ l.drop u ∧ n < 4611686018427387904 := by
  unfold Vm.shortest at h
  split at h
  · rename_i h0
    simp only [Prod.mk.injEq] at h
    exact absurd h.2.2 h0
  · split at h
    · simp at h
    · rename_i h1 h2
      obtain ⟨g1, g2, g3, g4⟩ := get_take l n u h
      rw [h] at h2
      have hb := (Vm.get_bound l).1
      rw [h] at hb
      have hle : Vm.len (n : Int) ≤ u ∧ Vm.len (n : Int) ≠ 0 := Vm.len_min n u g2 (by omega) g3
      have hlu : Vm.len (n : Int) = u := by simp only at h2; omega
      have hnum : Fm.num (n : Int) = Vm.enc n u := by rw [(Fm.num_some n hb).1, hlu]
      refine ⟨by rw [g1, hnum], g4, ?_, hb⟩
      rw [hnum, ← g1, List.take_append_drop]
theorem rnum_take (l : List UInt8) (most : Int) (h : ((Fm.Rd.mk l 0).num most).1.e = 0) : l = Fm.num (((Fm.Rd.mk l 0).num most).2 : Int) ++ ((Fm.Rd.mk l 0).num most).1.l ∧ (((Fm.Rd.mk l 0).num most).2 : Int) ≤ most ∧ ((Fm.Rd.mk l 0).num most).2 < 4611686018427387904 := by
  obtain ⟨n, u, x, hs⟩ : ∃ n u x, Vm.shortest l = (n, u, x) := ⟨_, _, _, rfl⟩
  unfold Fm.Rd.num at h ⊢
  simp only [hs, ne_eq, not_true_eq_false, if_false] at h ⊢
  by_cases hx : x = 0
  · subst hx
    simp only [not_true_eq_false, if_false] at h ⊢
    by_cases hm : most < (n : Int)
    · rw [if_pos hm] at h; simp at h
    · rw [if_neg hm] at h ⊢
      have := shortest_take l n u hs
      exact ⟨this.2.2.1, by omega, this.2.2.2⟩
  · rw [if_pos hx] at h
    exact absurd h hx
end Bk
end Go.Proofs.YtiofkhjpknfkgaaDoor
namespace Go.Proofs.YtiofkhjpknfkgaaDoor
namespace Sm
open Go.RowKit Ba
set_option linter.unusedVariables false
attribute [local go_sem] U_add U_add' U_xor U_and U_or U_of_u8 U_shr3 U_shr10 U_shl8 U_shl16 U_shl24
theorem ret_U {a b : UInt32} (h : a = b) : Ending.returned (.int .u32 (U a)) = .returned (.int .u32 (U b)) := by rw [h]
set_option maxHeartbeats 400000 in
theorem turn_calls (x : UInt32) (n : Nat) (h0 : 0 < n) (h : n < 32) (w : World) : Calls Tryd.prog 77 #[.int .u32 (U x), .int .i64 (n : Int)] w
    fun e w' => e = .returned (.int .u32 (U (rotr x (UInt32.ofNat n)))) ∧ ∃ k, w' = w.drewN k := by
  have e1 : U x / 2 ^ n = U (x >>> UInt32.ofNat n) := U_shr x n h
  have e2 : U x * 2 ^ (32 - n) % 4294967296 = U (x <<< (32 - UInt32.ofNat n)) := by
    rw [U_shl' x (32 - n) (by omega)]
    have : n < 2 ^ 32 := by omega
    have : UInt32.ofNat (32 - n) = 32 - UInt32.ofNat n := by
      apply UInt32.toNat.inj
      rw [UInt32.toNat_sub_of_le _ _ (by rw [UInt32.le_iff_toNat_le, UInt32.toNat_ofNat', Nat.mod_eq_of_lt (by omega)]; show n ≤ 32; omega)]
      rw [UInt32.toNat_ofNat', UInt32.toNat_ofNat', Nat.mod_eq_of_lt (by omega), Nat.mod_eq_of_lt (by omega)]
      rfl
    rw [this]
  go_enter Tryd.func77, Tryd.ntmps77
  go_wp2
  go_quiet (fail)
  go_wp2
  go_ret
  exact ⟨rfl, _, rfl⟩
set_option maxHeartbeats 400000 in
theorem rot_calls (x : UInt32) (m : Int) (n : Nat) (h0 : 0 < n) (h : n < 32) (hm : bits .and .u64 (IntKind.u64.wrap m) 31 = ((32 - n : Nat) : Int)) (w : World) : Calls Tryd.prog 84 #[.int .u32 (U x), .int .i64 m] w
    fun e w' => e = .returned (.int .u32 (U (rotr x (UInt32.ofNat n)))) ∧ w = w' := by
  have e1 : U x / 2 ^ n = U (x >>> UInt32.ofNat n) := U_shr x n h
  have e2 : U x * 2 ^ (32 - n) % 4294967296 = U (x <<< (32 - UInt32.ofNat n)) := by
    rw [U_shl' x (32 - n) (by omega)]
    have : n < 2 ^ 32 := by omega
    have : UInt32.ofNat (32 - n) = 32 - UInt32.ofNat n := by
      apply UInt32.toNat.inj
      rw [UInt32.toNat_sub_of_le _ _ (by rw [UInt32.le_iff_toNat_le, UInt32.toNat_ofNat', Nat.mod_eq_of_lt (by omega)]; show n ≤ 32; omega)]
      rw [UInt32.toNat_ofNat', UInt32.toNat_ofNat', Nat.mod_eq_of_lt (by omega), Nat.mod_eq_of_lt (by omega)]
      rfl
    rw [this]
  obtain ⟨k, hk⟩ : ∃ k, k = 32 - n := ⟨_, rfl⟩
  rw [← hk] at e2 hm
  have hkn : n = 32 - k := by omega
  have Hkn := Lib.hid hkn
  have e1' : U x / 2 ^ (32 - k) = U (x >>> UInt32.ofNat n) := by rw [← Hkn.out]; exact e1
  have hk1 : k < 32 := by omega
  clear hk hkn h h0 e1
  go_enter Tryd.func84, Tryd.ntmps84
  go_wp2
  go_ret
  exact ⟨ret_U (by unfold rotr; rw [UInt32.or_comm]), rfl⟩
theorem turn_any (x : UInt32) (m : Int) (hm : m ∈ [(2 : Int), 6, 7, 11, 13, 17, 18, 19, 22, 25]) (w : World) : Calls Tryd.prog 77 #[.int .u32 (U x), .int .i64 m] w
    fun e w' => e = .returned (.int .u32 (U (rotr x (UInt32.ofNat m.toNat)))) ∧ ∃ k, w' = w.drewN k := by
  simp only [List.mem_cons, List.not_mem_nil, or_false] at hm
  rcases hm with rfl | rfl | rfl | rfl | rfl | rfl | rfl | rfl | rfl | rfl
  · exact turn_calls x 2 (by omega) (by omega) w
  · exact turn_calls x 6 (by omega) (by omega) w
  · exact turn_calls x 7 (by omega) (by omega) w
  · exact turn_calls x 11 (by omega) (by omega) w
  · exact turn_calls x 13 (by omega) (by omega) w
  · exact turn_calls x 17 (by omega) (by omega) w
  · exact turn_calls x 18 (by omega) (by omega) w
  · exact turn_calls x 19 (by omega) (by omega) w
  · exact turn_calls x 22 (by omega) (by omega) w
  · exact turn_calls x 25 (by omega) (by omega) w
theorem rot_any (x : UInt32) (m : Int) (hm : m ∈ [(-2 : Int), -6, -7, -11, -13, -17, -18, -19, -22, -25]) (w : World) : Calls Tryd.prog 84 #[.int .u32 (U x), .int .i64 m] w
    fun e w' => e = .returned (.int .u32 (U (rotr x (UInt32.ofNat (-m).toNat)))) ∧ w = w' := by
  simp only [List.mem_cons, List.not_mem_nil, or_false] at hm
  rcases hm with rfl | rfl | rfl | rfl | rfl | rfl | rfl | rfl | rfl | rfl
  · exact rot_calls x (-2) 2 (by omega) (by omega) (by decide) w
  · exact rot_calls x (-6) 6 (by omega) (by omega) (by decide) w
  · exact rot_calls x (-7) 7 (by omega) (by omega) (by decide) w
  · exact rot_calls x (-11) 11 (by omega) (by omega) (by decide) w
  · exact rot_calls x (-13) 13 (by omega) (by omega) (by decide) w
  · exact rot_calls x (-17) 17 (by omega) (by omega) (by decide) w
  · exact rot_calls x (-18) 18 (by omega) (by omega) (by decide) w
  · exact rot_calls x (-19) 19 (by omega) (by omega) (by decide) w
  · exact rot_calls x (-22) 22 (by omega) (by omega) (by decide) w
  · exact rot_calls x (-25) 25 (by omega) (by omega) (by decide) w
end Sm
end Go.Proofs.YtiofkhjpknfkgaaDoor
namespace Go.Proofs.YtiofkhjpknfkgaaDoor
namespace Sm
open Go.RowKit Ba
set_option linter.unusedVariables false
attribute [local go_sem] U_add U_add' U_xor U_and U_or U_of_u8 U_shr3 U_shr10 U_shl8 U_shl16 U_shl24
set_option maxRecDepth 100000 in
set_option maxHeartbeats 1000000 in
theorem spread_calls (b : List UInt8) (hb : b.length = 64) (A : Option Addr) (c : Nat) (hc : 64 ≤ c) (hcm : c ≤ 9223372036854775807) (w : World) (hr : ReadB w w.heap.size A b) : Calls Tryd.prog 83 #[.slice A 64 c] w
    fun e w' => e = .returned (.agg (wvs (sched b)).toArray) ∧ Below w.heap.size w w' := by
  obtain ⟨ab, ao, rfl, hab, hcell⟩ := hr (by omega)
  have Hcell := Lib.hid hcell
  clear hcell hr
  go_enter Tryd.func83, Tryd.ntmps83
  go_wp2
  go_loopw [12] (fun i wr => ∃ k : Nat, k ≤ 16 ∧ i = .int .i64 k ∧ BlkW wr (w.heap.size + 1) 108 (wpart b k) ∧ BlkW wr w.heap.size 108 (List.replicate 64 0) ∧ Below w.heap.size w wr) (fun i _ => 16 - (intOf i).toNat)
  case atStart => exact ⟨0, Nat.zero_le _, rfl, BlkW.new_ _ _ _ _ _ (by simp) (by rfl), BlkW.alloc (BlkW.new_ _ _ _ _ _ (by rfl) (by rfl)) _, ((Below.refl _ _).alloc (Nat.le_refl _) _).alloc (by simp) _⟩
  case round =>
    obtain ⟨k, hk, rfl, hB, hR, hbel⟩ := hrel
    by_cases hkl : k < 16
    · have HB := Lib.hid hB
      have HR := Lib.hid hR
      have Hbel := Lib.hid hbel
      clear hB hR hbel
      go_wp2
      go_loopw [6, 23] (fun x i wx => ∃ j : Nat, j ≤ 4 ∧ i = .int .i64 j ∧ BlkW wx (w.heap.size + 1) 108 ((wpart b k).set k (prt b (4 * k) j)) ∧ BlkW wx w.heap.size 108 (List.replicate 64 0) ∧ Below w.heap.size w wx) (fun _ i _ => 4 - (intOf i).toNat)
      case atStart => exact ⟨0, Nat.zero_le _, rfl, by rw [wpart_set0 b k hkl]; exact HB.out, HR.out, Hbel.out⟩
      case round =>
        obtain ⟨j, hj, rfl, hB2, hR2, hbel2⟩ := hrel
        have hlen : (wpart b k).length = 64 := wpart_len b k hk
        have Hlen := Lib.hid hlen
        have hc1 := hB2.cell k (by rw [List.length_set, hlen]; omega)
        have hf1 := hB2.frozen k
        have hg1 : g ((wpart b k).set k (prt b (4 * k) j)) k = prt b (4 * k) j := by unfold g; rw [List.getD_eq_getElem?_getD, List.getElem?_set_self (by omega)]; rfl
        rw [hg1] at hc1
        have hb1 := (hbel2.cell (p := ⟨ab, ao + (4 * k + j), none⟩) hab)
        by_cases hjl : j < 4
        · rw [Hcell.out (4 * k + j) (by omega), ← Nat.add_assoc] at hb1
          have HB2 := Lib.hid hB2
          have HR2 := Lib.hid hR2
          have Hbel2 := Lib.hid hbel2
          clear hB2 hR2 hbel2 hlen hg1
          go_wp2
          go_roundw
          case rel =>
            refine ⟨j + 1, by omega, by go_num, ?_, HR2.out.far (by simp) _, Hbel2.out.setCell (by simp) _⟩
            rw [← List.getD_eq_getElem?_getD]
            have := HB2.out.set_ k (prt b (4 * k) (j + 1))
            rw [List.set_set] at this
            exact this
          case measure => simp [intOf]; omega
        · have hj4 : j = 4 := by omega
          subst hj4
          rw [prt4, wpart_set4 b k hkl] at hB2
          have HB2 := Lib.hid hB2
          have HR2 := Lib.hid hR2
          have Hbel2 := Lib.hid hbel2
          clear hb1 hB2 hR2 hbel2 hc1 hf1 hg1 hjl hj hlen
          go_wp2
          go_roundw
          case rel => exact ⟨k + 1, by omega, by go_num, HB2.out, HR2.out, Hbel2.out⟩
          case measure => simp [intOf]; omega
    · have hk16 : k = 16 := by omega
      rw [hk16] at hB
      have HB := Lib.hid hB
      have HR := Lib.hid hR
      have Hbel := Lib.hid hbel
      clear hB hR hbel hk hk16
      go_wp2
      rw [← spart16] at HB
      go_loopw [7, 8, 9, 10, 11] (fun i _ _ _ _ wr => ∃ k : Nat, 16 ≤ k ∧ k ≤ 64 ∧ i = .int .i64 k ∧ BlkW wr (w.heap.size + 1) 108 (spart b k) ∧ BlkW wr w.heap.size 108 (List.replicate 64 0) ∧ Below w.heap.size w wr) (fun i _ _ _ _ _ => 64 - (intOf i).toNat)
      case atStart => exact ⟨16, Nat.le_refl _, by omega, rfl, HB.out, HR.out, Hbel.out⟩
      case round =>
        obtain ⟨k, hk16, hk, rfl, hB, hR, hbel⟩ := hrel
        by_cases hkl : k < 64
        · have hlen := spart_len b k hk16 hk
          have hc15 := hB.cell (k - 15) (by omega)
          have hc2 := hB.cell (k - 2) (by omega)
          have hc16 := hB.cell (k - 16) (by omega)
          have hc7 := hB.cell (k - 7) (by omega)
          have hck := hB.cell k (by omega)
          have hfk := hB.frozen k
          rw [spart_at b k _ hk16 (by omega)] at hc15 hc2 hc16 hc7
          have HB := Lib.hid hB
          have HR := Lib.hid hR
          have Hbel := Lib.hid hbel
          have Hlen := Lib.hid hlen
          clear hB hR hbel hlen
          go_wp2
          go_quiet (fail)
          go_wp2_with (go_at_call 84; refine (rot_any _ _ (by decide) _).mono ?_; rintro e w1 ⟨rfl, rfl⟩)
          go_region
          go_wp2
          go_roundw
          case rel =>
            refine ⟨k + 1, by omega, by omega, by go_num, ?_, (HR.out.drewN (nq + 1)).far (by simp) _, (below_drewN Hbel.out (nq + 1)).setCell (by simp) _⟩
            have := (HB.out.drewN (nq + 1)).set_ k (nextW (wl b k) k)
            rw [spart_set b k hk16 hkl] at this
            exact this
          case measure => simp [intOf]; omega
        · have hk64 : k = 64 := by omega
          subst hk64
          rw [spart64] at hB
          have hlen : (sched b).length = 64 := by rw [← spart64]; exact spart_len b 64 (by omega) (by omega)
          have HB := Lib.hid hB
          have HR := Lib.hid hR
          have Hbel := Lib.hid hbel
          have Hlen := Lib.hid hlen
          clear hB hR hbel hlen hkl hk hk16
          go_wp2_with (first
            | (refine wpList_loadW rfl 108 (.tmp 3) rfl (w.heap.size + 1) 108 (sched b) rfl HB.out _ Tryd.underlying108 rfl (by rw [Hlen.out]; kernel_rfl) ?_)
            | (refine wpList_storeW rfl 108 (.tmp 2) (.tmp 81) rfl w.heap.size 108 (List.replicate 64 0) (sched b) rfl rfl HR.out (by rw [Hlen.out]; rfl) (by rw [Hlen.out]; kernel_rfl) ?_; intro w5 hR5 hg5))
          refine bodyPost_ret (results_cell_row (p := 2) (ty := 108) (by kernel_rfl) _ w5 w.heap.size 108 (wvs (sched b)).toArray (0, 0) _ rfl hR5 Tryd.underlying108 rfl (by rw [List.size_toArray, wvs_len, Hlen.out]; kernel_rfl)) rfl ⟨rfl, Hbel.out.trans (below_of_only hg5 (Nat.le_refl _) Hbel.out.size)⟩
end Sm
end Go.Proofs.YtiofkhjpknfkgaaDoor
