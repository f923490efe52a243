/- The numbers of the wire, in plain lists: their least width, their bytes, and how they are read. -/
import Init
namespace Go.Proofs.YtlkcibhdnicpkaaDoor
namespace Vm
/-- a width -/
def W4 (w : Nat) : Prop := w = 1 ∨ w = 2 ∨ w = 4 ∨ w = 8
def lim : Nat → Int | 1 => 64 | 2 => 16384 | 4 => 1073741824 | _ => 4611686018427387904
def tag : Nat → Nat | 1 => 0 | 2 => 1 | 4 => 2 | _ => 3
def len (n : Int) : Nat := if n < 0 then 0 else if n < 64 then 1 else if n < 16384 then 2 else if n < 1073741824 then 4 else if n < 4611686018427387904 then 8 else 0
def be : Nat → Nat → List UInt8
  | 0, _ => []
  | w + 1, m => UInt8.ofNat (m / 256 ^ w) :: be w m
theorem be_length (w m : Nat) : (be w m).length = w := by induction w with | zero => rfl | succ w ih => simp [be, ih]
def top (w : Nat) : Nat := tag w * 64 * 256 ^ (w - 1)
def enc (n w : Nat) : List UInt8 := be w (n + top w)
def putIn (n w : Int) : List UInt8 × Int :=
  if ¬ (w = 1 ∨ w = 2 ∨ w = 4 ∨ w = 8) then ([], 2) else if n < 0 ∨ lim w.toNat ≤ n then ([], 13) else (enc n.toNat w.toNat, 0)
def put (n : Int) : List UInt8 × Int := if len n = 0 then ([], 13) else (enc n.toNat (len n), 0)
def w8 (b : UInt8) : Nat := 2 ^ (b.toNat / 64)
def val (acc : Nat) (l : List UInt8) : Nat := l.foldl (fun a c => a * 256 + c.toNat) acc
def get : List UInt8 → Nat × Nat × Int
  | [] => (0, 0, 3)
  | b :: r => if (b :: r).length < w8 b then (0, 0, 3) else (val (b.toNat % 64) (r.take (w8 b - 1)), w8 b, 0)
def shortest (l : List UInt8) : Nat × Nat × Int := if (get l).2.2 ≠ 0 then (0, 0, (get l).2.2) else if len (get l).1 < (get l).2.1 then (0, 0, 4) else get l

theorem w8_cases (b : UInt8) : w8 b = 1 ∨ w8 b = 2 ∨ w8 b = 4 ∨ w8 b = 8 := by
  unfold w8
  have := b.toNat_lt
  have h : b.toNat / 64 = 0 ∨ b.toNat / 64 = 1 ∨ b.toNat / 64 = 2 ∨ b.toNat / 64 = 3 := by omega
  rcases h with h | h | h | h <;> simp [h]
theorem val_lt (acc : Nat) (l : List UInt8) : val acc l < (acc + 1) * 256 ^ l.length := by
  induction l generalizing acc with
  | nil => simp [val]
  | cons c l ih =>
    have h := ih (acc * 256 + c.toNat)
    have hc := c.toNat_lt
    have e : val acc (c :: l) = val (acc * 256 + c.toNat) l := rfl
    rw [e]
    refine Nat.lt_of_lt_of_le h ?_
    rw [List.length_cons, Nat.pow_succ, Nat.mul_comm (256 ^ l.length) 256, ← Nat.mul_assoc]
    exact Nat.mul_le_mul_right _ (by omega)
theorem get_lt (b : UInt8) (r : List UInt8) (h : (b :: r).length < w8 b) : get (b :: r) = (0, 0, 3) := if_pos h
theorem get_ge (b : UInt8) (r : List UInt8) (h : ¬ (b :: r).length < w8 b) : get (b :: r) = (val (b.toNat % 64) (r.take (w8 b - 1)), w8 b, 0) := if_neg h
theorem get_bound (l : List UInt8) : (get l).1 < 4611686018427387904 ∧ ((get l).2.2 = 0 → ((get l).2.1 = 1 ∨ (get l).2.1 = 2 ∨ (get l).2.1 = 4 ∨ (get l).2.1 = 8) ∧ (get l).2.1 ≤ l.length) ∧ ((get l).2.2 = 0 ∨ (get l).2.2 = 3) := by
  cases l with
  | nil => simp [get]
  | cons b r =>
    by_cases h : (b :: r).length < w8 b
    · rw [get_lt b r h]; simp
    · rw [get_ge b r h]
      have hl : (r.take (w8 b - 1)).length ≤ 7 := by have := w8_cases b; simp; omega
      have hv := val_lt (b.toNat % 64) (r.take (w8 b - 1))
      have hp : 256 ^ (r.take (w8 b - 1)).length ≤ 256 ^ 7 := Nat.pow_le_pow_right (by omega) hl
      have hm : (b.toNat % 64 + 1) * 256 ^ (r.take (w8 b - 1)).length ≤ 64 * 256 ^ 7 := Nat.mul_le_mul (by omega) hp
      have := w8_cases b
      refine ⟨?_, fun _ => ⟨this, ?_⟩, .inl rfl⟩
      · show val (b.toNat % 64) (r.take (w8 b - 1)) < _
        omega
      · show w8 b ≤ _
        omega
theorem get_err (l : List UInt8) (h : (get l).2.2 ≠ 0) : get l = (0, 0, 3) := by
  cases l with
  | nil => rfl
  | cons b r =>
    by_cases hl : (b :: r).length < w8 b
    · exact get_lt b r hl
    · rw [get_ge b r hl] at h; simp at h
theorem be_mod (w m k : Nat) : be w (m + k * 256 ^ w) = be w m := by
  induction w generalizing k with
  | zero => rfl
  | succ w ih =>
    simp only [be]
    have e : m + k * 256 ^ (w + 1) = m + (k * 256) * 256 ^ w := by rw [Nat.pow_succ, Nat.mul_comm (256 ^ w), Nat.mul_assoc]
    rw [e, ih, Nat.add_mul_div_right _ _ (Nat.pow_pos (by omega))]
    congr 1
    apply UInt8.toNat_inj.1
    simp
theorem val_be (w m acc : Nat) : val acc (be w m) = acc * 256 ^ w + m % 256 ^ w := by
  induction w generalizing acc with
  | zero => simp [be, val]; omega
  | succ w ih =>
    have e : val acc (be (w + 1) m) = val (acc * 256 + (UInt8.ofNat (m / 256 ^ w)).toNat) (be w m) := rfl
    rw [e, ih]
    have h1 : (UInt8.ofNat (m / 256 ^ w)).toNat = m / 256 ^ w % 256 := by simp
    rw [h1, Nat.pow_succ, Nat.mod_mul, Nat.add_mul, Nat.mul_assoc, Nat.mul_comm (256 ^ w) 256]
    rw [Nat.mul_comm (m / 256 ^ w % 256)]
    omega
theorem enc_length (n w : Nat) : (enc n w).length = w := be_length ..
theorem enc_cons (n w : Nat) (hw : W4 w) (hn : (n : Int) < lim w) : enc n w = UInt8.ofNat (n / 256 ^ (w - 1) + tag w * 64) :: be (w - 1) n := by
  have key : ∀ k t, be (k + 1) (n + t * 64 * 256 ^ k) = UInt8.ofNat (n / 256 ^ k + t * 64) :: be k n := fun k t => by
    rw [be, Nat.add_mul_div_right _ _ (Nat.pow_pos (by omega)), be_mod]
  rcases hw with rfl | rfl | rfl | rfl
  · exact key 0 0
  · exact key 1 1
  · exact key 3 2
  · exact key 7 3
theorem get_enc (n w : Nat) (hw : W4 w) (hn : (n : Int) < lim w) (r : List UInt8) : get (enc n w ++ r) = (n, w, 0) := by
  rw [enc_cons n w hw hn, List.cons_append, get]
  have hlt : n / 256 ^ (w - 1) < 64 := by rcases hw with rfl | rfl | rfl | rfl <;> simp only [lim] at hn <;> simp only [Nat.reduceSub, Nat.reducePow] <;> omega
  have ht : tag w < 4 := by rcases hw with rfl | rfl | rfl | rfl <;> simp [tag]
  have hb : (UInt8.ofNat (n / 256 ^ (w - 1) + tag w * 64)).toNat = n / 256 ^ (w - 1) + tag w * 64 := by
    rw [UInt8.toNat_ofNat']; exact Nat.mod_eq_of_lt (by omega)
  have h8 : w8 (UInt8.ofNat (n / 256 ^ (w - 1) + tag w * 64)) = w := by
    unfold w8
    rw [hb, show ∀ x t : Nat, x < 64 → (x + t * 64) / 64 = t from fun x t h => by omega] <;> first | exact hlt | skip
    rcases hw with rfl | rfl | rfl | rfl <;> rfl
  have hm : (n / 256 ^ (w - 1) + tag w * 64) % 64 = n / 256 ^ (w - 1) := (show ∀ x t : Nat, x < 64 → (x + t * 64) % 64 = x from fun x t h => by omega) _ _ hlt
  have hpos : 0 < w := by rcases hw with rfl | rfl | rfl | rfl <;> omega
  rw [h8, hb, hm, if_neg (by simp [be_length]; omega)]
  rw [List.take_append_of_le_length (by rw [be_length]; exact Nat.le_refl _), List.take_of_length_le (by rw [be_length]; exact Nat.le_refl _), val_be]
  rw [Nat.mul_comm, Nat.div_add_mod]
theorem len_w4 (n : Int) : len n = 0 ∨ (W4 (len n) ∧ 0 ≤ n ∧ n < lim (len n)) := by
  unfold len
  repeat' split
  all_goals (first | (left; rfl) | (right; refine ⟨by simp [W4], by omega, by simp [lim]; omega⟩))
theorem len_min (n : Int) (w : Nat) (hw : W4 w) (h0 : 0 ≤ n) (h : n < lim w) : len n ≤ w ∧ len n ≠ 0 := by
  rcases hw with rfl | rfl | rfl | rfl <;> simp only [lim] at h <;> unfold len <;> (repeat' split) <;> omega
theorem len_zero (n : Int) : len n = 0 ↔ n < 0 ∨ 4611686018427387904 ≤ n := by
  unfold len
  repeat' split
  all_goals simp
  all_goals omega
theorem putIn_ok (n : Int) (w : Nat) (hw : W4 w) (h0 : 0 ≤ n) (h : n < lim w) : putIn n w = (enc n.toNat w, 0) := by
  have h1 : ((w : Int) = 1 ∨ (w : Int) = 2 ∨ (w : Int) = 4 ∨ (w : Int) = 8) := by unfold W4 at hw; omega
  unfold putIn
  rw [if_neg (by rw [Classical.not_not]; exact h1), if_neg (by simp; omega)]
  simp
theorem put_eq (n : Int) : put n = if len n = 0 then ([], 13) else putIn n (len n) := by
  unfold put
  split
  · rfl
  · rename_i h
    rcases len_w4 n with h' | ⟨hw, h0, hl⟩
    · exact absurd h' h
    · rw [putIn_ok n _ hw h0 hl]
def tell (d : Int) : Int := if d = 1 then 0 else if d = 2 then 1 else if d = 4 then 2 else if d = 8 then 3 else -1
theorem tell_pow (k : Nat) (h : k < 4) : tell ((2 ^ k : Nat) : Int) = k := by
  have : k = 0 ∨ k = 1 ∨ k = 2 ∨ k = 3 := by omega
  rcases this with rfl | rfl | rfl | rfl <;> rfl
theorem tell_none (d : Int) (h : ∀ j : Nat, j < 4 → d ≠ ((2 ^ j : Nat) : Int)) : tell d = -1 := by
  have h0 := h 0 (by omega); have h1 := h 1 (by omega); have h2 := h 2 (by omega); have h3 := h 3 (by omega)
  simp at h0 h1 h2 h3
  simp [tell, h0, h1, h2, h3]
theorem tell_tag (w : Nat) (h : W4 w) : tell w = tag w := by rcases h with rfl | rfl | rfl | rfl <;> rfl
theorem len_pow (n : Int) (k : Nat) (h : k < 4) (h0 : 0 ≤ n) (h1 : n < lim (2 ^ k)) (hp : 0 < k → n < 0 ∨ lim (2 ^ (k - 1)) ≤ n) : len n = 2 ^ k := by
  have : k = 0 ∨ k = 1 ∨ k = 2 ∨ k = 3 := by omega
  rcases this with rfl | rfl | rfl | rfl <;> simp [lim] at h1 hp <;> unfold len <;> (repeat' split) <;> (first | rfl | omega)
theorem len_none (n : Int) (h : n < 0 ∨ 4611686018427387904 ≤ n) : len n = 0 := (len_zero n).2 h
theorem val_snoc (acc : Nat) (l : List UInt8) (k : Nat) (h : k < l.length) : val acc (l.take (k + 1)) = val acc (l.take k) * 256 + (l.getD k 0).toNat := by
  rw [List.take_succ_eq_append_getElem h, val, List.foldl_append]
  simp [val, List.getD, h]
theorem val_small (b : UInt8) (l : List UInt8) (k : Nat) (h : k ≤ 6) : val (b.toNat % 64) (l.take k) < 18014398509481984 := by
  have hv := val_lt (b.toNat % 64) (l.take k)
  have hp : 256 ^ (l.take k).length ≤ 256 ^ 6 := Nat.pow_le_pow_right (by omega) (by simp; omega)
  have hm : (b.toNat % 64 + 1) * 256 ^ (l.take k).length ≤ 64 * 256 ^ 6 := Nat.mul_le_mul (by omega) hp
  omega
theorem be_set (N k m : Nat) (h : m + 1 ≤ k) : (List.replicate (m + 1) (0 : UInt8) ++ be (k - (m + 1)) N).set m (UInt8.ofNat (N / 256 ^ (k - (m + 1)) % 256)) = List.replicate m 0 ++ be (k - m) N := by
  have e : k - m = (k - (m + 1)) + 1 := by omega
  have e2 : UInt8.ofNat (N / 256 ^ (k - (m + 1)) % 256) = UInt8.ofNat (N / 256 ^ (k - (m + 1))) := UInt8.toNat_inj.1 (by simp)
  rw [e, be, List.replicate_succ', List.append_assoc, List.set_append_right _ _ (by simp), e2]
  simp
theorem enc_of_be (N k : Nat) (hk : W4 k) (hN : (N : Int) < lim k) : (be k N).set 0 (UInt8.ofNat ((N / 256 ^ (k - 1)) % 256 ||| tag k * 64)) = enc N k := by
  rw [enc_cons N k hk hN]
  have hlt : N / 256 ^ (k - 1) < 64 := by rcases hk with rfl | rfl | rfl | rfl <;> simp only [lim] at hN <;> simp only [Nat.reduceSub, Nat.reducePow] <;> omega
  have e : N / 256 ^ (k - 1) % 256 ||| tag k * 64 = N / 256 ^ (k - 1) + tag k * 64 := by
    rw [Nat.mod_eq_of_lt (by omega)]
    have := Nat.two_pow_add_eq_or_of_lt (i := 6) (b := N / 256 ^ (k - 1)) (by omega) (tag k)
    rw [Nat.or_comm, Nat.mul_comm (tag k) 64, show (64 : Nat) = 2 ^ 6 from rfl, ← this]
    omega
  rw [e]
  have hpos : ∃ j, k = j + 1 := ⟨k - 1, by rcases hk with rfl | rfl | rfl | rfl <;> rfl⟩
  obtain ⟨j, rfl⟩ := hpos
  simp [be]
theorem be_head (N k : Nat) (hk : 1 ≤ k) : (be k N).getD 0 0 = UInt8.ofNat (N / 256 ^ (k - 1)) := by
  obtain ⟨j, rfl⟩ : ∃ j, k = j + 1 := ⟨k - 1, by omega⟩
  simp [be]
theorem be_take_succ (N k j : Nat) (h : j < k) : (be k N).take (j + 1) = (be k N).take j ++ [UInt8.ofNat (N / 256 ^ (k - 1 - j))] := by
  induction k generalizing j with
  | zero => omega
  | succ k ih =>
    cases j with
    | zero => simp [be]
    | succ j => simp only [be, List.take_succ_cons, List.cons_append]; rw [ih j (by omega), show k + 1 - 1 - (j + 1) = k - 1 - j by omega]
theorem be_add_enc (N k : Nat) (hk : W4 k) (hN : (N : Int) < lim k) : (be k N).set 0 (UInt8.ofNat ((N / 256 ^ (k - 1)) % 256 + tag k * 64)) = enc N k := by
  rw [enc_cons N k hk hN]
  have hlt : N / 256 ^ (k - 1) < 64 := by rcases hk with rfl | rfl | rfl | rfl <;> simp only [lim] at hN <;> simp only [Nat.reduceSub, Nat.reducePow] <;> omega
  rw [Nat.mod_eq_of_lt (by omega)]
  obtain ⟨j, rfl⟩ : ∃ j, k = j + 1 := ⟨k - 1, by rcases hk with rfl | rfl | rfl | rfl <;> rfl⟩
  simp [be]
end Vm
end Go.Proofs.YtlkcibhdnicpkaaDoor
