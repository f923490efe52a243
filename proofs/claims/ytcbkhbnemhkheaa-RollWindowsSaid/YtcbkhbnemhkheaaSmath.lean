/- SHA-256 as a plain function over lists. -/
import Derived.Test.YtcbkhbnemhkheaaBase
namespace Go.Proofs.Ytcbkhbnemhkheaa
namespace Sm
def rounds : List UInt32 := [1116352408, 1899447441, 3049323471, 3921009573, 961987163, 1508970993, 2453635748, 2870763221, 3624381080, 310598401, 607225278, 1426881987, 1925078388, 2162078206, 2614888103, 3248222580, 3835390401, 4022224774, 264347078, 604807628, 770255983, 1249150122, 1555081692, 1996064986, 2554220882, 2821834349, 2952996808, 3210313671, 3336571891, 3584528711, 113926993, 338241895, 666307205, 773529912, 1294757372, 1396182291, 1695183700, 1986661051, 2177026350, 2456956037, 2730485921, 2820302411, 3259730800, 3345764771, 3516065817, 3600352804, 4094571909, 275423344, 430227734, 506948616, 659060556, 883997877, 958139571, 1322822218, 1537002063, 1747873779, 1955562222, 2024104815, 2227730452, 2361852424, 2428436474, 2756734187, 3204031479, 3329325298]
def first : List UInt32 := [1779033703, 3144134277, 1013904242, 2773480762, 1359893119, 2600822924, 528734635, 1541459225]
def rotr (x n : UInt32) : UInt32 := (x >>> n) ||| (x <<< (32 - n))
def g (l : List UInt32) (i : Nat) : UInt32 := l.getD i 0
def s0 (x : UInt32) : UInt32 := rotr x 7 ^^^ rotr x 18 ^^^ (x >>> 3)
def s1 (x : UInt32) : UInt32 := rotr x 17 ^^^ rotr x 19 ^^^ (x >>> 10)
def b0 (x : UInt32) : UInt32 := rotr x 2 ^^^ rotr x 13 ^^^ rotr x 22
def b1 (x : UInt32) : UInt32 := rotr x 6 ^^^ rotr x 11 ^^^ rotr x 25
def ch (e f h : UInt32) : UInt32 := (e &&& f) ^^^ (~~~e &&& h)
def maj (a b c : UInt32) : UInt32 := (a &&& b) ^^^ (a &&& c) ^^^ (b &&& c)
/-- the word that four bytes make -/
def be (b : List UInt8) (o : Nat) : UInt32 := ((b.getD o 0).toUInt32 <<< 24) ||| ((b.getD (o + 1) 0).toUInt32 <<< 16) ||| ((b.getD (o + 2) 0).toUInt32 <<< 8) ||| (b.getD (o + 3) 0).toUInt32
/-- the next word -/
def nextW (w : List UInt32) (i : Nat) : UInt32 := g w (i - 16) + s0 (g w (i - 15)) + g w (i - 7) + s1 (g w (i - 2))
/-- n more words -/
def more : Nat → List UInt32 → List UInt32
  | 0, w => w
  | n + 1, w => more n (w ++ [nextW w w.length])
def words16 (b : List UInt8) : List UInt32 := [be b 0, be b 4, be b 8, be b 12, be b 16, be b 20, be b 24, be b 28, be b 32, be b 36, be b 40, be b 44, be b 48, be b 52, be b 56, be b 60]
def sched (b : List UInt8) : List UInt32 := more 48 (words16 b)
def round (v : List UInt32) (k w : UInt32) : List UInt32 :=
  [g v 7 + k + w + ch (g v 4) (g v 5) (g v 6) + b1 (g v 4) + (b0 (g v 0) + maj (g v 0) (g v 1) (g v 2)), g v 0, g v 1, g v 2,
   g v 3 + (g v 7 + k + w + ch (g v 4) (g v 5) (g v 6) + b1 (g v 4)), g v 4, g v 5, g v 6]
def runs : List (UInt32 × UInt32) → List UInt32 → List UInt32
  | [], v => v
  | (k, w) :: l, v => runs l (round v k w)
/-- a state behind a block of 64 bytes -/
def block (s : List UInt32) (b : List UInt8) : List UInt32 :=
  let v := runs (rounds.zip (sched b)) s
  [g s 0 + g v 0, g s 1 + g v 1, g s 2 + g v 2, g s 3 + g v 3, g s 4 + g v 4, g s 5 + g v 5, g s 6 + g v 6, g s 7 + g v 7]
/-- the k-th block of 64 bytes -/
def sl (b : List UInt8) (k : Nat) : List UInt8 := (b.drop (64 * k)).take 64
/-- the state behind k blocks -/
def stk (b : List UInt8) : Nat → List UInt32
  | 0 => first
  | k + 1 => block (stk b k) (sl b k)
/-- the state behind the whole blocks, and what is left -/
def st (b : List UInt8) : List UInt32 := stk b (b.length / 64)
def rs (b : List UInt8) : List UInt8 := b.drop (64 * (b.length / 64))
def pad (n : Nat) : List UInt8 := 128 :: (List.replicate ((119 - n % 64) % 64) 0 ++ [UInt8.ofNat (8 * n / 2 ^ 56), UInt8.ofNat (8 * n / 2 ^ 48), UInt8.ofNat (8 * n / 2 ^ 40), UInt8.ofNat (8 * n / 2 ^ 32), UInt8.ofNat (8 * n / 2 ^ 24), UInt8.ofNat (8 * n / 2 ^ 16), UInt8.ofNat (8 * n / 2 ^ 8), UInt8.ofNat (8 * n)])
def out (s : List UInt32) : List UInt8 := (List.range 32).map fun i => (g s (i / 4) >>> UInt32.ofNat (24 - 8 * (i % 4))).toUInt8
def sha (b : List UInt8) : List UInt8 := out (st (b ++ pad b.length))
theorem sl_append (a b : List UInt8) (k : Nat) (h : 64 * (k + 1) ≤ a.length) : sl (a ++ b) k = sl a k := by
  unfold sl
  rw [List.drop_append_of_le_length (by omega), List.take_append_of_le_length (by rw [List.length_drop]; omega)]
theorem stk_append (a b : List UInt8) (k : Nat) (h : 64 * k ≤ a.length) : stk (a ++ b) k = stk a k := by
  induction k with
  | zero => rfl
  | succ k ih => rw [stk, stk, ih (by omega), sl_append a b k h]
theorem block_len (s : List UInt32) (b : List UInt8) : (block s b).length = 8 := rfl
theorem stk_len (b : List UInt8) (k : Nat) : (stk b k).length = 8 := by
  cases k with
  | zero => rfl
  | succ k => rfl
theorem rs_len (b : List UInt8) : (rs b).length = b.length % 64 := by
  unfold rs
  rw [List.length_drop]; omega
theorem rs_append (a b : List UInt8) : rs a ++ b = (a ++ b).drop (64 * (a.length / 64)) := by
  unfold rs
  rw [List.drop_append_of_le_length (by omega)]
theorem st_append (a b : List UInt8) : st a = stk (a ++ b) (a.length / 64) := by
  unfold st
  rw [stk_append a b _ (by omega)]
theorem drop_take (a : List UInt8) (k : Nat) : (a.drop (64 * k)).take 64 = sl a k := rfl
theorem drop_drop64 (a : List UInt8) (k : Nat) : (a.drop (64 * k)).drop 64 = a.drop (64 * (k + 1)) := by
  rw [List.drop_drop]; congr 1
/-- noughts behind the mark -/
def zeros (n : Nat) : Nat := (119 - n % 64) % 64
/-- a number's eight bytes -/
def bytes8 (n : Nat) : List UInt8 := (List.range 8).map fun k => UInt8.ofNat (n / 2 ^ (56 - 8 * k))
theorem bytes8_eq (n : Nat) : bytes8 (8 * n) = [UInt8.ofNat (8 * n / 2 ^ 56), UInt8.ofNat (8 * n / 2 ^ 48), UInt8.ofNat (8 * n / 2 ^ 40), UInt8.ofNat (8 * n / 2 ^ 32), UInt8.ofNat (8 * n / 2 ^ 24), UInt8.ofNat (8 * n / 2 ^ 16), UInt8.ofNat (8 * n / 2 ^ 8), UInt8.ofNat (8 * n)] := by
  show [_, _, _, _, _, _, _, UInt8.ofNat (8 * n / 2 ^ 0)] = _
  rw [Nat.pow_zero, Nat.div_one]
theorem pad_eq (n : Nat) : pad n = (128 :: List.replicate (zeros n) 0) ++ bytes8 (8 * n) := by
  rw [bytes8_eq]; rfl
theorem pad_len (n : Nat) : (pad n).length = 9 + zeros n := by
  rw [pad_eq]; simp [bytes8]; omega
theorem zeros_mod (n : Nat) : (n + (9 + zeros n)) % 64 = 0 := by unfold zeros; omega
theorem zeros_lt (n : Nat) : zeros n < 64 := by unfold zeros; omega
theorem bytes8_succ (n k : Nat) (h : k < 8) : (bytes8 n).take (k + 1) = (bytes8 n).take k ++ [UInt8.ofNat (n / 2 ^ (56 - 8 * k))] := by
  have hl : (bytes8 n).length = 8 := rfl
  rw [List.take_succ_eq_append_getElem (by omega)]
  congr 2
  unfold bytes8
  rw [List.getElem_map, List.getElem_range]
theorem out_len (s : List UInt32) : (out s).length = 32 := by simp [out]
/-- the first k bytes of a sum, and noughts -/
def oo (s : List UInt32) (k : Nat) : List UInt8 := (out s).take k ++ List.replicate (32 - k) 0
theorem oo_len (s : List UInt32) (k : Nat) (h : k ≤ 32) : (oo s k).length = 32 := by
  unfold oo
  rw [List.length_append, List.length_take, List.length_replicate, out_len]; omega
theorem oo_set (s : List UInt32) (k : Nat) (h : k < 32) : (oo s k).set k (g s (k / 4) >>> UInt32.ofNat (24 - 8 * (k % 4))).toUInt8 = oo s (k + 1) := by
  have hl := out_len s
  have e : (out s).take (k + 1) = (out s).take k ++ [(g s (k / 4) >>> UInt32.ofNat (24 - 8 * (k % 4))).toUInt8] := by
    rw [List.take_succ_eq_append_getElem (by omega)]
    congr 2
    unfold out
    rw [List.getElem_map, List.getElem_range]
  unfold oo
  rw [e, List.set_append_right _ _ (by rw [List.length_take]; omega), List.length_take]
  rw [show k - min k (out s).length = 0 by omega]
  rw [show 32 - k = (32 - (k + 1)) + 1 by omega, List.replicate_succ, List.set_cons_zero, List.append_assoc]
  rfl
theorem oo_32 (s : List UInt32) : oo s 32 = out s := by
  unfold oo
  rw [List.take_of_length_le (by rw [out_len]; omega)]
  simp
/-- a word as it is made byte by byte -/
def prt (b : List UInt8) (o : Nat) : Nat → UInt32
  | 0 => 0
  | j + 1 => (prt b o j <<< 8) ||| (b.getD (o + j) 0).toUInt32
def wpart (b : List UInt8) (k : Nat) : List UInt32 := (words16 b).take k ++ List.replicate (64 - k) 0
theorem shl_or (a b : UInt32) (n : UInt32) : (a ||| b) <<< n = (a <<< n) ||| (b <<< n) := by
  apply UInt32.toBitVec_inj.1
  simp [UInt32.toBitVec_shiftLeft, UInt32.toBitVec_or, BitVec.shiftLeft_or_distrib]
theorem shl_shl (a : UInt32) (m n : Nat) (h : m + n < 32) : (a <<< UInt32.ofNat m) <<< UInt32.ofNat n = a <<< UInt32.ofNat (m + n) := by
  apply UInt32.toNat.inj
  rw [UInt32.toNat_shiftLeft, UInt32.toNat_shiftLeft, UInt32.toNat_shiftLeft, UInt32.toNat_ofNat', UInt32.toNat_ofNat', UInt32.toNat_ofNat', Nat.mod_eq_of_lt (show m < 2 ^ 32 by omega), Nat.mod_eq_of_lt (show n < 2 ^ 32 by omega), Nat.mod_eq_of_lt (show m + n < 2 ^ 32 by omega), Nat.mod_eq_of_lt (show m < 32 by omega), Nat.mod_eq_of_lt (show n < 32 by omega), Nat.mod_eq_of_lt h]
  rw [Nat.shiftLeft_eq, Nat.shiftLeft_eq, Nat.shiftLeft_eq, Nat.pow_add, ← Nat.mul_assoc]
  rw [Nat.mod_mul_mod]
theorem prt4 (b : List UInt8) (o : Nat) : prt b o 4 = be b o := by
  have z : (0 : UInt32) <<< 8 = 0 := rfl
  simp only [prt, z, shl_or, UInt32.zero_or, Nat.add_zero]
  have e1 : ∀ x : UInt32, (x <<< 8) <<< 8 = x <<< 16 := fun x => shl_shl x 8 8 (by omega)
  have e2 : ∀ x : UInt32, (x <<< 8) <<< 16 = x <<< 24 := fun x => shl_shl x 8 16 (by omega)
  rw [e1, e1, e2]
  rfl
theorem wpart_len (b : List UInt8) (k : Nat) (h : k ≤ 16) : (wpart b k).length = 64 := by
  unfold wpart
  rw [List.length_append, List.length_take, List.length_replicate]; show min k 16 + (64 - k) = 64; omega
theorem wpart_at (b : List UInt8) (k : Nat) (h : k < 16) : (wpart b k).getD k 0 = 0 := by
  unfold wpart
  have hl : ((words16 b).take k).length = k := by rw [List.length_take]; show min k 16 = k; omega
  rw [List.getD_eq_getElem?_getD, List.getElem?_append_right (by omega), hl, Nat.sub_self, List.getElem?_replicate, if_pos (by omega)]
  rfl
theorem wpart_set0 (b : List UInt8) (k : Nat) (h : k < 16) : (wpart b k).set k (prt b (4 * k) 0) = wpart b k := by
  have h1 := wpart_at b k h
  have h2 := wpart_len b k (by omega)
  apply List.ext_getElem?
  intro i
  by_cases hi : i = k
  · subst hi
    rw [List.getElem?_set_self (by omega)]
    rw [List.getD_eq_getElem?_getD] at h1
    rw [List.getElem?_eq_getElem (by omega)] at h1 ⊢
    simpa [prt] using h1.symm
  · rw [List.getElem?_set_ne (by omega)]
theorem words16_at (b : List UInt8) (k : Nat) (h : k < 16) : (words16 b)[k]? = some (be b (4 * k)) := by
  have : k = 0 ∨ k = 1 ∨ k = 2 ∨ k = 3 ∨ k = 4 ∨ k = 5 ∨ k = 6 ∨ k = 7 ∨ k = 8 ∨ k = 9 ∨ k = 10 ∨ k = 11 ∨ k = 12 ∨ k = 13 ∨ k = 14 ∨ k = 15 := by omega
  rcases this with rfl | rfl | rfl | rfl | rfl | rfl | rfl | rfl | rfl | rfl | rfl | rfl | rfl | rfl | rfl | rfl <;> rfl
theorem wpart_set4 (b : List UInt8) (k : Nat) (h : k < 16) : (wpart b k).set k (be b (4 * k)) = wpart b (k + 1) := by
  have h2 := wpart_len b k (by omega)
  have hl : (words16 b).length = 16 := rfl
  apply List.ext_getElem?
  intro i
  by_cases hi : i = k
  · subst hi
    rw [List.getElem?_set_self (by omega)]
    unfold wpart
    rw [List.getElem?_append_left (by rw [List.length_take]; omega), List.getElem?_take_of_lt (by omega), words16_at b i h]
  · rw [List.getElem?_set_ne (by omega)]
    unfold wpart
    by_cases hlt : i < k
    · rw [List.getElem?_append_left (by rw [List.length_take]; omega), List.getElem?_append_left (by rw [List.length_take]; omega), List.getElem?_take_of_lt (by omega), List.getElem?_take_of_lt (by omega)]
    · rw [List.getElem?_append_right (by rw [List.length_take]; omega), List.getElem?_append_right (by rw [List.length_take]; omega)]
      simp only [List.length_take, hl, List.getElem?_replicate]
      have e1 : min k 16 = k := by omega
      have e2 : min (k + 1) 16 = k + 1 := by omega
      rw [e1, e2]
      by_cases hi64 : i < 64
      · rw [if_pos (by omega), if_pos (by omega)]
      · rw [if_neg (by omega), if_neg (by omega)]
/-- the first k words -/
def wl (b : List UInt8) (k : Nat) : List UInt32 := more (k - 16) (words16 b)
def spart (b : List UInt8) (k : Nat) : List UInt32 := wl b k ++ List.replicate (64 - k) 0
theorem more_succ (n : Nat) (w : List UInt32) : more (n + 1) w = more n w ++ [nextW (more n w) (more n w).length] := by
  induction n generalizing w with
  | zero => rfl
  | succ n ih => rw [more, ih]; rfl
theorem more_len (n : Nat) (w : List UInt32) : (more n w).length = w.length + n := by
  induction n generalizing w with
  | zero => rfl
  | succ n ih => rw [more, ih, List.length_append]; simp; omega
theorem wl_len (b : List UInt8) (k : Nat) (h : 16 ≤ k) : (wl b k).length = k := by
  unfold wl
  rw [more_len]
  show 16 + (k - 16) = k
  omega
theorem spart_len (b : List UInt8) (k : Nat) (h : 16 ≤ k) (h2 : k ≤ 64) : (spart b k).length = 64 := by
  unfold spart
  rw [List.length_append, wl_len b k h, List.length_replicate]; omega
theorem spart_at (b : List UInt8) (k i : Nat) (h : 16 ≤ k) (hi : i < k) : g (spart b k) i = g (wl b k) i := by
  unfold spart g
  rw [List.getD_eq_getElem?_getD, List.getD_eq_getElem?_getD, List.getElem?_append_left (by rw [wl_len b k h]; omega)]
theorem spart_set (b : List UInt8) (k : Nat) (h : 16 ≤ k) (h2 : k < 64) : (spart b k).set k (nextW (wl b k) k) = spart b (k + 1) := by
  have hl := wl_len b k h
  have e : wl b (k + 1) = wl b k ++ [nextW (wl b k) k] := by
    unfold wl at hl ⊢
    rw [show k + 1 - 16 = (k - 16) + 1 by omega, more_succ, hl]
  unfold spart
  rw [e, List.set_append_right _ _ (by omega), hl, Nat.sub_self]
  rw [show 64 - k = (64 - (k + 1)) + 1 by omega, List.replicate_succ, List.set_cons_zero, List.append_assoc]
  rfl
theorem spart16 (b : List UInt8) : spart b 16 = wpart b 16 := rfl
theorem spart64 (b : List UInt8) : spart b 64 = sched b := by
  unfold spart wl sched
  simp
theorem runs_len (l : List (UInt32 × UInt32)) (s : List UInt32) (h : s.length = 8) : (runs l s).length = 8 := by
  induction l generalizing s with
  | nil => exact h
  | cons p l ih => exact ih _ rfl
theorem runs_append (a b : List (UInt32 × UInt32)) (s : List UInt32) : runs (a ++ b) s = runs b (runs a s) := by
  induction a generalizing s with
  | nil => rfl
  | cons p a ih => exact ih _
/-- the state in the midst of a block -/
def runK (s ws : List UInt32) (k : Nat) : List UInt32 := runs ((rounds.zip ws).take k) s
theorem runK_len (s ws : List UInt32) (k : Nat) (h : s.length = 8) : (runK s ws k).length = 8 := runs_len _ _ h
theorem runK_succ (s ws : List UInt32) (k : Nat) (hw : ws.length = 64) (hk : k < 64) : runK s ws (k + 1) = round (runK s ws k) (g rounds k) (g ws k) := by
  have hl : (rounds.zip ws).length = 64 := by rw [List.length_zip, hw]; rfl
  have hr : rounds.length = 64 := rfl
  unfold runK
  rw [List.take_succ_eq_append_getElem (by omega), runs_append]
  have e : (rounds.zip ws)[k]'(by omega) = (g rounds k, g ws k) := by
    rw [List.getElem_zip]
    unfold g
    rw [List.getD_eq_getElem?_getD, List.getD_eq_getElem?_getD, List.getElem?_eq_getElem (by omega), List.getElem?_eq_getElem (by omega)]
    rfl
  rw [e]
  rfl
theorem runK_all (s ws : List UInt32) (hw : ws.length = 64) : runK s ws 64 = runs (rounds.zip ws) s := by
  unfold runK
  rw [List.take_of_length_le]
  rw [List.length_zip, hw]
  exact Nat.min_le_right _ _
/-- the sums of two states' words, the first i of them -/
def upd (s v : List UInt32) (i : Nat) : List UInt32 := (List.range 8).map fun j => if j < i then g s j + g v j else g s j
theorem upd_len (s v : List UInt32) (i : Nat) : (upd s v i).length = 8 := by simp [upd]
theorem upd_0 (s v : List UInt32) (h : s.length = 8) : upd s v 0 = s := by
  match s, h with
  | [a, b, c, d, e, f, g, h], _ => rfl
theorem upd_at (s v : List UInt32) (i j : Nat) (hj : j < 8) : g (upd s v i) j = if j < i then g s j + g v j else g s j := by
  unfold upd
  rw [g, List.getD_eq_getElem?_getD, List.getElem?_map, List.getElem?_range hj]
  rfl
theorem upd_set (s v : List UInt32) (i : Nat) (hi : i < 8) : (upd s v i).set i (g s i + g v i) = upd s v (i + 1) := by
  apply List.ext_getElem?
  intro j
  by_cases hj : j < 8
  · by_cases hij : j = i
    · subst hij
      rw [List.getElem?_set_self (by rw [upd_len]; exact hi)]
      unfold upd
      rw [List.getElem?_map, List.getElem?_range hj]
      simp
    · rw [List.getElem?_set_ne (by omega)]
      unfold upd
      rw [List.getElem?_map, List.getElem?_map, List.getElem?_range hj]
      simp only [Option.map_some]
      by_cases h1 : j < i
      · rw [if_pos h1, if_pos (by omega)]
      · rw [if_neg h1, if_neg (by omega)]
  · rw [List.getElem?_eq_none (by rw [List.length_set, upd_len]; omega), List.getElem?_eq_none (by rw [upd_len]; omega)]
theorem upd_8 (s : List UInt32) (b : List UInt8) : upd s (runs (rounds.zip (sched b)) s) 8 = block s b := rfl
/-- the words of a block, the first k of them -/
def xp (b : List UInt8) (k : Nat) : List UInt32 := if k ≤ 16 then wpart b k else spart b k
theorem xp_lo (b : List UInt8) (k : Nat) (h : k ≤ 16) : xp b k = wpart b k := if_pos h
theorem xp_hi (b : List UInt8) (k : Nat) (h : 16 ≤ k) : xp b k = spart b k := by
  unfold xp
  by_cases h2 : k ≤ 16
  · have : k = 16 := by omega
    subst this
    rfl
  · rw [if_neg h2]
theorem xp_len (b : List UInt8) (k : Nat) (h : k ≤ 64) : (xp b k).length = 64 := by
  by_cases h2 : k ≤ 16
  · rw [xp_lo b k h2, wpart_len b k h2]
  · rw [xp_hi b k (by omega), spart_len b k (by omega) h]
theorem xp_64 (b : List UInt8) : xp b 64 = sched b := by rw [xp_hi b 64 (by omega), spart64]
theorem xp_lo_set (b : List UInt8) (k : Nat) (h : k < 16) : (xp b k).set k (be b (4 * k)) = xp b (k + 1) := by
  rw [xp_lo b k (by omega), xp_lo b (k + 1) (by omega), wpart_set4 b k h]
theorem xp_hi_set (b : List UInt8) (k : Nat) (h : 16 ≤ k) (h2 : k < 64) : (xp b k).set k (nextW (wl b k) k) = xp b (k + 1) := by
  rw [xp_hi b k h, xp_hi b (k + 1) (by omega), spart_set b k h h2]
theorem xp_at (b : List UInt8) (k i : Nat) (h : 16 ≤ k) (hi : i < k) : g (xp b k) i = g (wl b k) i := by
  rw [xp_hi b k h, spart_at b k i h hi]
/-- a round as the document's answer adds it up -/
def roundR (v : List UInt32) (k w : UInt32) : List UInt32 :=
  [g v 7 + b1 (g v 4) + ch (g v 4) (g v 5) (g v 6) + k + w + (b0 (g v 0) + maj (g v 0) (g v 1) (g v 2)), g v 0, g v 1, g v 2,
   g v 3 + (g v 7 + b1 (g v 4) + ch (g v 4) (g v 5) (g v 6) + k + w), g v 4, g v 5, g v 6]
theorem roundR_eq (v : List UInt32) (k w : UInt32) : roundR v k w = round v k w := by
  unfold roundR round
  have e : g v 7 + b1 (g v 4) + ch (g v 4) (g v 5) (g v 6) + k + w = g v 7 + k + w + ch (g v 4) (g v 5) (g v 6) + b1 (g v 4) := by ac_rfl
  rw [e]
set_option maxRecDepth 100000 in
theorem abc : sha [97, 98, 99] = [0xba,0x78,0x16,0xbf,0x8f,0x01,0xcf,0xea,0x41,0x41,0x40,0xde,0x5d,0xae,0x22,0x23,0xb0,0x03,0x61,0xa3,0x96,0x17,0x7a,0x9c,0xb4,0x10,0xff,0x61,0xf2,0x00,0x15,0xad] := by decide +kernel
end Sm
end Go.Proofs.Ytcbkhbnemhkheaa
