/- The bits of a request as bytes, eight to a byte, the first the highest: plain laws. -/
import Derived.Test.YtbmkindgbabobaaDoorWriter2
namespace Go.Proofs.YtbmkindgbabobaaDoor
open Go.RowKit
set_option maxRecDepth 20000

def bitI (l : List Bool) (k : Nat) : Int := if l[k]? = some true then 1 else 0
theorem bitI_01 (l : List Bool) (k : Nat) : 0 ≤ bitI l k ∧ bitI l k ≤ 1 := by unfold bitI; split <;> omega
def octP (l : List Bool) (q : Nat) : Nat → Int
  | 0 => 0
  | k + 1 => 2 * octP l q k + bitI l (8 * q + k)
theorem octP_bd (l : List Bool) (q : Nat) : 0 ≤ octP l q 8 ∧ octP l q 8 < 256 := by
  simp only [octP]
  have h0 := bitI_01 l (8 * q + 0); have h1 := bitI_01 l (8 * q + 1); have h2 := bitI_01 l (8 * q + 2); have h3 := bitI_01 l (8 * q + 3)
  have h4 := bitI_01 l (8 * q + 4); have h5 := bitI_01 l (8 * q + 5); have h6 := bitI_01 l (8 * q + 6); have h7 := bitI_01 l (8 * q + 7)
  omega
theorem octP_small (l : List Bool) (q k : Nat) (hk : k ≤ 7) : 0 ≤ octP l q k ∧ octP l q k < 128 := by
  have h : ∀ k, 0 ≤ octP l q k ∧ octP l q k < 2 ^ k := by
    intro k
    induction k with
    | zero => simp [octP]
    | succ k ih =>
      have := bitI_01 l (8 * q + k)
      simp only [octP, Int.pow_succ]
      omega
  have h1 := h k
  have h2 : (2 : Int) ^ k ≤ 2 ^ 7 := by
    have : (2 : Nat) ^ k ≤ 2 ^ 7 := Nat.pow_le_pow_right (by decide) hk
    exact_mod_cast this
  have h3 : (2 : Int) ^ 7 = 128 := by decide
  omega
def octs (l : List Bool) (m : Nat) : List Int := (List.range m).map fun q => octP l q 8
def bitsB (l : List Bool) : List Int := octs l ((l.length + 7) / 8)
def bts (l : List Bool) : List Int := cnt l.length ++ bitsB l
theorem octs_succ (l : List Bool) (m : Nat) : octs l (m + 1) = octs l m ++ [octP l m 8] := by simp [octs, List.range_succ]
theorem octs_len (l : List Bool) (m : Nat) : (octs l m).length = m := by simp [octs]
theorem octs_byt (l : List Bool) (m : Nat) : Byt (octs l m) := by
  intro x hx
  simp only [octs, List.mem_map] at hx
  obtain ⟨q, _, rfl⟩ := hx
  exact octP_bd l q
theorem bitI_take (l : List Bool) (m k : Nat) : bitI (l.take m) k = if k < m then bitI l k else 0 := by
  unfold bitI
  rw [List.getElem?_take]
  by_cases h : k < m
  · simp [h]
  · simp [h]

/-- The bytes with i bits gone in and the byte of the next one there. -/
def ahead (l : List Bool) (i : Nat) : List Int := octs (l.take i) (i / 8 + 1)
theorem oct_old (l : List Bool) (i q : Nat) (h : q < i / 8) : octP (l.take (i + 1)) q 8 = octP (l.take i) q 8 := by
  simp only [octP, bitI_take]
  rw [if_pos (by omega), if_pos (by omega), if_pos (by omega), if_pos (by omega), if_pos (by omega), if_pos (by omega), if_pos (by omega), if_pos (by omega)]
  rw [if_pos (by omega), if_pos (by omega), if_pos (by omega), if_pos (by omega), if_pos (by omega), if_pos (by omega), if_pos (by omega), if_pos (by omega)]
theorem oct_zero (l : List Bool) (i : Nat) (h : i % 8 = 0) : octP (l.take i) (i / 8) 8 = 0 := by
  simp only [octP, bitI_take]
  rw [if_neg (by omega), if_neg (by omega), if_neg (by omega), if_neg (by omega), if_neg (by omega), if_neg (by omega), if_neg (by omega), if_neg (by omega)]
  rfl
theorem ahead_of0 (l : List Bool) (i : Nat) (h : i % 8 = 0) : ahead l i = octs (l.take i) (i / 8) ++ [0] := by
  unfold ahead; rw [octs_succ, oct_zero l i h]
theorem bits_at (l : List Bool) (i : Nat) (hi : i ≤ l.length) : bitsB (l.take i) = octs (l.take i) ((i + 7) / 8) := by
  unfold bitsB; rw [List.length_take, Nat.min_eq_left hi]
theorem octs_keep (l : List Bool) (i : Nat) : octs (l.take (i + 1)) (i / 8) = octs (l.take i) (i / 8) := by
  unfold octs
  refine List.map_congr_left fun q hq => ?_
  exact oct_old l i q (by simpa using hq)
/-- The turn of the byte by bit i. -/
theorem oct_new (l : List Bool) (i r : Nat) (hr : i % 8 = r) : octP (l.take (i + 1)) (i / 8) 8 = octP (l.take i) (i / 8) 8 + bitI l i * (128 / 2 ^ r) ∧ octP (l.take i) (i / 8) 8 % (256 / 2 ^ r) = 0 := by
  obtain ⟨q, hq⟩ : ∃ q, q = i / 8 := ⟨_, rfl⟩
  have hi : i = 8 * q + r := by omega
  have hr8 : r < 8 := by omega
  rw [← hq]
  simp only [octP, bitI_take]
  subst hi
  match r, hr8 with
  | 0, _ => simp; omega
  | 1, _ => simp; omega
  | 2, _ => simp; omega
  | 3, _ => simp; omega
  | 4, _ => simp; omega
  | 5, _ => simp; omega
  | 6, _ => simp; omega
  | 7, _ => simp; omega
theorem bits_next (l : List Bool) (i : Nat) (hi : i < l.length) : bitsB (l.take (i + 1)) = octs (l.take i) (i / 8) ++ [octP (l.take i) (i / 8) 8 + bitI l i * (128 / 2 ^ (i % 8))] := by
  rw [bits_at l (i + 1) (by omega), show (i + 1 + 7) / 8 = i / 8 + 1 by omega, octs_succ, octs_keep, (oct_new l i _ rfl).1]
theorem ahead_eq (l : List Bool) (i : Nat) : ahead l i = octs (l.take i) (i / 8) ++ [octP (l.take i) (i / 8) 8] := by unfold ahead; rw [octs_succ]
theorem ahead_ofS (l : List Bool) (i : Nat) (hi : i ≤ l.length) (h : i % 8 ≠ 0) : ahead l i = bitsB (l.take i) := by
  rw [bits_at l i hi]; unfold ahead; rw [show (i + 7) / 8 = i / 8 + 1 by omega]
theorem ahead_ofZ (l : List Bool) (i : Nat) (hi : i ≤ l.length) (h : i % 8 = 0) : ahead l i = bitsB (l.take i) ++ [0] := by
  rw [bits_at l i hi, ahead_of0 l i h, show (i + 7) / 8 = i / 8 by omega]
/-- '|=' turns the byte so. -/
theorem or_bit (x : Int) (r : Nat) (hr : r < 8) (h0 : 0 ≤ x) (h1 : x < 256) (hx : x % (256 / 2 ^ r) = 0) : bits .or .u8 x (128 / 2 ^ r) = x + 128 / 2 ^ r := by
  obtain ⟨a, rfl⟩ := Int.eq_ofNat_of_zero_le h0
  have hp : (128 / 2 ^ r : Int) = ((2 ^ (7 - r) : Nat) : Int) := by
    match r, hr with
    | 0, _ | 1, _ | 2, _ | 3, _ | 4, _ | 5, _ | 6, _ | 7, _ => decide
  have hp2 : (256 / 2 ^ r : Int) = ((2 ^ (8 - r) : Nat) : Int) := by
    match r, hr with
    | 0, _ | 1, _ | 2, _ | 3, _ | 4, _ | 5, _ | 6, _ | 7, _ => decide
  rw [hp2] at hx
  rw [hp]
  have hlt : 2 ^ (7 - r) < 2 ^ (8 - r) := Nat.pow_lt_pow_right (by decide) (by omega)
  have hle : 2 ^ (8 - r) ≤ 2 ^ 8 := Nat.pow_le_pow_right (by decide) (by omega)
  have h8 : (2 : Nat) ^ 8 = 256 := by decide
  have h := u8_or_nat a (2 ^ (7 - r)) (by omega) (by omega)
  rw [h]
  have hm : a % 2 ^ (8 - r) = 0 := by exact_mod_cast hx
  obtain ⟨b, hb⟩ := Nat.dvd_of_mod_eq_zero hm
  have e := Nat.two_pow_add_eq_or_of_lt (i := 8 - r) (b := 2 ^ (7 - r)) hlt b
  rw [hb, ← e]
  omega
end Go.Proofs.YtbmkindgbabobaaDoor
