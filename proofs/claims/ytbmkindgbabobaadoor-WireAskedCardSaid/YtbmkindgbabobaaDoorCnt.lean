/- Counts, signed numbers, texts and lists of numbers as bytes (chapter 16's words), as plain lists. -/
import Derived.Test.YtbmkindgbabobaaDoorFrame
namespace Go.Proofs.YtbmkindgbabobaaDoor
open Go.RowKit
set_option maxRecDepth 20000

/-! ### plain -/
/-- The groups ahead of the last, of what is left of a count. -/
def cntHi (n : Nat) : List Int := if _h : n = 0 then [] else cntHi (n / 128) ++ [((n % 128 + 128 : Nat) : Int)]
termination_by n
decreasing_by omega
def cnt (n : Nat) : List Int := cntHi (n / 128) ++ [((n % 128 : Nat) : Int)]
theorem cntHi_zero : cntHi 0 = [] := by rw [cntHi]; simp
theorem cntHi_pos {n : Nat} (h : n ≠ 0) : cntHi n = cntHi (n / 128) ++ [((n % 128 + 128 : Nat) : Int)] := by rw [cntHi, dif_neg h]
theorem cntHi_byt (n : Nat) : Byt (cntHi n) := by
  induction n using Nat.strongRecOn with
  | _ n ih =>
    by_cases h : n = 0
    · subst h; rw [cntHi_zero]; exact Byt.nil
    · rw [cntHi_pos h]
      exact (ih _ (by omega)).append (by intro x hx; simp at hx; omega)
theorem cnt_byt (n : Nat) : Byt (cnt n) := (cntHi_byt _).append (by intro x hx; simp at hx; omega)
theorem cntHi_len (k n : Nat) (h : n < 128 ^ k) : (cntHi n).length ≤ k := by
  induction k generalizing n with
  | zero =>
    obtain rfl : n = 0 := by simpa using h
    rw [cntHi_zero]; exact Nat.le_refl _
  | succ k ih =>
    by_cases h0 : n = 0
    · subst h0; rw [cntHi_zero]; exact Nat.zero_le _
    · rw [cntHi_pos h0, List.length_append, List.length_singleton]
      have := ih (n / 128) (by rw [Nat.pow_succ] at h; omega)
      omega
theorem cnt_len (n : Nat) (h : n < 18446744073709551616) : (cnt n).length ≤ 10 := by
  unfold cnt
  rw [List.length_append, List.length_singleton]
  have := cntHi_len 9 (n / 128) (by
    have : 128 ^ 9 = 9223372036854775808 := by decide
    omega)
  omega
theorem cnt_pos (n : Nat) : 0 < (cnt n).length := by unfold cnt; simp

/-- The groups that the program has written when 'shift' stands at 7 j: of the count n, from group k down to group j + 1. -/
def grp (n j : Nat) : List Int := cntHi (n / 128 ^ (j + 1))
theorem grp_step (n j : Nat) (h : n / 128 ^ (j + 1) ≠ 0) : grp n j = grp n (j + 1) ++ [((n / 128 ^ (j + 1) % 128 + 128 : Nat) : Int)] := by
  unfold grp
  rw [cntHi_pos h, Nat.div_div_eq_div_mul, ← Nat.pow_succ]
theorem grp_len (n j : Nat) (h : n < 18446744073709551616) : (grp n j).length ≤ 9 := by
  unfold grp
  refine cntHi_len 9 _ ?_
  have e : (128 : Nat) ^ 9 = 9223372036854775808 := by decide
  have h1 : n / 128 ^ (j + 1) ≤ n / 128 := by
    rw [Nat.pow_succ, Nat.mul_comm, ← Nat.div_div_eq_div_mul]
    exact Nat.div_le_self _ _
  omega
theorem grp_last (n : Nat) : cnt n = grp n 0 ++ [((n % 128 : Nat) : Int)] := by unfold cnt grp; simp
theorem pow7 (j : Nat) : (2 : Nat) ^ (7 * j) = 128 ^ j := by rw [Nat.pow_mul]

end Go.Proofs.YtbmkindgbabobaaDoor
