/- May a request be sent: the reference's takes and requestMay, the program's sendable over its table. -/
import Derived.Test.YtbmkindgbabobaaDoorRefBits
namespace Go.Proofs.YtbmkindgbabobaaDoor
open Go.RowKit
set_option maxRecDepth 20000

/-- How many numbers a kind of request takes. -/
def tk (kind : Int) : Nat := if kind = 1 then 6 else if kind = 3 ∨ kind = 4 ∨ kind = 5 ∨ kind = 6 ∨ kind = 12 then 1 else if kind = 8 then 2 else 0
theorem kinds (kind : Int) (h1 : 1 ≤ kind) (h2 : kind ≤ 12) : kind = 1 ∨ kind = 2 ∨ kind = 3 ∨ kind = 4 ∨ kind = 5 ∨ kind = 6 ∨ kind = 7 ∨ kind = 8 ∨ kind = 9 ∨ kind = 10 ∨ kind = 11 ∨ kind = 12 := by omega

set_option maxHeartbeats 1000000 in
theorem takes_any (kind : Int) (h1 : 1 ≤ kind) (h2 : kind ≤ 12) (w : World) :
    Calls Tryd.prog 78 #[.int .i64 kind] w fun e w' => e = .returned (.int .i64 (tk kind)) ∧ w' = w := by
  rcases kinds kind h1 h2 with rfl | rfl | rfl | rfl | rfl | rfl | rfl | rfl | rfl | rfl | rfl | rfl
  all_goals
    clear h1 h2
    go_enter Tryd.func78, Tryd.ntmps78
    go_wp2
    go_ret
    exact ⟨rfl, rfl⟩

/-- A request's value. -/
def reqV (kind : Int) (N : Option Addr) (nn nc : Nat) (text : ByteArray) (L : Option Addr) (nb bc : Nat) : Value := .agg #[.int .i64 kind, .slice N nn nc, .string text, .slice L nb bc]
def mayB (kind : Int) (nn nt nb : Nat) : Bool := decide (nn = tk kind ∧ (nt = 0 ∨ kind = 3) ∧ (nb = 0 ∨ (kind = 7 ∧ nb ≤ 4096)))

theorem isEmpty_size (s : ByteArray) : s.toList.isEmpty = (s.size == 0) := by
  rw [ByteArray.toList_eq, Bool.eq_iff_iff, List.isEmpty_iff, ← List.length_eq_zero_iff, Array.length_toList, beq_iff_eq]
  exact Iff.rfl
theorem ret_bool {a b : Bool} (h : a = b) : Ending.returned (.bool a) = .returned (.bool b) := by rw [h]
theorem below_box (w : World) (o : Obj) (n : Nat) : Below w.heap.size w ((w.alloc o).drewN n) := below_drewN ((Below.refl _ _).alloc (Nat.le_refl _) o) n

set_option maxHeartbeats 4000000 in
theorem requestMay_any (kind : Int) (h1 : 1 ≤ kind) (h2 : kind ≤ 12) (N : Option Addr) (nn nc : Nat) (text : ByteArray) (L : Option Addr) (nb bc : Nat) (w : World) :
    Calls Tryd.prog 38 #[.agg #[.int .i64 kind, .slice N nn nc, .string text, .slice L nb bc]] w fun e w' => e = .returned (.bool (mayB kind nn text.size nb)) ∧ Below w.heap.size w w' := by
  by_cases hn : nn = tk kind
  · have hne : ((nn : Int) != (tk kind : Int)) = false := by simp [hn]
    have HN := hide hn
    clear hn
    have tail : ∀ (hte : text.toList.isEmpty = true ∨ (text.toList.isEmpty = false ∧ kind = 3)), mayB kind nn text.size nb = (nb == 0 || (kind == 7 && decide (nb ≤ 4096))) := by
      intro hte
      rw [isEmpty_size] at hte
      unfold mayB
      rw [Bool.eq_iff_iff]
      simp only [decide_eq_true_eq, Bool.or_eq_true, beq_iff_eq, Bool.and_eq_true]
      have := HN.out
      rcases hte with hte | ⟨hte, rfl⟩
      · simp at hte; simp [this, hte]
      · simp [this]
    by_cases hte : text.toList.isEmpty = true
    · have HT := hide (tail (.inl hte))
      clear tail
      go_enter Tryd.func38, Tryd.ntmps38
      go_wp2
      go_quiet ((go_at_call 78; exact Calls.quiet_of_same (takes_any _ h1 h2 _)))
      go_wp2
      all_goals go_ret
      all_goals refine ⟨ret_bool ?_, by exact below_box _ _ _⟩
      all_goals (rw [HT.out]; first | rfl | (simp; done) | (simp [*]; done) | (rw [Bool.eq_iff_iff]; done) | (rw [Bool.eq_iff_iff]; simp [*]; done) | (rw [Bool.eq_iff_iff]; simp [*]; omega) | (rw [Bool.eq_iff_iff]; simp only [Bool.or_eq_true, beq_iff_eq, Bool.and_eq_true, decide_eq_true_eq]; omega) | trace_state)
    · have hte' : text.toList.isEmpty = false := by simpa using hte
      clear hte
      by_cases hk : kind = 3
      · have HT := hide (tail (.inr ⟨hte', hk⟩))
        subst hk
        clear tail
        go_enter Tryd.func38, Tryd.ntmps38
        go_wp2
        go_quiet ((go_at_call 78; exact Calls.quiet_of_same (takes_any _ h1 h2 _)))
        go_wp2
        all_goals go_ret
        all_goals refine ⟨ret_bool ?_, by exact below_box _ _ _⟩
        all_goals (rw [HT.out]; first | rfl | (simp; done) | (simp [*]; done) | (rw [Bool.eq_iff_iff]; done) | (rw [Bool.eq_iff_iff]; simp [*]; done) | (rw [Bool.eq_iff_iff]; simp [*]; omega) | (rw [Bool.eq_iff_iff]; simp only [Bool.or_eq_true, beq_iff_eq, Bool.and_eq_true, decide_eq_true_eq]; omega) | trace_state)
      · have hk3 : (kind != 3) = true := by simp [hk]
        have HT : Hid (mayB kind nn text.size nb = false) := by
          show mayB kind nn text.size nb = false
          rw [isEmpty_size] at hte'
          unfold mayB
          simp at hte'
          simp [hte', hk]
        clear tail
        go_enter Tryd.func38, Tryd.ntmps38
        go_wp2
        go_quiet ((go_at_call 78; exact Calls.quiet_of_same (takes_any _ h1 h2 _)))
        go_wp2
        go_ret
        exact ⟨ret_bool HT.out.symm, by exact below_box _ _ _⟩
  · have hne : ((nn : Int) != (tk kind : Int)) = true := by simp; omega
    have HT : Hid (mayB kind nn text.size nb = false) := by
      show mayB kind nn text.size nb = false
      unfold mayB; simp [hn]
    clear hn
    go_enter Tryd.func38, Tryd.ntmps38
    go_wp2
    go_quiet ((go_at_call 78; exact Calls.quiet_of_same (takes_any _ h1 h2 _)))
    go_wp2
    go_ret
    exact ⟨ret_bool HT.out.symm, by exact below_box _ _ _⟩
/-- The program's table stands as its text lays it. -/
def Tab (w : World) : Prop := ∀ k : Nat, k < 13 → w.cell? ⟨0, k, none⟩ = some (.int .i64 (tk k))
theorem Tab.below {w w' : World} {B : Nat} (h : Tab w) (hb : Below B w w') (hB : 0 < B) : Tab w' := fun k hk => (hb.cell (p := ⟨0, k, none⟩) hB).trans (h k hk)
theorem Tab.pos {w : World} (h : Tab w) : 0 < w.heap.size := World.block_lt_of_cell? w _ (h 0 (by omega))

set_option maxHeartbeats 4000000 in
theorem sendable_any (k : Nat) (h1 : 1 ≤ k) (h2 : k ≤ 12) (N : Option Addr) (nn nc : Nat) (text : ByteArray) (L : Option Addr) (nb bc : Nat) (w : World) (hT : Tab w) :
    Calls Tryd.prog 34 #[.agg #[.int .i64 k, .slice N nn nc, .string text, .slice L nb bc]] w fun e w' => e = .returned (.bool (mayB k nn text.size nb)) ∧ Below w.heap.size w w' := by
  have hc := hT k (by omega)
  have hc2 : ∀ o, (w.alloc o).cell? ⟨0, k, none⟩ = some (.int .i64 (tk k)) := fun o => by rw [World.cell?_alloc_lt w o _ hT.pos]; exact hc
  clear hT
  by_cases hn : nn = tk k
  · have hne : ((nn : Int) != (tk k : Int)) = false := by simp [hn]
    have HN := hide hn
    clear hn
    by_cases hb : 4096 < nb
    · have hb' : (4096 : Int) < (nb : Int) := by omega
      have HT : Hid (mayB k nn text.size nb = false) := by
        show mayB k nn text.size nb = false
        unfold mayB; simp; omega
      go_enter Tryd.func34, Tryd.ntmps34
      go_wp2
      go_quiet (fail)
      go_wp2
      go_ret
      exact ⟨ret_bool HT.out.symm, by exact below_box _ _ _⟩
    · have hb' : ¬ (4096 : Int) < (nb : Int) := by omega
      have tail : ∀ (hte : text.toList.isEmpty = true ∨ (text.toList.isEmpty = false ∧ (k : Int) = 3)), mayB k nn text.size nb = (((nb : Int) == 0) || ((k : Int) == 7)) := by
        intro hte
        rw [isEmpty_size] at hte
        unfold mayB
        rw [Bool.eq_iff_iff]
        simp only [decide_eq_true_eq, Bool.or_eq_true, beq_iff_eq]
        have := HN.out
        rcases hte with hte | ⟨hte, h3⟩
        · simp at hte; simp [this, hte]; omega
        · rw [h3] at this ⊢; simp [this]
      by_cases hte : text.toList.isEmpty = true
      · have HT := hide (tail (.inl hte))
        clear tail
        go_enter Tryd.func34, Tryd.ntmps34
        go_wp2
        go_quiet (fail)
        go_wp2
        all_goals go_ret
        all_goals refine ⟨ret_bool ?_, by exact below_box _ _ _⟩
        all_goals (rw [HT.out]; first | rfl | (simp; done) | (simp [*]; done) | (rw [Bool.eq_iff_iff]; done) | (rw [Bool.eq_iff_iff]; simp [*]; done) | (rw [Bool.eq_iff_iff]; simp [*]; omega) | (rw [Bool.eq_iff_iff]; simp only [Bool.or_eq_true, beq_iff_eq, Bool.and_eq_true, decide_eq_true_eq]; omega) | trace_state)
      · have hte' : text.toList.isEmpty = false := by simpa using hte
        clear hte
        by_cases hk : (k : Int) = 3
        · have HT := hide (tail (.inr ⟨hte', hk⟩))
          have hk3 : ((k : Int) != 3) = false := by simp [hk]
          clear hk tail
          go_enter Tryd.func34, Tryd.ntmps34
          go_wp2
          go_quiet (fail)
          go_wp2
          all_goals go_ret
          all_goals refine ⟨ret_bool ?_, by exact below_box _ _ _⟩
          all_goals (rw [HT.out]; first | rfl | (simp; done) | (simp [*]; done) | (rw [Bool.eq_iff_iff]; done) | (rw [Bool.eq_iff_iff]; simp [*]; done) | (rw [Bool.eq_iff_iff]; simp [*]; omega) | (rw [Bool.eq_iff_iff]; simp only [Bool.or_eq_true, beq_iff_eq, Bool.and_eq_true, decide_eq_true_eq]; omega) | trace_state)
        · have hk3 : ((k : Int) != 3) = true := by simp; omega
          have HT : Hid (mayB k nn text.size nb = false) := by
            show mayB k nn text.size nb = false
            rw [isEmpty_size] at hte'
            unfold mayB
            simp at hte'
            simp [hte']; omega
          clear tail hk
          go_enter Tryd.func34, Tryd.ntmps34
          go_wp2
          go_quiet (fail)
          go_wp2
          go_ret
          exact ⟨ret_bool HT.out.symm, by exact below_box _ _ _⟩
  · have hne : ((nn : Int) != (tk k : Int)) = true := by simp; omega
    have HT : Hid (mayB k nn text.size nb = false) := by
      show mayB k nn text.size nb = false
      unfold mayB; simp [hn]
    clear hn
    go_enter Tryd.func34, Tryd.ntmps34
    go_wp2
    go_quiet (fail)
    go_wp2
    go_ret
    exact ⟨ret_bool HT.out.symm, by exact below_box _ _ _⟩
end Go.Proofs.YtbmkindgbabobaaDoor
