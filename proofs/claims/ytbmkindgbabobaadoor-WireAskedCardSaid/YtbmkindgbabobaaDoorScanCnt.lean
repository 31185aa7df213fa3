/- The scanner's counts. -/
import Derived.Test.YtbmkindgbabobaaDoorScan
namespace Go.Proofs.YtbmkindgbabobaaDoor
open Go.RowKit
set_option maxRecDepth 20000

theorem pow57 (n k : Nat) (h : n < 128 ^ k) (h57 : 144115188075855872 ≤ n) (hk : k ≤ 9) : k = 9 := by
  rcases Nat.lt_or_ge k 9 with h9 | h9
  · have : 128 ^ k ≤ 128 ^ 8 := Nat.pow_le_pow_right (by decide) (by omega)
    have e : (128 : Nat) ^ 8 = 72057594037927936 := by decide
    omega
  · omega
/-- one more group. -/
theorem grp_in (n : Nat) (x : Int) (hn : n < 144115188075855872) (h0 : 0 ≤ x) (h1 : x < 256) : bits .or .u64 ((n : Int) * 128) (IntKind.u64.wrap (bits .and .u8 x 127)) = ((128 * n + x.toNat % 128 : Nat) : Int) := by
  rw [and_127 x h0 h1]
  obtain ⟨a, rfl⟩ := Int.eq_ofNat_of_zero_le h0
  have e1 : (n : Int) * 128 = ((128 * n : Nat) : Int) := by omega
  have e2 : IntKind.u64.wrap ((a : Int) % 128) = ((a % 128 : Nat) : Int) := by rw [IntKind.wrap_u64]; omega
  rw [e1, e2, u64_or_nat _ _ (by omega) (by omega)]
  have e := Nat.two_pow_add_eq_or_of_lt (i := 7) (b := a % 128) (by omega) n
  rw [show (2 : Nat) ^ 7 = 128 from rfl] at e
  rw [← e]
  simp
theorem grp_lt (n k y : Nat) (h : n < 128 ^ k) (hy : y < 128) : 128 * n + y < 128 ^ (k + 1) := by
  rw [Nat.pow_succ]; omega

set_option maxHeartbeats 1000000 in
theorem wrcount_any (w : World) (base g : Nat) (xs : List Int) (bad : Bool) (h : St 84 w base g xs bad) :
    Calls Tryd.prog 81 #[.pointer (some ⟨g, 0, none⟩)] w (Read1 84 w base g (nxt bad (pCnt 0 0 xs)) VCnt) := by
  have H := hide h
  clear h
  go_enter Tryd.func81, Tryd.ntmps81
  go_wp2
  go_loopw [3, 4] (fun v i wr => ∃ (k n : Nat) (ys : List Int), k ≤ 9 ∧ n < 128 ^ k ∧ v = .int .u64 n ∧ i = .int .i64 k ∧ Hid (Bel w.heap.size g w wr ∧ St 84 wr base g ys bad ∧ nxt bad (pCnt 0 0 xs) = nxt bad (pCnt k n ys))) (fun _ i _ => 10 - (intOf i).toNat)
  case atStart => exact ⟨0, 0, xs, by omega, by decide, by go_num, by go_num, Bel.refl _ _ _, H.out, rfl⟩
  case round =>
    obtain ⟨k, n, ys, hk, hn, rfl, rfl, h1⟩ := hrel
    have hn9 : n < 9223372036854775808 := by
      have : 128 ^ k ≤ 128 ^ 9 := Nat.pow_le_pow_right (by decide) hk
      have e : (128 : Nat) ^ 9 = 9223372036854775808 := by decide
      omega
    have HN := hide hn
    clear hn
    go_wp2_with fail
    refine (wone_any _ _ _ _ _ h1.out.2.1).mono ?_
    rintro e w1 ⟨hb1, ⟨rfl, rfl, h2⟩ | ⟨x, r, rfl, rfl, hx0, hx1, h2⟩⟩
    · obtain ⟨A, m, c, c0, c1, f0, f1, hl, hc, hc2⟩ := h2.parts
      have HB := hide (h1.out.1.trans (hb1.mono h1.out.1.size))
      have H2 := hide h2
      have HE : Hid (nxt bad (pCnt 0 0 xs) = none) := by
        refine h1.out.2.2.trans ?_
        unfold nxt pCnt; simp
      clear hb1 h2 h1
      cases hk9 : ((k : Int) == 9) <;> cases hn57 : (((n : Int) / 144115188075855872) != 0)
      all_goals go_wp2
      all_goals go_ret
      all_goals exact ⟨HB.out.setCell 1 _, 0, _, true, ⟨rfl, by decide⟩, H2.out.setBad, HE.out⟩
    · obtain ⟨A, m, c, c0, c1, f0, f1, hl, hc, hc2⟩ := h2.parts
      have HB := hide (h1.out.1.trans (hb1.mono h1.out.1.size))
      have H2 := hide h2
      have HP := hide h1.out.2.2
      clear hb1 h2 h1
      by_cases hb : bad = true
      · subst hb
        cases hk0 : ((k : Int) == 0) <;> cases hx128 : (x == 128) <;> cases hk9 : ((k : Int) == 9) <;> cases hn57 : (((n : Int) / 144115188075855872) != 0)
        all_goals
          go_wp2
          go_ret
          exact ⟨HB.out.setCell 1 _, 0, _, true, ⟨rfl, by decide⟩, H2.out.setBad, rfl⟩
      · obtain rfl : bad = false := by simpa using hb
        clear hb
        by_cases he : (k = 0 ∧ x = 128) ∨ 144115188075855872 ≤ n
        · have HE : Hid (nxt false (pCnt 0 0 xs) = none) := by
            refine HP.out.trans ?_
            unfold nxt pCnt; simp [he]
          have hk0 : ((k : Int) == 0) = (k == 0) := by rw [Bool.eq_iff_iff]; simp
          rcases he with ⟨rfl, rfl⟩ | h57
          · go_wp2
            go_ret
            exact ⟨HB.out.setCell 1 _, 0, _, true, ⟨rfl, by decide⟩, H2.out.setBad, HE.out⟩
          · obtain rfl := pow57 n k HN.out h57 hk
            have hn57 : (((n : Int) / 144115188075855872) != 0) = true := by simp; omega
            clear h57 hk0
            go_wp2
            go_ret
            exact ⟨HB.out.setCell 1 _, 0, _, true, ⟨rfl, by decide⟩, H2.out.setBad, HE.out⟩
        · have hn57 : (((n : Int) / 144115188075855872) != 0) = false := by simp; omega
          have hlt57 : n < 144115188075855872 := by omega
          have HG := hide (grp_in n x hlt57 hx0 hx1)
          have HL := hide (grp_lt n k (x.toNat % 128) HN.out (by omega))
          have hk0x : ((k : Int) == 0) = false ∨ (((k : Int) == 0) = true ∧ (x == 128) = false) := by
            by_cases h0 : k = 0
            · right; exact ⟨by simp [h0], by simp; intro h; exact he (.inl ⟨h0, h⟩)⟩
            · left; simp; omega
          by_cases hx128 : x < 128
          · have HE : Hid (nxt false (pCnt 0 0 xs) = some (128 * n + x.toNat % 128, r)) := by
              refine HP.out.trans ?_
              unfold nxt pCnt; simp [he, hx128]
            clear he
            rcases hk0x with hk0x | ⟨hk0x, hk0y⟩
            all_goals
              cases hk9 : ((k : Int) == 9)
              all_goals
                go_wp2
                go_ret
                exact ⟨HB.out, _, r, false, ⟨congrArg (fun z => Ending.returned (.int .u64 z)) HG.out, by omega⟩, H2.out, HE.out⟩
          · by_cases hk9 : k = 9
            · subst hk9
              have HE : Hid (nxt false (pCnt 0 0 xs) = none) := by
                refine HP.out.trans ?_
                unfold nxt pCnt; simp [hx128]
              clear he hk0x
              cases hx8 : (x == 128)
              all_goals
                go_wp2
                go_ret
                exact ⟨HB.out.setCell 1 _, 0, _, true, ⟨rfl, by decide⟩, H2.out.setBad, HE.out⟩
            · have HE : Hid (nxt false (pCnt 0 0 xs) = nxt false (pCnt (k + 1) (128 * n + x.toNat % 128) r)) := by
                refine HP.out.trans ?_
                unfold nxt
                rw [pCnt]
                simp [he, hx128, show ¬ 9 ≤ k by omega]
              have hk9' : ((k : Int) == 9) = false := by simp; omega
              clear he
              rcases hk0x with hk0x | ⟨hk0x, hk0y⟩
              all_goals
                go_wp2
                go_roundw
                case rel => exact ⟨k + 1, _, r, by omega, HL.out, congrArg (fun z => Value.int .u64 z) HG.out, by go_num, HB.out, H2.out, HE.out⟩
                case measure => simp [intOf]; omega
theorem rgrp_in (n : Nat) (x : Int) (_ : n < 144115188075855872) (h0 : 0 ≤ x) (h1 : x < 256) : (n : Int) * 128 + x % 128 = ((128 * n + x.toNat % 128 : Nat) : Int) := by omega

set_option maxHeartbeats 1000000 in
theorem rrcount_any (w : World) (base g : Nat) (xs : List Int) (bad : Bool) (h : St 90 w base g xs bad) :
    Calls Tryd.prog 83 #[.pointer (some ⟨g, 0, none⟩)] w (Read1 90 w base g (nxt bad (pCnt 0 0 xs)) VCnt) := by
  have H := hide h
  clear h
  go_enter Tryd.func83, Tryd.ntmps83
  go_wp2
  go_loopw [3, 4] (fun v i wr => ∃ (k n : Nat) (ys : List Int), k ≤ 10 ∧ n < 128 ^ k ∧ v = .int .u64 n ∧ i = .int .i64 k ∧ Hid (Bel w.heap.size g w wr ∧ St 90 wr base g ys bad ∧ (k ≤ 9 → nxt bad (pCnt 0 0 xs) = nxt bad (pCnt k n ys)) ∧ (k = 10 → nxt bad (pCnt 0 0 xs) = none))) (fun _ i _ => 10 - (intOf i).toNat)
  case atStart => exact ⟨0, 0, xs, by omega, by decide, by go_num, by go_num, Bel.refl _ _ _, H.out, fun _ => rfl, fun h => absurd h (by decide)⟩
  case round =>
    obtain ⟨k, n, ys, hk, hn, rfl, rfl, h1⟩ := hrel
    by_cases hk10 : k = 10
    · subst hk10
      obtain ⟨A, m, c, c0, c1, f0, f1, hl, hc, hc2⟩ := h1.out.2.1.parts
      clear hn
      go_wp2
      go_ret
      exact ⟨h1.out.1.setCell 1 _, 0, _, true, ⟨rfl, by decide⟩, h1.out.2.1.setBad, h1.out.2.2.2 trivial⟩
    · have hk9 : k ≤ 9 := by omega
      have hk10' : (k : Int) < 10 := by omega
      have hn9 : n < 9223372036854775808 := by
        have : 128 ^ k ≤ 128 ^ 9 := Nat.pow_le_pow_right (by decide) hk9
        have e : (128 : Nat) ^ 9 = 9223372036854775808 := by decide
        omega
      have HN := hide hn
      clear hn hk10
      go_wp2_with fail
      refine (rone_any _ _ _ _ _ h1.out.2.1).mono ?_
      rintro e w1 ⟨hb1, ⟨rfl, rfl, h2⟩ | ⟨x, r, rfl, rfl, hx0, hx1, h2⟩⟩
      · obtain ⟨A, m, c, c0, c1, f0, f1, hl, hc, hc2⟩ := h2.parts
        have HB := hide (h1.out.1.trans (hb1.mono h1.out.1.size))
        have H2 := hide h2
        have HE : Hid (nxt bad (pCnt 0 0 xs) = none) := by
          refine (h1.out.2.2.1 hk9).trans ?_
          unfold nxt pCnt; simp
        clear hb1 h2 h1
        go_wp2
        go_ret
        exact ⟨HB.out.setCell 1 _, 0, _, true, ⟨rfl, by decide⟩, H2.out.setBad, HE.out⟩
      · obtain ⟨A, m, c, c0, c1, f0, f1, hl, hc, hc2⟩ := h2.parts
        have HB := hide (h1.out.1.trans (hb1.mono h1.out.1.size))
        have H2 := hide h2
        have HP := hide (h1.out.2.2.1 hk9)
        clear hb1 h2 h1
        by_cases hb : bad = true
        · subst hb
          go_wp2
          go_ret
          exact ⟨HB.out.setCell 1 _, 0, _, true, ⟨rfl, by decide⟩, H2.out.setBad, rfl⟩
        · obtain rfl : bad = false := by simpa using hb
          clear hb
          by_cases he : (k = 0 ∧ x = 128) ∨ 144115188075855872 ≤ n
          · have HE : Hid (nxt false (pCnt 0 0 xs) = none) := by
              refine HP.out.trans ?_
              unfold nxt pCnt; simp [he]
            rcases he with ⟨rfl, rfl⟩ | h57
            · go_wp2
              go_ret
              exact ⟨HB.out.setCell 1 _, 0, _, true, ⟨rfl, by decide⟩, H2.out.setBad, HE.out⟩
            · obtain rfl := pow57 n k HN.out h57 hk9
              have hn57 : (144115188075855872 : Int) ≤ (n : Int) := by omega
              clear h57
              go_wp2
              go_ret
              exact ⟨HB.out.setCell 1 _, 0, _, true, ⟨rfl, by decide⟩, H2.out.setBad, HE.out⟩
          · have hn57 : decide ((144115188075855872 : Int) ≤ (n : Int)) = false := by simp; omega
            have HG := hide (rgrp_in n x (by omega) hx0 hx1)
            have HV : Hid (128 * n + x.toNat % 128 < 18446744073709551616) := hide (by omega)
            have hw1 : IntKind.u64.wrap ((n : Int) * 128) = (n : Int) * 128 := by rw [IntKind.wrap_u64]; omega
            have hw2 : IntKind.u64.wrap ((n : Int) * 128 + x % 128) = (n : Int) * 128 + x % 128 := by rw [IntKind.wrap_u64]; omega
            have HL := hide (grp_lt n k (x.toNat % 128) HN.out (by omega))
            have hk0x : ((k : Int) == 0) = false ∨ (((k : Int) == 0) = true ∧ (x == 128) = false) := by
              by_cases h0 : k = 0
              · right; exact ⟨by simp [h0], by simp; intro h; exact he (.inl ⟨h0, h⟩)⟩
              · left; simp; omega
            by_cases hx128 : x < 128
            · have HE : Hid (nxt false (pCnt 0 0 xs) = some (128 * n + x.toNat % 128, r)) := by
                refine HP.out.trans ?_
                unfold nxt pCnt; simp [he, hx128]
              clear he
              rcases hk0x with hk0x | ⟨hk0x, hk0y⟩
              all_goals
                go_wp2
                go_ret
                exact ⟨HB.out, _, r, false, ⟨congrArg (fun z => Ending.returned (.int .u64 z)) HG.out, HV.out⟩, H2.out, HE.out⟩
            · have HE : Hid (k < 9 → nxt false (pCnt 0 0 xs) = nxt false (pCnt (k + 1) (128 * n + x.toNat % 128) r)) := by
                intro hlt9
                refine HP.out.trans ?_
                unfold nxt
                rw [pCnt]
                simp [he, hx128, show ¬ 9 ≤ k by omega]
              have HE2 : Hid (k = 9 → nxt false (pCnt 0 0 xs) = none) := by
                rintro rfl
                refine HP.out.trans ?_
                unfold nxt pCnt; simp [hx128]
              clear he
              rcases hk0x with hk0x | ⟨hk0x, hk0y⟩
              all_goals
                go_wp2
                go_roundw
                case rel => exact ⟨k + 1, _, r, by omega, HL.out, congrArg (fun z => Value.int .u64 z) HG.out, by go_num, HB.out, H2.out, fun h => HE.out (by omega), fun h => HE2.out (by omega)⟩
                case measure => simp [intOf]; omega
end Go.Proofs.YtbmkindgbabobaaDoor
