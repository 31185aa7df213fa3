/- The scanner's signed numbers, the count of a list, texts. -/
import Derived.Test.YtbmkindgbabobaaDoorScanCnt
namespace Go.Proofs.YtbmkindgbabobaaDoor
open Go.RowKit
set_option maxRecDepth 20000

theorem and_1 (n : Nat) (h : n < 18446744073709551616) : bits .and .u64 (n : Int) 1 = ((n % 2 : Nat) : Int) := by
  have := u64_and_nat n 1 h (by omega)
  rw [show ((1 : Nat) : Int) = 1 from rfl] at this
  rw [this, Nat.and_one_is_mod]
theorem unsg_i64 (n : Nat) (h : n < 18446744073709551616) : I64 (unsg n) := by
  unfold I64 unsg; split <;> omega
theorem sig_of {xs r : List Int} {n : Nat} {bad bad' : Bool} (h : nxt bad (pCnt 0 0 xs) = if bad' then none else some (n, r)) : nxt bad (pSig xs) = if bad' then none else some (unsg n, r) := by
  unfold pSig
  cases bad <;> cases bad' <;> simp_all [nxt]
theorem some_bad {xs r : List Int} {n m : Nat} {bad : Bool} (h : nxt bad (pCnt 0 0 xs) = if true = true then none else some (n, r)) : nxt bad (pSome xs) = if true = true then none else some (m, r) := by
  unfold pSome
  cases bad <;> simp_all [nxt]
theorem some_ok {xs r : List Int} {n : Nat} {bad : Bool} (hn : n ≤ r.length) (h : nxt bad (pCnt 0 0 xs) = if false = true then none else some (n, r)) : nxt bad (pSome xs) = if false = true then none else some (n, r) := by
  unfold pSome
  cases bad <;> simp_all [nxt]
theorem some_no {xs r : List Int} {n m : Nat} {bad : Bool} (hn : ¬ n ≤ r.length) (h : nxt bad (pCnt 0 0 xs) = if false = true then none else some (n, r)) : nxt bad (pSome xs) = if true = true then none else some (m, r) := by
  unfold pSome
  cases bad <;> simp_all [nxt]
/-- The count of a list: it is no more than what is left, and 0 where that is bad. -/
def ReadN (t : TypeId) (w : World) (base g : Nat) (f : Option (Nat × List Int)) (e : Ending) (w' : World) : Prop :=
  Bel w.heap.size g w w' ∧ ∃ (n : Nat) (r : List Int) (bad' : Bool), e = .returned (.int .i64 n) ∧ n ≤ r.length ∧ (bad' = true → n = 0) ∧ St t w' base g r bad' ∧ f = if bad' then none else some (n, r)

set_option maxHeartbeats 400000 in
theorem wrsigned_any (w : World) (base g : Nat) (xs : List Int) (bad : Bool) (h : St 84 w base g xs bad) :
    Calls Tryd.prog 50 #[.pointer (some ⟨g, 0, none⟩)] w (Read1 84 w base g (nxt bad (pSig xs)) VSig) := by
  have H := hide h
  clear h
  go_enter Tryd.func50, Tryd.ntmps50
  go_wp2_with fail
  refine (wrcount_any _ _ _ _ _ H.out).mono ?_
  rintro e w1 ⟨hb1, n, r, bad', ⟨rfl, hn⟩, h2, hf⟩
  have HB := hide hb1
  have H2 := hide h2
  have HF := hide (sig_of hf)
  have HV := hide (unsg_i64 n hn)
  have HU := hide hn
  clear hb1 h2 hf
  by_cases h1 : n % 2 = 1
  · have hand : (bits .and .u64 (n : Int) 1 == 1) = true := by rw [and_1 n hn]; simp; omega
    have HG : Hid (-((n : Int) / 2) - 1 = unsg n) := by
      show _ = _
      unfold unsg; rw [if_pos h1]; omega
    have hd : (n : Int) / 2 ≤ 9223372036854775807 := by omega
    clear h1 hn
    go_wp2
    go_ret
    exact ⟨HB.out, unsg n, r, bad', ⟨by rw [← HG.out]; rfl, HV.out⟩, H2.out, HF.out⟩
  · have hand : (bits .and .u64 (n : Int) 1 == 1) = false := by rw [and_1 n hn]; simp; omega
    have HG : Hid ((n : Int) / 2 = unsg n) := by
      show _ = _
      unfold unsg; rw [if_neg h1]; omega
    have hd : (n : Int) / 2 ≤ 9223372036854775807 := by omega
    clear h1 hn
    go_wp2
    go_ret
    exact ⟨HB.out, unsg n, r, bad', ⟨by rw [← HG.out]; rfl, HV.out⟩, H2.out, HF.out⟩

set_option maxHeartbeats 400000 in
theorem wrsome_any (w : World) (base g : Nat) (xs : List Int) (bad : Bool) (h : St 84 w base g xs bad) :
    Calls Tryd.prog 52 #[.pointer (some ⟨g, 0, none⟩)] w (ReadN 84 w base g (nxt bad (pSome xs))) := by
  have H := hide h
  clear h
  go_enter Tryd.func52, Tryd.ntmps52
  go_wp2_with fail
  refine (wrcount_any _ _ _ _ _ H.out).mono ?_
  rintro e w1 ⟨hb1, n, r, bad', ⟨rfl, hn⟩, h2, hf⟩
  obtain ⟨A, m, c, c0, c1, f0, f1, hl, hc, hc2⟩ := h2.parts
  have HB := hide hb1
  have H2 := hide h2
  clear hb1 h2
  cases bad' with
  | true =>
    have HF := hide (some_bad (m := 0) hf)
    clear hf hn
    go_wp2
    go_ret
    exact ⟨HB.out.setCell 1 _, 0, r, true, rfl, by omega, fun _ => rfl, H2.out.setBad, HF.out⟩
  | false =>
    have hw : IntKind.u64.wrap (m : Int) = (m : Int) := by rw [IntKind.wrap_u64]; omega
    by_cases hle : n ≤ m
    · have hgt : ¬ (m : Int) < (n : Int) := by omega
      have HF := hide (some_ok (by omega) hf)
      have HL : Hid (n ≤ r.length) := hide (by omega)
      have hn9 : (n : Int) ≤ 9223372036854775807 := by omega
      clear hf hn hle
      go_wp2
      go_ret
      exact ⟨HB.out, n, r, false, rfl, HL.out, (fun h => Bool.noConfusion h), H2.out, HF.out⟩
    · have hgt : (m : Int) < (n : Int) := by omega
      have HF := hide (some_no (m := 0) (by omega) hf)
      clear hf hn hle
      go_wp2
      go_ret
      exact ⟨HB.out.setCell 1 _, 0, r, true, rfl, by omega, fun _ => rfl, H2.out.setBad, HF.out⟩


set_option maxHeartbeats 400000 in
theorem rrsigned_any (w : World) (base g : Nat) (xs : List Int) (bad : Bool) (h : St 90 w base g xs bad) :
    Calls Tryd.prog 55 #[.pointer (some ⟨g, 0, none⟩)] w (Read1 90 w base g (nxt bad (pSig xs)) VSig) := by
  have H := hide h
  clear h
  go_enter Tryd.func55, Tryd.ntmps55
  go_wp2_with fail
  refine (rrcount_any _ _ _ _ _ H.out).mono ?_
  rintro e w1 ⟨hb1, n, r, bad', ⟨rfl, hn⟩, h2, hf⟩
  have HB := hide hb1
  have H2 := hide h2
  have HF := hide (sig_of hf)
  have HV := hide (unsg_i64 n hn)
  have HU := hide hn
  clear hb1 h2 hf
  by_cases h1 : n % 2 = 1
  · have hand : ((n : Int) % 2 == 1) = true := by simp; omega
    have HG : Hid (-((n : Int) / 2) - 1 = unsg n) := by
      show _ = _
      unfold unsg; rw [if_pos h1]; omega
    have hd : (n : Int) / 2 ≤ 9223372036854775807 := by omega
    clear h1 hn
    go_wp2
    go_ret
    exact ⟨HB.out, unsg n, r, bad', ⟨by rw [← HG.out]; rfl, HV.out⟩, H2.out, HF.out⟩
  · have hand : ((n : Int) % 2 == 1) = false := by simp; omega
    have HG : Hid ((n : Int) / 2 = unsg n) := by
      show _ = _
      unfold unsg; rw [if_neg h1]; omega
    have hd : (n : Int) / 2 ≤ 9223372036854775807 := by omega
    clear h1 hn
    go_wp2
    go_ret
    exact ⟨HB.out, unsg n, r, bad', ⟨by rw [← HG.out]; rfl, HV.out⟩, H2.out, HF.out⟩

set_option maxHeartbeats 400000 in
theorem rrlist_any (w : World) (base g : Nat) (xs : List Int) (bad : Bool) (h : St 90 w base g xs bad) :
    Calls Tryd.prog 57 #[.pointer (some ⟨g, 0, none⟩)] w (ReadN 90 w base g (nxt bad (pSome xs))) := by
  have H := hide h
  clear h
  go_enter Tryd.func57, Tryd.ntmps57
  go_wp2_with fail
  refine (rrcount_any _ _ _ _ _ H.out).mono ?_
  rintro e w1 ⟨hb1, n, r, bad', ⟨rfl, hn⟩, h2, hf⟩
  obtain ⟨A, m, c, c0, c1, f0, f1, hl, hc, hc2⟩ := h2.parts
  have HB := hide hb1
  have H2 := hide h2
  clear hb1 h2
  cases bad' with
  | true =>
    have HF := hide (some_bad (m := 0) hf)
    clear hf hn
    go_wp2
    go_ret
    exact ⟨HB.out.setCell 1 _, 0, r, true, rfl, by omega, fun _ => rfl, H2.out.setBad, HF.out⟩
  | false =>
    have hw : IntKind.u64.wrap (m : Int) = (m : Int) := by rw [IntKind.wrap_u64]; omega
    by_cases hle : n ≤ m
    · have hgt : ¬ (m : Int) < (n : Int) := by omega
      have HF := hide (some_ok (by omega) hf)
      have HL : Hid (n ≤ r.length) := hide (by omega)
      have hn9 : (n : Int) ≤ 9223372036854775807 := by omega
      clear hf hn hle
      go_wp2
      go_ret
      exact ⟨HB.out, n, r, false, rfl, HL.out, (fun h => Bool.noConfusion h), H2.out, HF.out⟩
    · have hgt : (m : Int) < (n : Int) := by omega
      have HF := hide (some_no (m := 0) (by omega) hf)
      clear hf hn hle
      go_wp2
      go_ret
      exact ⟨HB.out.setCell 1 _, 0, r, true, rfl, by omega, fun _ => rfl, H2.out.setBad, HF.out⟩

end Go.Proofs.YtbmkindgbabobaaDoor
