/- The reference's bits. -/
import Derived.Test.YtbmkindgbabobaaDoorScanBits
namespace Go.Proofs.YtbmkindgbabobaaDoor
open Go.RowKit
set_option maxRecDepth 20000

/-- The bits from the next on, the byte being loaded; at its end: the next byte's. -/
def pH (j : Nat) : Nat → Nat → Int → List Int → Option (List Bool × List Int)
  | 0, _, y, r => if y = 0 then some ([], r) else none
  | n + 1, k, y, r => if j < 8 then (pW n (k + 1) (2 * y % 256) r).map fun q => (decide (128 ≤ y) :: q.1, q.2) else pW (n + 1) k y r
theorem pH_load (n k : Nat) (x y : Int) (r : List Int) (hk : k % 8 = 0) : pW (n + 1) k y (x :: r) = pH 0 (n + 1) k x r := by
  simp [pW, pH, hk]
theorem pW_pH (j n k : Nat) (y : Int) (r : List Int) (h : j < 8 → k % 8 ≠ 0) : pW n k y r = pH j n k y r := by
  cases n with
  | zero => rfl
  | succ n =>
    by_cases hj : j < 8
    · have := h hj
      cases r <;> simp [pW, pH, hj, this]
    · simp [pH, hj]
theorem pH_end (n k : Nat) (y : Int) (r : List Int) : pH 8 n k y r = pW n k y r := by
  cases n with
  | zero => rfl
  | succ n => simp [pH]
/-- one bit more. -/
theorem pH_bit {f : Option (List Bool × List Int)} {j n k : Nat} {y : Int} {r : List Int} {done : List Bool} {bd : Bool} (hj : j < 8) (hk : j + 1 < 8 → (k + 1) % 8 ≠ 0) (hf : f = if bd then none else (pH j (n + 1) k y r).map fun q => (done ++ q.1, q.2)) :
    f = if bd then none else (pH (j + 1) n (k + 1) (2 * y % 256) r).map fun q => ((done ++ [decide (128 ≤ y)]) ++ q.1, q.2) := by
  cases bd with
  | true => exact hf
  | false =>
    rw [hf, show pH j (n + 1) k y r = (pW n (k + 1) (2 * y % 256) r).map (fun q => (decide (128 ≤ y) :: q.1, q.2)) from by simp [pH, hj], pW_pH (j + 1) n (k + 1) _ r hk]
    simp [Function.comp_def]
theorem pH_over {f : Option (List Bool × List Int)} {j k : Nat} {y : Int} {r : List Int} {done : List Bool} {bd : Bool} (h0 : 0 ≤ y) (hb : y < 128) (hf : f = if bd then none else (pH j 0 k y r).map fun q => (done ++ q.1, q.2)) :
    f = if bd then none else (pH (j + 1) 0 k (2 * y % 256) r).map fun q => (done ++ q.1, q.2) := by
  cases bd with
  | true => exact hf
  | false =>
    rw [hf]
    unfold pH
    by_cases h : y = 0
    · simp [h]
    · have : 2 * y % 256 ≠ 0 := by omega
      simp [h, this]
theorem pH_bad {f : Option (List Bool × List Int)} {j k : Nat} {y : Int} {r : List Int} {done : List Bool} {bd : Bool} (hb : ¬ y < 128) (hf : f = if bd then none else (pH j 0 k y r).map fun q => (done ++ q.1, q.2)) : f = none := by
  cases bd with
  | true => exact hf
  | false =>
    have h : y ≠ 0 := by omega
    rw [hf]; simp [pH, h]
/-- In the midst of a byte's bits: k are read, j of this byte. -/
def MidI (t : TypeId) (w : World) (base g : Nat) (f : Option (List Bool × List Int)) (A : Option Addr) (k c n j : Nat) (y : Int) (bd : Bool) (wr : World) : Prop :=
  ∃ done r, wr.ownsRow w.heap.size 4 1 (.slice A k c) k (done.map Value.bool) ∧ Bel w.heap.size g w wr ∧ St t wr base g r bd ∧ f = if bd then none else (pH j n k y r).map fun q => (done ++ q.1, q.2)
theorem MidI.step {t : TypeId} {w w3 w4 : World} {base g i c n j c4 : Nat} {y : Int} {A A4 : Option Addr} {f : Option (List Bool × List Int)} {bd : Bool} {done : List Bool} {r : List Int} {b : Bool}
    (hW : g < w.heap.size) (hrow : (w3.alloc (.cells #[.bool b] 4)).ownsRow w.heap.size 4 1 (.slice A i c) i (done.map Value.bool)) (hB : Bel w.heap.size g w w3) (hS : St t w3 base g r bd)
    (hf : f = if bd then none else (pH j n (i + 1) y r).map fun q => ((done ++ [b]) ++ q.1, q.2))
    (h4 : w4.ownsRow w.heap.size 4 1 (.slice A4 (i + 1) c4) (i + 1) (done.map Value.bool ++ [Value.bool b])) (hg : (w3.alloc (.cells #[.bool b] 4)).grownBy w4 (Value.slice A i c).ownBlock) :
    MidI t w base g f A4 (i + 1) c4 n j y bd w4 := by
  have hr4 : ∀ k, (Value.slice A i c).ownBlock = some k → w.heap.size ≤ k := fun k e => (hrow.lt _ e).1
  exact ⟨done ++ [b], r, by simpa using h4, (hB.alloc hB.size _).grown hg (by have := hB.size; simp; omega) hr4, (hS.alloc _).grown hg (fun k e => by have := hr4 k e; omega), hf⟩
def lenOf : Value → Nat
  | .slice _ n _ => n
  | _ => 0
theorem mod_next (y : Int) (j : Nat) (hj : j < 8) (h : y % 2 ^ j = 0) : (2 * y % 256) % 2 ^ (j + 1) = 0 := by
  match j, hj with
  | 0, _ | 1, _ | 2, _ | 3, _ | 4, _ | 5, _ | 6, _ | 7, _ => simp at h ⊢ <;> omega

set_option maxHeartbeats 2000000 in
theorem rrbits_any (w : World) (base g : Nat) (xs : List Int) (bad : Bool) (h : St 90 w base g xs bad) :
    Calls Tryd.prog 49 #[.pointer (some ⟨g, 0, none⟩)] w (Read1 90 w base g (nxt bad (pBits xs)) (VBits w.heap.size)) := by
  have H := hide h
  have HW := hide h.lt
  clear h
  go_enter Tryd.func49, Tryd.ntmps49
  go_wp2_with fail
  refine (rrcount_any _ _ _ _ _ H.out).mono ?_
  rintro e w1 ⟨hb1, n, r, bad', ⟨rfl, hn⟩, h2, hf⟩
  obtain ⟨A, m, c, c0, c1, f0, f1, hl, hc, hc2⟩ := h2.parts
  have HB := hide hb1
  have H2 := hide h2
  clear hb1 h2
  cases bad' with
  | true =>
    have HF := hide (bits_bad hf)
    clear hf hn
    go_wp2
    go_ret
    exact ⟨HB.out.setCell 1 _, [], r, true, ⟨none, 0, 0, rfl, World.ownsRow_nil _ _ _ _⟩, H2.out.setBad, HF.out⟩
  | false =>
    have HN := hide hn
    clear hn
    by_cases hbig : n ≤ 4096
    · have hbig' : ¬ (4096 : Int) < (n : Int) := by omega
      have HF := hide (bits_go hbig hf)
      clear hf c0 c1 f0 f1
      have hc1 := H2.out.parts
      obtain ⟨_, _, _, c0, c1, f0, f1, _⟩ := hc1
      go_wp2
      clear hbig' c0 c1 f0 f1
      go_loopw [4] (fun s wr => ∃ (k : Nat) (A : Option Addr) (c : Nat) (bd : Bool), k ≤ n ∧ (k < n → bd = false → k % 8 = 0) ∧ s = .slice A k c ∧ Hid (MidB 90 w base g (nxt bad (pBits xs)) A k c (n - k) 0 bd wr)) (fun s _ => n - lenOf s)
      case atStart => exact ⟨0, none, 0, false, by omega, fun _ _ => rfl, rfl, hide ⟨[], r, World.ownsRow_nil _ _ _ _, HB.out, H2.out, HF.out⟩⟩
      case round =>
        obtain ⟨k, A1, cc, bd, hk, hk8, rfl, h1⟩ := hrel
        by_cases hlt : k < n
        · have hlt' : (k : Int) < (n : Int) := by omega
          cases bd with
          | true =>
            obtain ⟨done, r', hrow, hbel, hst, hf⟩ := h1.out
            obtain ⟨A9, m9, d9, c0', c1', f0', f1', hl', hc', hc2'⟩ := hst.parts
            have HS3 := hide hst
            have HR3 := hide hrow
            have HB3 := hide hbel
            have HF3 := hide hf
            clear hf hrow hbel hst h1 hk8
            go_wp2
            go_ret
            exact ⟨HB3.out, done, r', true, ⟨A1, k, cc, rfl, HR3.out⟩, HS3.out, HF3.out⟩
          | false =>
            have h8 := hk8 hlt rfl
            clear hk8
            obtain ⟨done, r', hrow, hbel, hst, hf⟩ := h1.out
            obtain ⟨A9, m9, d9, c0', c1', f0', f1', hl', hc', hc2'⟩ := hst.parts
            have HS3 := hide hst
            have HR3 := hide hrow
            have HB3 := hide hbel
            have HF3 := hide hf
            have H8 := hide h8
            clear hf hrow hbel hst h1 h8
            go_wp2_with fail
            refine (rone_any _ _ _ _ _ HS3.out).mono ?_
            intro e w3 h3
            obtain ⟨x, hx0, hx1, rfl, HI⟩ : ∃ x : Int, 0 ≤ x ∧ x < 256 ∧ e = .returned (.int .u8 x) ∧ Hid (∃ b3, MidI 90 w base g (nxt bad (pBits xs)) A1 k cc (n - k) 0 x b3 w3) := by
              obtain ⟨hb3, ⟨rfl, rfl, h3⟩ | ⟨x, r2, rfl, rfl, hx0, hx1, h3⟩⟩ := h3
              · refine ⟨0, by omega, by omega, rfl, hide ⟨true, done, [], row_bel HR3.out hb3 (fun e => absurd HW.out (Nat.not_lt.2 (HR3.out.lt _ e).1)), HB3.out.trans (hb3.mono HB3.out.size), h3, ?_⟩⟩
                have hf := HF3.out
                rw [show n - k = (n - k - 1) + 1 by omega] at hf
                exact pW_none H8.out hf
              · refine ⟨x, hx0, hx1, rfl, hide ⟨false, done, r2, row_bel HR3.out hb3 (fun e => absurd HW.out (Nat.not_lt.2 (HR3.out.lt _ e).1)), HB3.out.trans (hb3.mono HB3.out.size), h3, ?_⟩⟩
                have hf := HF3.out
                rw [show n - k = (n - k - 1) + 1 by omega] at hf ⊢
                rw [pH_load _ _ _ _ _ H8.out] at hf
                exact hf
            clear h3 HS3 HR3 HB3 HF3 c0' c1' f0' f1'
            go_wp2
            go_loopw [4, 5, 6] (fun s x jj wr => ∃ (j k' : Nat) (A : Option Addr) (c : Nat) (y : Int), j ≤ 8 ∧ k' ≤ n ∧ k ≤ k' ∧ (k' = k + j ∨ (k' = n ∧ k < k')) ∧ (k' = n ∨ k' = k + j) ∧ 0 ≤ y ∧ y < 256 ∧ jj = .int .i64 j ∧ x = .int .i64 y ∧ s = .slice A k' c ∧ Hid (y % 2 ^ j = 0 ∧ ∃ bd, MidI 90 w base g (nxt bad (pBits xs)) A k' c (n - k') j y bd wr)) (fun _ _ jj _ => 8 - (intOf jj).toNat)
            case atStart => exact ⟨0, k, A1, cc, x, by omega, by omega, by omega, .inl rfl, .inr rfl, hx0, hx1, by go_num, by go_num, rfl, hide ⟨by simp, HI.out⟩⟩
            case round =>
              obtain ⟨j, k', A2, c2, y, hj, hkn, hkk, hkj, hkj2, hy0, hy1, rfl, rfl, rfl, h5⟩ := hrel
              by_cases hj8 : j < 8
              · have hj8' : (j : Int) < 8 := by omega
                have HMN := hide (mod_next y j hj8 h5.out.1)
                obtain ⟨_, bd, done, r, hrow, hbel, hst, hf⟩ := h5.out
                obtain ⟨A9, m9, d9, c0', c1', f0', f1', hl', hc', hc2'⟩ := hst.parts
                have HS3 := hide hst
                have HR3 := hide hrow
                have HB3 := hide hbel
                by_cases hin : k' < n
                · have hin' : (k' : Int) < (n : Int) := by omega
                  rw [show n - k' = (n - (k' + 1)) + 1 by omega] at hf
                  have HF3 := hide (pH_bit hj8 (by have := H8.out; omega) hf)
                  clear hf hrow hbel hst h5 c0' c1' f0' f1' hl' hc' hc2'
                  go_wp2_with (at_builtin; refine to_halt ?_)
                  refine of_halt (wpList_append_row _ rfl _ _ _ rfl 4 Tryd.underlying23 info_bool rfl (HR3.out.alloc _) rfl (Reads.made _ _ [.bool (decide (128 ≤ y))] _ 1 rfl rfl) (by simp [Value.oneCell']) rfl (k' + 1) rfl (by omega) (by omega) (by have := HB3.out.size; simp; omega) ?_)
                  intro A4 c4 w4 hrow4 hgr4
                  have HM4 := hide (MidI.step (n := n - (k' + 1)) (j := j + 1) (y := 2 * y % 256) (r := r) HW.out (HR3.out.alloc _) HB3.out HS3.out HF3.out hrow4 hgr4)
                  clear hrow4 hgr4
                  go_wp2
                  go_roundw
                  case rel => exact ⟨j + 1, k' + 1, A4, c4, 2 * y % 256, by omega, by omega, by omega, by omega, by omega, by omega, by omega, by go_num, congrArg (Value.int .i64) (by omega), rfl, hide ⟨HMN.out, bd, HM4.out⟩⟩
                  case measure => simp [intOf]; omega
                · obtain rfl : k' = n := by omega
                  have hin' : ¬ (k' : Int) < (k' : Int) := by omega
                  rw [Nat.sub_self] at hf
                  by_cases hb : y < 128
                  · have HF3 := hide (pH_over hy0 hb hf)
                    have hb' : ¬ (128 : Int) ≤ y := by omega
                    clear hf hrow hbel hst h5 hb
                    go_wp2
                    go_roundw
                    case rel => exact ⟨j + 1, k', A2, c2, 2 * y % 256, by omega, by omega, by omega, by omega, by omega, by omega, by omega, by go_num, congrArg (Value.int .i64) (by omega), rfl, hide ⟨HMN.out, bd, done, r, HR3.out, HB3.out, HS3.out, by rw [Nat.sub_self]; exact HF3.out⟩⟩
                    case measure => simp [intOf]; omega
                  · have HF3 := hide (pH_bad hb hf)
                    have hb' : (128 : Int) ≤ y := by omega
                    clear hf hrow hbel hst h5 hb
                    go_wp2
                    go_roundw
                    case rel => exact ⟨j + 1, k', A2, c2, 2 * y % 256, by omega, by omega, by omega, by omega, by omega, by omega, by omega, by go_num, congrArg (Value.int .i64) (by omega), rfl, hide ⟨HMN.out, true, done, r, row_setCell HR3.out (fun e => absurd HW.out (Nat.not_lt.2 (HR3.out.lt _ e).1)) _, HB3.out.setCell 1 _, HS3.out.setBad, HF3.out⟩⟩
                    case measure => simp [intOf]; omega
              · obtain rfl : j = 8 := by omega
                obtain ⟨hmod, bd, done, r, hrow, hbel, hst, hf⟩ := h5.out
                obtain rfl : y = 0 := by
                  rw [show (2 : Int) ^ 8 = 256 from by decide] at hmod
                  omega
                rw [pH_end] at hf
                have HM := hide (show MidB 90 w base g (nxt bad (pBits xs)) A2 k' c2 (n - k') 0 bd wr from ⟨done, r, hrow, hbel, hst, hf⟩)
                clear hf hrow hbel hst h5 hmod
                go_wp2
                go_roundw
                case rel => exact ⟨k', A2, c2, bd, hkn, fun _ _ => by have := H8.out; omega, rfl, HM⟩
                case measure => show n - k' < n - k; omega
        · obtain rfl : k = n := by omega
          have hlt' : ¬ (k : Int) < (k : Int) := by omega
          obtain ⟨done, r', hrow, hbel, hst, hf⟩ := h1.out
          obtain ⟨A9, m9, d9, c0', c1', f0', f1', hl', hc', hc2'⟩ := hst.parts
          rw [Nat.sub_self] at hf
          have HS3 := hide hst
          have HR3 := hide hrow
          have HB3 := hide hbel
          have HF3 : Hid (nxt bad (pBits xs) = if bd then none else some (done, r')) := by
            cases bd with
            | true => exact hf
            | false => exact hf.trans (by simp [pW])
          clear hf hrow hbel hst h1 hk8
          go_wp2
          go_ret
          exact ⟨HB3.out, done, r', bd, ⟨A1, k, cc, rfl, HR3.out⟩, HS3.out, HF3.out⟩
    · have HF := hide (bits_big hbig hf)
      have hbig' : (4096 : Int) < (n : Int) := by omega
      clear hf
      go_wp2
      go_ret
      exact ⟨HB.out.setCell 1 _, [], r, true, ⟨none, 0, 0, rfl, World.ownsRow_nil _ _ _ _⟩, H2.out.setBad, HF.out⟩
end Go.Proofs.YtbmkindgbabobaaDoor
