/- The scanner's bits. -/
import Derived.Test.YtbmkindgbabobaaDoorScanNums2
namespace Go.Proofs.YtbmkindgbabobaaDoor
open Go.RowKit
set_option maxRecDepth 20000

/-- The bits from the j-th on, n of them; x: what is left of the byte that is gone through. -/
def pW : Nat → Nat → Int → List Int → Option (List Bool × List Int)
  | 0, _, x, r => if x = 0 then some ([], r) else none
  | n + 1, j, x, r =>
    if j % 8 = 0 then
      match r with
      | [] => none
      | y :: r' => (pW n (j + 1) (2 * y % 256) r').map fun q => (decide (128 ≤ y) :: q.1, q.2)
    else (pW n (j + 1) (2 * x % 256) r).map fun q => (decide (128 ≤ x) :: q.1, q.2)
def pBits (xs : List Int) : Option (List Bool × List Int) := (pCnt 0 0 xs).bind fun p => if p.1 ≤ 4096 then pW p.1 0 0 p.2 else none
theorem pW_short : ∀ (n j : Nat) (x : Int) (r : List Int), 8 * r.length + (8 - j % 8) % 8 < n → pW n j x r = none := by
  intro n
  induction n with
  | zero => intro j x r h; omega
  | succ n ih =>
    intro j x r h
    unfold pW
    by_cases hj : j % 8 = 0
    · rw [if_pos hj]
      cases r with
      | nil => rfl
      | cons y r' =>
        simp only [List.length_cons] at h
        show (pW n (j + 1) (2 * y % 256) r').map _ = none
        rw [ih (j + 1) _ r' (by omega)]; rfl
    · rw [if_neg hj, ih (j + 1) _ r (by omega)]; rfl
theorem bits_bad {xs r : List Int} {n : Nat} {bad : Bool} (h : nxt bad (pCnt 0 0 xs) = if true = true then none else some (n, r)) : nxt bad (pBits xs) = none := by
  unfold pBits
  cases bad <;> simp_all [nxt]
theorem bits_big {xs r : List Int} {n : Nat} {bad : Bool} (hn : ¬ n ≤ 4096) (h : nxt bad (pCnt 0 0 xs) = if false = true then none else some (n, r)) : nxt bad (pBits xs) = none := by
  unfold pBits
  cases bad
  · simp_all [nxt]
    intro h1
    omega
  · simp_all [nxt]
theorem bits_short {xs r : List Int} {n : Nat} {bad : Bool} (hn : 8 * r.length < n) (h : nxt bad (pCnt 0 0 xs) = if false = true then none else some (n, r)) : nxt bad (pBits xs) = none := by
  have e := pW_short n 0 0 r (by omega)
  unfold pBits
  cases bad <;> simp_all [nxt]
theorem bits_go {xs r : List Int} {n : Nat} {bad : Bool} (hn : n ≤ 4096) (h : nxt bad (pCnt 0 0 xs) = if false = true then none else some (n, r)) : nxt bad (pBits xs) = (pW n 0 0 r).map fun q => (([] : List Bool) ++ q.1, q.2) := by
  unfold pBits
  cases bad <;> simp_all [nxt]
theorem pW_new {f : Option (List Bool × List Int)} {n j : Nat} {x y : Int} {r : List Int} {done : List Bool} (hj : j % 8 = 0) (hf : f = (pW (n + 1) j x (y :: r)).map fun q => (done ++ q.1, q.2)) :
    f = (pW n (j + 1) (2 * y % 256) r).map fun q => ((done ++ [decide (128 ≤ y)]) ++ q.1, q.2) := by
  rw [hf, pW, if_pos hj]; simp [Function.comp_def]
theorem pW_none {f : Option (List Bool × List Int)} {n j : Nat} {x : Int} {done : List Bool} (hj : j % 8 = 0) (hf : f = (pW (n + 1) j x []).map fun q => (done ++ q.1, q.2)) : f = none := by
  rw [hf]; simp [pW, hj]
theorem pW_old {f : Option (List Bool × List Int)} {n j : Nat} {x : Int} {r : List Int} {done : List Bool} (hj : ¬ j % 8 = 0) (hf : f = (pW (n + 1) j x r).map fun q => (done ++ q.1, q.2)) :
    f = (pW n (j + 1) (2 * x % 256) r).map fun q => ((done ++ [decide (128 ≤ x)]) ++ q.1, q.2) := by
  rw [hf, show pW (n + 1) j x r = (pW n (j + 1) (2 * x % 256) r).map (fun q => (decide (128 ≤ x) :: q.1, q.2)) from by cases r <;> simp [pW, hj]]
  simp [Function.comp_def]
theorem and_128 (x : Int) (h0 : 0 ≤ x) (h1 : x < 256) : (bits .and .u8 x 128 != 0) = decide (128 ≤ x) := by
  obtain ⟨a, rfl⟩ := Int.eq_ofNat_of_zero_le h0
  have h := u8_and_nat a 128 (by omega) (by omega)
  rw [show ((128 : Nat) : Int) = 128 from rfl] at h
  rw [h]
  have : ∀ a : Fin 256, ((((a.val &&& 128 : Nat) : Int) != 0) = decide (128 ≤ (a.val : Int))) := by decide
  exact this ⟨a, by omega⟩

def VBits (B : Nat) (v : List Bool) (e : Ending) (w' : World) : Prop := ∃ A n c, e = .returned (.slice A n c) ∧ w'.ownsRow B 4 1 (.slice A n c) n (v.map Value.bool)
/-- In the midst of the bits: i are read. -/
def MidB (t : TypeId) (w : World) (base g : Nat) (f : Option (List Bool × List Int)) (A : Option Addr) (i c n : Nat) (x : Int) (bd : Bool) (wr : World) : Prop :=
  ∃ done r, wr.ownsRow w.heap.size 4 1 (.slice A i c) i (done.map Value.bool) ∧ Bel w.heap.size g w wr ∧ St t wr base g r bd ∧ f = if bd then none else (pW n i x r).map fun q => (done ++ q.1, q.2)
/-- one more bit goes in. -/
theorem MidB.step {t : TypeId} {w w3 w4 : World} {base g i c n c4 : Nat} {y : Int} {A A4 : Option Addr} {f : Option (List Bool × List Int)} {bd : Bool} {done : List Bool} {r : List Int} {b : Bool}
    (hW : g < w.heap.size) (hrow : (w3.alloc (.cells #[.bool b] 4)).ownsRow w.heap.size 4 1 (.slice A i c) i (done.map Value.bool)) (hB : Bel w.heap.size g w w3) (hS : St t w3 base g r bd)
    (hf : f = if bd then none else (pW n (i + 1) y r).map fun q => ((done ++ [b]) ++ q.1, q.2))
    (h4 : w4.ownsRow w.heap.size 4 1 (.slice A4 (i + 1) c4) (i + 1) (done.map Value.bool ++ [Value.bool b])) (hg : (w3.alloc (.cells #[.bool b] 4)).grownBy w4 (Value.slice A i c).ownBlock) :
    MidB t w base g f A4 (i + 1) c4 n y bd w4 := by
  have hr4 : ∀ k, (Value.slice A i c).ownBlock = some k → w.heap.size ≤ k := fun k e => (hrow.lt _ e).1
  exact ⟨done ++ [b], r, by simpa using h4, (hB.alloc hB.size _).grown hg (by have := hB.size; simp; omega) hr4, (hS.alloc _).grown hg (fun k e => by have := hr4 k e; omega), hf⟩

set_option maxHeartbeats 2000000 in
theorem wrbits_any (w : World) (base g : Nat) (xs : List Int) (bad : Bool) (h : St 84 w base g xs bad) :
    Calls Tryd.prog 46 #[.pointer (some ⟨g, 0, none⟩)] w (Read1 84 w base g (nxt bad (pBits xs)) (VBits w.heap.size)) := by
  have H := hide h
  have HW := hide h.lt
  clear h
  go_enter Tryd.func46, Tryd.ntmps46
  go_wp2_with fail
  refine (wrcount_any _ _ _ _ _ H.out).mono ?_
  rintro e w1 ⟨hb1, n, r, bad', ⟨rfl, hn⟩, h2, hf⟩
  obtain ⟨A, m, c, c0, c1, f0, f1, hl, hc, hc2⟩ := h2.parts
  have hml : m ≤ lim := by have := h2.len; omega
  have HB := hide hb1
  have H2 := hide h2
  clear hb1 h2
  cases bad' with
  | true =>
    have HF := hide (bits_bad hf)
    clear hf hn
    go_wp2
    go_ret
    exact ⟨HB.out.setCell 1 _, [], r, true, ⟨none, 0, 0, rfl, World.ownsRow_nil _ _ _ _⟩, H2.out.setBad, HF.out⟩
  | false =>
    have HN := hide hn
    clear hn
    by_cases hbig : n ≤ 4096
    · have hbig' : ¬ (4096 : Int) < (n : Int) := by omega
      have hw1 : IntKind.u64.wrap (m : Int) = (m : Int) := by rw [IntKind.wrap_u64]; omega
      have hw2 : IntKind.u64.wrap (8 * (m : Int)) = 8 * (m : Int) := by have := lim_eq; rw [IntKind.wrap_u64]; omega
      by_cases hsh : 8 * m < n
      · have HF := hide (bits_short (by omega) hf)
        have hsh' : 8 * (m : Int) < (n : Int) := by omega
        clear hf
        go_wp2
        go_ret
        exact ⟨HB.out.setCell 1 _, [], r, true, ⟨none, 0, 0, rfl, World.ownsRow_nil _ _ _ _⟩, H2.out.setBad, HF.out⟩
      · have HF := hide (bits_go hbig hf)
        have hsh' : ¬ 8 * (m : Int) < (n : Int) := by omega
        clear hf hsh
        go_wp2
        clear hsh' hw1 hw2
        go_loopw [4, 5, 33] (fun s x i wr => ∃ (k : Nat) (A : Option Addr) (c : Nat) (bd : Bool) (y : Int), k ≤ n ∧ 0 ≤ y ∧ y < 256 ∧ i = .int .i64 k ∧ x = .int .u8 y ∧ s = .slice A k c ∧ Hid (MidB 84 w base g (nxt bad (pBits xs)) A k c (n - k) y bd wr)) (fun _ _ i _ => n - (intOf i).toNat)
        case atStart => exact ⟨0, none, 0, false, 0, by omega, by omega, by omega, by go_num, by go_num, rfl, hide ⟨[], r, World.ownsRow_nil _ _ _ _, HB.out, H2.out, HF.out⟩⟩
        case round =>
          obtain ⟨k, A1, cc, bd, y, hk, hy0, hy1, rfl, rfl, rfl, h1⟩ := hrel
          by_cases hlt : k < n
          · have hlt' : (k : Int) < (n : Int) := by omega
            obtain ⟨n', hn'⟩ : ∃ n', n - k = n' + 1 := ⟨n - k - 1, by omega⟩
            have hn2 : n - (k + 1) = n' := by omega
            by_cases h8 : k % 8 = 0
            · have h8' : ((k : Int) % 8 == 0) = true := by simp; omega
              go_wp2_with fail
              obtain ⟨done, r', hrow, hbel, hst, hf⟩ := h1.out
              refine (wone_any _ _ _ _ _ hst).mono ?_
              rintro e w3 ⟨hb3, ⟨rfl, rfl, h3⟩ | ⟨x, r2, rfl, rfl, hx0, hx1, h3⟩⟩
              · have hand : (bits .and .u8 0 128 != 0) = false := and_128 0 (by omega) (by omega)
                have HS3 := hide h3
                have HF3 : Hid (nxt bad (pBits xs) = none) := by
                  cases bd with
                  | true => exact hf
                  | false => rw [hn'] at hf; exact pW_none h8 hf
                have HR3 := hide (row_bel hrow hb3 (fun e => by have := (hrow.lt _ e).1; have := HW.out; omega))
                have HB3 := hide (hbel.trans (hb3.mono hbel.size))
                clear hb3 h3 hf hrow hbel hst h1
                go_wp2_with (at_builtin; refine to_halt ?_)
                refine of_halt (wpList_append_row _ rfl _ _ _ rfl 4 Tryd.underlying23 info_bool rfl (HR3.out.alloc _) rfl (Reads.made w3 _ [.bool false] _ 1 rfl rfl) (by simp [Value.oneCell']) rfl (k + 1) rfl (by omega) (by omega) (by have := HB3.out.size; simp; omega) ?_)
                intro A4 c4 w4 hrow4 hgr4
                have HM4 := hide (MidB.step (n := n - (k + 1)) (y := 0) (r := []) HW.out (HR3.out.alloc _) HB3.out HS3.out HF3.out hrow4 hgr4)
                clear hrow4 hgr4
                go_wp2
                go_roundw
                case rel => exact ⟨k + 1, A4, c4, true, 0, by omega, by omega, by omega, by go_num, by go_num, rfl, HM4⟩
                case measure => simp [intOf]; omega
              · have hand := and_128 x hx0 hx1
                have hw : IntKind.u8.wrap (x * 2) = 2 * x % 256 := by rw [IntKind.wrap_u8']; omega
                have HS3 := hide h3
                have HF3 : Hid (nxt bad (pBits xs) = if bd then none else (pW (n - (k + 1)) (k + 1) (2 * x % 256) r2).map fun q => ((done ++ [decide (128 ≤ x)]) ++ q.1, q.2)) := by
                  cases bd with
                  | true => exact hf
                  | false => rw [hn'] at hf; rw [hn2]; exact pW_new h8 hf
                have HR3 := hide (row_bel hrow hb3 (fun e => by have := (hrow.lt _ e).1; have := HW.out; omega))
                have HB3 := hide (hbel.trans (hb3.mono hbel.size))
                clear hb3 h3 hf hrow hbel hst h1
                go_wp2_with (at_builtin; refine to_halt ?_)
                refine of_halt (wpList_append_row _ rfl _ _ _ rfl 4 Tryd.underlying23 info_bool rfl (HR3.out.alloc _) rfl (Reads.made w3 _ [.bool (decide (128 ≤ x))] _ 1 (by simp) rfl) (by simp [Value.oneCell']) rfl (k + 1) rfl (by omega) (by omega) (by have := HB3.out.size; simp; omega) ?_)
                intro A4 c4 w4 hrow4 hgr4
                have HM4 := hide (MidB.step (n := n - (k + 1)) (y := 2 * x % 256) (r := r2) HW.out (HR3.out.alloc _) HB3.out HS3.out HF3.out hrow4 hgr4)
                clear hrow4 hgr4
                go_wp2
                go_roundw
                case rel => exact ⟨k + 1, A4, c4, bd, 2 * x % 256, by omega, by omega, by omega, by go_num, congrArg (Value.int .u8) (by first | rfl | (rw [Int.mul_comm]; done) | omega), rfl, HM4⟩
                case measure => simp [intOf]; omega
            · have h8' : ((k : Int) % 8 == 0) = false := by simp; omega
              have hand := and_128 y hy0 hy1
              have hw : IntKind.u8.wrap (y * 2) = 2 * y % 256 := by rw [IntKind.wrap_u8']; omega
              obtain ⟨done, r', hrow, hbel, hst, hf⟩ := h1.out
              have HS3 := hide hst
              have HF3 : Hid (nxt bad (pBits xs) = if bd then none else (pW (n - (k + 1)) (k + 1) (2 * y % 256) r').map fun q => ((done ++ [decide (128 ≤ y)]) ++ q.1, q.2)) := by
                cases bd with
                | true => exact hf
                | false => rw [hn'] at hf; rw [hn2]; exact pW_old h8 hf
              have HR3 := hide hrow
              have HB3 := hide hbel
              clear hf hrow hbel hst h1
              go_wp2_with (at_builtin; refine to_halt ?_)
              refine of_halt (wpList_append_row _ rfl _ _ _ rfl 4 Tryd.underlying23 info_bool rfl (HR3.out.alloc _) rfl (Reads.made _ _ [.bool (decide (128 ≤ y))] _ 1 (by simp) rfl) (by simp [Value.oneCell']) rfl (k + 1) rfl (by omega) (by omega) (by have := HB3.out.size; simp; omega) ?_)
              intro A4 c4 w4 hrow4 hgr4
              have HM4 := hide (MidB.step (n := n - (k + 1)) (y := 2 * y % 256) (r := r') HW.out (HR3.out.alloc _) HB3.out HS3.out HF3.out hrow4 hgr4)
              clear hrow4 hgr4
              go_wp2
              go_roundw
              case rel => exact ⟨k + 1, A4, c4, bd, 2 * y % 256, by omega, by omega, by omega, by go_num, congrArg (Value.int .u8) (by first | rfl | (rw [Int.mul_comm]; done) | omega), rfl, HM4⟩
              case measure => simp [intOf]; omega
          · obtain rfl : k = n := by omega
            obtain ⟨done, r', hrow, hbel, hst, hf⟩ := h1.out
            obtain ⟨A9, m9, d9, c0', c1', f0', f1', hl', hc', hc2'⟩ := hst.parts
            rw [Nat.sub_self] at hf
            have HS3 := hide hst
            have HR3 := hide hrow
            have HB3 := hide hbel
            by_cases hy : y = 0
            · have HF3 : Hid (nxt bad (pBits xs) = if bd then none else some (done, r')) := by
                cases bd with
                | true => exact hf
                | false => exact hf.trans (by simp [pW, hy])
              subst hy
              clear hf hrow hbel hst h1
              go_wp2
              go_ret
              exact ⟨HB3.out, done, r', bd, ⟨A1, k, cc, rfl, HR3.out⟩, HS3.out, HF3.out⟩
            · have hy' : (y != 0) = true := by simp [hy]
              have HF3 : Hid (nxt bad (pBits xs) = none) := by
                cases bd with
                | true => exact hf
                | false => exact hf.trans (by simp [pW, hy])
              clear hf hrow hbel hst h1 hy
              go_wp2
              go_ret
              exact ⟨HB3.out.setCell 1 _, done, r', true, ⟨A1, k, cc, rfl, row_setCell HR3.out (fun e => absurd HW.out (Nat.not_lt.2 (HR3.out.lt _ e).1)) _⟩, HS3.out.setBad, HF3.out⟩
    · have HF := hide (bits_big hbig hf)
      have hbig' : (4096 : Int) < (n : Int) := by omega
      clear hf
      go_wp2
      go_ret
      exact ⟨HB.out.setCell 1 _, [], r, true, ⟨none, 0, 0, rfl, World.ownsRow_nil _ _ _ _⟩, H2.out.setBad, HF.out⟩
end Go.Proofs.YtbmkindgbabobaaDoor
