/- The law's own helpers over bytes: wireCopy and wireRoom hand out copies, wireBytes compares, wireStays looks at a copy and its marks. -/
import Derived.Test.YtbmkindgbabobaaDoorSums
namespace Go.Proofs.YtbmkindgbabobaaDoor
open Go.RowKit
set_option maxRecDepth 20000

theorem info_u8 : (Tryd.prog.info? 5).map (fun i => (i.zero, i.size, i.bytes)) = some (some (.int .u8 0), 1, 1) := by kernel_rfl

set_option maxHeartbeats 400000 in
theorem wireCopy_any (w : World) (B : Nat) (A : Option Addr) (n c : Nat) (xs : List Int) (hr : Bs w B A n xs) (hB : B ≤ w.heap.size) (hl : n ≤ 199999999999990) :
    Calls Tryd.prog 28 #[.slice A n c] w fun e w' => ∃ A' c', e = .returned (.slice A' n c') ∧ Ow w' w.heap.size 5 (.slice A' n c') n xs ∧ Below w.heap.size w w' := by
  have HR := Lib.hid hr; clear hr
  obtain ⟨i0, hi, hz0, hz1, hz2⟩ := info_parts info_u8
  go_enter Tryd.func28, Tryd.ntmps28
  go_wp2_with fail
  obtain ⟨w1, hrun, hown, hb1⟩ := run_make_bs (P := Tryd.prog) w 27 5 Tryd.underlying27 info_u8 w.heap.size (n + 8) (n + 8) (by omega) (by omega) (Nat.le_refl _)
  rw [hrun]; clear hrun
  go_wp2_with (at_builtin; refine to_halt ?_)
  refine of_halt (wpList_append_bs w1 rfl _ _ _ rfl 5 Tryd.underlying27 info_u8 hown rfl (HR.out.below (hb1.mono hB)) rfl (by omega) hb1.size ?_)
  intro A' c' w2 h2
  simp only [Nat.zero_add, List.nil_append] at h2
  have H2 := hide h2
  clear h2
  go_wp2
  go_ret
  exact ⟨A', c', by simp, H2.out.own, H2.out.below hown hb1 hb1.size⟩

def mks (k : Nat) : List Int := (List.range k).map fun (i : Nat) => 200 + (i : Int)
theorem mks_succ (k : Nat) : mks (k + 1) = mks k ++ [200 + (k : Int)] := by simp [mks, List.range_succ]

set_option maxHeartbeats 400000 in
theorem wireRoom_any (w : World) (B : Nat) (A : Option Addr) (n c : Nat) (xs : List Int) (hr : Bs w B A n xs) (hB : B ≤ w.heap.size) (hl : n ≤ 199999999999990) :
    Calls Tryd.prog 15 #[.slice A n c] w fun e w' => ∃ A' c', e = .returned (.slice A' (n + 8) c') ∧ Ow w' w.heap.size 5 (.slice A' (n + 8) c') (n + 8) (xs ++ mks 8) ∧ Below w.heap.size w w' := by
  have HR := Lib.hid hr; clear hr
  go_enter Tryd.func15, Tryd.ntmps15
  go_wp2_with fail
  obtain ⟨w1, hrun, hown, hb1⟩ := run_make_bs (P := Tryd.prog) w 27 5 Tryd.underlying27 info_u8 w.heap.size (n + 8) (n + 8) (by omega) (by omega) (Nat.le_refl _)
  rw [hrun]; clear hrun
  go_wp2_with (at_builtin; refine to_halt ?_)
  refine of_halt (wpList_append_bs w1 rfl _ _ _ rfl 5 Tryd.underlying27 info_u8 hown rfl (HR.out.below (hb1.mono hB)) rfl (by omega) hb1.size ?_)
  intro A' c' w2 h2
  simp only [Nat.zero_add, List.nil_append] at h2
  have hb2 := hide (h2.below hown hb1 hb1.size)
  have ho2 := hide h2.own
  clear h2 hown hb1
  go_wp2
  go_loopw [3, 4] (fun v i wr => ∃ k : Nat, k ≤ 8 ∧ i = .int .i64 k ∧ ∃ A c, v = .slice A (n + k) c ∧ Ow wr w.heap.size 5 (.slice A (n + k) c) (n + k) (xs ++ mks k) ∧ Below w.heap.size w wr) (fun _ i _ => 8 - (intOf i).toNat)
  case atStart => exact ⟨0, by omega, by go_num, A', c', rfl, by simpa [mks] using ho2.out, hb2.out⟩
  case round =>
    obtain ⟨k, hk, rfl, A1, c1, rfl, ho, hb⟩ := hrel
    have HO := hide ho; have HB := hide hb
    clear ho hb ho2 hb2
    by_cases hlt : k < 8
    · go_wp2_with (at_builtin; refine to_halt ?_)
      refine of_halt (wpList_append_bs _ rfl _ _ _ rfl 5 Tryd.underlying27 info_u8 (HO.out.alloc _) rfl (Bs.made wr _ [200 + (k : Int)] _ rfl (by intro x hx; simp at hx; omega)) rfl (by simp; omega) (by simpa using Nat.le_succ_of_le HB.out.size) ?_)
      intro A' c' w3 h3
      have hb3 := hide (h3.below (HO.out.alloc _) (HB.out.alloc HB.out.size _) (by simpa using Nat.le_succ_of_le HB.out.size))
      have ho3 := h3.own
      rw [List.append_assoc, ← mks_succ] at ho3
      have HO3 := hide ho3
      clear h3 ho3
      go_wp2
      go_roundw
      case rel => exact ⟨k + 1, by omega, by go_num, A', c', rfl, HO3.out, hb3.out⟩
      case measure => simp [intOf]; omega
    · obtain rfl : k = 8 := by omega
      go_wp2
      go_ret
      exact ⟨A1, c1, rfl, HO.out, HB.out⟩

set_option maxHeartbeats 400000 in
theorem wireBytes_true (w : World) (B B' : Nat) (A A' : Option Addr) (n c c' : Nat) (xs : List Int) (hr : Bs w B A n xs) (hr' : Bs w B' A' n xs) (hl : n ≤ 200000000000000) :
    Calls Tryd.prog 13 #[.slice A n c, .slice A' n c'] w fun e w' => e = .returned (.bool true) ∧ ∃ d, w' = w.drewN d := by
  have HR := hide hr; clear hr
  have HR' := hide hr'; clear hr'
  have hne : ((n : Int) != (n : Int)) = false := by simp
  go_enter Tryd.func13, Tryd.ntmps13
  go_wp2
  go_loopw [5] (fun i wr => ∃ k : Nat, k ≤ n ∧ i = .int .i64 k ∧ ∃ d, wr = w.drewN d) (fun i _ => n - (intOf i).toNat)
  case atStart => exact ⟨0, by omega, by go_num, 0, rfl⟩
  case round =>
    obtain ⟨k, hk, rfl, d, rfl⟩ := hrel
    by_cases hlt : k < n
    · obtain ⟨ad, x, rfl, _, hx0, hx1, hcx, hx⟩ := HR.out.at_ hlt
      obtain ⟨ad', x', rfl, _, _, _, hcx', hx'⟩ := HR'.out.at_ hlt
      obtain rfl : x = x' := by rw [hx] at hx'; exact Option.some.inj hx'
      clear hx hx'
      have hxx : (x != x) = false := by simp
      go_wp2
      go_quiet (fail)
      go_wp2
      go_roundw
      case rel => exact ⟨k + 1, by omega, by go_num, _, rfl⟩
      case measure => simp [intOf]; omega
    · go_wp2
      go_ret
      exact ⟨rfl, d, rfl⟩

theorem mks_get (k : Nat) (h : k < 8) : (mks 8)[k]? = some (200 + (k : Int)) := by simp [mks, h]

set_option maxHeartbeats 400000 in
theorem wireStays_true (w : World) (B B' : Nat) (A A' : Option Addr) (n c c' : Nat) (xs : List Int) (hr : Bs w B A (n + 8) (xs ++ mks 8)) (hr' : Bs w B' A' n xs) (hl : n ≤ 199999999999990) (hc : n + 8 ≤ c) (hc2 : c ≤ 9223372036854775807) :
    Calls Tryd.prog 18 #[.slice A (n + 8) c, .slice A' n c'] w fun e w' => e = .returned (.bool true) ∧ ∃ d, w' = w.drewN d := by
  have hr0 := hr.take (k := n) (by omega)
  rw [show (xs ++ mks 8).take n = xs from by rw [← hr'.len]; simp] at hr0
  have HL := hide hr'.len
  have HR := hide hr; clear hr
  have HR' := hide hr'; clear hr'
  have HR0 := hide hr0; clear hr0
  go_enter Tryd.func18, Tryd.ntmps18
  go_wp2
  go_loop [5] (fun i => ∃ k : Nat, k ≤ 8 ∧ i = .int .i64 k) (fun i => 8 - (intOf i).toNat)
  case atStart => exact ⟨0, by omega, by go_num⟩
  case round =>
    obtain ⟨k, hk, rfl⟩ := hrel
    by_cases hlt : k < 8
    · obtain ⟨ad, x, rfl, _, hx0, hx1, hcx, hx⟩ := HR.out.at_ (k := n + k) (by omega)
      rw [List.getElem?_append_right (by rw [HL.out]; omega), HL.out, Nat.add_sub_cancel_left, mks_get k hlt] at hx
      have hxx : (x != 200 + (k : Int)) = false := by rw [Option.some.inj hx]; simp
      clear hx
      go_wp2
      go_round
      case rel => exact ⟨k + 1, by omega, by go_num⟩
      case measure => simp [intOf]; omega
    · go_wp2_with fail
      refine (wireBytes_true _ _ _ _ _ _ _ _ _ HR0.out HR'.out (by omega)).mono ?_
      rintro e w' ⟨rfl, d, rfl⟩
      go_wp2
      go_ret
      exact ⟨rfl, d, rfl⟩
end Go.Proofs.YtbmkindgbabobaaDoor
