/- The reference's lists of numbers. -/
import Derived.Test.YtbmkindgbabobaaDoorScanNums
namespace Go.Proofs.YtbmkindgbabobaaDoor
open Go.RowKit
set_option maxRecDepth 20000

set_option maxHeartbeats 1000000 in
theorem rrnums_any (w : World) (base g : Nat) (xs : List Int) (bad : Bool) (h : St 90 w base g xs bad) :
    Calls Tryd.prog 47 #[.pointer (some ⟨g, 0, none⟩)] w (Read1 90 w base g (nxt bad (pNums xs)) (VNums w.heap.size)) := by
  have H := hide h
  have HW := hide h.lt
  clear h
  go_enter Tryd.func47, Tryd.ntmps47
  go_wp2_with fail
  refine (rrlist_any _ _ _ _ _ H.out).mono ?_
  rintro e w1 ⟨hb1, k0, r0, bad0, rfl, hk0, hz0, h2, hf⟩
  have hk0l : k0 ≤ lim := Nat.le_trans hk0 h2.len
  have HM : Hid (Mid 90 w base g pSig (nxt bad (pNums xs)) (RNums w.heap.size none 0 0) k0 bad0 w1) :=
    hide ⟨[], r0, ⟨World.ownsRow_nil _ _ _ _, by simp⟩, hb1, h2, rep_start hf⟩
  clear hb1 h2 hf hk0 hz0
  go_wp2
  go_loopw [3, 5] (fun s i wr => ∃ (k m : Nat) (A : Option Addr) (c : Nat) (bd : Bool) (j : Nat), j + k = k0 ∧ k + m ≤ lim ∧ i = .int .i64 j ∧ s = .slice A m c ∧ Hid (Mid 90 w base g pSig (nxt bad (pNums xs)) (RNums w.heap.size A m c) k bd wr)) (fun _ i _ => k0 - (intOf i).toNat)
  case atStart => exact ⟨k0, 0, none, 0, bad0, 0, by omega, by omega, rfl, rfl, HM⟩
  case round =>
    obtain ⟨k, m, A, c, bd, j, hjk, hkm, rfl, rfl, h1⟩ := hrel
    obtain ⟨done, r, ⟨hrow, hrng⟩, hbel, hst, hf⟩ := h1.out
    obtain ⟨A0, n0, d0, c0, c1, f0, f1, hl, hc, hc2⟩ := hst.parts
    have HR := hide hrow
    have HG := hide hrng
    have HB := hide hbel
    have HS := hide hst
    have HF := hide hf
    clear h1 hrow hrng hbel hst hf HM
    cases bd with
    | true =>
      by_cases hk : k = 0
      · subst hk
        have hk' : ¬ (j : Int) < (k0 : Int) := by omega
        go_wp2
        go_ret
        exact ⟨HB.out, done, r, true, ⟨A, m, c, rfl, HR.out, HG.out⟩, HS.out, HF.out⟩
      · have hk' : (j : Int) < (k0 : Int) := by omega
        go_wp2
        go_ret
        exact ⟨HB.out, done, r, true, ⟨A, m, c, rfl, HR.out, HG.out⟩, HS.out, HF.out⟩
    | false =>
      cases k with
      | zero =>
        have hk' : ¬ (j : Int) < (k0 : Int) := by omega
        go_wp2
        go_ret
        exact ⟨HB.out, done, r, false, ⟨A, m, c, rfl, HR.out, HG.out⟩, HS.out, by have := HF.out; simpa [pRep] using this⟩
      | succ k =>
        have hk' : (j : Int) < (k0 : Int) := by omega
        have hj9 : (j : Int) + 1 ≤ 9223372036854775807 := by have := lim_eq; omega
        go_wp2_with fail
        refine (rrsigned_any _ _ _ _ _ HS.out).mono ?_
        rintro e w3 ⟨hb3, x, r', bad', ⟨rfl, hx64⟩, h3, hf3⟩
        have hgr : (Value.slice A m c).ownBlock ≠ some g := fun e => by
          have := (HR.out.lt _ e).1
          have := HW.out
          omega
        have HR3 := hide (row_bel HR.out hb3 hgr)
        have HB3 := hide (HB.out.trans (hb3.mono HB.out.size))
        have HS3 := hide h3
        have HF3 := hide (rep_step HF.out hf3)
        have HX := hide hx64
        clear hb3 h3 hf3 hx64 c0 c1 f0 f1 HR HB HS HF
        go_wp2_with (at_builtin; refine to_halt ?_)
        refine of_halt (wpList_append_row _ rfl _ _ _ rfl 2 Tryd.underlying22 info_i64 rfl (HR3.out.alloc _) rfl (Reads.made w3 _ [.int .i64 x] _ 1 rfl rfl) (by simp [Value.oneCell']) rfl (m + 1) rfl (by have := lim_eq; omega) (by have := lim_eq; omega) (by have := HB3.out.size; simp; omega) ?_)
        intro A4 c4 w4 hrow4 hgr4
        have hr4 : ∀ k, (Value.slice A m c).ownBlock = some k → w.heap.size ≤ k := fun k e => (HR3.out.lt _ e).1
        have HS4 := hide ((HS3.out.alloc (.cells #[.int .i64 x] 2)).grown hgr4 (fun k e => by have := hr4 k e; have := HW.out; omega))
        have HB4 := hide ((HB3.out.alloc HB3.out.size (.cells #[.int .i64 x] 2)).grown hgr4 (by have := HB3.out.size; simp; omega) hr4)
        have HR4 := hide hrow4
        clear hrow4 hgr4 hr4 HR3 HB3 HS3
        go_wp2
        go_roundw
        case rel =>
          refine ⟨k, m + 1, A4, c4, bad', j + 1, by omega, by omega, by go_num, rfl, hide ⟨done ++ [x], r', ⟨by simpa using HR4.out, ?_⟩, HB4.out, HS4.out, HF3.out⟩⟩
          intro y hy
          rcases List.mem_append.1 hy with h | h
          · exact HG.out y h
          · simp at h; subst h; exact HX.out
        case measure => simp [intOf]; omega
end Go.Proofs.YtbmkindgbabobaaDoor
