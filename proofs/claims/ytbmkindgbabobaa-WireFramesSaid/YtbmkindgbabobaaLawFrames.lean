/- WireFrames: for every kind, body and number of zero bytes behind it the program's Frame and the reference's hand back the same bytes and the same error, and the bytes that were handed in stay as they were. No condition. -/
import Derived.Test.YtbmkindgbabobaaFrame
namespace Go.Proofs.Ytbmkindgbabobaa
open Go.RowKit

def lim : Nat := 2200000
theorem lim_eq : lim = 2200000 := rfl
/-- Frame's two makers agree, and what they hand back: the error's number, the bytes, nil where there is an error. -/
def FrameGives (w : World) (kind : Int) (body : List Int) (e : Ending) (w' : World) : Prop :=
  ∃ A n c, e = .returned (.tuple #[.slice A n c, .int .i64 (frameCode kind body.length)]) ∧ Ow w' w.heap.size 5 (.slice A n c) n (frameOut kind body) ∧ Below w.heap.size w w'

theorem wFrame_any (kind : Int) (w : World) (B : Nat) (A : Option Addr) (n c : Nat) (body : List Int) (hr : Bs w B A n body) (hB : B ≤ w.heap.size) :
    Calls Try.prog 11 #[.int .i64 kind, .slice A n c] w (FrameGives w kind body) := by
  have hl := hr.len
  by_cases hk : kind < 1 ∨ 255 < kind
  · refine (wFrame_type kind hk w A n c).mono ?_
    rintro e w' ⟨rfl, rfl⟩
    have hc : frameCode kind body.length = 162 := by unfold frameCode; rw [if_pos hk]
    exact ⟨none, 0, 0, by rw [hc], by unfold frameOut; rw [hc, if_neg (by omega)]; exact Ow.nil _ _ _, Below.refl _ _⟩
  · by_cases hn : 2097152 < n
    · refine (wFrame_body kind (by omega) (by omega) w A n c hn).mono ?_
      rintro e w' ⟨rfl, rfl⟩
      have hc : frameCode kind body.length = 163 := by unfold frameCode; rw [if_neg hk, if_pos (by omega)]
      exact ⟨none, 0, 0, by rw [hc], by unfold frameOut; rw [hc, if_neg (by omega)]; exact Ow.nil _ _ _, Below.refl _ _⟩
    · refine (wFrame_ok kind (by omega) (by omega) w B A n c body hr hB (by omega)).mono ?_
      rintro e w' ⟨A', c', rfl, h1, h2⟩
      have hc : frameCode kind body.length = 0 := by unfold frameCode; rw [if_neg hk, if_neg (by omega)]
      exact ⟨A', n + 12, c', by rw [hc], by unfold frameOut; rw [hc, if_pos rfl]; exact h1, h2⟩

theorem rFrame_any (kind : Int) (w : World) (B : Nat) (A : Option Addr) (n c : Nat) (body : List Int) (hr : Bs w B A n body) (hB : B ≤ w.heap.size) :
    Calls Try.prog 12 #[.int .i64 kind, .slice A n c] w (FrameGives w kind body) := by
  have hl := hr.len
  by_cases hk : kind < 1 ∨ 255 < kind
  · refine (rFrame_type kind hk w A n c).mono ?_
    rintro e w' ⟨rfl, rfl⟩
    have hc : frameCode kind body.length = 162 := by unfold frameCode; rw [if_pos hk]
    exact ⟨none, 0, 0, by rw [hc], by unfold frameOut; rw [hc, if_neg (by omega)]; exact Ow.nil _ _ _, Below.refl _ _⟩
  · by_cases hn : 2097152 < n
    · refine (rFrame_body kind (by omega) (by omega) w A n c hn).mono ?_
      rintro e w' ⟨rfl, rfl⟩
      have hc : frameCode kind body.length = 163 := by unfold frameCode; rw [if_neg hk, if_pos (by omega)]
      exact ⟨none, 0, 0, by rw [hc], by unfold frameOut; rw [hc, if_neg (by omega)]; exact Ow.nil _ _ _, Below.refl _ _⟩
    · refine (rFrame_ok kind (by omega) (by omega) w B A n c body hr hB (by omega)).mono ?_
      rintro e w' ⟨A', c', rfl, h1, h2⟩
      have hc : frameCode kind body.length = 0 := by unfold frameCode; rw [if_neg hk, if_neg (by omega)]
      exact ⟨A', n + 12, c', by rw [hc], by unfold frameOut; rw [hc, if_pos rfl]; exact h1, h2⟩

set_option maxHeartbeats 1000000 in
set_option maxRecDepth 100000 in
theorem wireFrames_law (kind pad : Int) (w : World) (A : Option Addr) (n c : Nat) (body : List Int) (hr : Bs w w.heap.size A n body) (hl : n ≤ 140737488355232) :
    Calls Try.prog 3 #[.int .i64 kind, .slice A n c, .int .i64 pad] w fun e w' => e = .returned (.bool true) ∧ Below w.heap.size w w' := by
  have HR := hide hr; clear hr
  go_enter Try.func3, Try.ntmps3
  go_wp2_with fail
  refine (wireCopy_any _ _ _ _ _ _ HR.out (Nat.le_refl _) (by omega)).mono ?_
  rintro e w1 ⟨A1, c1, rfl, ho1, hb1⟩
  have G1 : Hid (Gw w w1 5 (.slice A1 n c1) n body) := ⟨ho1, hb1⟩
  clear ho1 hb1
  go_wp2
  go_loopw [7, 8] (fun v i wr => ∃ k : Nat, k ≤ lim ∧ i = .int .i64 k ∧ ∃ A c, v = .slice A (n + k) c ∧ Gw w wr 5 (.slice A (n + k) c) (n + k) (body ++ List.replicate k 0)) (fun _ i _ => lim - (intOf i).toNat)
  case atStart => exact ⟨0, Nat.zero_le _, by go_num, A1, c1, rfl, by simpa using G1.out⟩
  case round =>
    obtain ⟨k, hk, rfl, A2, c2, rfl, hg2⟩ := hrel
    have G2 := hide hg2; clear hg2 G1
    have hk2 : k ≤ 2200000 := hk
    by_cases hlt : (k : Int) < pad ∧ (k : Int) < 2200000
    · obtain ⟨h1, h2⟩ := hlt
      have hk3 : k < lim := by rw [lim_eq]; omega
      go_wp2_with (at_builtin; refine to_halt ?_)
      refine of_halt (wpList_append_lit rfl _ _ _ rfl Try.underlying22 info_u8 G2.out [0] rfl (by intro x hx; simp at hx; omega) rfl (m := 1) rfl (by simp) rfl (n + (k + 1)) (by omega) (body ++ List.replicate (k + 1) 0) (by rw [List.append_assoc, List.replicate_succ']) (by omega) ?_)
      intro A3 c3 w3 hg3
      have G3 := hide hg3; clear hg3 G2
      go_wp2
      go_roundw
      case rel => exact ⟨k + 1, hk3, by go_num, A3, c3, rfl, G3.out⟩
      case measure => simp [intOf]; omega
    · have hl2 := hide (show (body ++ List.replicate k 0).length = n + k by simp [HR.out.len])
      generalize body ++ List.replicate k 0 = b at *
      have hcase : (k : Int) < pad ∧ ¬ (k : Int) < 2200000 ∨ ¬ (k : Int) < pad := by omega
      clear hlt
      rcases hcase with ⟨h1, h2⟩ | h1
      all_goals
        go_wp2_with fail
        refine (wireRoom_any _ _ _ _ _ _ G2.out.bs (Nat.le_refl _) (by omega)).mono ?_
        rintro e w2 ⟨A3, c3, rfl, ho3, hb3⟩
        have hc3 := (show Gw wr w2 5 (.slice A3 (n + k + 8) c3) (n + k + 8) (b ++ mks 8) from ⟨ho3, hb3⟩).cap
        have hf3 := ho3.bs
        have ht3 := hf3.take (k := n + k) (by omega)
        rw [show (b ++ mks 8).take (n + k) = b from by rw [← hl2.out]; simp] at ht3
        have F3 := hide hf3
        have T3 := hide ht3
        have B3 := hide (G2.out.bs.below hb3)
        have L3 := hide (G2.out.bel.trans (hb3.mono G2.out.bel.size))
        have hs3 := hb3.size
        clear ho3 hb3 hf3 ht3
        go_wp2_with fail
        refine (wFrame_any kind _ _ _ _ _ b T3.out (Nat.le_refl _)).mono ?_
        rintro e w3 ⟨A4, n4, c4, rfl, ho4, hb4⟩
        have X4 := hide ho4
        have F4 := hide (F3.out.below hb4)
        have B4 := hide (B3.out.below (hb4.mono hs3))
        have L4 := hide (L3.out.trans (hb4.mono L3.out.size))
        have hs4 := hb4.size
        clear ho4 hb4 F3 T3 B3 L3
        go_wp2_with fail
        refine (rFrame_any kind _ _ _ _ _ b B4.out (by omega)).mono ?_
        rintro e w4 ⟨A5, n5, c5, rfl, ho5, hb5⟩
        obtain rfl : n4 = n5 := by rw [← X4.out.len, ← ho5.len]
        have X5 := hide (X4.out.bs.below hb5)
        have Y5 := hide ho5.bs
        have F5 := hide (F4.out.below (hb5.mono hs4))
        have B5 := hide (B4.out.below (hb5.mono (by omega)))
        have L5 := hide (L4.out.trans (hb5.mono L4.out.size))
        have hn4 : n4 ≤ 200000000000000 := by
          have h := ho5.len
          unfold frameOut at h
          split at h
          · rw [frm_len] at h; have := hl2.out; omega
          · simp at h; omega
        clear ho5 hb5 X4 F4 B4 L4
        generalize frameCode kind b.length = code at *
        have hcode : (code == code) = true := by simp
        go_wp2_with fail
        refine (wireBytes_true _ _ _ _ _ _ _ _ _ X5.out Y5.out hn4).mono ?_
        rintro e w5 ⟨rfl, d, rfl⟩
        go_wp2_with fail
        refine (wireStays_true _ _ _ _ _ _ _ _ _ (F5.out.drewN d) (B5.out.drewN d) (by omega) hc3.1 hc3.2).mono ?_
        rintro e w6 ⟨rfl, d2, rfl⟩
        go_wp2
        go_ret
        exact ⟨rfl, below_drewN L5.out _⟩
end Go.Proofs.Ytbmkindgbabobaa
