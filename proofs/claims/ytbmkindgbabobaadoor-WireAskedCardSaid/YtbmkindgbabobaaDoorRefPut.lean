/- The reference's makers of bytes: count, signed, text, nums, bits: each hands back, in new memory, just the bytes that the plain words name. -/
import Derived.Test.YtbmkindgbabobaaDoorWriter2
namespace Go.Proofs.YtbmkindgbabobaaDoor
open Go.RowKit
set_option maxRecDepth 20000

/-- New bytes: what the reference's makers hand back. -/
def Gives (w : World) (xs : List Int) (e : Ending) (w' : World) : Prop :=
  ∃ A n c, e = .returned (.slice A n c) ∧ Gw w w' 5 (.slice A n c) n xs

set_option maxHeartbeats 400000 in
theorem rcount_any (n : Nat) (hn : n < 18446744073709551616) (w : World) :
    Calls Tryd.prog 71 #[.int .u64 n] w (Gives w (cnt n)) := by
  have HN := hide hn
  clear hn
  go_enter Tryd.func71, Tryd.ntmps71
  go_wp2
  go_loopw [0, 3] (fun v s wr => ∃ q : Nat, q ≤ n ∧ v = .int .u64 q ∧ ∃ A m c, s = .slice A m c ∧ Hid (∃ ys, Gw w wr 5 (.slice A m c) m ys ∧ cnt n = cntHi (q / 128) ++ ys)) (fun v _ _ => (intOf v).toNat)
  case atStart =>
    refine ⟨n, Nat.le_refl _, rfl, _, _, _, rfl, [((n % 128 : Nat) : Int)], Gw.lit (Below.refl _ _) _ _ _ 1 (by simp [bv]) rfl (by unfold maxLen; omega) (by intro x hx; simp at hx; omega), rfl⟩
  case round =>
    obtain ⟨q, hq, rfl, A, m, c, rfl, H⟩ := hrel
    by_cases hge : 128 ≤ q
    · have hm : m ≤ 10 := by
        obtain ⟨ys, hg, e⟩ := H.out
        have h1 := cnt_len n HN.out
        have h2 := hg.own.len
        rw [e, List.length_append] at h1
        omega
      have hq64 : q < 18446744073709551616 := by have := HN.out; omega
      go_wp2_with (at_builtin; refine to_halt ?_)
      obtain ⟨ys, hg, e⟩ := H.out
      have HE := hide e
      clear e
      refine of_halt (wpList_append_gw rfl _ _ _ rfl Tryd.underlying27 info_u8 (Gw.lit hg.bel _ [((q / 128 % 128 + 128 : Nat) : Int)] _ 1 (by simp [bv]) rfl (by unfold maxLen; omega) (by intro x hx; simp at hx; omega)) rfl (hg.alloc _).bs rfl (1 + m) rfl _ rfl (by omega) ?_)
      intro A2 c2 w2 hg2
      have HG2 := hide hg2
      clear hg hg2 H
      go_wp2
      go_roundw
      case rel =>
        refine ⟨q / 128, by omega, by go_num, A2, 1 + m, c2, rfl, _, HG2.out, ?_⟩
        rw [HE.out, cntHi_pos (show q / 128 ≠ 0 by omega)]
        simp
      case measure => simp [intOf]; omega
    · go_wp2
      go_ret
      obtain ⟨ys, hg, e⟩ := H.out
      rw [show q / 128 = 0 from by omega, cntHi_zero, List.nil_append] at e
      exact ⟨A, m, c, rfl, by rw [e]; exact hg⟩
theorem rsgn_neg {n : Int} (h : I64 n) (h0 : n < 0) : IntKind.u64.wrap (IntKind.u64.wrap (IntKind.u64.wrap (wrap64 (-wrap64 (n + 1))) * 2) + 1) = (sgn n : Int) := by
  unfold I64 at h
  have e1 : wrap64 (-wrap64 (n + 1)) = -(n + 1) := by unfold wrap64; omega
  rw [e1]
  simp only [IntKind.wrap_u64]
  unfold sgn
  rw [if_pos h0]
  omega

set_option maxHeartbeats 400000 in
theorem rsigned_any (n : Int) (hn : I64 n) (w : World) :
    Calls Tryd.prog 69 #[.int .i64 n] w (Gives w (cnt (sgn n))) := by
  have HN := hide hn
  clear hn
  by_cases h0 : 0 ≤ n
  · go_enter Tryd.func69, Tryd.ntmps69
    go_wp2_with fail
    rw [sgn_pos HN.out (by omega)]
    refine (rcount_any _ (sgn_lt HN.out) _).mono ?_
    rintro e w' ⟨A, k, c, rfl, hg⟩
    have HG := hide hg
    clear hg
    go_wp2
    go_ret
    exact ⟨A, k, c, rfl, HG.out⟩
  · go_enter Tryd.func69, Tryd.ntmps69
    go_wp2_with fail
    rw [rsgn_neg HN.out (by omega)]
    refine (rcount_any _ (sgn_lt HN.out) _).mono ?_
    rintro e w' ⟨A, k, c, rfl, hg⟩
    have HG := hide hg
    clear hg
    go_wp2
    go_ret
    exact ⟨A, k, c, rfl, HG.out⟩

set_option maxHeartbeats 400000 in
theorem rtext_any (s : ByteArray) (hs : s.size ≤ 140737488355200) (w : World) :
    Calls Tryd.prog 40 #[.string s] w (Gives w (txt (sb s))) := by
  go_enter Tryd.func40, Tryd.ntmps40
  go_wp2_with fail
  refine (rcount_any _ (by omega) _).mono ?_
  rintro e w1 ⟨A, k, c, rfl, hg⟩
  have hk : k ≤ 10 := by
    have e1 := hg.own.len
    have e2 := cnt_small (n := s.size) (by omega)
    omega
  have HG := hide hg
  clear hg
  go_wp2_with fail
  obtain ⟨c2, w2, hrun, hb2, hbel⟩ := run_conv_bs (P := Tryd.prog) w1 9 27 5 s Tryd.underlying9 Tryd.underlying27 Tryd.underlying5
  rw [hrun]; clear hrun
  have HG2 := hide (HG.out.below hbel)
  have HB2 := hide hb2
  clear HG hbel hb2
  go_wp2_with (at_builtin; refine to_halt ?_)
  refine of_halt (wpList_append_gw rfl _ _ _ rfl Tryd.underlying27 info_u8 HG2.out rfl HB2.out rfl (k + s.size) rfl (txt (sb s)) (by unfold txt; rw [sb_len]) (by omega) ?_)
  intro A3 c3 w3 hg3
  have HG3 := hide hg3
  clear hg3
  go_wp2
  go_ret
  exact ⟨A3, k + s.size, c3, rfl, HG3.out⟩

set_option maxHeartbeats 400000 in
theorem rnums_any (l : List Int) (w : World) (B : Nat) (L : Option Addr) (n d : Nat) (hl : Is w B L n l) (hB : B ≤ w.heap.size) (hm : n ≤ 17592186040000) :
    Calls Tryd.prog 39 #[.slice L n d] w (Gives w (nms l)) := by
  have HL := hide hl
  clear hl
  go_enter Tryd.func39, Tryd.ntmps39
  go_wp2_with fail
  refine (rcount_any _ (by omega) _).mono ?_
  rintro e w1 ⟨A, m, c, rfl, hg⟩
  have HG := hide hg
  clear hg
  go_wp2
  go_loopw [3, 4] (fun s i wr => ∃ k : Nat, k ≤ n ∧ i = .int .i64 k ∧ ∃ A' m' c', s = .slice A' m' c' ∧ Hid (Gw w wr 5 (.slice A' m' c') m' (cnt n ++ (l.take k).flatMap fun n => cnt (sgn n)))) (fun _ i _ => n - (intOf i).toNat)
  case atStart => exact ⟨0, by omega, by go_num, A, m, c, rfl, hide (by simpa using HG.out)⟩
  case round =>
    obtain ⟨k, hk, rfl, A2, m2, c2, rfl, h2⟩ := hrel
    by_cases hlt : k < n
    · obtain ⟨ad, x, rfl, hadB, hx64, hcx, hx⟩ := (HL.out.below (h2.out.bel.mono hB)).at_ hlt
      have hm2 : m2 ≤ 10 + 10 * n := by
        have e1 := h2.out.own.len
        have e3 := cnt_small (n := n) (by omega)
        have e4 := flat_len (l.take k) fun y hy => HL.out.rng y (List.mem_of_mem_take hy)
        rw [List.length_append] at e1
        rw [List.length_take] at e4
        omega
      have HX := hide hx
      have H64 := hide hx64
      clear hx hx64
      go_wp2_with fail
      refine (rsigned_any x H64.out _).mono ?_
      rintro e w3 ⟨A3, m3, c3, rfl, hg3⟩
      have hm3 : m3 ≤ 10 := by
        have e1 := hg3.own.len
        have e2 := cnt_len _ (sgn_lt H64.out)
        omega
      have H3 := hide (h2.out.below hg3.bel)
      have HS3 := hide hg3.bs
      clear hg3 h2
      go_wp2_with (at_builtin; refine to_halt ?_)
      refine of_halt (wpList_append_gw rfl _ _ _ rfl Tryd.underlying27 info_u8 H3.out rfl HS3.out rfl (m2 + m3) rfl _ rfl (by omega) ?_)
      intro A4 c4 w4 hg4
      have H4 := hide hg4
      clear hg4
      go_wp2
      go_roundw
      case rel =>
        refine ⟨k + 1, by omega, by go_num, A4, _, c4, rfl, ?_⟩
        have h4 := H4.out
        rw [List.append_assoc] at h4
        rw [take_snoc' l k x HX.out, List.flatMap_append]
        exact hide (by simpa using h4)
      case measure => simp [intOf]; omega
    · go_wp2
      go_ret
      have h2' := h2.out
      rw [List.take_of_length_le (by have := HL.out.len; omega)] at h2'
      refine ⟨A2, m2, c2, rfl, ?_⟩
      unfold nms
      rw [HL.out.len]
      exact h2'
end Go.Proofs.YtbmkindgbabobaaDoor
