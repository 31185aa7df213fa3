/- The law's comparisons of requests: of equal ones they say true. -/
import Derived.Test.YtbmkindgbabobaaDoorPutReq2
namespace Go.Proofs.YtbmkindgbabobaaDoor
open Go.RowKit
set_option maxRecDepth 20000

set_option maxHeartbeats 400000 in
theorem wireNums_true (w : World) (B B' : Nat) (A A' : Option Addr) (n c c' : Nat) (xs : List Int) (hr : Is w B A n xs) (hr' : Is w B' A' n xs) (hl : n ≤ 200000000000000) :
    Calls Tryd.prog 43 #[.slice A n c, .slice A' n c'] w fun e w' => e = .returned (.bool true) ∧ ∃ d, w' = w.drewN d := by
  have HR := hide hr; clear hr
  have HR' := hide hr'; clear hr'
  have hne : ((n : Int) != (n : Int)) = false := by simp
  go_enter Tryd.func43, Tryd.ntmps43
  go_wp2
  go_loopw [5] (fun i wr => ∃ k : Nat, k ≤ n ∧ i = .int .i64 k ∧ ∃ d, wr = w.drewN d) (fun i _ => n - (intOf i).toNat)
  case atStart => exact ⟨0, by omega, by go_num, 0, rfl⟩
  case round =>
    obtain ⟨k, hk, rfl, d, rfl⟩ := hrel
    by_cases hlt : k < n
    · obtain ⟨ad, x, rfl, _, _, hcx, hx⟩ := HR.out.at_ hlt
      obtain ⟨ad', x', rfl, _, _, hcx', hx'⟩ := HR'.out.at_ hlt
      obtain rfl : x = x' := by rw [hx] at hx'; exact Option.some.inj hx'
      clear hx hx'
      have hxx : (x != x) = false := by simp
      go_wp2
      go_quiet (fail)
      go_wp2
      go_roundw
      case rel => exact ⟨k + 1, by omega, by go_num, _, rfl⟩
      case measure => simp [intOf]; omega
    · go_wp2
      go_ret
      exact ⟨rfl, d, rfl⟩

def IsTrue (w : World) (e : Ending) (w' : World) : Prop := e = .returned (.bool true) ∧ Below w.heap.size w w'

set_option maxHeartbeats 1000000 in
theorem wireRequest_true (kind : Int) (nums : List Int) (text text' : ByteArray) (bs : List Bool) (B : Nat) (N L N' L' : Option Addr) (nn nc nb bc nc' bc' : Nat) (w : World)
    (hN : Is w B N nn nums) (hL : Lb w B L nb bs) (hN' : Is w B N' nn nums) (hL' : Lb w B L' nb bs) (hB : B ≤ w.heap.size) (hnn : nn ≤ 200000000000000) (hnb : nb ≤ 200000000000000) (ht : text = text') :
    Calls Tryd.prog 14 #[.agg #[.int .i64 kind, .slice N nn nc, .string text, .slice L nb bc], .agg #[.int .i64 kind, .slice N' nn nc', .string text', .slice L' nb bc']] w (IsTrue w) := by
  subst ht
  have HN := hide hN
  have HL := hide hL
  have HN' := hide hN'
  have HL' := hide hL'
  clear hN hL hN' hL'
  have hne : ((nb : Int) != (nb : Int)) = false := by simp
  have hkk : (kind == kind) = true := by simp
  have htt : (text.toList == text.toList) = true := by simp
  go_enter Tryd.func14, Tryd.ntmps14
  go_wp2
  go_loopw [5] (fun i wr => ∃ k : Nat, k ≤ nb ∧ i = .int .i64 k ∧ ∃ d, wr = ((w.alloc (.cells #[.int .i64 kind, .slice N nn nc, .string text, .slice L nb bc] 25)).alloc (.cells #[.int .i64 kind, .slice N' nn nc', .string text, .slice L' nb bc'] 25)).drewN d) (fun i _ => nb - (intOf i).toNat)
  case atStart => exact ⟨0, by omega, by go_num, 0, rfl⟩
  case round =>
    obtain ⟨k, hk, rfl, d, rfl⟩ := hrel
    by_cases hlt : k < nb
    · obtain ⟨ad, x, rfl, _, hcx, hx⟩ := (((HL.out.alloc hB (.cells #[.int .i64 kind, .slice N nn nc, .string text, .slice L nb bc] 25)).alloc (by simp; omega) (.cells #[.int .i64 kind, .slice N' nn nc', .string text, .slice L' nb bc'] 25))).at_ hlt
      obtain ⟨ad', x', rfl, _, hcx', hx'⟩ := (((HL'.out.alloc hB (.cells #[.int .i64 kind, .slice N nn nc, .string text, .slice (some ad) nb bc] 25)).alloc (by simp; omega) (.cells #[.int .i64 kind, .slice N' nn nc', .string text, .slice L' nb bc'] 25))).at_ hlt
      obtain rfl : x = x' := by rw [hx] at hx'; exact Option.some.inj hx'
      clear hx hx'
      have hxx : (x != x) = false := by simp
      go_wp2
      go_quiet (fail)
      go_wp2
      go_roundw
      case rel => exact ⟨k + 1, by omega, by go_num, _, rfl⟩
      case measure => simp [intOf]; omega
    · go_wp2_with fail
      refine (wireNums_true _ _ _ _ _ _ _ _ _ (((HN.out.alloc hB _).alloc (by simp; omega) _).drewN d) (((HN'.out.alloc hB _).alloc (by simp; omega) _).drewN d) hnn).mono ?_
      rintro e w' ⟨rfl, d2, rfl⟩
      go_wp2
      go_ret
      exact ⟨rfl, below_drewN (((Below.refl _ _).alloc (Nat.le_refl _) _).alloc (by simp) _) _⟩

theorem wPutReq_any (kind : Int) (nums : List Int) (text : ByteArray) (bs : List Bool) (B : Nat) (N L : Option Addr) (nn nc nb bc : Nat) (w : World) (hT : Tab w)
    (hN : Is w B N nn nums) (hL : Lb w B L nb bs) (hB : B ≤ w.heap.size) :
    Calls Tryd.prog 11 #[.agg #[.int .i64 kind, .slice N nn nc, .string text, .slice L nb bc]] w (PutGives w (reqCode kind nums (sb text) bs) (reqOut kind nums (sb text) bs)) := by
  by_cases hk : kind < 1 ∨ 12 < kind
  · exact wPutReq_kind kind hk nums text bs N L nn nc nb bc w
  · obtain ⟨k, rfl⟩ := Int.eq_ofNat_of_zero_le (show 0 ≤ kind by omega)
    exact wPutReq_in k (by omega) (by omega) nums text bs B N L nn nc nb bc w hT hN hL hB
theorem reqOut_len (kind : Int) (nums text : List Int) (bs : List Bool) : (reqOut kind nums text bs).length ≤ 2097164 := by
  unfold reqOut
  split
  · rename_i h
    rw [frm_len]
    unfold reqCode at h
    split at h
    · cases h
    · split at h
      · unfold frameCode at h
        split at h
        · cases h
        · split at h
          · cases h
          · omega
      · cases h
  · simp
/-- The cells of a request's block. -/
theorem req_cells {w : World} {g : Nat} {a b c d : Value} {t : TypeId} (h : Blk w g t #[a, b, c, d]) :
    w.cell? ⟨g, 0, none⟩ = some a ∧ w.cell? ⟨g, 1, none⟩ = some b ∧ w.cell? ⟨g, 2, none⟩ = some c ∧ w.cell? ⟨g, 3, none⟩ = some d :=
  ⟨by rw [h.cell]; rfl, by rw [h.cell]; rfl, by rw [h.cell]; rfl, by rw [h.cell]; rfl⟩

set_option maxHeartbeats 2000000 in
theorem wireRequests_law (kind : Int) (nums : List Int) (text : ByteArray) (bs : List Bool) (N L : Option Addr) (nn nc nb bc : Nat) (w : World) (hT : Tab w)
    (hN : Is w w.heap.size N nn nums) (hL : Lb w w.heap.size L nb bs) (hnn : nn * 8 ≤ 140737488351232) (hnb : nb ≤ 140737488351232) (hts : text.size ≤ 140737488351232) :
    Calls Tryd.prog 3 #[.agg #[.int .i64 kind, .slice N nn nc, .string text, .slice L nb bc]] w (IsTrue w) := by
  have HN := hide hN
  have HL := hide hL
  have HT := hide hT
  clear hN hL hT
  go_enter Tryd.func3, Tryd.ntmps3
  go_wp2_with fail
  refine (ownReq_any kind nums text bs w.heap.size N L nn nc nb bc _ (HN.out.alloc (Nat.le_refl _) _) (HL.out.alloc (Nat.le_refl _) _) (by simp) hnn hnb).mono ?_
  rintro e w1 ⟨N1, nc1, L1, bc1, rfl, hN1, hL1, hb1⟩
  have hbx := (Blk.new w 25 #[.int .i64 kind, .slice N nn nc, .string text, .slice L nb bc]).below hb1 (by simp)
  have hbe := ((Below.refl w.heap.size w).alloc (Nat.le_refl _) (.cells #[.int .i64 kind, .slice N nn nc, .string text, .slice L nb bc] 25)).trans (hb1.mono (by simp))
  have hbx2 := hbx.alloc (.cells #[.int .i64 kind, .slice N1 nn nc1, .string text, .slice L1 nb bc1] 25)
  have how2 := Blk.new w1 25 #[.int .i64 kind, .slice N1 nn nc1, .string text, .slice L1 nb bc1]
  have HBX := hide hbx2
  have HOW := hide how2
  have HN1 := hide (hN1.alloc (Nat.le_refl _) (.cells #[.int .i64 kind, .slice N1 nn nc1, .string text, .slice L1 nb bc1] 25))
  have HL1 := hide (hL1.alloc (Nat.le_refl _) (.cells #[.int .i64 kind, .slice N1 nn nc1, .string text, .slice L1 nb bc1] 25))
  have HBE := hide (hbe.alloc hbe.size (.cells #[.int .i64 kind, .slice N1 nn nc1, .string text, .slice L1 nb bc1] 25))
  have hsz1 := hbe.size
  clear hbx hbe hbx2 how2 hN1 hL1 hb1
  go_wp2_with fail
  refine (wPutReq_any kind nums text bs w1.heap.size N1 L1 nn nc1 nb bc1 _ (HT.out.below HBE.out HT.out.pos) HN1.out HL1.out (by simp)).mono ?_
  rintro e w2 ⟨A3, n3, c3, rfl, ho3, hb3⟩
  have hbx := HBX.out.below hb3 HBX.out.lt
  have how := HOW.out.below hb3 HOW.out.lt
  have hcb := req_cells hbx
  have HBX2 := hide hbx
  have HOW2 := hide how
  have hsz2 : w1.heap.size < w2.heap.size := by have := hb3.size; simp at this; omega
  have HN2 := hide (HN1.out.below (hb3.mono (by simp)))
  have HL2 := hide (HL1.out.below (hb3.mono (by simp)))
  have HBE2 := hide (HBE.out.trans (hb3.mono (by simp; omega)))
  have HO3 := hide ho3
  clear hbx how ho3 hb3 HBX HOW HN1 HL1 HBE
  obtain ⟨b0, b1, b2, b3⟩ := hcb
  go_wp2_with fail
  refine (rPutReq_any kind nums text bs w.heap.size N L nn nc nb bc _ (HN.out.below HBE2.out) (HL.out.below HBE2.out) HBE2.out.size hts).mono ?_
  rintro e w3 ⟨A4, n4, c4, rfl, ho4, hb4⟩
  obtain rfl : n3 = n4 := by rw [← HO3.out.len, ← ho4.len]
  have hn3 : n3 ≤ 200000000000000 := by have := reqOut_len kind nums (sb text) bs; have := ho4.len; omega
  have hbx := HBX2.out.below hb4 HBX2.out.lt
  have how := HOW2.out.below hb4 HOW2.out.lt
  have hcb := req_cells hbx
  have hco := req_cells how
  have HX := hide (HO3.out.bs.below hb4)
  have HY := hide ho4.bs
  have HN3 := hide (HN2.out.below (hb4.mono (by omega)))
  have HL3 := hide (HL2.out.below (hb4.mono (by omega)))
  have HBE3 := hide (HBE2.out.trans (hb4.mono (by omega)))
  have hsz3 := hb4.size
  clear hbx how ho4 hb4 HBX2 HOW2 HO3 HN2 HL2 HBE2 b0 b1 b2 b3
  obtain ⟨b0, b1, b2, b3⟩ := hcb
  obtain ⟨d0, d1, d2, d3⟩ := hco
  generalize reqCode kind nums (sb text) bs = code at *
  generalize reqOut kind nums (sb text) bs = out at *
  have hcode : (code == code) = true := by simp
  go_wp2_with fail
  refine (wireBytes_true _ _ _ _ _ _ _ _ _ HX.out HY.out hn3).mono ?_
  rintro e w4 ⟨rfl, d, rfl⟩
  go_wp2_with fail
  refine (wireRequest_true kind nums text text bs w3.heap.size N1 L1 N L nn nc1 nb bc1 nc bc _ ((HN3.out.more (by omega)).drewN d) ((HL3.out.more (by omega)).drewN d) (((HN.out.below HBE3.out).more HBE3.out.size).drewN d) (((HL.out.below HBE3.out).more HBE3.out.size).drewN d) (Nat.le_refl _) (by omega) (by omega) rfl).mono ?_
  rintro e w5 ⟨rfl, hb5⟩
  have HB5 := hide (HBE3.out.trans ((below_drewN (Below.refl _ _) d).trans (hb5.mono (by have := HBE3.out.size; simpa using this))))
  clear hb5
  go_wp2
  go_ret
  exact ⟨rfl, HB5.out⟩
end Go.Proofs.YtbmkindgbabobaaDoor
