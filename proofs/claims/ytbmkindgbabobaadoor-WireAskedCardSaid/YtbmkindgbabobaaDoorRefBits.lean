/- The reference's bits: the bytes of a list of bools. -/
import Derived.Test.YtbmkindgbabobaaDoorBitsP
import Derived.Test.YtbmkindgbabobaaDoorRefPut
namespace Go.Proofs.YtbmkindgbabobaaDoor
open Go.RowKit
set_option maxRecDepth 20000

/-- A slice of bools reads as l. -/
structure Lb (w : World) (B : Nat) (A : Option Addr) (n : Nat) (l : List Bool) : Prop where
  rd : Reads w B 1 A n (l.map Value.bool)
section
variable {w w' : World} {B B' n : Nat} {A : Option Addr} {l : List Bool}
theorem Lb.len (h : Lb w B A n l) : l.length = n := by have := h.rd.1; rw [List.length_map] at this; omega
theorem Lb.at_ {k : Nat} (h : Lb w B A n l) (hk : k < n) : ∃ ad x, A = some ad ∧ ad.block < B ∧ w.cell? (ad.add k) = some (.bool x) ∧ l[k]? = some x := by
  obtain ⟨ad, u, e, hb, hx, hc⟩ := h.rd.at_ hk
  simp only [List.getElem?_map, Option.map_eq_some_iff] at hx
  obtain ⟨x, hx, rfl⟩ := hx
  exact ⟨ad, x, e, hb, hc, hx⟩
theorem Lb.below (h : Lb w B A n l) (hb : Below B w w') : Lb w' B A n l := ⟨h.rd.below hb⟩
theorem Lb.more (h : Lb w B A n l) (hB : B ≤ B') : Lb w B' A n l := ⟨h.rd.more hB⟩
theorem Lb.drewN (h : Lb w B A n l) (k : Nat) : Lb (w.drewN k) B A n l := ⟨h.rd⟩
theorem Lb.drew (h : Lb w B A n l) : Lb w.drew B A n l := ⟨h.rd⟩
theorem Lb.alloc (h : Lb w B A n l) (hB : B ≤ w.heap.size) (o : Obj) : Lb (w.alloc o) B A n l := ⟨h.rd.alloc hB o⟩
end
theorem bitI_some {l : List Bool} {k : Nat} {x : Bool} (h : l[k]? = some x) : bitI l k = if x = true then 1 else 0 := by
  unfold bitI; rw [h]; cases x <;> simp
theorem bitI_none {l : List Bool} {k : Nat} (h : l.length ≤ k) : bitI l k = 0 := by
  unfold bitI; rw [List.getElem?_eq_none h]; simp

set_option maxHeartbeats 1000000 in
theorem rbits_any (l : List Bool) (w : World) (B : Nat) (L : Option Addr) (n d : Nat) (hl : Lb w B L n l) (hB : B ≤ w.heap.size) (hm : n ≤ 200000000000000) :
    Calls Tryd.prog 41 #[.slice L n d] w (Gives w (bts l)) := by
  have HL := hide hl
  clear hl
  go_enter Tryd.func41, Tryd.ntmps41
  go_wp2_with fail
  refine (rcount_any _ (by omega) _).mono ?_
  rintro e w1 ⟨A, m, c, rfl, hg⟩
  have HG := hide hg
  clear hg
  go_wp2
  go_loopw [3, 4] (fun s i wr => ∃ q : Nat, q ≤ (n + 7) / 8 ∧ i = .int .i64 (8 * q : Nat) ∧ ∃ A' m' c', s = .slice A' m' c' ∧ Hid (Gw w wr 5 (.slice A' m' c') m' (cnt n ++ octs l q))) (fun _ i _ => n + 8 - (intOf i).toNat)
  case atStart => exact ⟨0, by omega, by go_num, A, m, c, rfl, hide (by simpa [octs] using HG.out)⟩
  case round =>
    obtain ⟨q, hq, rfl, A2, m2, c2, rfl, h2⟩ := hrel
    have hm2 : m2 ≤ 10 + q := by
      have e1 := h2.out.own.len
      have e3 := cnt_small (n := n) (by omega)
      rw [List.length_append, octs_len] at e1
      omega
    by_cases hlt : 8 * q < n
    · go_wp2
      go_loop [5, 6] (fun v k => ∃ j : Nat, j ≤ 8 ∧ k = .int .i64 j ∧ v = .int .i64 (octP l q j)) (fun _ k => 8 - (intOf k).toNat)
      case atStart => exact ⟨0, by omega, by go_num, rfl⟩
      case round =>
        obtain ⟨j, hj, rfl, rfl⟩ := hrel
        by_cases hj8 : j < 8
        · have hsm := octP_small l q j (by omega)
          by_cases hin : 8 * q + j < n
          · obtain ⟨ad, x, rfl, hadB, hcx, hx⟩ := (HL.out.below (h2.out.bel.mono hB)).at_ hin
            have HX := hide (bitI_some hx)
            clear hx
            have HS : Hid (octP l q (j + 1) = 2 * octP l q j + bitI l (8 * q + j)) := rfl
            generalize octP l q j = v at *
            cases x
            · go_wp2
              go_round
              case rel => exact ⟨j + 1, by omega, by go_num, by rw [HS.out, HX.out]; go_num⟩
              case measure => simp [intOf]; omega
            · go_wp2
              go_round
              case rel => exact ⟨j + 1, by omega, by go_num, by rw [HS.out, HX.out]; go_num⟩
              case measure => simp [intOf]; omega
          · have HX := hide (bitI_none (l := l) (k := 8 * q + j) (by rw [HL.out.len]; omega))
            have HS : Hid (octP l q (j + 1) = 2 * octP l q j + bitI l (8 * q + j)) := rfl
            generalize octP l q j = v at *
            go_wp2
            go_round
            case rel => exact ⟨j + 1, by omega, by go_num, by rw [HS.out, HX.out]; go_num⟩
            case measure => simp [intOf]; omega
        · obtain rfl : j = 8 := by omega
          have hbd := octP_bd l q
          have HS := hide (octs_succ l q)
          generalize octP l q 8 = v at *
          go_wp2_with (at_builtin; refine to_halt ?_)
          refine of_halt (wpList_append_lit rfl _ _ _ rfl Tryd.underlying27 info_u8 h2.out [v] (by simp [bv]) (by intro x hx; simp at hx; omega) rfl (m := 1) rfl (by simp) rfl (m2 + 1) rfl _ rfl (by omega) ?_)
          intro A3 c3 w3 hg3
          have H3 := hide hg3
          clear hg3 h2
          go_wp2
          go_roundw
          case rel =>
            refine ⟨q + 1, by omega, by go_num, A3, m2 + 1, c3, rfl, ?_⟩
            rw [HS.out, ← List.append_assoc]
            exact H3
          case measure => simp [intOf]; omega
    · have hq2 : q = (n + 7) / 8 := by omega
      have HQ := hide hq2
      clear hq2
      go_wp2
      go_ret
      refine ⟨A2, m2, c2, rfl, ?_⟩
      unfold bts bitsB
      rw [HL.out.len, ← HQ.out]
      exact h2.out
end Go.Proofs.YtbmkindgbabobaaDoor
