/- The scanner's lists of numbers. -/
import Derived.Test.YtbmkindgbabobaaDoorScanText
namespace Go.Proofs.YtbmkindgbabobaaDoor
open Go.RowKit
set_option maxRecDepth 20000

/-- The array of a literal of one-cell values, just made. -/
theorem Reads.made (w : World) (e : TypeId) (xs : List Value) (vs : Array Value) (n : Nat) (hv : vs = xs.toArray) (hn : xs.length = n) : Reads (w.alloc (.cells vs e)) (w.heap.size + 1) 1 (some ⟨w.heap.size, 0, none⟩) n xs := by
  subst hv hn
  refine ⟨by omega, fun _ => ⟨_, rfl, Nat.lt_succ_self _, fun j u hu => ?_⟩⟩
  rw [add_lit0, cell_of_row _ w.heap.size j _ e (0, 0) (heap_alloc_new w _)]
  simpa using hu
def VNums (B : Nat) (v : List Int) (e : Ending) (w' : World) : Prop := ∃ A n c, e = .returned (.slice A n c) ∧ w'.ownsRow B 2 1 (.slice A n c) n (v.map (Value.int .i64)) ∧ ∀ x ∈ v, I64 x

theorem wrap_small {k m : Nat} (h : k + 1 + m ≤ lim) : wrap64 (k : Int) = (k : Int) := by have := lim_eq; unfold wrap64; omega
theorem meas_dn (k : Nat) {m : Nat} (h : k + 1 + m ≤ lim) : (intOf (.int .i64 (wrap64 (k : Int)))).toNat < (intOf (.int .i64 ((k + 1 : Nat) : Int))).toNat := by
  rw [wrap_small h]
  show ((k : Int)).toNat < (((k + 1 : Nat) : Int)).toNat
  omega
/-- In the midst of a list: 'done' are read, k are to come. -/
def Mid {α : Type} (t : TypeId) (w : World) (base g : Nat) (p : List Int → Option (α × List Int)) (f : Option (List α × List Int)) (R : List α → World → Prop) (k : Nat) (bad' : Bool) (wr : World) : Prop :=
  ∃ done r, R done wr ∧ Bel w.heap.size g w wr ∧ St t wr base g r bad' ∧ f = if bad' then none else (pRep p k r).map fun q => (done ++ q.1, q.2)
def RNums (B : Nat) (A : Option Addr) (m c : Nat) (done : List Int) (wr : World) : Prop := wr.ownsRow B 2 1 (.slice A m c) m (done.map (Value.int .i64)) ∧ ∀ x ∈ done, I64 x

set_option maxHeartbeats 1000000 in
theorem wrnums_any (w : World) (base g : Nat) (xs : List Int) (bad : Bool) (h : St 84 w base g xs bad) :
    Calls Tryd.prog 44 #[.pointer (some ⟨g, 0, none⟩)] w (Read1 84 w base g (nxt bad (pNums xs)) (VNums w.heap.size)) := by
  have H := hide h
  have HW := hide h.lt
  clear h
  go_enter Tryd.func44, Tryd.ntmps44
  go_wp2_with fail
  refine (wrsome_any _ _ _ _ _ H.out).mono ?_
  rintro e w1 ⟨hb1, k0, r0, bad0, rfl, hk0, hz0, h2, hf⟩
  have hk0l : k0 ≤ lim := Nat.le_trans hk0 h2.len
  have HM : Hid (Mid 84 w base g pSig (nxt bad (pNums xs)) (RNums w.heap.size none 0 0) k0 bad0 w1) :=
    hide ⟨[], r0, ⟨World.ownsRow_nil _ _ _ _, by simp⟩, hb1, h2, rep_start hf⟩
  clear hb1 h2 hf hk0 hz0
  go_wp2
  go_loopw [3, 4] (fun s i wr => ∃ (k m : Nat) (A : Option Addr) (c : Nat) (bd : Bool), k + m ≤ lim ∧ i = .int .i64 k ∧ s = .slice A m c ∧ Hid (Mid 84 w base g pSig (nxt bad (pNums xs)) (RNums w.heap.size A m c) k bd wr)) (fun _ i _ => (intOf i).toNat)
  case atStart => exact ⟨k0, 0, none, 0, bad0, by omega, rfl, rfl, HM⟩
  case round =>
    obtain ⟨k, m, A, c, bd, hkm, rfl, rfl, h1⟩ := hrel
    obtain ⟨done, r, ⟨hrow, hrng⟩, hbel, hst, hf⟩ := h1.out
    obtain ⟨A0, n0, d0, c0, c1, f0, f1, hl, hc, hc2⟩ := hst.parts
    have HR := hide hrow
    have HG := hide hrng
    have HB := hide hbel
    have HS := hide hst
    have HF := hide hf
    clear h1 hrow hrng hbel hst hf HM
    cases bd with
    | true =>
      by_cases hk : k = 0
      · subst hk
        go_wp2
        go_ret
        exact ⟨HB.out, done, r, true, ⟨A, m, c, rfl, HR.out, HG.out⟩, HS.out, HF.out⟩
      · have hk' : (0 : Int) < (k : Int) := by omega
        go_wp2
        go_ret
        exact ⟨HB.out, done, r, true, ⟨A, m, c, rfl, HR.out, HG.out⟩, HS.out, HF.out⟩
    | false =>
      cases k with
      | zero =>
        go_wp2
        go_ret
        exact ⟨HB.out, done, r, false, ⟨A, m, c, rfl, HR.out, HG.out⟩, HS.out, by have := HF.out; simpa [pRep] using this⟩
      | succ k =>
        have hk' : (0 : Int) < ((k + 1 : Nat) : Int) := by omega
        have hk'' : (0 : Int) < (k : Int) + 1 := by omega
        have HWR := hide (wrap_small hkm)
        go_wp2_with fail
        refine (wrsigned_any _ _ _ _ _ HS.out).mono ?_
        rintro e w3 ⟨hb3, x, r', bad', ⟨rfl, hx64⟩, h3, hf3⟩
        have hgr : (Value.slice A m c).ownBlock ≠ some g := fun e => by
          have := (HR.out.lt _ e).1
          have := HW.out
          omega
        have HR3 := hide (row_bel HR.out hb3 hgr)
        have HB3 := hide (HB.out.trans (hb3.mono HB.out.size))
        have HS3 := hide h3
        have HF3 := hide (rep_step HF.out hf3)
        have HX := hide hx64
        clear hb3 h3 hf3 hx64 c0 c1 f0 f1 HR HB HS HF
        go_wp2_with (at_builtin; refine to_halt ?_)
        refine of_halt (wpList_append_row _ rfl _ _ _ rfl 2 Tryd.underlying22 info_i64 rfl (HR3.out.alloc _) rfl (Reads.made w3 _ [.int .i64 x] _ 1 rfl rfl) (by simp [Value.oneCell']) rfl (m + 1) rfl (by have := lim_eq; omega) (by have := lim_eq; omega) (by have := HB3.out.size; simp; omega) ?_)
        intro A4 c4 w4 hrow4 hgr4
        have hr4 : ∀ k, (Value.slice A m c).ownBlock = some k → w.heap.size ≤ k := fun k e => (HR3.out.lt _ e).1
        have HS4 := hide ((HS3.out.alloc (.cells #[.int .i64 x] 2)).grown hgr4 (fun k e => by have := hr4 k e; have := HW.out; omega))
        have HB4 := hide ((HB3.out.alloc HB3.out.size (.cells #[.int .i64 x] 2)).grown hgr4 (by have := HB3.out.size; simp; omega) hr4)
        have HR4 := hide hrow4
        clear hrow4 hgr4 hr4 HR3 HB3 HS3
        go_wp2
        go_roundw
        case rel =>
          refine ⟨k, m + 1, A4, c4, bad', by omega, congrArg (Value.int .i64) HWR.out, rfl, hide ⟨done ++ [x], r', ⟨by simpa using HR4.out, ?_⟩, HB4.out, HS4.out, HF3.out⟩⟩
          intro y hy
          rcases List.mem_append.1 hy with h | h
          · exact HG.out y h
          · simp at h; subst h; exact HX.out
        case measure => exact meas_dn k hkm
end Go.Proofs.YtbmkindgbabobaaDoor
