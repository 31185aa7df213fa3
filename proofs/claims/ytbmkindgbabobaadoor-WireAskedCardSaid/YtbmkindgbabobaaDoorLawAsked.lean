/- WireAsked: of every frame both GetRequests hand back the same. -/
import Derived.Test.YtbmkindgbabobaaDoorGetReqR
import Derived.Deep.RegionHeld3
import Derived.Deep.RegionWith
import Derived.Deep.DeepCutAuto
namespace Go.Proofs.YtbmkindgbabobaaDoor
open Go.RowKit
set_option maxRecDepth 20000

theorem sb_inj {s t : ByteArray} (h : sb s = sb t) : s = t := by
  have h1 : s.data.toList = t.data.toList := by
    unfold sb at h
    have hi : ∀ (a b : List UInt8), a.map (fun b => (b.toNat : Int)) = b.map (fun b => (b.toNat : Int)) → a = b := by
      intro a
      induction a with
      | nil => intro b h; cases b with
        | nil => rfl
        | cons y ys => simp at h
      | cons x xs ih => intro b h; cases b with
        | nil => simp at h
        | cons y ys =>
          simp only [List.map_cons, List.cons.injEq] at h
          rw [ih ys h.2, UInt8.toNat_inj.1 (show x.toNat = y.toNat by omega)]
    exact hi _ _ h
  cases s; cases t
  congr 1
  exact Array.ext' h1

theorem cell_set_ne {w : World} {q F i j : Nat} {u : Value} (h : F ≠ q) : (w.setCell ⟨q, i, none⟩ u).cell? ⟨F, j, none⟩ = w.cell? ⟨F, j, none⟩ := World.cell?_of_block (Below.heap_setCell w ⟨q, i, none⟩ u F h)

/-- What the program's GetRequest leaves inside the law. -/
def AfterGot (F : Nat) (a0 a1 a2 : Value) (W' : World) (x : Int × Int × List Int × List Int × List Bool) (e : Ending) (w3 : World) : Prop :=
  ∃ N nn nc text L nb bc, e = .returned (.tuple #[.agg #[.int .i64 x.2.1, .slice N nn nc, .string text, .slice L nb bc], .int .i64 x.1]) ∧
    (w3.cell? ⟨F, 0, none⟩ = some a0 ∧ w3.cell? ⟨F, 1, none⟩ = some a1 ∧ w3.cell? ⟨F, 2, none⟩ = some a2) ∧ (∀ o, (w3.alloc o).cell? ⟨F, 0, none⟩ = some a0 ∧ (w3.alloc o).cell? ⟨F, 1, none⟩ = some a1 ∧ (w3.alloc o).cell? ⟨F, 2, none⟩ = some a2) ∧
    Hid ((w3.ownsRow W'.heap.size 2 1 (.slice N nn nc) nn (x.2.2.1.map (Value.int .i64)) ∧ ∀ y ∈ x.2.2.1, I64 y) ∧ sb text = x.2.2.2.1 ∧ w3.ownsRow W'.heap.size 4 1 (.slice L nb bc) nb (x.2.2.2.2.map Value.bool) ∧ nn ≤ 4096 ∧ nb ≤ 4096 ∧ Below W'.heap.size W' w3)

theorem got_in {code kind : Int} {body : List Int} {w1 W' : World} {A : Option Addr} {n c : Nat} (hb : Below w1.heap.size w1 W') (hT : Tab w1) (hs : Bs w1 w1.heap.size A n body) (hc : n ≤ c) (hc2 : c ≤ 9223372036854775807) {F : Nat} {a0 a1 a2 : Value} {t : TypeId} (hF : Blk w1 F t #[a0, a1, a2]) :
    Calls Tryd.prog 16 #[.agg #[.int .i64 code, .int .i64 kind, .slice A n c]] W' (AfterGot F a0 a1 a2 W' (gotV code kind body)) := by
  refine (wGetReq_any code kind body w1.heap.size A n c W' (hs.below hb) hb.size hc hc2 (hT.below hb hT.pos)).mono ?_
  rintro e w3 ⟨N, nn, nc, text, L, nb, bc, he, h⟩
  have hF3 := (hF.below hb hF.lt).below h.2.2.2.2.2 (hF.below hb hF.lt).lt
  exact ⟨N, nn, nc, text, L, nb, bc, he, ⟨by rw [hF3.cell]; rfl, by rw [hF3.cell]; rfl, by rw [hF3.cell]; rfl⟩, fun o => ⟨by rw [(hF3.alloc o).cell]; rfl, by rw [(hF3.alloc o).cell]; rfl, by rw [(hF3.alloc o).cell]; rfl⟩, h⟩
/-- The request that came, in its own block. -/
def GotAt (w1 : World) (x : Int × Int × List Int × List Int × List Bool) (q : Nat) (N : Option Addr) (nn nc : Nat) (text : ByteArray) (L : Option Addr) (nb bc : Nat) (wc : World) : Prop :=
  w1.heap.size ≤ q ∧ Blk wc q 25 #[.int .i64 x.2.1, .slice N nn nc, .string text, .slice L nb bc] ∧ wc.ownsRow w1.heap.size 2 1 (.slice N nn nc) nn (x.2.2.1.map (Value.int .i64)) ∧ (∀ y ∈ x.2.2.1, I64 y) ∧
    sb text = x.2.2.2.1 ∧ wc.ownsRow w1.heap.size 4 1 (.slice L nb bc) nb (x.2.2.2.2.map Value.bool) ∧ nn ≤ 4096 ∧ nb ≤ 4096 ∧ Below w1.heap.size w1 wc

theorem got_alloc {w1 w3 : World} {x : Int × Int × List Int × List Int × List Bool} {N L : Option Addr} {nn nc nb bc : Nat} {text : ByteArray}
    (h : (w3.ownsRow w1.drew.heap.size 2 1 (.slice N nn nc) nn (x.2.2.1.map (Value.int .i64)) ∧ ∀ y ∈ x.2.2.1, I64 y) ∧ sb text = x.2.2.2.1 ∧ w3.ownsRow w1.drew.heap.size 4 1 (.slice L nb bc) nb (x.2.2.2.2.map Value.bool) ∧ nn ≤ 4096 ∧ nb ≤ 4096 ∧ Below w1.drew.heap.size w1.drew w3) :
    GotAt w1 x w3.heap.size N nn nc text L nb bc (w3.alloc (.cells #[.int .i64 x.2.1, .slice N nn nc, .string text, .slice L nb bc] 25)) := by
  obtain ⟨⟨h1, h2⟩, h3, h4, h5, h6, h7⟩ := h
  have hb : Below w1.heap.size w1 w3 := ((Below.refl _ _).drew).trans h7
  exact ⟨hb.size, Blk.new _ _ _, h1.alloc _, h2, h3, h4.alloc _, h5, h6, hb.alloc hb.size _⟩
theorem got_set {w1 W' w3 : World} {x : Int × Int × List Int × List Int × List Bool} {N L : Option Addr} {nn nc nb bc : Nat} {text : ByteArray} {cs : Array Value}
    (hW : Below w1.heap.size w1 W') (hz : W'.heap.size = w1.heap.size + 1) (hc : cs.size = 4)
    (h : (w3.ownsRow W'.heap.size 2 1 (.slice N nn nc) nn (x.2.2.1.map (Value.int .i64)) ∧ ∀ y ∈ x.2.2.1, I64 y) ∧ sb text = x.2.2.2.1 ∧ w3.ownsRow W'.heap.size 4 1 (.slice L nb bc) nb (x.2.2.2.2.map Value.bool) ∧ nn ≤ 4096 ∧ nb ≤ 4096 ∧ Below W'.heap.size W' w3)
    (hq : Blk w3 w1.heap.size 25 cs) :
    GotAt w1 x w1.heap.size N nn nc text L nb bc ((((w3.setCell ⟨w1.heap.size, 0, none⟩ (.int .i64 x.2.1)).setCell ⟨w1.heap.size, 1, none⟩ (.slice N nn nc)).setCell ⟨w1.heap.size, 2, none⟩ (.string text)).setCell ⟨w1.heap.size, 3, none⟩ (.slice L nb bc)) := by
  obtain ⟨⟨h1, h2⟩, h3, h4, h5, h6, h7⟩ := h
  have hb : Below w1.heap.size w1 w3 := hW.trans (h7.mono (by omega))
  have q1 := hq.set_ 0 (.int .i64 x.2.1)
  have q2 := q1.set_ 1 (.slice N nn nc)
  have q3 := q2.set_ 2 (.string text)
  have q4 := q3.set_ 3 (.slice L nb bc)
  have r1 := row_base h1 (base' := w1.heap.size) (by omega)
  have r4 := row_base h4 (base' := w1.heap.size) (by omega)
  refine ⟨Nat.le_refl _, ?_, ?_, h2, h3, ?_, h5, h6, ?_⟩
  · obtain ⟨l, rfl⟩ : ∃ l : List Value, cs = l.toArray := ⟨cs.toList, rfl⟩
    match l, hc with
    | [a, b, c, d], _ => simpa using q4
  · exact row_set_blk (row_set_blk (row_set_blk (row_set_blk r1 hq (by decide)) q1 (by decide)) q2 (by decide)) q3 (by decide)
  · exact row_set_blk (row_set_blk (row_set_blk (row_set_blk r4 hq (by decide)) q1 (by decide)) q2 (by decide)) q3 (by decide)
  · exact (((hb.setCell (Nat.le_refl _) _).setCell (Nat.le_refl _) _).setCell (Nat.le_refl _) _).setCell (Nat.le_refl _) _

set_option maxHeartbeats 20000000 in
theorem wireAsked_law (code kind : Int) (body : List Int) (A : Option Addr) (n c : Nat) (w : World) (hT : Tab w) (hs : Bs w w.heap.size A n body) (hn : n ≤ 199999999999990) (hc : n ≤ c) (hc2 : c ≤ 9223372036854775807) :
    Calls Tryd.prog 4 #[.agg #[.int .i64 code, .int .i64 kind, .slice A n c]] w (IsTrue w) := by
  have HT := hide hT
  have HS := hide hs
  have HC := hide hc
  have HC2 := hide hc2
  clear hs hT hc hc2
  go_enter Tryd.func4, Tryd.ntmps4
  go_wp2_with fail
  refine (wireRoom_any _ w.heap.size A n c body (HS.out.alloc (Nat.le_refl _) _) (by simp) hn).mono ?_
  rintro e w1 ⟨A1, c1, rfl, ho1, hb1⟩
  have hfr := (Blk.new w 35 #[.int .i64 code, .int .i64 kind, .slice A n c]).below hb1 (by simp)
  have hbe := ((Below.refl w.heap.size w).alloc (Nat.le_refl _) (.cells #[.int .i64 code, .int .i64 kind, .slice A n c] 35)).trans (hb1.mono (by simp))
  have k0 : w1.cell? ⟨w.heap.size, 0, none⟩ = some (.int .i64 code) := by rw [hfr.cell]; rfl
  have k1 : w1.cell? ⟨w.heap.size, 1, none⟩ = some (.int .i64 kind) := by rw [hfr.cell]; rfl
  have k2 : w1.cell? ⟨w.heap.size, 2, none⟩ = some (.slice A n c) := by rw [hfr.cell]; rfl
  have k0a : ∀ o, (w1.alloc o).cell? ⟨w.heap.size, 0, none⟩ = some (.int .i64 code) := fun o => by rw [(hfr.alloc o).cell]; rfl
  have k1a : ∀ o, (w1.alloc o).cell? ⟨w.heap.size, 1, none⟩ = some (.int .i64 kind) := fun o => by rw [(hfr.alloc o).cell]; rfl
  have k2a : ∀ o, (w1.alloc o).cell? ⟨w.heap.size, 2, none⟩ = some (.slice A n c) := fun o => by rw [(hfr.alloc o).cell]; rfl
  have HFR := hide hfr
  have HBE := hide hbe
  have HO1 := hide ho1
  have hcap : n + 8 ≤ c1 := by
    obtain ⟨A', c', e', h1, h2⟩ := ho1.shape
    injection e' with _ _ e3
    omega
  have hcap2 : c1 ≤ 9223372036854775807 := by
    obtain ⟨A', c', e', h1, h2⟩ := ho1.shape
    injection e' with _ _ e3
    unfold maxLen at h2
    omega
  clear hfr hbe ho1 hb1
  go_upto_region 2 with fail
  have hs1 := HO1.out.bs.take (k := n) (by omega)
  rw [show (body ++ mks 8).take n = body from by rw [← HS.out.len]; simp] at hs1
  have ht1 := HT.out.below HBE.out HT.out.pos
  have N1 := hide (got_in (code := code) (kind := kind) (W' := w1.drew) ((Below.refl _ _).drew) ht1 hs1 (by omega : n ≤ c1) hcap2 HFR.out)
  have N2 := hide (fun o => got_in (code := code) (kind := kind) (W' := (w1.alloc o).drew) (((Below.refl _ _).alloc (Nat.le_refl _) o).drew) ht1 hs1 (by omega : n ≤ c1) hcap2 HFR.out)
  have N3 := hide (fun o => got_in (code := code) (kind := kind) (W' := w1.drew.alloc o) (((Below.refl _ _).drew).alloc (Nat.le_refl _) o) ht1 hs1 (by omega : n ≤ c1) hcap2 HFR.out)
  have HS1 := hide hs1
  clear hs1 ht1
  have hb1 : (n : Int) ≤ (c1 : Int) := by omega
  have hqF : w1.heap.size ≠ w.heap.size := by have := HFR.out.lt; omega
  have hqG : w.heap.size ≠ w1.heap.size := by have := HFR.out.lt; omega
  have hb0 : (0 : Int) ≤ (n : Int) := by omega
  have hb2 : (0 : Int) ≤ (c1 : Int) := by omega
  have hb3 : ¬ (c1 : Int) < (n : Int) := by omega
  go_cut [4, 5] (fun s4 s5 wc => ∃ q N nn nc text L nb bc, s4 = .pointer (some ⟨q, 0, none⟩) ∧ s5 = .int .i64 (gotV code kind body).1 ∧ Hid (GotAt w1 (gotV code kind body) q N nn nc text L nb bc wc))
  case first =>
    go_region_held3 (fun w' => w'.cell? ⟨w.heap.size, 0, none⟩ = some (.int .i64 code) ∧ w'.cell? ⟨w.heap.size, 1, none⟩ = some (.int .i64 kind) ∧ w'.cell? ⟨w.heap.size, 2, none⟩ = some (.slice A n c)) (first | with_reducible exact ⟨k0, k1, k2⟩ | with_reducible exact ⟨k0a _, k1a _, k2a _⟩ | with_reducible exact j0 | with_reducible exact j1 _ | (simp only [cell_set_ne hqG]; with_reducible exact j0) | (simp [*]; done)) ((first | (go_at_call 16; refine N1.out.mono ?_; rintro e w3 ⟨N, nn, nc, text, L, nb, bc, rfl, j0, j1, hh3⟩) | (go_at_call 16; refine (N2.out _).mono ?_; rintro e w3 ⟨N, nn, nc, text, L, nb, bc, rfl, j0, j1, hh3⟩; have hq := ((Blk.new w1 _ _).drew).below hh3.out.2.2.2.2.2 (by simp); obtain ⟨q0, q1, q2, q3⟩ := req_cells hq; have z0 := hq.frozen 0; have z1 := hq.frozen 1; have z2 := hq.frozen 2; have z3 := hq.frozen 3; have hq := hide hq) | (go_at_call 16; refine (N3.out _).mono ?_; rintro e w3 ⟨N, nn, nc, text, L, nb, bc, rfl, j0, j1, hh3⟩; have hq := (Blk.new w1.drew _ _).below hh3.out.2.2.2.2.2 (by simp); obtain ⟨q0, q1, q2, q3⟩ := req_cells hq; have z0 := hq.frozen 0; have z1 := hq.frozen 1; have z2 := hq.frozen 2; have z3 := hq.frozen 3; have hq := hide hq)))
    all_goals (go_wp2_with fail; go_meet)
    all_goals first
      | exact ⟨_, N, nn, nc, text, L, nb, bc, rfl, rfl, hide (got_alloc hh3.out)⟩
      | exact ⟨_, N, nn, nc, text, L, nb, bc, rfl, rfl, hide (got_set (((Below.refl _ _).alloc (Nat.le_refl _) _).drew) (by simp) (by simp) hh3.out hq.out)⟩
      | exact ⟨_, N, nn, nc, text, L, nb, bc, rfl, rfl, hide (got_set (((Below.refl _ _).drew).alloc (Nat.le_refl _) _) (by simp) (by simp) hh3.out hq.out)⟩
  case rest =>
    obtain ⟨q, N, nn, nc, text, L, nb, bc, rfl, rfl, hg⟩ := hcut
    clear k0 k1 k2 k0a k1a k2a N1 N2 N3 HS1 hb0 hb2 hb3 hqF hqG
    have hG := rGetReq_any code kind body w.heap.size A n c
    generalize gotV code kind body = x at *
    obtain ⟨x1, x2, x3, x4, x5⟩ := x
    obtain ⟨hq1, hq2, hr1, hr2, ht1, hr3, hn1, hn2, hbel⟩ := hg.out
    simp only at hq2 hr1 hr2 ht1 hr3
    have hfr := HFR.out.below hbel HFR.out.lt
    obtain ⟨k0, k1, k2⟩ : wc.cell? ⟨w.heap.size, 0, none⟩ = some (.int .i64 code) ∧ wc.cell? ⟨w.heap.size, 1, none⟩ = some (.int .i64 kind) ∧ wc.cell? ⟨w.heap.size, 2, none⟩ = some (.slice A n c) := ⟨by rw [hfr.cell]; rfl, by rw [hfr.cell]; rfl, by rw [hfr.cell]; rfl⟩
    have HFR2 := hide hfr
    have HQ := hide hq2
    have HR1 := hide hr1
    have HR2 := hide hr2
    have HT1 := hide ht1
    have HR3 := hide hr3
    have HBE2 := hide (HBE.out.trans (hbel.mono HBE.out.size))
    have HB1 := hide hbel
    clear hg hq2 hr1 hr2 ht1 hr3 hbel hfr
    go_wp2_with fail
    refine (hG wc (HS.out.below HBE2.out) HBE2.out.size HC.out HC2.out).mono ?_
    clear hG k0 k1 k2
    rintro e w3 ⟨N', nn', nc', text', L', nb', bc', rfl, ⟨hr1, hr2⟩, ht1, hr3, hn1', hn2', hbel⟩
    obtain rfl : nn = nn' := by
      have h1 := HR1.out.1
      have h2 := hr1.1
      simp only [List.length_map] at h1 h2
      omega
    obtain rfl : nb = nb' := by
      have h1 := HR3.out.1
      have h2 := hr3.1
      simp only [List.length_map] at h1 h2
      omega
    obtain rfl : text = text' := sb_inj (HT1.out.trans ht1.symm)
    have hq := HQ.out.below hbel HQ.out.lt
    obtain ⟨q0, q1, q2, q3⟩ := req_cells hq
    have q0a : ∀ o, (w3.alloc o).cell? ⟨q, 0, none⟩ = some (.int .i64 x2) := fun o => (req_cells (hq.alloc o)).1
    have q1a : ∀ o, (w3.alloc o).cell? ⟨q, 1, none⟩ = some (.slice N nn nc) := fun o => (req_cells (hq.alloc o)).2.1
    have q2a : ∀ o, (w3.alloc o).cell? ⟨q, 2, none⟩ = some (.string text) := fun o => (req_cells (hq.alloc o)).2.2.1
    have q3a : ∀ o, (w3.alloc o).cell? ⟨q, 3, none⟩ = some (.slice L nb bc) := fun o => (req_cells (hq.alloc o)).2.2.2
    have hN : Is w3 w3.heap.size N nn x3 := (⟨Reads.of_own HR1.out, HR2.out⟩ : Is wc wc.heap.size N nn x3).below hbel |>.more hbel.size
    have hL : Lb w3 w3.heap.size L nb x5 := (⟨Reads.of_own HR3.out⟩ : Lb wc wc.heap.size L nb x5).below hbel |>.more hbel.size
    have hN' : Is w3 w3.heap.size N' nn x3 := ⟨Reads.of_own hr1, hr2⟩
    have hL' : Lb w3 w3.heap.size L' nb x5 := ⟨Reads.of_own hr3⟩
    have HCMP := hide (wireRequest_true x2 x3 text text x5 w3.heap.size N L N' L' nn nc nb bc nc' bc' (w3.alloc (.cells #[.int .i64 x2, .slice N' nn nc', .string text, .slice L' nb bc'] 25)) (hN.alloc (Nat.le_refl _) _) (hL.alloc (Nat.le_refl _) _) (hN'.alloc (Nat.le_refl _) _) (hL'.alloc (Nat.le_refl _) _) (by simp) (by omega) (by omega) rfl)
    have hfr3 := HFR2.out.below hbel HFR2.out.lt
    have k2 : w3.cell? ⟨w.heap.size, 2, none⟩ = some (.slice A n c) := by rw [hfr3.cell]; rfl
    have HFR3 := hide hfr3
    have HBE3 := hide (HBE2.out.trans (hbel.mono HBE2.out.size))
    have hF := (HO1.out.bs.below (HB1.out.trans (hbel.mono HB1.out.size)))
    have HF := hide hF
    have hsz3 : w1.heap.size ≤ w3.heap.size := Nat.le_trans HB1.out.size hbel.size
    have hcode : (x1 == x1) = true := by simp
    clear hq hN hL hN' hL' hfr3 hbel hF hr1 hr2 ht1 hr3 HR1 HR2 HR3 HT1 HQ HFR HFR2 HBE HBE2 HB1 HO1
    go_wp2_with fail
    refine HCMP.out.mono ?_
    clear q0 q1 q2 q3 q0a q1a q2a q3a k2 HCMP
    rintro e w4 ⟨rfl, hb4⟩
    have hsz4 := hb4.size
    have hbe4 := (HBE3.out.alloc HBE3.out.size (.cells #[.int .i64 x2, .slice N' nn nc', .string text, .slice L' nb bc'] 25)).trans (hb4.mono (by have := HBE3.out.size; simp; omega))
    have hfr4 := (HFR3.out.alloc (.cells #[.int .i64 x2, .slice N' nn nc', .string text, .slice L' nb bc'] 25)).below hb4 (by have := HFR3.out.lt; simp; omega)
    have k2 : w4.cell? ⟨w.heap.size, 2, none⟩ = some (.slice A n c) := by rw [hfr4.cell]; rfl
    have hw1 : w1.heap.size ≤ w3.heap.size := hsz3
    have HF4 := hide ((HF.out.alloc hw1 (.cells #[.int .i64 x2, .slice N' nn nc', .string text, .slice L' nb bc'] 25)).below (hb4.mono (by simp; omega)))
    have HS4 := hide (HS.out.below hbe4)
    have HBE4 := hide hbe4
    clear hb4 hbe4 hfr4 HF HFR3 HBE3
    go_wp2_with fail
    refine (wireStays_true _ _ _ _ _ _ _ _ _ HF4.out HS4.out (by omega) hcap hcap2).mono ?_
    rintro e w5 ⟨rfl, d, rfl⟩
    go_wp2
    go_ret
    exact ⟨rfl, below_drewN HBE4.out _⟩
end Go.Proofs.YtbmkindgbabobaaDoor
