/- The reference's PutRequest; the law's own copy of a request and its comparison. -/
import Derived.Test.YtbmkindgbabobaaDoorPutReq
namespace Go.Proofs.YtbmkindgbabobaaDoor
open Go.RowKit
set_option maxRecDepth 20000

theorem gives_of {w0 w w' : World} {A : Option Addr} {n c : Nat} {xs : List Int} (hb : Below w0.heap.size w0 w) (h : Gw w w' 5 (.slice A n c) n xs) : Gw w0 w' 5 (.slice A n c) n xs :=
  ⟨h.own.base_le hb.size, hb.trans (h.bel.mono hb.size)⟩

set_option maxHeartbeats 1000000 in
theorem rPutReq_any (kind : Int) (nums : List Int) (text : ByteArray) (bs : List Bool) (B : Nat) (N L : Option Addr) (nn nc nb bc : Nat) (w : World)
    (hN : Is w B N nn nums) (hL : Lb w B L nb bs) (hB : B ≤ w.heap.size) (hts : text.size ≤ 140737488351232) :
    Calls Tryd.prog 12 #[.agg #[.int .i64 kind, .slice N nn nc, .string text, .slice L nb bc]] w (PutGives w (reqCode kind nums (sb text) bs) (reqOut kind nums (sb text) bs)) := by
  by_cases hk : kind < 1 ∨ 12 < kind
  · have hc : reqCode kind nums (sb text) bs = 162 := by unfold reqCode; rw [if_pos hk]
    have hout : reqOut kind nums (sb text) bs = [] := by unfold reqOut; rw [hc, if_neg (by omega)]
    rw [hc, hout]
    clear hc hout hN hL
    by_cases h1 : kind < 1
    · clear hk
      go_enter Tryd.func12, Tryd.ntmps12
      go_wp2
      go_ret2
      exact put_none _ _ _ _ ((Below.refl _ _).alloc (Nat.le_refl _) _) rfl
    · have h2 : 12 < kind := by omega
      clear hk
      go_enter Tryd.func12, Tryd.ntmps12
      go_wp2
      go_ret2
      exact put_none _ _ _ _ ((Below.refl _ _).alloc (Nat.le_refl _) _) rfl
  · have h1 : 1 ≤ kind := by omega
    have h2 : kind ≤ 12 := by omega
    have HNl := hide hN.len
    have HLl := hide hL.len
    have HN := hide hN
    have HL := hide hL
    clear hN hL
    cases hm : mayB kind nn text.size nb with
    | false =>
      have hc : reqCode kind nums (sb text) bs = 163 := by unfold reqCode; rw [if_neg hk, HNl.out, HLl.out, sb_len, hm]; rfl
      have hout : reqOut kind nums (sb text) bs = [] := by unfold reqOut; rw [hc, if_neg (by omega)]
      rw [hc, hout]
      have HM := hide hm
      clear hc hout hm hk
      go_enter Tryd.func12, Tryd.ntmps12
      go_wp2_with fail
      refine (requestMay_any kind h1 h2 _ _ _ _ _ _ _ _).mono ?_
      rintro e w1 ⟨rfl, hb⟩
      rw [HM.out]
      have HB := hide (((Below.refl w.heap.size w).alloc (Nat.le_refl _) _).trans (hb.mono (by simp)))
      clear hb
      go_wp2
      go_ret2
      exact put_none _ _ _ _ HB.out rfl
    | true =>
      have hcode : reqCode kind nums (sb text) bs = frameCode kind (reqBody nums (sb text) bs).length := by unfold reqCode; rw [if_neg hk, HNl.out, HLl.out, sb_len, hm, if_pos rfl]
      have hout : reqOut kind nums (sb text) bs = frameOut kind (reqBody nums (sb text) bs) := by unfold reqOut frameOut; rw [hcode]
      rw [hcode, hout]
      have hmay : nn = tk kind ∧ nb ≤ 4096 := by
        have := hm
        unfold mayB at this
        simp only [decide_eq_true_eq] at this
        omega
      have htk : tk kind ≤ 6 := by unfold tk; split <;> (try split) <;> (try split) <;> omega
      have hnn : nn ≤ 6 := by omega
      have hnb : nb ≤ 4096 := hmay.2
      have HM := hide hm
      clear hcode hout hm hk hmay htk
      go_enter Tryd.func12, Tryd.ntmps12
      go_wp2_with fail
      refine (requestMay_any kind h1 h2 _ _ _ _ _ _ _ _).mono ?_
      rintro e w1 ⟨rfl, hb⟩
      rw [HM.out]
      have hbx : Blk w1 w.heap.size 25 #[.int .i64 kind, .slice N nn nc, .string text, .slice L nb bc] := (Blk.new w _ _).below hb (by simp)
      have hb0 : Below w.heap.size w w1 := ((Below.refl w.heap.size w).alloc (Nat.le_refl _) _).trans (hb.mono (by simp))
      have c1 := hbx.cell 1
      simp only [List.getElem?_toArray, List.getElem?_cons_succ, List.getElem?_cons_zero] at c1
      have HBX := hide hbx
      have HB0 := hide hb0
      clear hb hbx hb0
      go_wp2_with fail
      refine (rnums_any nums _ B N nn nc (HN.out.below (HB0.out.mono hB)) (by have := HB0.out.size; omega) (by omega)).mono ?_
      rintro e w2 ⟨A2, n2, d2, rfl, hg2⟩
      have hn2 : n2 ≤ 70 := by
        have e1 := hg2.own.len
        have e2 := HNl.out
        have e3 := cnt_small (n := nums.length) (by omega)
        have e4 := flat_len nums HN.out.rng
        simp only [nms, List.length_append] at e1
        omega
      have hbx := HBX.out.below hg2.bel HBX.out.lt
      have c2 := hbx.cell 2
      simp only [List.getElem?_toArray, List.getElem?_cons_succ, List.getElem?_cons_zero] at c2
      have HBX2 := hide hbx
      have HG2 := hide (gives_of HB0.out hg2)
      clear c1 hbx hg2 HBX HB0
      go_wp2_with fail
      refine (rtext_any text (by omega) _).mono ?_
      rintro e w3 ⟨A3, n3, d3, rfl, hg3⟩
      have hn3 : n3 ≤ 10 + text.size := by
        have e1 := hg3.own.len
        have e3 := cnt_small (n := text.size) (by omega)
        simp only [txt, List.length_append, sb_len] at e1
        omega
      have hbx := HBX2.out.below hg3.bel HBX2.out.lt
      have HG3 := hide (HG2.out.below hg3.bel)
      have HS3 := hide hg3.bs
      have HBX3 := hide hbx
      clear c2 hbx hg3 HBX2 HG2
      go_wp2_with (at_builtin; refine to_halt ?_)
      refine of_halt (wpList_append_bs _ rfl _ _ _ rfl _ Tryd.underlying27 info_u8 HG3.out.own rfl HS3.out rfl (by omega) HG3.out.bel.size ?_)
      intro A4 c4 w4 ha4
      have hbx := HBX3.out.grown ha4.grown (Ne.symm (HG3.out.own.blk_ne HBX3.out (by decide)))
      have c3 := hbx.cell 3
      simp only [List.getElem?_toArray, List.getElem?_cons_succ, List.getElem?_cons_zero] at c3
      have HBX4 := hide hbx
      have HG4 := hide (HG3.out.of_app ha4)
      clear hbx ha4 HBX3 HG3 HS3
      go_wp2_with fail
      refine (rbits_any bs _ B L nb bc (HL.out.below (HG4.out.bel.mono hB)) (by have := HG4.out.bel.size; omega) (by omega)).mono ?_
      rintro e w5 ⟨A5, n5, d5, rfl, hg5⟩
      have hn5 : n5 ≤ 600 := by
        have e1 := hg5.own.len
        have e2 := HLl.out
        have e3 := cnt_small (n := bs.length) (by omega)
        simp only [bts, bitsB, List.length_append, octs_len] at e1
        omega
      have hbx := HBX4.out.below hg5.bel HBX4.out.lt
      have HG5 := hide (HG4.out.below hg5.bel)
      have HS5 := hide hg5.bs
      have HBX5 := hide hbx
      clear c3 hbx hg5 HBX4 HG4
      go_wp2_with (at_builtin; refine to_halt ?_)
      refine of_halt (wpList_append_bs _ rfl _ _ _ rfl _ Tryd.underlying27 info_u8 HG5.out.own rfl HS5.out rfl (by omega) HG5.out.bel.size ?_)
      intro A6 c6 w6 ha6
      have hbx := HBX5.out.grown ha6.grown (Ne.symm (HG5.out.own.blk_ne HBX5.out (by decide)))
      have c0 := hbx.cell 0
      simp only [List.getElem?_toArray, List.getElem?_cons_zero] at c0
      have HG6 := hide (HG5.out.of_app ha6)
      clear hbx ha6 HBX5 HG5 HS5
      go_wp2_with fail
      refine (rFrame_any kind _ _ _ _ _ (reqBody nums (sb text) bs) HG6.out.bs (Nat.le_refl _)).mono ?_
      rintro e w7 hfr
      obtain ⟨A7, n7, c7, rfl, ho7, hb7⟩ := hfr
      have HO7 := hide (ho7.base_le HG6.out.bel.size)
      have HB7 := hide (HG6.out.bel.trans (hb7.mono HG6.out.bel.size))
      clear ho7 hb7 c0 HG6
      go_wp2
      go_ret2
      exact ⟨A7, n7, c7, rfl, HO7.out, HB7.out⟩

/-! ### the law's own -/
theorem info_i64 : (Tryd.prog.info? 2).map (fun i => (i.zero, i.size, i.bytes)) = some (some (.int .i64 0), 1, 8) := by kernel_rfl
theorem info_bool : (Tryd.prog.info? 4).map (fun i => (i.zero, i.size, i.bytes)) = some (some (.bool false), 1, 1) := by kernel_rfl

def OwnReq (w : World) (kind : Int) (nums : List Int) (text : ByteArray) (bs : List Bool) (nn nb : Nat) (e : Ending) (w' : World) : Prop :=
  ∃ N' nc' L' bc', e = .returned (.agg #[.int .i64 kind, .slice N' nn nc', .string text, .slice L' nb bc']) ∧ Is w' w'.heap.size N' nn nums ∧ Lb w' w'.heap.size L' nb bs ∧ Below w.heap.size w w'
theorem row_set_blk {w : World} {base e n g i : Nat} {t : TypeId} {v u : Value} {xs : List Value} {cs : Array Value} (h : w.ownsRow base e 1 v n xs) (hg : Blk w g t cs) (hne : e ≠ t) : (w.setCell ⟨g, i, none⟩ u).ownsRow base e 1 v n xs :=
  row_setCell h (row_blk_ne h hg hne) u

set_option maxHeartbeats 1000000 in
theorem ownReq_any (kind : Int) (nums : List Int) (text : ByteArray) (bs : List Bool) (B : Nat) (N L : Option Addr) (nn nc nb bc : Nat) (w : World)
    (hN : Is w B N nn nums) (hL : Lb w B L nb bs) (hB : B ≤ w.heap.size) (hnn : nn * 8 ≤ 140737488351232) (hnb : nb ≤ 140737488351232) :
    Calls Tryd.prog 10 #[.agg #[.int .i64 kind, .slice N nn nc, .string text, .slice L nb bc]] w (OwnReq w kind nums text bs nn nb) := by
  have HRNG := hide hN.rng
  have HN := hide hN
  have HL := hide hL
  clear hN hL
  go_enter Tryd.func10, Tryd.ntmps10
  go_wp2_with (at_builtin; refine to_halt ?_)
  refine of_halt (wpList_append_row _ rfl _ _ _ rfl 2 Tryd.underlying22 info_i64 rfl (World.ownsRow_lit (base := w.heap.size) (size := 1) _ _ 0 (by simp; omega) (by unfold maxLen; omega) rfl) (by simp [Act.eval]) ((((HN.out.alloc hB _).alloc (by simp; omega) _).alloc (by simp; omega) _)).rd (by intro u hu; simp at hu; obtain ⟨x, _, rfl⟩ := hu; rfl) rfl nn (by omega) (by omega) (by omega) (by simp; omega) ?_)
  intro A1 c1 w1 hrow hgr
  have hob : (Value.slice (some ⟨((w.alloc (.cells #[.int .i64 kind, .slice N nn nc, .string text, .slice L nb bc] 25)).alloc (.cells #[.int .i64 0, .slice none 0 0, .string { data := #[] }, .slice none 0 0] 25)).heap.size, 0, none⟩) 0 0).ownBlock = some (w.heap.size + 2) := by simp [Value.ownBlock]
  rw [hob] at hgr
  clear hob
  have hg1 : w.grownBy w1 none ∧ w1.heap.size ≥ w.heap.size + 3 ∧ Blk w1 w.heap.size 25 #[.int .i64 kind, .slice N nn nc, .string text, .slice L nb bc] ∧
      Blk w1 (w.heap.size + 1) 25 #[.int .i64 0, .slice none 0 0, .string { data := #[] }, .slice none 0 0] := by
    have h0 := ((Blk.new w 25 #[.int .i64 kind, .slice N nn nc, .string text, .slice L nb bc]).alloc (.cells #[.int .i64 0, .slice none 0 0, .string { data := #[] }, .slice none 0 0] 25)).alloc (.cells #[] 2)
    have h1 := (Blk.new (w.alloc (.cells #[.int .i64 kind, .slice N nn nc, .string text, .slice L nb bc] 25)) 25 #[.int .i64 0, .slice none 0 0, .string { data := #[] }, .slice none 0 0]).alloc (.cells #[] 2)
    simp only [World.size_alloc] at h1
    have hs := hgr.size
    simp only [World.size_alloc] at hs
    refine ⟨⟨hgr.os, hgr.tape, hgr.output, by omega, fun i hi _ => ?_⟩, hs, h0.grown hgr (by intro e; injection e; omega), h1.grown hgr (by intro e; injection e; omega)⟩
    rw [hgr.block i (by simp; omega) (by intro e; injection e; omega), Below.heap_alloc _ _ _ (by simp; omega), Below.heap_alloc _ _ _ (by simp; omega), Below.heap_alloc _ _ _ hi]
  obtain ⟨hgw, hs1, hbx, hbr⟩ := hg1
  clear hgr
  have HROW := hide hrow
  have c1x := hbx.cell 1
  have f1x := hbx.frozen 1
  have hbx2 : Blk (w1.setCell ⟨w.heap.size, 1, none⟩ (.slice A1 nn c1)) w.heap.size 25 #[.int .i64 kind, .slice A1 nn c1, .string text, .slice L nb bc] := by simpa using hbx.set_ 1 (.slice A1 nn c1)
  have hbr2 : Blk (w1.setCell ⟨w.heap.size, 1, none⟩ (.slice A1 nn c1)) (w.heap.size + 1) 25 #[.int .i64 0, .slice none 0 0, .string { data := #[] }, .slice none 0 0] := hbr.far (p := ⟨w.heap.size, 1, none⟩) (by simp) _
  have c3x : ∀ o, ((w1.setCell ⟨w.heap.size, 1, none⟩ (.slice A1 nn c1)).alloc o).cell? ⟨w.heap.size, 3, none⟩ = some (.slice L nb bc) := fun o => by rw [(hbx2.alloc o).cell]; rfl
  simp only [List.getElem?_toArray, List.getElem?_cons_succ, List.getElem?_cons_zero] at c1x
  have HROW2 := hide (row_setCell hrow (p := ⟨w.heap.size, 1, none⟩) (row_blk_ne hrow hbx (by decide)) (.slice A1 nn c1))
  have HBE := hide (show Below w.heap.size w (w1.setCell ⟨w.heap.size, 1, none⟩ (.slice A1 nn c1)) from ((Below.refl _ _).grown hgw (Nat.le_refl _) (by simp)).setCell (Nat.le_refl _) _)
  have hz2 : (w1.setCell ⟨w.heap.size, 1, none⟩ (.slice A1 nn c1)).heap.size = w1.heap.size := by simp [World.setCell]
  have HZ2 := hide hz2
  have HBX2 := hide hbx2
  have HBR2 := hide hbr2
  have HL2 := hide (HL.out.below (HBE.out.mono hB))
  clear hrow hbx hbr hbx2 hbr2 hz2 hgw
  go_wp2_with (at_builtin; refine to_halt ?_)
  clear c1x f1x c3x
  generalize w1.setCell ⟨w.heap.size, 1, none⟩ (.slice A1 nn c1) = w2 at *
  refine of_halt (wpList_append_row _ rfl _ _ _ rfl 4 Tryd.underlying23 info_bool rfl (World.ownsRow_lit (base := w.heap.size) (size := 1) _ _ 0 HBE.out.size (by unfold maxLen; omega) rfl) (by simp [Act.eval, HZ2.out]) (HL2.out.alloc (by have := HBE.out.size; omega) _).rd (by intro u hu; simp at hu; rcases hu with ⟨x, _, rfl⟩ | ⟨x, _, rfl⟩ <;> rfl) rfl nb (by omega) (by omega) (by omega) (by have := HBE.out.size; simp; omega) ?_)
  intro A2 c2 w3 hrow2 hgr2
  have hob : (Value.slice (some ⟨w2.heap.size, 0, none⟩) 0 0).ownBlock = some w2.heap.size := by simp [Value.ownBlock]
  rw [hob] at hgr2
  clear hob
  have hbx3 := (HBX2.out.alloc (.cells #[] 4)).grown hgr2 (by intro e; injection e with e; exact absurd e (by have := HBX2.out.lt; omega))
  have hbr3 := (HBR2.out.alloc (.cells #[] 4)).grown hgr2 (by intro e; injection e with e; exact absurd e (by have := HBR2.out.lt; omega))
  have hbe3 := ((HBE.out.alloc HBE.out.size (.cells #[] 4)).grown hgr2 (by have := HBE.out.size; simp; omega) (by intro k hk; injection hk with hk; have := HBE.out.size; omega))
  have hr1 : w3.ownsRow w.heap.size 2 1 (.slice A1 nn c1) nn (#[].toList ++ nums.map (Value.int .i64)) := (HROW2.out.alloc (.cells #[] 4)).kept hgr2 (by
    right
    intro e
    have := HROW2.out.lt _ e
    omega)
  have c3y := hbx3.cell 3
  have f3y := hbx3.frozen 3
  have hbx4 : Blk (w3.setCell ⟨w.heap.size, 3, none⟩ (.slice A2 nb c2)) w.heap.size 25 #[.int .i64 kind, .slice A1 nn c1, .string text, .slice A2 nb c2] := by simpa using hbx3.set_ 3 (.slice A2 nb c2)
  have hbr4 : Blk (w3.setCell ⟨w.heap.size, 3, none⟩ (.slice A2 nb c2)) (w.heap.size + 1) 25 #[.int .i64 0, .slice none 0 0, .string { data := #[] }, .slice none 0 0] := hbr3.far (p := ⟨w.heap.size, 3, none⟩) (by simp) _
  have HR1 := hide (row_setCell hr1 (p := ⟨w.heap.size, 3, none⟩) (row_blk_ne hr1 hbx3 (by decide)) (.slice A2 nb c2))
  have HR2 := hide (row_setCell hrow2 (p := ⟨w.heap.size, 3, none⟩) (row_blk_ne hrow2 hbx3 (by decide)) (.slice A2 nb c2))
  have HBE4 := hide (hbe3.setCell (p := ⟨w.heap.size, 3, none⟩) (Nat.le_refl _) (.slice A2 nb c2))
  have HBX4 := hide hbx4
  have HBR4 := hide hbr4
  have c0y := hbx3.cell 0
  have c1y := hbx3.cell 1
  have c2y := hbx3.cell 2
  have d0y := hbr3.cell 0
  have d1y := hbr3.cell 1
  have d2y := hbr3.cell 2
  have d3y := hbr3.cell 3
  have e0y := hbr3.frozen 0
  have e1y := hbr3.frozen 1
  have e2y := hbr3.frozen 2
  have e3y := hbr3.frozen 3
  simp only [List.getElem?_toArray, List.getElem?_cons_succ, List.getElem?_cons_zero] at c0y c1y c2y c3y d0y d1y d2y d3y
  clear hgr2 hrow2 hbx3 hbr3 hbe3 hr1 hbx4 hbr4 HROW HROW2 HBE HBX2 HBR2 HL2 HL HN
  go_wp2
  refine bodyPost_ret (v := .agg #[.int .i64 kind, .slice A1 nn c1, .string text, .slice A2 nb c2]) (by simp [results, Tryd.results10, go_sem, *]) rfl ⟨A1, c1, A2, c2, rfl, ⟨Reads.of_own (base := w.heap.size) (e := 2) (c := c1) ?_, HRNG.out⟩, ⟨Reads.of_own (base := w.heap.size) (e := 4) (c := c2) ?_⟩, ?_⟩
  · have h := HR1.out
    rw [List.nil_append] at h
    have b0 := HBR4.out
    have h1 := row_set_blk (i := 0) (u := .int .i64 kind) h b0 (by decide)
    have b1 := b0.set_ 0 (.int .i64 kind)
    have h2 := row_set_blk (i := 1) (u := .slice A1 nn c1) h1 b1 (by decide)
    have b2 := b1.set_ 1 (.slice A1 nn c1)
    have h3 := row_set_blk (i := 2) (u := .string text) h2 b2 (by decide)
    have b3 := b2.set_ 2 (.string text)
    exact row_set_blk (i := 3) (u := .slice A2 nb c2) h3 b3 (by decide)
  · have h := HR2.out
    rw [List.nil_append] at h
    have b0 := HBR4.out
    have h1 := row_set_blk (i := 0) (u := .int .i64 kind) h b0 (by decide)
    have b1 := b0.set_ 0 (.int .i64 kind)
    have h2 := row_set_blk (i := 1) (u := .slice A1 nn c1) h1 b1 (by decide)
    have b2 := b1.set_ 1 (.slice A1 nn c1)
    have h3 := row_set_blk (i := 2) (u := .string text) h2 b2 (by decide)
    have b3 := b2.set_ 2 (.string text)
    exact row_set_blk (i := 3) (u := .slice A2 nb c2) h3 b3 (by decide)
  · exact (((HBE4.out.setCell (p := ⟨w.heap.size + 1, 0, none⟩) (Nat.le_succ _) _).setCell (p := ⟨w.heap.size + 1, 1, none⟩) (Nat.le_succ _) _).setCell (p := ⟨w.heap.size + 1, 2, none⟩) (Nat.le_succ _) _).setCell (p := ⟨w.heap.size + 1, 3, none⟩) (Nat.le_succ _) _
end Go.Proofs.YtbmkindgbabobaaDoor
