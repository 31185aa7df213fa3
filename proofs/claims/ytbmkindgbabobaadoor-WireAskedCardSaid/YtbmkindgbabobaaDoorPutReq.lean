/- PutRequest, the program's and the reference's: both hand back the frame of the very same bytes, or the same error. -/
import Derived.Test.YtbmkindgbabobaaDoorMay
namespace Go.Proofs.YtbmkindgbabobaaDoor
open Go.RowKit
set_option maxRecDepth 20000

/-- Bytes in new memory and an error's number. -/
def PutGives (w : World) (code : Int) (out : List Int) (e : Ending) (w' : World) : Prop :=
  ∃ A n c, e = .returned (.tuple #[.slice A n c, .int .i64 code]) ∧ Ow w' w.heap.size 5 (.slice A n c) n out ∧ Below w.heap.size w w'
def reqBody (nums : List Int) (text : List Int) (bs : List Bool) : List Int := nms nums ++ txt text ++ bts bs
def reqCode (kind : Int) (nums text : List Int) (bs : List Bool) : Int :=
  if kind < 1 ∨ 12 < kind then 162 else if mayB kind nums.length text.length bs.length = true then frameCode kind (reqBody nums text bs).length else 163
def reqOut (kind : Int) (nums text : List Int) (bs : List Bool) : List Int :=
  if reqCode kind nums text bs = 0 then frm kind (reqBody nums text bs) else []
theorem put_none (w : World) (code : Int) (out : List Int) (w' : World) (hb : Below w.heap.size w w') (h : out = []) : PutGives w code out (.returned (.tuple #[.slice none 0 0, .int .i64 code])) w' := by
  subst h; exact ⟨none, 0, 0, rfl, Ow.nil _ _ _, hb⟩
/-- What Frame hands back is what PutRequest hands back. -/
theorem put_of_frame {w w1 w' : World} {kind : Int} {body : List Int} {e : Ending} (h : FrameGives w1 kind body e w') (hb : Below w.heap.size w w1) : PutGives w (frameCode kind body.length) (frameOut kind body) e w' := by
  obtain ⟨A, n, c, rfl, ho, hb'⟩ := h
  exact ⟨A, n, c, rfl, ho.base_le hb.size, hb.trans (hb'.mono hb.size)⟩
theorem reqBody_len (nums text : List Int) (bs : List Bool) : text.length ≤ (reqBody nums text bs).length := by
  unfold reqBody txt; simp; omega

theorem Wst.last {w : World} {base g m c : Nat} {xs : List Int} {x : Int} {bad : Bool} {A : Option Addr} (h : Wst w base g (xs ++ [x]) bad A (m + 1) c) :
    ∃ g2, A = some ⟨g2, 0, none⟩ ∧ w.cell? ⟨g2, m, none⟩ = some (.int .u8 x) ∧ w.frozen? ⟨g2, m, none⟩ = false ∧ 0 ≤ x ∧ x < 256 ∧
      ∀ y : Int, 0 ≤ y → y < 256 → Wst (w.setCell ⟨g2, m, none⟩ (.int .u8 y)) base g (xs ++ [y]) bad A (m + 1) c ∧ Below base w (w.setCell ⟨g2, m, none⟩ (.int .u8 y)) := by
  obtain ⟨g2, cap, hv, hbg, hlt⟩ := h.own.own.form (by omega)
  have hA : A = some ⟨g2, 0, none⟩ := by injection hv
  have hcc : c = cap := by injection hv
  subst hA hcc
  have hx := h.own.byt x (by simp)
  have hlen : xs.length = m := by have := h.own.len; simpa using this
  have hcell : w.cell? ⟨g2, m, none⟩ = some (.int .u8 x) := by
    rw [h.own.own.cellAt m (by omega)]
    simp [bv, ← hlen]
  have hne : g ≠ g2 := by
    have := h.own.blk_ne h.blk (by decide)
    intro e; apply this; simp [Value.ownBlock, e]
  refine ⟨g2, rfl, hcell, h.own.own.frozenAt m, hx.1, hx.2, fun y h0 h1 => ?_⟩
  have hs := h.own.own.stored m (.int .u8 y)
  have hset : (bv (xs ++ [x])).set m (.int .u8 y) = bv (xs ++ [y]) := by
    simp [bv, ← hlen]
  rw [hset] at hs
  refine ⟨⟨h.blk.far (p := ⟨g2, m, none⟩) hne _, ⟨hs.1, ?_⟩, h.lo⟩, (Below.refl _ _).setCell hbg _⟩
  intro z hz
  rcases List.mem_append.1 hz with hz | hz
  · exact h.own.byt z (List.mem_append.2 (.inl hz))
  · simp at hz; omega

set_option maxHeartbeats 1000000 in
theorem wPutReq_kind (kind : Int) (hk : kind < 1 ∨ 12 < kind) (nums : List Int) (text : ByteArray) (bs : List Bool) (N L : Option Addr) (nn nc nb bc : Nat) (w : World) :
    Calls Tryd.prog 11 #[.agg #[.int .i64 kind, .slice N nn nc, .string text, .slice L nb bc]] w (PutGives w (reqCode kind nums (sb text) bs) (reqOut kind nums (sb text) bs)) := by
  have hc : reqCode kind nums (sb text) bs = 162 := by unfold reqCode; rw [if_pos hk]
  have hout : reqOut kind nums (sb text) bs = [] := by unfold reqOut; rw [hc, if_neg (by omega)]
  rw [hc, hout]
  clear hc hout
  by_cases h1 : kind < 1
  · clear hk
    go_enter Tryd.func11, Tryd.ntmps11
    go_wp2
    go_ret2
    exact put_none _ _ _ _ ((Below.refl _ _).alloc (Nat.le_refl _) _) rfl
  · have h2 : 13 ≤ kind := by omega
    clear hk
    go_enter Tryd.func11, Tryd.ntmps11
    go_wp2
    go_ret2
    exact put_none _ _ _ _ ((Below.refl _ _).alloc (Nat.le_refl _) _) rfl

set_option maxHeartbeats 2000000 in
theorem wPutReq_in (k : Nat) (h1 : 1 ≤ k) (h2 : k ≤ 12) (nums : List Int) (text : ByteArray) (bs : List Bool) (B : Nat) (N L : Option Addr) (nn nc nb bc : Nat) (w : World) (hT : Tab w)
    (hN : Is w B N nn nums) (hL : Lb w B L nb bs) (hB : B ≤ w.heap.size) :
    Calls Tryd.prog 11 #[.agg #[.int .i64 k, .slice N nn nc, .string text, .slice L nb bc]] w (PutGives w (reqCode k nums (sb text) bs) (reqOut k nums (sb text) bs)) := by
  have HNl := hide hN.len
  have HLl := hide hL.len
  have HN := hide hN
  have HL := hide hL
  have HT := hide hT
  clear hT hN hL
  have hkk : ¬ ((k : Int) < 1 ∨ 12 < (k : Int)) := by omega
  cases hm : mayB k nn text.size nb with
  | false =>
    have hc : reqCode k nums (sb text) bs = 163 := by unfold reqCode; rw [if_neg hkk, HNl.out, HLl.out, sb_len, hm]; rfl
    have hout : reqOut k nums (sb text) bs = [] := by unfold reqOut; rw [hc, if_neg (by omega)]
    rw [hc, hout]
    have HM := hide hm
    clear hc hout hkk hm
    go_enter Tryd.func11, Tryd.ntmps11
    go_wp2_with fail
    refine (sendable_any k h1 h2 _ _ _ _ _ _ _ _ (HT.out.below ((Below.refl _ _).alloc (Nat.le_refl _) _) HT.out.pos)).mono ?_
    rintro e w1 ⟨rfl, hb⟩
    rw [HM.out]
    have HB := hide (((Below.refl w.heap.size w).alloc (Nat.le_refl _) _).trans (hb.mono (by simp)))
    clear hb
    go_wp2
    go_ret2
    exact put_none _ _ _ _ HB.out rfl
  | true =>
    have HM := hide hm
    clear hm
    have hcode : reqCode k nums (sb text) bs = frameCode k (reqBody nums (sb text) bs).length := by unfold reqCode; rw [if_neg hkk, HNl.out, HLl.out, sb_len, HM.out, if_pos rfl]
    clear hkk
    by_cases ht : 2097152 < text.size
    · have hfc : frameCode k (reqBody nums (sb text) bs).length = 163 := by
        have := reqBody_len nums (sb text) bs
        rw [sb_len] at this
        unfold frameCode; rw [if_neg (by omega), if_pos (by omega)]
      have hout : reqOut k nums (sb text) bs = [] := by unfold reqOut; rw [hcode, hfc, if_neg (by omega)]
      rw [hcode, hfc, hout]
      clear hcode hfc hout
      go_enter Tryd.func11, Tryd.ntmps11
      go_wp2_with fail
      refine (sendable_any k h1 h2 _ _ _ _ _ _ _ _ (HT.out.below ((Below.refl _ _).alloc (Nat.le_refl _) _) HT.out.pos)).mono ?_
      rintro e w1 ⟨rfl, hb⟩
      rw [HM.out]
      have hc1 : w1.cell? ⟨w.heap.size, 2, none⟩ = some (.string text) := by
        rw [hb.cell (p := ⟨w.heap.size, 2, none⟩) (by simp)]
        rw [(Blk.new w _ _).cell]; rfl
      have HB := hide (((Below.refl w.heap.size w).alloc (Nat.le_refl _) _).trans (hb.mono (by simp)))
      clear hb
      go_wp2
      go_ret2
      exact put_none _ _ _ _ HB.out rfl
    · have hout : reqOut k nums (sb text) bs = frameOut k (reqBody nums (sb text) bs) := by unfold reqOut frameOut; rw [hcode]
      rw [hcode, hout]
      clear hcode hout
      have hmay : nn = tk k ∧ nb ≤ 4096 := by
        have := HM.out
        unfold mayB at this
        simp only [decide_eq_true_eq] at this
        omega
      have htk : tk k ≤ 6 := by unfold tk; split <;> (try split) <;> (try split) <;> omega
      have hnn : nn ≤ 6 := by omega
      have hnb : nb ≤ 4096 := hmay.2
      clear hmay htk
      go_enter Tryd.func11, Tryd.ntmps11
      go_wp2_with fail
      refine (sendable_any k h1 h2 _ _ _ _ _ _ _ _ (HT.out.below ((Below.refl _ _).alloc (Nat.le_refl _) _) HT.out.pos)).mono ?_
      rintro e w1 ⟨rfl, hb⟩
      rw [HM.out]
      have hbx : Blk w1 w.heap.size 25 #[.int .i64 k, .slice N nn nc, .string text, .slice L nb bc] := (Blk.new w _ _).below hb (by simp)
      have hb0 : Below w.heap.size w w1 := ((Below.refl w.heap.size w).alloc (Nat.le_refl _) _).trans (hb.mono (by simp))
      have hz : w.heap.size < w1.heap.size := hbx.lt
      have HW1 : Hid (Wst (w1.alloc (.cells #[.slice none 0 0, .bool false] 74)) w1.heap.size w1.heap.size [] false none 0 0) := ⟨Blk.new _ _ _, Ow.nil _ _ _, Nat.le_refl _⟩
      have HBX := hide hbx
      have HB0 := hide hb0
      have c1 := hbx.cell 1
      have c2 := hbx.cell 2
      simp only [List.getElem?_toArray, List.getElem?_cons_succ, List.getElem?_cons_zero] at c1 c2
      have c1' : ∀ o, (w1.alloc o).cell? ⟨w.heap.size, 1, none⟩ = some (.slice N nn nc) := fun o => by rw [World.cell?_alloc_lt _ _ _ hz]; exact c1
      clear hb hbx hb0
      go_wp2_with fail
      refine (wnums_any nums _ _ _ B _ _ _ _ _ HW1.out N nn nc ((HN.out.below (HB0.out.mono hB)).alloc (by omega) _) (by omega) (by omega)).mono ?_
      rintro e w2 ⟨rfl, hb2, A2, n2, d2, hw2⟩
      have hB2 := ((Below.refl w1.heap.size w1).alloc (Nat.le_refl _) _).trans hb2
      have hn2 : n2 ≤ 70 := by
        have e1 := hw2.len
        have e2 := HNl.out
        have e3 := cnt_small (n := nums.length) (by omega)
        have e4 := flat_len nums HN.out.rng
        simp only [nms, List.nil_append, List.length_append] at e1
        omega
      have hbx2 := HBX.out.below hB2 hz
      have c2 := hbx2.cell 2
      simp only [List.getElem?_toArray, List.getElem?_cons_succ, List.getElem?_cons_zero] at c2
      have HBX2 := hide hbx2
      have HW2 := hide hw2
      have HB2 := hide (HB0.out.trans (hB2.mono HB0.out.size))
      clear c1 c1' hb2 hw2 hB2 hbx2 HW1 HBX
      go_wp2_with fail
      refine (wtext_any text _ _ _ _ _ _ _ _ HW2.out (by omega)).mono ?_
      rintro e w3 ⟨rfl, hb3, A3, n3, d3, hw3⟩
      have hn3 : n3 ≤ 2097300 := by
        have e1 := hw3.len
        have e2 := HW2.out.len
        have e3 := cnt_small (n := text.size) (by omega)
        simp only [txt, List.length_append, sb_len] at e1 e2
        omega
      have hbx3 := HBX2.out.below hb3 hz
      have c3 := hbx3.cell 3
      simp only [List.getElem?_toArray, List.getElem?_cons_succ, List.getElem?_cons_zero] at c3
      have HBX3 := hide hbx3
      have HW3 := hide hw3
      have HB3 := hide (HB2.out.trans (hb3.mono HB0.out.size))
      clear c2 hb3 hw3 hbx3 HW2 HBX2
      go_wp2_with fail
      refine (wcount_any nb (by omega) _ _ _ _ _ _ _ _ HW3.out (by omega)).mono ?_
      rintro e w4 ⟨rfl, hb4, A4, n4, d4, hw4⟩
      have hn4 : n4 ≤ 2097310 := by
        have e1 := hw4.len
        have e2 := HW3.out.len
        have e3 := cnt_small (n := nb) (by omega)
        rw [List.length_append] at e1
        omega
      have hbx4 := HBX3.out.below hb4 hz
      have c3 := hbx4.cell 3
      simp only [List.getElem?_toArray, List.getElem?_cons_succ, List.getElem?_cons_zero] at c3
      generalize hx0 : [] ++ nms nums ++ txt (sb text) ++ cnt nb = xs0 at *
      have HX0 := hide hx0
      have HBX4 := hide hbx4
      have HW4 := hide hw4
      have HB4 := hide (HB3.out.trans (hb4.mono HB0.out.size))
      clear hb4 hw4 hbx4 HW3 HBX3 hx0 HM
      go_wp2_with fail
      go_loopw [5, 6, 43] (fun _ _ i wr => ∃ j : Nat, j ≤ nb ∧ i = .int .i64 j ∧ Hid (∃ A m c, Wst wr w1.heap.size w1.heap.size (xs0 ++ bitsB (bs.take j)) false A m c) ∧ Hid (Below w1.heap.size w4 wr)) (fun _ _ i _ => nb - (intOf i).toNat)
      case atStart => exact ⟨0, by omega, by go_num, hide ⟨A4, n4, d4, by simpa [bitsB, octs] using HW4.out⟩, hide (Below.refl _ _)⟩
      case round =>
        obtain ⟨j, hj, rfl, h5, hb5⟩ := hrel
        by_cases hlt : j < nb
        · have hll := (HL.out.below ((HB4.out.mono hB).trans (hb5.out.mono (by omega)))).at_ hlt
          obtain ⟨ad, x, rfl, _, hcx, hx⟩ := hll
          obtain ⟨A5, n5, d5, hw5⟩ := h5.out
          have hn5 : n5 ≤ 2100000 := by
            have e1 := hw5.len
            have e2 := HW4.out.len
            rw [List.length_append, bits_at bs j (by have := HLl.out; omega), octs_len] at e1
            omega
          have HI := hide (bitI_some hx)
          have HNX := hide (bits_next bs j (by have := HLl.out; omega))
          clear hx h5
          by_cases h8 : j % 8 = 0
          · have h8' : ((j : Int) % 8 == 0) = true := by simp; omega
            have HAH := hide (ahead_ofZ bs j (by have := HLl.out; omega) h8)
            have hc0 := hw5.blk.cell 0
            have hf0 := hw5.blk.frozen 0
            simp only [List.getElem?_toArray, List.getElem?_cons_zero] at hc0
            have HW5 := hide hw5
            clear hw5
            cases x with
            | false =>
              go_wp2_with (at_builtin; refine to_halt ?_)
              refine of_halt (wpList_append_wlit rfl _ _ _ rfl Tryd.underlying27 info_u8 HW5.out [0] rfl (by simp [bv]) (by intro x hx; simp at hx; omega) rfl rfl rfl (m := 1) rfl (n5 + 1) rfl (xs0 ++ ahead bs j) (by rw [HAH.out, List.append_assoc]) (by omega) ?_)
              intro A6 c6 w6 hP hcell hfroz
              go_wp2
              go_roundw
              case rel =>
                refine ⟨j + 1, by omega, by go_num, hide ⟨A6, n5 + 1, c6, ?_⟩, hide (hb5.out.trans hP.out.1)⟩
                have h := hP.out.2
                rw [ahead_eq] at h
                rw [HNX.out, HI.out]
                simpa using h
              case measure => simp [intOf]; omega
            | true =>
              go_wp2_with (at_builtin; refine to_halt ?_)
              refine of_halt (wpList_append_wlit rfl _ _ _ rfl Tryd.underlying27 info_u8 HW5.out [0] rfl (by simp [bv]) (by intro x hx; simp at hx; omega) rfl rfl rfl (m := 1) rfl (n5 + 1) rfl (xs0 ++ ahead bs j) (by rw [HAH.out, List.append_assoc]) (by omega) ?_)
              intro A6 c6 w6 hP hcell hfroz
              have h := hP.out.2
              rw [ahead_eq, ← List.append_assoc] at h
              obtain ⟨g2, rfl, hcl, hfl, ho0, ho1, hst⟩ := h.last
              have hcg := h.blk.cell 0
              simp only [List.getElem?_toArray, List.getElem?_cons_zero] at hcg
              have hv : bits .or .u8 (octP (bs.take j) (j / 8) 8) 128 = octP (bs.take j) (j / 8) 8 + bitI bs j * (128 / 2 ^ (j % 8)) := by
                have := or_bit _ 0 (by omega) ho0 ho1 (oct_new bs j 0 h8).2
                rw [HI.out, h8]
                simpa using this
              have hlt : octP (bs.take j) (j / 8) 8 + bitI bs j * (128 / 2 ^ (j % 8)) < 256 ∧ 0 ≤ octP (bs.take j) (j / 8) 8 + bitI bs j * (128 / 2 ^ (j % 8)) := by
                have := octP_bd (bs.take (j + 1)) (j / 8)
                rw [(oct_new bs j (j % 8) rfl).1] at this
                omega
              have HV := hide hv
              have HLT := hide hlt
              generalize octP (bs.take j) (j / 8) 8 = o at *
              have HST := hide hst
              have HB6 := hide hP.out.1
              clear h hst hP hv hlt
              go_wp2
              go_region
              go_wp2
              rw [HV.out]
              go_roundw
              case rel =>
                have hz := HST.out _ HLT.out.2 HLT.out.1
                refine ⟨j + 1, by omega, by go_num, hide ⟨some ⟨g2, 0, none⟩, n5 + 1, c6, ?_⟩, hide ((hb5.out.trans HB6.out).trans hz.2).drew⟩
                rw [HNX.out, ← List.append_assoc]
                exact hz.1.drew
              case measure => simp [intOf]; omega
          · have h8' : ((j : Int) % 8 == 0) = false := by simp; omega
            have HAH := hide (ahead_ofS bs j (by have := HLl.out; omega) h8)
            cases x with
            | false =>
              have HW5 := hide hw5
              clear hw5
              go_wp2
              go_roundw
              case rel =>
                refine ⟨j + 1, by omega, by go_num, hide ⟨A5, n5, d5, ?_⟩, hb5⟩
                have h := HW5.out
                rw [← HAH.out, ahead_eq] at h
                rw [HNX.out, HI.out]
                simpa using h
              case measure => simp [intOf]; omega
            | true =>
              have h := hw5
              rw [← HAH.out, ahead_eq, ← List.append_assoc] at h
              obtain ⟨m5, rfl⟩ : ∃ m5, n5 = m5 + 1 := ⟨n5 - 1, by have := h.len; simp at this; omega⟩
              obtain ⟨g2, rfl, hcl, hfl, ho0, ho1, hst⟩ := h.last
              have hcg := h.blk.cell 0
              simp only [List.getElem?_toArray, List.getElem?_cons_zero] at hcg
              have hv : bits .or .u8 (octP (bs.take j) (j / 8) 8) (128 / 2 ^ (j % 8)) = octP (bs.take j) (j / 8) 8 + bitI bs j * (128 / 2 ^ (j % 8)) := by
                have := or_bit _ (j % 8) (by omega) ho0 ho1 (oct_new bs j (j % 8) rfl).2
                rw [HI.out, this]
                simp
              have hlt : octP (bs.take j) (j / 8) 8 + bitI bs j * (128 / 2 ^ (j % 8)) < 256 ∧ 0 ≤ octP (bs.take j) (j / 8) 8 + bitI bs j * (128 / 2 ^ (j % 8)) := by
                have := octP_bd (bs.take (j + 1)) (j / 8)
                rw [(oct_new bs j (j % 8) rfl).1] at this
                omega
              have HV := hide hv
              have HLT := hide hlt
              generalize octP (bs.take j) (j / 8) 8 = o at *
              have HST := hide hst
              clear h hst hv hlt hw5
              go_wp2
              go_region
              go_wp2
              rw [HV.out]
              go_roundw
              case rel =>
                have hz := HST.out _ HLT.out.2 HLT.out.1
                refine ⟨j + 1, by omega, by go_num, hide ⟨some ⟨g2, 0, none⟩, m5 + 1, d5, ?_⟩, hide (hb5.out.trans hz.2).drew⟩
                rw [HNX.out, ← List.append_assoc]
                exact hz.1.drew
              case measure => simp [intOf]; omega
        · obtain rfl : j = nb := by omega
          obtain ⟨A5, n5, d5, hw5⟩ := h5.out
          have hbx5 := HBX4.out.below hb5.out hz
          have c0 := hbx5.cell 0
          have hc0 := hw5.blk.cell 0
          simp only [List.getElem?_toArray, List.getElem?_cons_zero] at c0 hc0
          have hbody : xs0 ++ bitsB (bs.take j) = reqBody nums (sb text) bs := by
            rw [List.take_of_length_le (by have := HLl.out; omega), ← HX0.out]
            unfold reqBody bts
            rw [HLl.out]; simp
          have HOW := hide (hbody ▸ hw5.own)
          have HB5 := hide (HB4.out.trans (hb5.out.mono HB0.out.size))
          clear hw5 hbx5 hbody h5 hb5
          go_wp2_with fail
          go_region_with (go_at_call 27; refine (wFrame_any k _ _ _ _ _ (reqBody nums (sb text) bs) (HOW.out.bs.drewN 1) (Nat.le_refl _)).mono ?_; rintro e w6 hfr; obtain ⟨A6, n6, c6, rfl, ho6, hb6⟩ := hfr)
          all_goals
            go_wp2
            go_ret2
            exact ⟨A6, n6, c6, rfl, ho6.base_le HB5.out.size, HB5.out.drew.trans (hb6.mono HB5.out.size)⟩
end Go.Proofs.YtbmkindgbabobaaDoor
