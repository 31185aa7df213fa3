/- The reference's GetRequest. -/
import Derived.Test.YtbmkindgbabobaaDoorGetReqW
namespace Go.Proofs.YtbmkindgbabobaaDoor
open Go.RowKit
set_option maxRecDepth 20000

theorem may_int (kind : Int) (h1 : 1 ≤ kind) (h2 : kind ≤ 12) (N : Option Addr) (nn nc : Nat) (text : ByteArray) (L : Option Addr) (nb bc : Nat) (w : World) :
    Calls Tryd.prog 38 #[.agg #[.int .i64 kind, .slice N nn nc, .string text, .slice L nb bc]] w fun e w' => e = .returned (.bool (mayB kind nn text.size nb)) ∧ Below w.heap.size w w' :=
  requestMay_any kind h1 h2 N nn nc text L nb bc w

set_option maxHeartbeats 2000000 in
theorem rGetReq_main (kind : Int) (h1 : 1 ≤ kind) (h2 : kind ≤ 12) (body : List Int) (B : Nat) (A : Option Addr) (n c : Nat) (w : World) (hs : Bs w B A n body) (hB : B ≤ w.heap.size) (hn : n ≤ lim) (hc : n ≤ c) (hc2 : c ≤ 9223372036854775807) :
    Calls Tryd.prog 17 #[.agg #[.int .i64 0, .int .i64 kind, .slice A n c]] w (GotReq w (gotV 0 kind body)) := by
  have hl' : ¬ (2097152 : Int) < (n : Int) := by have := lim_eq; omega
  have h1' : ¬ kind < 1 := by omega
  have h2' : ¬ (12 : Int) < kind := by omega
  have HS := hide hs
  have HN := hide hn
  have HC := hide hc
  have HC2 := hide hc2
  have H12 := hide (And.intro h1 h2)
  clear hs hn hc hc2 h1 h2
  go_enter Tryd.func17, Tryd.ntmps17
  go_upto_region 9 with fail
  have a2 := Blk.new (w.alloc (.cells #[.int .i64 0, .int .i64 kind, .slice A n c] 35)) 25 #[.int .i64 0, .slice none 0 0, .string { data := #[] }, .slice none 0 0]
  have a3 := Blk.new ((w.alloc (.cells #[.int .i64 0, .int .i64 kind, .slice A n c] 35)).alloc (.cells #[.int .i64 0, .slice none 0 0, .string { data := #[] }, .slice none 0 0] 25)) 90 #[.slice A n c, .bool false]
  have a4 := Blk.new (((w.alloc (.cells #[.int .i64 0, .int .i64 kind, .slice A n c] 35)).alloc (.cells #[.int .i64 0, .slice none 0 0, .string { data := #[] }, .slice none 0 0] 25)).alloc (.cells #[.slice A n c, .bool false] 90)) 25 #[.int .i64 kind, .slice none 0 0, .string { data := #[] }, .slice none 0 0]
  have b2 := (a2.alloc (.cells #[.slice A n c, .bool false] 90)).alloc (.cells #[.int .i64 kind, .slice none 0 0, .string { data := #[] }, .slice none 0 0] 25)
  have b3 := a3.alloc (.cells #[.int .i64 kind, .slice none 0 0, .string { data := #[] }, .slice none 0 0] 25)
  have hbel : Below w.heap.size w ((((w.alloc (.cells #[.int .i64 0, .int .i64 kind, .slice A n c] 35)).alloc (.cells #[.int .i64 0, .slice none 0 0, .string { data := #[] }, .slice none 0 0] 25)).alloc (.cells #[.slice A n c, .bool false] 90)).alloc (.cells #[.int .i64 kind, .slice none 0 0, .string { data := #[] }, .slice none 0 0] 25)) := (((((Below.refl _ _).alloc (Nat.le_refl _) _).alloc (by simp) _).alloc (by simp; omega) _).alloc (by simp; omega) _)
  simp only [World.size_alloc] at b2 b3 a4
  have hst : St 90 _ w.heap.size (w.heap.size + 2) body false := ⟨⟨A, n, c, b3, (HS.out.below (hbel.mono hB)).more hB, HC.out, HC2.out, HN.out⟩, by omega⟩
  have HQ0 : Hid (MidQ 90 w (w.heap.size + 1 + 1 + 1) #[.int .i64 kind, .slice none 0 0, .string { data := #[] }, .slice none 0 0] none 0 0 [] body false _) := hide ⟨by omega, a4, b2, World.ownsRow_nil _ _ _ _, by simp, hst, hbel⟩
  generalize ((((w.alloc (.cells #[.int .i64 0, .int .i64 kind, .slice A n c] 35)).alloc (.cells #[.int .i64 0, .slice none 0 0, .string { data := #[] }, .slice none 0 0] 25)).alloc (.cells #[.slice A n c, .bool false] 90)).alloc (.cells #[.int .i64 kind, .slice none 0 0, .string { data := #[] }, .slice none 0 0] 25)) = W1 at *
  clear a2 a3 a4 b2 b3 hbel hst
  generalize hqe : w.heap.size + 1 + 1 + 1 = q at *
  go_wp2_with fail
  refine (rrnums_any _ w.heap.size _ body false HQ0.out.st).mono ?_
  rintro e w2 ⟨hb2, v1, r1, b1, ⟨N, nn, nc, rfl, hrow, hrng⟩, h2, hf1⟩
  have hq1 := HQ0.out.bel_ hb2 h2
  have hrow' : w2.ownsRow (w.heap.size + 3) 2 1 (.slice N nn nc) nn (v1.map (Value.int .i64)) := by
    have hsz : w.heap.size + 3 ≤ W1.heap.size := by have := HQ0.out.q_ge; have := HQ0.out.blk.lt; omega
    refine ⟨hrow.1, ?_⟩
    rcases hrow.2 with hn | ⟨k, cap, cur, e1, hk, rest⟩
    · exact .inl hn
    · exact .inr ⟨k, cap, cur, e1, by omega, rest⟩
  obtain ⟨q0, q1, q2, q3⟩ := req_cells hq1.blk
  have z1 := hq1.blk.frozen 1
  have HQ1 := hide (MidQ.set ⟨hq1.q_ge, hq1.blk, hq1.res, hrow', hrng, hq1.st, hq1.bel⟩ 1 (.slice N nn nc))
  have HF1 := hide hf1
  clear hb2 h2 hf1 hq1 hrow hrng hrow'
  go_wp2_with fail
  clear q0 q1 q2 q3 z1
  generalize w2.setCell ⟨q, 1, none⟩ (.slice N nn nc) = wc at *
  refine (rrtext_any _ w.heap.size _ r1 b1 HQ1.out.st).mono ?_
  rintro e w4 ⟨hb4, v2, r2, b2, ⟨text, rfl, rfl⟩, h4, hf2⟩
  have hq2 := HQ1.out.bel_ hb4 h4
  obtain ⟨q0, q1, q2, q3⟩ := req_cells hq2.blk
  have z2 := hq2.blk.frozen 2
  have HQ2 := hide (hq2.set 2 (.string text))
  have HF2 := hide hf2
  clear hb4 h4 hf2 hq2
  go_wp2_with fail
  clear q0 q1 q2 q3 z2
  generalize w4.setCell ⟨q, 2, none⟩ (.string text) = w5 at *
  refine (rrbits_any _ w.heap.size _ r2 b2 HQ2.out.st).mono ?_
  rintro e w6 ⟨hb6, v3, r3, b3, ⟨L, nb, bc, rfl, hrowb⟩, h6, hf3⟩
  have hq3 := HQ2.out.bel_ hb6 h6
  obtain ⟨q0, q1, q2, q3⟩ := req_cells hq3.blk
  have z3 := hq3.blk.frozen 3
  have HQ3 := hide (hq3.set 3 (.slice L nb bc))
  have HRB := hide (row_set_blk (i := 3) (u := .slice L nb bc) hrowb hq3.blk (by decide))
  have HF3 := hide hf3
  clear hb6 h6 hf3 hq3 hrowb
  have hreq := req_of (kind := kind) HF1.out HF2.out HF3.out
  have hbl : body.length ≤ lim := by rw [HS.out.len]; exact HN.out
  have hl1 : v1.length = nn := by have := HQ3.out.row.1; simpa using this
  have hl3 : v3.length = nb := by have := HRB.out.1; simpa using this
  have hl2 : (sb text).length = text.size := sb_len text
  rw [hl1, hl2, hl3] at hreq
  have HREQ := hide hreq
  have HBL := hide hbl
  have HL1 := hide hl1
  have HL3 := hide hl3
  clear hreq hbl hl1 hl2 hl3
  go_upto_region 12 with fail
  clear q0 q1 q2 q3 z3
  generalize w6.setCell ⟨q, 3, none⟩ (.slice L nb bc) = w7 at *
  obtain ⟨q0, q1, q2, q3⟩ := req_cells HQ3.out.blk
  obtain ⟨e0, e1, e2, e3⟩ := req_cells HQ3.out.res
  have y0 := HQ3.out.res.frozen 0
  have y1 := HQ3.out.res.frozen 1
  have y2 := HQ3.out.res.frozen 2
  have y3 := HQ3.out.res.frozen 3
  have hpt := HQ3.out.st.parts
  rw [show w.heap.size + 2 = w.heap.size + 1 + 1 from rfl] at hpt
  obtain ⟨A9, m9, d9, c0, c1, _, _, hl9, _, _⟩ := hpt
  cases b3 with
  | true =>
    have HG := hide (gotV_no H12.out.1 H12.out.2 HBL.out (by rw [HREQ.out]; simp))
    go_wp2
    refine bodyPost_ret (v := .tuple #[.agg #[.int .i64 0, .slice none 0 0, .string { data := #[] }, .slice none 0 0], .int .i64 163]) (by simp [results, Tryd.results17, go_sem, *]) rfl ?_
    rw [HG.out]
    exact fin_no HQ3.out _ _ _ _
  | false =>
    by_cases hr : r3 = []
    · subst hr
      obtain rfl : m9 = 0 := by simpa using hl9.symm
      go_wp2_with fail
      refine (may_int kind H12.out.1 H12.out.2 N nn nc text L nb bc w7).mono ?_
      rintro e w8 ⟨rfl, hb8⟩
      have hq8 := HQ3.out.below_ hb8
      have HR8 := hide (row_bel HRB.out (Bel.of_below (g := w7.heap.size) hb8) (fun e => Nat.lt_irrefl _ (HRB.out.lt _ e).2))
      clear q0 q1 q2 q3 e0 e1 e2 e3 y0 y1 y2 y3 c0 c1 hb8
      obtain ⟨q0, q1, q2, q3⟩ := req_cells hq8.blk
      obtain ⟨e0, e1, e2, e3⟩ := req_cells hq8.res
      have y0 := hq8.res.frozen 0
      have y1 := hq8.res.frozen 1
      have y2 := hq8.res.frozen 2
      have y3 := hq8.res.frozen 3
      have HQ8 := hide hq8
      clear hq8 hl9
      cases hm : mayB kind nn text.size nb with
      | false =>
        have HG := hide (gotV_no H12.out.1 H12.out.2 HBL.out (by rw [HREQ.out]; simp [hm]))
        clear hm
        go_wp2
        refine bodyPost_ret (v := .tuple #[.agg #[.int .i64 0, .slice none 0 0, .string { data := #[] }, .slice none 0 0], .int .i64 163]) (by simp [results, Tryd.results17, go_sem, *]) rfl ?_
        rw [HG.out]
        exact fin_no HQ8.out _ _ _ _
      | true =>
        have HG := hide (gotV_yes (a := v1) (b := sb text) (c := v3) H12.out.1 H12.out.2 HBL.out (by rw [HREQ.out]; simp [hm]))
        have HM := hide hm
        clear hm
        go_wp2
        refine bodyPost_ret (v := .tuple #[.agg #[.int .i64 kind, .slice N nn nc, .string text, .slice L nb bc], .int .i64 0]) (by simp [results, Tryd.results17, go_sem, *]) rfl ?_
        rw [HG.out]
        exact fin_ok HQ8.out HQ2.out.bel.size HR8.out (by rw [HL1.out, HL3.out, sb_len]; exact HM.out) _ _ _ _
    · have hm9 : (0 : Int) < (m9 : Int) := by
        have : r3.length ≠ 0 := fun h => hr (List.eq_nil_of_length_eq_zero h)
        omega
      have HG := hide (gotV_no H12.out.1 H12.out.2 HBL.out (by rw [HREQ.out]; simp [hr]))
      go_wp2
      refine bodyPost_ret (v := .tuple #[.agg #[.int .i64 0, .slice none 0 0, .string { data := #[] }, .slice none 0 0], .int .i64 163]) (by simp [results, Tryd.results17, go_sem, *]) rfl ?_
      rw [HG.out]
      exact fin_no HQ3.out _ _ _ _

theorem rGetReq_any (code kind : Int) (body : List Int) (B : Nat) (A : Option Addr) (n c : Nat) (w : World) (hs : Bs w B A n body) (hB : B ≤ w.heap.size) (hc : n ≤ c) (hc2 : c ≤ 9223372036854775807) :
    Calls Tryd.prog 17 #[.agg #[.int .i64 code, .int .i64 kind, .slice A n c]] w (GotReq w (gotV code kind body)) := by
  by_cases h0 : code = 0
  · subst h0
    by_cases hk : kind < 1 ∨ 12 < kind
    · exact rGetReq_kind kind hk body A n c w
    · by_cases hl : n ≤ lim
      · exact rGetReq_main kind (by omega) (by omega) body B A n c w hs hB hl hc hc2
      · exact rGetReq_long kind (by omega) (by omega) body A n c w hs.len (by omega)
  · exact rGetReq_code code kind h0 body A n c w
end Go.Proofs.YtbmkindgbabobaaDoor
