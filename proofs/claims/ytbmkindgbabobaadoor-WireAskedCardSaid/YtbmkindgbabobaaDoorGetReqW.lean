/- The program's GetRequest. -/
import Derived.Test.YtbmkindgbabobaaDoorGetReq
namespace Go.Proofs.YtbmkindgbabobaaDoor
open Go.RowKit
set_option maxRecDepth 20000

/-- GetRequest's own blocks: the scanner, the result, the request q with the cells cs; the numbers' row. -/
structure MidQ (t : TypeId) (w : World) (q : Nat) (cs : Array Value) (N : Option Addr) (nn nc : Nat) (v1 r1 : List Int) (b1 : Bool) (wc : World) : Prop where
  q_ge : w.heap.size + 3 ≤ q
  blk : Blk wc q 25 cs
  res : Blk wc (w.heap.size + 1) 25 #[.int .i64 0, .slice none 0 0, .string { data := #[] }, .slice none 0 0]
  row : wc.ownsRow (w.heap.size + 3) 2 1 (.slice N nn nc) nn (v1.map (Value.int .i64))
  rng : ∀ x ∈ v1, I64 x
  st : St t wc w.heap.size (w.heap.size + 2) r1 b1
  bel : Below w.heap.size w wc
section
variable {t : TypeId} {w wc w' : World} {q : Nat} {cs : Array Value} {N : Option Addr} {nn nc : Nat} {v1 r1 r2 : List Int} {b1 b2 : Bool}
theorem MidQ.set (h : MidQ t w q cs N nn nc v1 r1 b1 wc) (i : Nat) (u : Value) : MidQ t w q (cs.setIfInBounds i u) N nn nc v1 r1 b1 (wc.setCell ⟨q, i, none⟩ u) :=
  ⟨h.q_ge, h.blk.set_ i u, h.res.far (p := ⟨q, i, none⟩) (by have := h.q_ge; intro e; simp at e; omega) u, row_set_blk h.row h.blk (by decide), h.rng,
    h.st.keep ((Below.refl _ _).setCell (p := ⟨q, i, none⟩) (by have := h.q_ge; show w.heap.size + 2 + 1 ≤ q; omega) u), h.bel.setCell (by have := h.q_ge; show w.heap.size ≤ q; omega) u⟩
theorem MidQ.bel_ (h : MidQ t w q cs N nn nc v1 r1 b1 wc) (hb : Bel wc.heap.size (w.heap.size + 2) wc w') (hs : St t w' w.heap.size (w.heap.size + 2) r2 b2) : MidQ t w q cs N nn nc v1 r2 b2 w' :=
  ⟨h.q_ge, h.blk.bel hb (by have := h.q_ge; omega), h.res.bel hb (by omega), row_bel h.row hb (fun e => by have := (h.row.lt _ e).1; omega), h.rng, hs, h.bel.trans (hb.below (by omega) h.bel.size)⟩
theorem MidQ.below_ (h : MidQ t w q cs N nn nc v1 r1 b1 wc) (hb : Below wc.heap.size wc w') : MidQ t w q cs N nn nc v1 r1 b1 w' :=
  h.bel_ (.of_below hb) (h.st.below hb)
end
/-- The request's own block behind its numbers. -/
def MidReq (t : TypeId) (w : World) (kind : Int) (body : List Int) (q : Nat) (wc : World) : Prop :=
  ∃ v1 r1 b1 N nn nc, MidQ t w q #[.int .i64 kind, .slice N nn nc, .string { data := #[] }, .slice none 0 0] N nn nc v1 r1 b1 wc ∧ nxt false (pNums body) = if b1 then none else some (v1, r1)

/-- What the numbers' reader leaves inside GetRequest. -/
def AfterNums (t : TypeId) (w W' : World) (kind : Int) (body : List Int) (e : Ending) (w3 : World) : Prop :=
  ∃ v1 r1 b1 N nn nc, e = .returned (.slice N nn nc) ∧ w3.cell? ⟨w.heap.size, 1, none⟩ = some (.int .i64 kind) ∧ (∀ o, (w3.alloc o).cell? ⟨w.heap.size, 1, none⟩ = some (.int .i64 kind)) ∧
    Hid (Bel W'.heap.size (w.heap.size + 2) W' w3 ∧ Blk w3 (w.heap.size + 1) 25 #[.int .i64 0, .slice none 0 0, .string { data := #[] }, .slice none 0 0] ∧
      w3.ownsRow (w.heap.size + 3) 2 1 (.slice N nn nc) nn (v1.map (Value.int .i64)) ∧ (∀ x ∈ v1, I64 x) ∧ St t w3 w.heap.size (w.heap.size + 2) r1 b1 ∧ Below w.heap.size w w3 ∧
      nxt false (pNums body) = if b1 then none else some (v1, r1))
theorem wnums_in {kind : Int} {body : List Int} {w W1 W' : World} {cs : Array Value} (hbW : Below W1.heap.size W1 W') (hsz : W1.heap.size = w.heap.size + 3)
    (hF : Blk W1 w.heap.size 35 cs) (hcs : cs[1]? = some (.int .i64 kind))
    (hR : Blk W1 (w.heap.size + 1) 25 #[.int .i64 0, .slice none 0 0, .string { data := #[] }, .slice none 0 0])
    (hst : St 84 W1 w.heap.size (w.heap.size + 2) body false) (hb : Below w.heap.size w W1) :
    Calls Tryd.prog 44 #[.pointer (some ⟨w.heap.size + 1 + 1, 0, none⟩)] W' (AfterNums 84 w W' kind body) := by
  have hsz' := hbW.size
  refine (wrnums_any W' w.heap.size (w.heap.size + 1 + 1) body false (hst.below hbW)).mono ?_
  rintro e w3 ⟨hb3, v1, r1, b1, ⟨N, nn, nc, rfl, hrow, hrng⟩, h3, hf⟩
  have hF3 := (hF.below hbW hF.lt).bel hb3 (by omega)
  refine ⟨v1, r1, b1, N, nn, nc, rfl, by rw [hF3.cell]; exact hcs, fun o => by rw [(hF3.alloc o).cell]; exact hcs, hide ⟨hb3, (hR.below hbW hR.lt).bel hb3 (by omega), ?_, hrng, h3, hb.trans ((hbW.mono (by omega)).trans (hb3.below (by omega) (by omega))), hf⟩⟩
  refine ⟨hrow.1, ?_⟩
  rcases hrow.2 with hn | ⟨k, cap, cur, e1, hk, rest⟩
  · exact .inl hn
  · exact .inr ⟨k, cap, cur, e1, by omega, rest⟩

/-- AfterNums' hidden words. -/
abbrev NumsWords (t : TypeId) (w W' w3 : World) (body : List Int) (v1 r1 : List Int) (b1 : Bool) (N : Option Addr) (nn nc : Nat) : Prop :=
  Bel W'.heap.size (w.heap.size + 2) W' w3 ∧ Blk w3 (w.heap.size + 1) 25 #[.int .i64 0, .slice none 0 0, .string { data := #[] }, .slice none 0 0] ∧
      w3.ownsRow (w.heap.size + 3) 2 1 (.slice N nn nc) nn (v1.map (Value.int .i64)) ∧ (∀ x ∈ v1, I64 x) ∧ St t w3 w.heap.size (w.heap.size + 2) r1 b1 ∧ Below w.heap.size w w3 ∧
      nxt false (pNums body) = if b1 then none else some (v1, r1)
theorem mid_alloc {t : TypeId} {w W' w3 : World} {kind : Int} {body v1 r1 : List Int} {b1 : Bool} {N : Option Addr} {nn nc : Nat} (hsz : w.heap.size + 3 ≤ W'.heap.size) (h : NumsWords t w W' w3 body v1 r1 b1 N nn nc) :
    MidReq t w kind body w3.heap.size (w3.alloc (.cells #[.int .i64 kind, .slice N nn nc, .string { data := #[] }, .slice none 0 0] 25)) := by
  obtain ⟨h1, h2, h3, h4, h5, h6, h7⟩ := h
  have := h1.size
  exact ⟨v1, r1, b1, N, nn, nc, ⟨by omega, Blk.new _ _ _, h2.alloc _, h3.alloc _, h4, h5.alloc _, h6.alloc h6.size _⟩, h7⟩
theorem mid_set {t : TypeId} {w W' w3 : World} {kind : Int} {body v1 r1 : List Int} {b1 : Bool} {N : Option Addr} {nn nc q : Nat} (hsz : w.heap.size + 3 ≤ q) (h : NumsWords t w W' w3 body v1 r1 b1 N nn nc)
    (hq : Blk w3 q 25 #[.int .i64 0, .slice none 0 0, .string { data := #[] }, .slice none 0 0]) :
    MidReq t w kind body q ((((w3.setCell ⟨q, 0, none⟩ (.int .i64 kind)).setCell ⟨q, 1, none⟩ (.slice N nn nc)).setCell ⟨q, 2, none⟩ (.string { data := #[] })).setCell ⟨q, 3, none⟩ (.slice none 0 0)) := by
  obtain ⟨h1, h2, h3, h4, h5, h6, h7⟩ := h
  have h0 : MidQ t w q _ N nn nc v1 r1 b1 w3 := ⟨hsz, hq, h2, h3, h4, h5, h6⟩
  exact ⟨v1, r1, b1, N, nn, nc, by simpa using (((h0.set 0 (.int .i64 kind)).set 1 (.slice N nn nc)).set 2 (.string { data := #[] })).set 3 (.slice none 0 0), h7⟩

theorem gotV_in {kind : Int} {body : List Int} (h1 : 1 ≤ kind) (h2 : kind ≤ 12) (hn : body.length ≤ lim) : gotV 0 kind body = match pReq kind body with
    | none => (163, 0, [], [], [])
    | some x => (0, kind, x.1, x.2.1, x.2.2) := by
  unfold gotV; rw [if_neg (by omega), if_neg (by omega), if_neg (by omega)]
  cases pReq kind body <;> rfl
theorem gotV_no {kind : Int} {body : List Int} (h1 : 1 ≤ kind) (h2 : kind ≤ 12) (hn : body.length ≤ lim) (h : pReq kind body = none) : gotV 0 kind body = (163, 0, [], [], []) := by
  rw [gotV_in h1 h2 hn, h]
theorem gotV_yes {kind : Int} {body a b : List Int} {c : List Bool} (h1 : 1 ≤ kind) (h2 : kind ≤ 12) (hn : body.length ≤ lim) (h : pReq kind body = some (a, b, c)) : gotV 0 kind body = (0, kind, a, b, c) := by
  rw [gotV_in h1 h2 hn, h]
theorem sendable_int (kind : Int) (h1 : 1 ≤ kind) (h2 : kind ≤ 12) (N : Option Addr) (nn nc : Nat) (text : ByteArray) (L : Option Addr) (nb bc : Nat) (w : World) (hT : Tab w) :
    Calls Tryd.prog 34 #[.agg #[.int .i64 kind, .slice N nn nc, .string text, .slice L nb bc]] w fun e w' => e = .returned (.bool (mayB kind nn text.size nb)) ∧ Below w.heap.size w w' := by
  obtain ⟨k, rfl⟩ := Int.eq_ofNat_of_zero_le (show 0 ≤ kind by omega)
  exact sendable_any k (by omega) (by omega) N nn nc text L nb bc w hT
/-- The request goes into the result. -/
theorem fin_ok {t : TypeId} {w w7 : World} {kind : Int} {q : Nat} {N L : Option Addr} {nn nc nb bc : Nat} {text : ByteArray} {v1 r : List Int} {v3 : List Bool} {b : Bool} {cs : Array Value}
    (h : MidQ t w q cs N nn nc v1 r b w7) {base : Nat} (hbase : w.heap.size ≤ base) (hb : w7.ownsRow base 4 1 (.slice L nb bc) nb (v3.map Value.bool)) (hm : mayB kind v1.length (sb text).length v3.length = true) (u0 u1 u2 u3 : Value) :
    GotReq w (0, kind, v1, sb text, v3) (.returned (.tuple #[.agg #[.int .i64 kind, .slice N nn nc, .string text, .slice L nb bc], .int .i64 0]))
      ((((w7.setCell ⟨w.heap.size + 1, 0, none⟩ u0).setCell ⟨w.heap.size + 1, 1, none⟩ u1).setCell ⟨w.heap.size + 1, 2, none⟩ u2).setCell ⟨w.heap.size + 1, 3, none⟩ u3) := by
  have hl1 : v1.length = nn := by have := h.row.1; simpa using this
  have hl3 : v3.length = nb := by have := hb.1; simpa using this
  have hmay : nn = tk kind ∧ nb ≤ 4096 := by
    rw [hl1, hl3] at hm
    unfold mayB at hm
    simp only [decide_eq_true_eq] at hm
    omega
  have htk : tk kind ≤ 6 := by unfold tk; split <;> (try split) <;> (try split) <;> omega
  have b0 := h.res
  have s1 := row_set_blk (i := 0) (u := u0) h.row b0 (by decide)
  have s2 := row_set_blk (i := 0) (u := u0) hb b0 (by decide)
  have b1 := b0.set_ 0 u0
  have s1 := row_set_blk (i := 1) (u := u1) s1 b1 (by decide)
  have s2 := row_set_blk (i := 1) (u := u1) s2 b1 (by decide)
  have b2 := b1.set_ 1 u1
  have s1 := row_set_blk (i := 2) (u := u2) s1 b2 (by decide)
  have s2 := row_set_blk (i := 2) (u := u2) s2 b2 (by decide)
  have b3 := b2.set_ 2 u2
  have s1 := row_set_blk (i := 3) (u := u3) s1 b3 (by decide)
  have s2 := row_set_blk (i := 3) (u := u3) s2 b3 (by decide)
  refine ⟨N, nn, nc, text, L, nb, bc, rfl, ⟨row_base s1 (by omega), h.rng⟩, rfl, row_base s2 hbase, by omega, hmay.2, ?_⟩
  exact (((h.bel.setCell (p := ⟨w.heap.size + 1, 0, none⟩) (Nat.le_succ _) _).setCell (p := ⟨w.heap.size + 1, 1, none⟩) (Nat.le_succ _) _).setCell (p := ⟨w.heap.size + 1, 2, none⟩) (Nat.le_succ _) _).setCell (p := ⟨w.heap.size + 1, 3, none⟩) (Nat.le_succ _) _
theorem fin_no {t : TypeId} {w w7 : World} {q : Nat} {N : Option Addr} {nn nc : Nat} {v1 r : List Int} {b : Bool} {cs : Array Value} (h : MidQ t w q cs N nn nc v1 r b w7) (u0 u1 u2 u3 : Value) :
    GotReq w (163, 0, [], [], []) (.returned (.tuple #[.agg #[.int .i64 0, .slice none 0 0, .string { data := #[] }, .slice none 0 0], .int .i64 163]))
      ((((w7.setCell ⟨w.heap.size + 1, 0, none⟩ u0).setCell ⟨w.heap.size + 1, 1, none⟩ u1).setCell ⟨w.heap.size + 1, 2, none⟩ u2).setCell ⟨w.heap.size + 1, 3, none⟩ u3) :=
  got_zero ((((h.bel.setCell (p := ⟨w.heap.size + 1, 0, none⟩) (Nat.le_succ _) _).setCell (p := ⟨w.heap.size + 1, 1, none⟩) (Nat.le_succ _) _).setCell (p := ⟨w.heap.size + 1, 2, none⟩) (Nat.le_succ _) _).setCell (p := ⟨w.heap.size + 1, 3, none⟩) (Nat.le_succ _) _)

set_option maxHeartbeats 2000000 in
theorem wGetReq_main (kind : Int) (h1 : 1 ≤ kind) (h2 : kind ≤ 12) (body : List Int) (B : Nat) (A : Option Addr) (n c : Nat) (w : World) (hs : Bs w B A n body) (hB : B ≤ w.heap.size) (hn : n ≤ lim) (hc : n ≤ c) (hc2 : c ≤ 9223372036854775807) (hT : Tab w) :
    Calls Tryd.prog 16 #[.agg #[.int .i64 0, .int .i64 kind, .slice A n c]] w (GotReq w (gotV 0 kind body)) := by
  have hl' : ¬ (2097152 : Int) < (n : Int) := by have := lim_eq; omega
  have h1' : ¬ kind < 1 := by omega
  have h2' : ¬ (13 : Int) ≤ kind := by omega
  have HT := hide hT
  have HS := hide hs
  have HN := hide hn
  have HC := hide hc
  have HC2 := hide hc2
  have H12 := hide (And.intro h1 h2)
  clear hs hn hc hc2 h1 h2 hT
  go_enter Tryd.func16, Tryd.ntmps16
  go_upto_region 8 with fail
  have a1 := Blk.new w 35 #[.int .i64 0, .int .i64 kind, .slice A n c]
  have a2 := Blk.new (w.alloc (.cells #[.int .i64 0, .int .i64 kind, .slice A n c] 35)) 25 #[.int .i64 0, .slice none 0 0, .string { data := #[] }, .slice none 0 0]
  have a3 := Blk.new ((w.alloc (.cells #[.int .i64 0, .int .i64 kind, .slice A n c] 35)).alloc (.cells #[.int .i64 0, .slice none 0 0, .string { data := #[] }, .slice none 0 0] 25)) 84 #[.slice A n c, .bool false]
  have b1 := (a1.alloc (.cells #[.int .i64 0, .slice none 0 0, .string { data := #[] }, .slice none 0 0] 25)).alloc (.cells #[.slice A n c, .bool false] 84)
  have b2 := a2.alloc (.cells #[.slice A n c, .bool false] 84)
  have hbel : Below w.heap.size w (((w.alloc (.cells #[.int .i64 0, .int .i64 kind, .slice A n c] 35)).alloc (.cells #[.int .i64 0, .slice none 0 0, .string { data := #[] }, .slice none 0 0] 25)).alloc (.cells #[.slice A n c, .bool false] 84)) := ((((Below.refl _ _).alloc (Nat.le_refl _) _).alloc (by simp) _).alloc (by simp; omega) _)
  have hsz : (((w.alloc (.cells #[.int .i64 0, .int .i64 kind, .slice A n c] 35)).alloc (.cells #[.int .i64 0, .slice none 0 0, .string { data := #[] }, .slice none 0 0] 25)).alloc (.cells #[.slice A n c, .bool false] 84)).heap.size = w.heap.size + 3 := by simp
  simp only [World.size_alloc] at b2 a3
  generalize (((w.alloc (.cells #[.int .i64 0, .int .i64 kind, .slice A n c] 35)).alloc (.cells #[.int .i64 0, .slice none 0 0, .string { data := #[] }, .slice none 0 0] 25)).alloc (.cells #[.slice A n c, .bool false] 84)) = W1 at *
  have hst : St 84 W1 w.heap.size (w.heap.size + 2) body false := ⟨⟨A, n, c, a3, (HS.out.below (hbel.mono hB)).more hB, HC.out, HC2.out, HN.out⟩, by omega⟩
  have hcell : W1.cell? ⟨w.heap.size, 1, none⟩ = some (.int .i64 kind) := by rw [b1.cell]; rfl
  have hcella : ∀ o, (W1.alloc o).cell? ⟨w.heap.size, 1, none⟩ = some (.int .i64 kind) := fun o => by rw [(b1.alloc o).cell]; rfl
  have B1 := hide b1
  have B2 := hide b2
  have HB1 := hide hbel
  have HST := hide hst
  have HSZ := hide hsz
  clear a1 a2 a3 b1 b2 hbel hst hsz
  have n1 := wnums_in (kind := kind) (body := body) (W' := W1.drew) ((Below.refl _ _).drew) HSZ.out B1.out rfl B2.out HST.out HB1.out
  have n2 := fun o => wnums_in (kind := kind) (body := body) (W' := (W1.alloc o).drew) (((Below.refl _ _).alloc (Nat.le_refl _) o).drew) HSZ.out B1.out rfl B2.out HST.out HB1.out
  have n3 := fun o => wnums_in (kind := kind) (body := body) (W' := W1.drew.alloc o) (((Below.refl _ _).drew).alloc (Nat.le_refl _) o) HSZ.out B1.out rfl B2.out HST.out HB1.out
  have N1 := hide n1
  have N2 := hide n2
  have N3 := hide n3
  clear n1 n2 n3
  go_cut [5] (fun s wc => ∃ q, s = .pointer (some ⟨q, 0, none⟩) ∧ Hid (MidReq 84 w kind body q wc))
  case first =>
    go_region_with (go_at_call 44; (first | (refine N1.out.mono ?_; rintro e w3 ⟨v1, r1, b1, N, nn, nc, rfl, hk3, hk4, hh3⟩) | (refine (N2.out _).mono ?_; rintro e w3 ⟨v1, r1, b1, N, nn, nc, rfl, hk3, hk4, hh3⟩; have hq := ((Blk.new W1 _ _).drew).bel hh3.out.1 (fun e => by have := HSZ.out; omega); obtain ⟨q0, q1, q2, q3⟩ := req_cells hq; have z0 := hq.frozen 0; have z1 := hq.frozen 1; have z2 := hq.frozen 2; have z3 := hq.frozen 3; have hq := hide hq) | (refine (N3.out _).mono ?_; rintro e w3 ⟨v1, r1, b1, N, nn, nc, rfl, hk3, hk4, hh3⟩; have hq := (Blk.new W1.drew _ _).bel hh3.out.1 (fun e => by have := HSZ.out; simp at e; omega); obtain ⟨q0, q1, q2, q3⟩ := req_cells hq; have z0 := hq.frozen 0; have z1 := hq.frozen 1; have z2 := hq.frozen 2; have z3 := hq.frozen 3; have hq := hide hq)))
    all_goals (go_wp2_with fail; go_meet)
    all_goals first
      | exact ⟨_, rfl, hide (mid_alloc (by have := HSZ.out; simp; omega) hh3.out)⟩
      | exact ⟨_, rfl, hide (mid_set (by have := HSZ.out; simp; omega) hh3.out hq.out)⟩
  case rest =>
    obtain ⟨q, rfl, hm⟩ := hcut
    obtain ⟨v1, r1, b1, N, nn, nc, hq1, hf1⟩ := hm.out
    clear hm hcell hcella N1 N2 N3 B1 B2 HB1 HST HSZ
    have HQ1 := hide hq1
    have HF1 := hide hf1
    clear hq1 hf1
    go_wp2_with fail
    refine (wrtext_any _ w.heap.size _ r1 b1 HQ1.out.st).mono ?_
    rintro e w4 ⟨hb4, v2, r2, b2, ⟨text, rfl, rfl⟩, h4, hf2⟩
    have hq2 := HQ1.out.bel_ hb4 h4
    obtain ⟨q0, q1, q2, q3⟩ := req_cells hq2.blk
    have z2 := hq2.blk.frozen 2
    have HQ2 := hide (hq2.set 2 (.string text))
    have HF2 := hide hf2
    clear hb4 h4 hf2 hq2
    go_wp2_with fail
    clear q0 q1 q2 q3 z2
    generalize w4.setCell ⟨q, 2, none⟩ (.string text) = w5 at *
    refine (wrbits_any _ w.heap.size _ r2 b2 HQ2.out.st).mono ?_
    rintro e w6 ⟨hb6, v3, r3, b3, ⟨L, nb, bc, rfl, hrowb⟩, h6, hf3⟩
    have hq3 := HQ2.out.bel_ hb6 h6
    obtain ⟨q0, q1, q2, q3⟩ := req_cells hq3.blk
    have z3 := hq3.blk.frozen 3
    have HQ3 := hide (hq3.set 3 (.slice L nb bc))
    have HRB := hide (row_set_blk (i := 3) (u := .slice L nb bc) hrowb hq3.blk (by decide))
    have HF3 := hide hf3
    clear hb6 h6 hf3 hq3 hrowb
    have hreq := req_of (kind := kind) HF1.out HF2.out HF3.out
    have hbl : body.length ≤ lim := by rw [HS.out.len]; exact HN.out
    have hl1 : v1.length = nn := by have := HQ3.out.row.1; simpa using this
    have hl3 : v3.length = nb := by have := HRB.out.1; simpa using this
    have hl2 : (sb text).length = text.size := sb_len text
    rw [hl1, hl2, hl3] at hreq
    have HREQ := hide hreq
    have HBL := hide hbl
    have HL1 := hide hl1
    have HL3 := hide hl3
    clear hreq hbl hl1 hl2 hl3
    go_upto_region 11 with fail
    clear q0 q1 q2 q3 z3
    generalize w6.setCell ⟨q, 3, none⟩ (.slice L nb bc) = w7 at *
    obtain ⟨q0, q1, q2, q3⟩ := req_cells HQ3.out.blk
    obtain ⟨e0, e1, e2, e3⟩ := req_cells HQ3.out.res
    have y0 := HQ3.out.res.frozen 0
    have y1 := HQ3.out.res.frozen 1
    have y2 := HQ3.out.res.frozen 2
    have y3 := HQ3.out.res.frozen 3
    have hpt := HQ3.out.st.parts
    rw [show w.heap.size + 2 = w.heap.size + 1 + 1 from rfl] at hpt
    obtain ⟨A9, m9, d9, c0, c1, _, _, hl9, _, _⟩ := hpt
    cases b3 with
    | true =>
      have HG := hide (gotV_no H12.out.1 H12.out.2 HBL.out (by rw [HREQ.out]; simp))
      go_wp2
      refine bodyPost_ret (v := .tuple #[.agg #[.int .i64 0, .slice none 0 0, .string { data := #[] }, .slice none 0 0], .int .i64 163]) (by simp [results, Tryd.results16, go_sem, *]) rfl ?_
      rw [HG.out]
      exact fin_no HQ3.out _ _ _ _
    | false =>
      by_cases hr : r3 = []
      · subst hr
        obtain rfl : m9 = 0 := by simpa using hl9.symm
        go_wp2_with fail
        refine (sendable_int kind H12.out.1 H12.out.2 N nn nc text L nb bc w7 (HT.out.below HQ3.out.bel HT.out.pos)).mono ?_
        rintro e w8 ⟨rfl, hb8⟩
        have hq8 := HQ3.out.below_ hb8
        have HR8 := hide (row_bel HRB.out (Bel.of_below (g := w7.heap.size) hb8) (fun e => Nat.lt_irrefl _ (HRB.out.lt _ e).2))
        clear q0 q1 q2 q3 e0 e1 e2 e3 y0 y1 y2 y3 c0 c1 hb8
        obtain ⟨q0, q1, q2, q3⟩ := req_cells hq8.blk
        obtain ⟨e0, e1, e2, e3⟩ := req_cells hq8.res
        have y0 := hq8.res.frozen 0
        have y1 := hq8.res.frozen 1
        have y2 := hq8.res.frozen 2
        have y3 := hq8.res.frozen 3
        have HQ8 := hide hq8
        clear hq8 hl9
        cases hm : mayB kind nn text.size nb with
        | false =>
          have HG := hide (gotV_no H12.out.1 H12.out.2 HBL.out (by rw [HREQ.out]; simp [hm]))
          clear hm
          go_wp2
          refine bodyPost_ret (v := .tuple #[.agg #[.int .i64 0, .slice none 0 0, .string { data := #[] }, .slice none 0 0], .int .i64 163]) (by simp [results, Tryd.results16, go_sem, *]) rfl ?_
          rw [HG.out]
          exact fin_no HQ8.out _ _ _ _
        | true =>
          have HG := hide (gotV_yes (a := v1) (b := sb text) (c := v3) H12.out.1 H12.out.2 HBL.out (by rw [HREQ.out]; simp [hm]))
          have HM := hide hm
          clear hm
          go_wp2
          refine bodyPost_ret (v := .tuple #[.agg #[.int .i64 kind, .slice N nn nc, .string text, .slice L nb bc], .int .i64 0]) (by simp [results, Tryd.results16, go_sem, *]) rfl ?_
          rw [HG.out]
          exact fin_ok HQ8.out HQ2.out.bel.size HR8.out (by rw [HL1.out, HL3.out, sb_len]; exact HM.out) _ _ _ _
      · have hm9 : (0 : Int) < (m9 : Int) := by
          have : r3.length ≠ 0 := fun h => hr (List.eq_nil_of_length_eq_zero h)
          omega
        have HG := hide (gotV_no H12.out.1 H12.out.2 HBL.out (by rw [HREQ.out]; simp [hr]))
        go_wp2
        refine bodyPost_ret (v := .tuple #[.agg #[.int .i64 0, .slice none 0 0, .string { data := #[] }, .slice none 0 0], .int .i64 163]) (by simp [results, Tryd.results16, go_sem, *]) rfl ?_
        rw [HG.out]
        exact fin_no HQ3.out _ _ _ _

theorem wGetReq_any (code kind : Int) (body : List Int) (B : Nat) (A : Option Addr) (n c : Nat) (w : World) (hs : Bs w B A n body) (hB : B ≤ w.heap.size) (hc : n ≤ c) (hc2 : c ≤ 9223372036854775807) (hT : Tab w) :
    Calls Tryd.prog 16 #[.agg #[.int .i64 code, .int .i64 kind, .slice A n c]] w (GotReq w (gotV code kind body)) := by
  by_cases h0 : code = 0
  · subst h0
    by_cases hk : kind < 1 ∨ 12 < kind
    · exact wGetReq_kind kind hk body A n c w
    · by_cases hl : n ≤ lim
      · exact wGetReq_main kind (by omega) (by omega) body B A n c w hs hB hl hc hc2 hT
      · exact wGetReq_long kind (by omega) (by omega) body A n c w hs.len (by omega)
  · exact wGetReq_code code kind h0 body A n c w
end Go.Proofs.YtbmkindgbabobaaDoor
