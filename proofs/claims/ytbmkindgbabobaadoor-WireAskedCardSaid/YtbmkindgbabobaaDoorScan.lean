/- A scanner behind a pointer: what is left of a body, and whether it is not of its form. The words and the plain parsers. -/
import Derived.Test.YtbmkindgbabobaaDoorCmpReq
namespace Go.Proofs.YtbmkindgbabobaaDoor
open Go.RowKit
set_option maxRecDepth 20000

/-- Of the blocks below B all but g stand as they stood. -/
structure Bel (B g : Nat) (w w' : World) : Prop where
  os : w'.os = w.os
  tape : w'.tape = w.tape
  output : w'.output = w.output
  size : w.heap.size ≤ w'.heap.size
  block : ∀ k, k < B → k ≠ g → w'.heap[k]? = w.heap[k]?
section
variable {B g : Nat} {w0 w w' : World}
theorem Bel.refl (B g : Nat) (w : World) : Bel B g w w := ⟨rfl, rfl, rfl, Nat.le_refl _, fun _ _ _ => rfl⟩
theorem Bel.trans (h : Bel B g w0 w) (k : Bel B g w w') : Bel B g w0 w' := ⟨k.os.trans h.os, k.tape.trans h.tape, k.output.trans h.output, Nat.le_trans h.size k.size, fun i hi hg => (k.block i hi hg).trans (h.block i hi hg)⟩
theorem Bel.mono {B' : Nat} (h : Bel B g w w') (hB : B' ≤ B) : Bel B' g w w' := ⟨h.os, h.tape, h.output, h.size, fun k hk hg => h.block k (Nat.lt_of_lt_of_le hk hB) hg⟩
theorem Bel.drewN (h : Bel B g w0 w) (n : Nat) : Bel B g w0 (w.drewN n) := ⟨h.os, h.tape, h.output, h.size, h.block⟩
theorem Bel.of_below (h : Below B w w') : Bel B g w w' := ⟨h.os, h.tape, h.output, h.size, fun k hk _ => h.block k hk⟩
theorem Bel.below {b : Nat} (h : Bel B g w w') (hg : b ≤ g) (hB : b ≤ B) : Below b w w' := ⟨h.os, h.tape, h.output, h.size, fun k hk => h.block k (by omega) (by omega)⟩
theorem Bel.setCell (h : Bel B g w0 w) (i : Nat) (u : Value) : Bel B g w0 (w.setCell ⟨g, i, none⟩ u) :=
  ⟨h.os, h.tape, h.output, by simpa using h.size, fun k hk hg => (Below.heap_setCell w ⟨g, i, none⟩ u k hg).trans (h.block k hk hg)⟩
theorem Bel.alloc (h : Bel B g w0 w) (hB : B ≤ w.heap.size) (o : Obj) : Bel B g w0 (w.alloc o) := h.trans (.of_below ((Below.refl _ _).alloc hB o))
theorem Bel.grown (h : Bel B g w0 w) {row : Option Nat} (hg : w.grownBy w' row) (hB : B ≤ w.heap.size) (hr : ∀ k, row = some k → B ≤ k) : Bel B g w0 w' := h.trans (.of_below ((Below.refl _ _).grown hg hB hr))
theorem Blk.bel {t : TypeId} {cs : Array Value} {k : Nat} (h : Blk w k t cs) (hb : Bel w.heap.size g w w') (hg : k ≠ g) : Blk w' k t cs := (hb.block k h.lt hg).trans h
theorem row_bel {base e size n : Nat} {v : Value} {xs : List Value} (h : w.ownsRow base e size v n xs) (hb : Bel w.heap.size g w w') (hg : v.ownBlock ≠ some g) : w'.ownsRow base e size v n xs := by
  refine ⟨h.1, ?_⟩
  rcases h.2 with hn | ⟨k, cap, cur, rfl, hk, hh, rest⟩
  · exact .inl hn
  · exact .inr ⟨k, cap, cur, rfl, hk, (hb.block k (Array.getElem?_eq_some_iff.1 hh).1 (by intro e; subst e; exact hg rfl)).trans hh, rest⟩
end

theorem Bs.zero (w : World) (B : Nat) (A : Option Addr) : Bs w B A 0 [] := ⟨⟨by simp [bv], fun h => absurd h (by omega)⟩, Byt.nil⟩
theorem lim_ex : ∃ n : Nat, n = 2097152 := ⟨_, rfl⟩
/-- No body is longer. -/
noncomputable def lim : Nat := Classical.choose lim_ex
theorem lim_eq : lim = 2097152 := Classical.choose_spec lim_ex
/-- The scanner behind block g: what is left, and whether it is bad. -/
structure St (t : TypeId) (w : World) (base g : Nat) (xs : List Int) (bad : Bool) : Prop where
  ex : ∃ A n c, Blk w g t #[.slice A n c, .bool bad] ∧ Bs w base A n xs ∧ n ≤ c ∧ c ≤ 9223372036854775807 ∧ n ≤ lim
  lo : base ≤ g
section
variable {t : TypeId} {base g : Nat} {xs : List Int} {bad : Bool} {w w' : World}
theorem St.keep (h : St t w base g xs bad) (hb : Below (g + 1) w w') : St t w' base g xs bad := by
  obtain ⟨A, n, c, h1, h2, h3⟩ := h.ex
  exact ⟨⟨A, n, c, h1.below hb (Nat.lt_succ_self _), h2.below (hb.mono (by have := h.lo; omega)), h3⟩, h.lo⟩
theorem St.parts (h : St t w base g xs bad) : ∃ A n c, w.cell? ⟨g, 0, none⟩ = some (.slice A n c) ∧ w.cell? ⟨g, 1, none⟩ = some (.bool bad) ∧ w.frozen? ⟨g, 0, none⟩ = false ∧ w.frozen? ⟨g, 1, none⟩ = false ∧ xs.length = n ∧ n ≤ c ∧ c ≤ 9223372036854775807 := by
  obtain ⟨A, n, c, h1, h2, h3, h4, _⟩ := h.ex
  exact ⟨A, n, c, by rw [h1.cell]; rfl, by rw [h1.cell]; rfl, h1.frozen 0, h1.frozen 1, h2.len, h3, h4⟩
theorem St.drewN (h : St t w base g xs bad) (n : Nat) : St t (w.drewN n) base g xs bad := h.keep (below_drewN (Below.refl _ _) n)
theorem St.drew (h : St t w base g xs bad) : St t w.drew base g xs bad := h.keep ((Below.refl _ _).drew)
theorem St.lt (h : St t w base g xs bad) : g < w.heap.size := by
  obtain ⟨A, n, c, h1, h2, h3⟩ := h.ex
  exact h1.lt
theorem St.len (h : St t w base g xs bad) : xs.length ≤ lim := by
  obtain ⟨A, n, c, h1, h2, h3, h4, h5⟩ := h.ex
  rw [h2.len]; exact h5
theorem St.byt (h : St t w base g xs bad) : Byt xs := by
  obtain ⟨A, n, c, h1, h2, h3⟩ := h.ex
  exact h2.byt
theorem St.below (h : St t w base g xs bad) (hb : Below w.heap.size w w') : St t w' base g xs bad := h.keep (hb.mono h.lt)
theorem St.alloc (h : St t w base g xs bad) (o : Obj) : St t (w.alloc o) base g xs bad := h.below ((Below.refl _ _).alloc (Nat.le_refl _) o)
theorem St.setBad (h : St t w base g xs bad) : St t (w.setCell ⟨g, 1, none⟩ (.bool true)) base g xs true := by
  obtain ⟨A, n, c, h1, h2, h3⟩ := h.ex
  exact ⟨⟨A, n, c, by simpa using h1.set_ 1 (.bool true), h2.below ((Below.refl _ _).setCell h.lo _), h3⟩, h.lo⟩
theorem St.grown {row : Option Nat} (h : St t w base g xs bad) (hg : w.grownBy w' row) (hr : ∀ k, row = some k → g < k) : St t w' base g xs bad := h.keep ((Below.refl _ _).grown hg h.lt (fun k hk => hr k hk))
end

/-! ### the plain parsers -/
/-- The next of what is left: none where it is bad already. -/
def nxt {α : Type} (bad : Bool) (p : Option (α × List Int)) : Option (α × List Int) := if bad then none else p
def pCnt : Nat → Nat → List Int → Option (Nat × List Int)
  | _, _, [] => none
  | i, v, x :: r =>
    if (i = 0 ∧ x = 128) ∨ 144115188075855872 ≤ v then none
    else if x < 128 then some (128 * v + x.toNat % 128, r)
    else if 9 ≤ i then none
    else pCnt (i + 1) (128 * v + x.toNat % 128) r
def unsg (n : Nat) : Int := if n % 2 = 1 then -(n / 2 : Nat) - 1 else (n / 2 : Nat)
def pSig (xs : List Int) : Option (Int × List Int) := (pCnt 0 0 xs).map fun p => (unsg p.1, p.2)
def pSome (xs : List Int) : Option (Nat × List Int) := (pCnt 0 0 xs).bind fun p => if p.1 ≤ p.2.length then some p else none
def pText (xs : List Int) : Option (List Int × List Int) := (pSome xs).map fun p => (p.2.take p.1, p.2.drop p.1)
def pRep {α : Type} (p : List Int → Option (α × List Int)) : Nat → List Int → Option (List α × List Int)
  | 0, r => some ([], r)
  | n + 1, r => (p r).bind fun x => (pRep p n x.2).map fun q => (x.1 :: q.1, q.2)
def pList {α : Type} (p : List Int → Option (α × List Int)) (xs : List Int) : Option (List α × List Int) := (pSome xs).bind fun x => pRep p x.1 x.2
def pNums : List Int → Option (List Int × List Int) := pList pSig
theorem rep_step {α : Type} {p : List Int → Option (α × List Int)} {f : Option (List α × List Int)} {k : Nat} {r r' : List Int} {done : List α} {x : α} {b : Bool}
    (hf : f = (pRep p (k + 1) r).map fun q => (done ++ q.1, q.2)) (hs : nxt false (p r) = if b then none else some (x, r')) :
    f = if b then none else (pRep p k r').map fun q => ((done ++ [x]) ++ q.1, q.2) := by
  subst hf
  cases b with
  | true => simp [nxt] at hs; simp [pRep, hs]
  | false => simp [nxt] at hs; simp [pRep, hs, Function.comp_def]
theorem rep_start {α : Type} {p : List Int → Option (α × List Int)} {n : Nat} {xs r : List Int} {bad bad' : Bool} (h : nxt bad (pSome xs) = if bad' then none else some (n, r)) :
    nxt bad (pList p xs) = if bad' then none else (pRep p n r).map fun q => (([] : List α) ++ q.1, q.2) := by
  unfold pList
  cases bad <;> cases bad' <;> simp_all [nxt]

/-- What a reader of one thing leaves: nothing but the scanner's block turned, and the value and what is left are the parser's. -/
def Read1 {α : Type} (t : TypeId) (w : World) (base g : Nat) (f : Option (α × List Int)) (V : α → Ending → World → Prop) (e : Ending) (w' : World) : Prop :=
  Bel w.heap.size g w w' ∧ ∃ v r bad', V v e w' ∧ St t w' base g r bad' ∧ f = if bad' then none else some (v, r)
def VCnt (v : Nat) (e : Ending) (_ : World) : Prop := e = .returned (.int .u64 v) ∧ v < 18446744073709551616
def VSig (v : Int) (e : Ending) (_ : World) : Prop := e = .returned (.int .i64 v) ∧ I64 v
def VText (v : List Int) (e : Ending) (_ : World) : Prop := ∃ s, e = .returned (.string s) ∧ sb s = v
/-- What the reader of a byte leaves. -/
def One (t : TypeId) (w : World) (base g : Nat) (xs : List Int) (bad : Bool) (e : Ending) (w' : World) : Prop :=
  Bel w.heap.size g w w' ∧ ((xs = [] ∧ e = .returned (.int .u8 0) ∧ St t w' base g [] true) ∨ ∃ x r, xs = x :: r ∧ e = .returned (.int .u8 x) ∧ 0 ≤ x ∧ x < 256 ∧ St t w' base g r bad)

set_option maxHeartbeats 400000 in
theorem wone_any (w : World) (base g : Nat) (xs : List Int) (bad : Bool) (h : St 84 w base g xs bad) :
    Calls Tryd.prog 82 #[.pointer (some ⟨g, 0, none⟩)] w (One 84 w base g xs bad) := by
  obtain ⟨A, n, c, hb, hs, hc, hc2, hlim⟩ := h.ex
  have hlo := h.lo
  have c0 := hb.cell 0
  have c1 := hb.cell 1
  have f0 := hb.frozen 0
  have f1 := hb.frozen 1
  simp only [List.getElem?_toArray, List.getElem?_cons_succ, List.getElem?_cons_zero] at c0 c1
  cases xs with
  | nil =>
    obtain rfl : n = 0 := by have := hs.len; simpa using this.symm
    have HH := hide h
    clear h hb hs
    go_enter Tryd.func82, Tryd.ntmps82
    go_wp2
    go_ret
    exact ⟨(Bel.refl _ _ _).setCell 1 _, .inl ⟨rfl, rfl, HH.out.setBad⟩⟩
  | cons x r =>
    have hn : n = r.length + 1 := by have := hs.len; simpa using this.symm
    obtain ⟨ad, x', rfl, hadB, hx0, hx1, hcx, hx⟩ := hs.at_ (k := 0) (by omega)
    obtain rfl : x = x' := by simpa using hx
    have hcx0 : w.cell? ad = some (.int .u8 x) := by rw [show ad.add 0 = ad from rfl] at hcx; exact hcx
    clear hcx
    have hk := hs.cutk (k := 1) (m := r.length) (by omega) (by omega)
    simp only [List.drop_succ_cons, List.drop_zero, Option.map_some] at hk
    have hne : ((r.length : Int) + 1 == 0) = false := by simp; omega
    have HB := hide hb
    have HK := hide hk
    clear h hb hs hx hk
    subst hn
    go_enter Tryd.func82, Tryd.ntmps82
    by_cases h1 : c = 1
    · subst h1
      obtain rfl : r = [] := List.eq_nil_of_length_eq_zero (by omega)
      go_wp2
      go_ret
      exact ⟨(Bel.refl _ _ _).setCell 0 _, .inr ⟨x, [], rfl, rfl, hx0, hx1, ⟨⟨_, 0, 0, by simpa using HB.out.set_ 0 _, Bs.zero _ _ _, by omega, by omega, by omega⟩, hlo⟩⟩⟩
    · go_wp2
      go_ret
      exact ⟨(Bel.refl _ _ _).setCell 0 _, .inr ⟨x, r, rfl, rfl, hx0, hx1, ⟨⟨_, r.length, c - 1, by simpa using HB.out.set_ 0 _, HK.out.below ((Below.refl _ _).setCell hlo _), by omega, by omega, by omega⟩, hlo⟩⟩⟩

set_option maxHeartbeats 400000 in
theorem rone_any (w : World) (base g : Nat) (xs : List Int) (bad : Bool) (h : St 90 w base g xs bad) :
    Calls Tryd.prog 84 #[.pointer (some ⟨g, 0, none⟩)] w (One 90 w base g xs bad) := by
  obtain ⟨A, n, c, hb, hs, hc, hc2, hlim⟩ := h.ex
  have hlo := h.lo
  have c0 := hb.cell 0
  have c1 := hb.cell 1
  have f0 := hb.frozen 0
  have f1 := hb.frozen 1
  simp only [List.getElem?_toArray, List.getElem?_cons_succ, List.getElem?_cons_zero] at c0 c1
  cases xs with
  | nil =>
    obtain rfl : n = 0 := by have := hs.len; simpa using this.symm
    have HH := hide h
    clear h hb hs
    go_enter Tryd.func84, Tryd.ntmps84
    go_wp2
    go_ret
    exact ⟨(Bel.refl _ _ _).setCell 1 _, .inl ⟨rfl, rfl, HH.out.setBad⟩⟩
  | cons x r =>
    have hn : n = r.length + 1 := by have := hs.len; simpa using this.symm
    obtain ⟨ad, x', rfl, hadB, hx0, hx1, hcx, hx⟩ := hs.at_ (k := 0) (by omega)
    obtain rfl : x = x' := by simpa using hx
    have hcx0 : w.cell? ad = some (.int .u8 x) := by rw [show ad.add 0 = ad from rfl] at hcx; exact hcx
    clear hcx
    have hk := hs.cutk (k := 1) (m := r.length) (by omega) (by omega)
    simp only [List.drop_succ_cons, List.drop_zero, Option.map_some] at hk
    have hne : ((r.length : Int) + 1 == 0) = false := by simp; omega
    have HB := hide hb
    have HK := hide hk
    clear h hb hs hx hk
    subst hn
    go_enter Tryd.func84, Tryd.ntmps84
    by_cases h1 : c = 1
    · subst h1
      obtain rfl : r = [] := List.eq_nil_of_length_eq_zero (by omega)
      go_wp2
      go_ret
      exact ⟨(Bel.refl _ _ _).setCell 0 _, .inr ⟨x, [], rfl, rfl, hx0, hx1, ⟨⟨_, 0, 0, by simpa using HB.out.set_ 0 _, Bs.zero _ _ _, by omega, by omega, by omega⟩, hlo⟩⟩⟩
    · go_wp2
      go_ret
      exact ⟨(Bel.refl _ _ _).setCell 0 _, .inr ⟨x, r, rfl, rfl, hx0, hx1, ⟨⟨_, r.length, c - 1, by simpa using HB.out.set_ 0 _, HK.out.below ((Below.refl _ _).setCell hlo _), by omega, by omega, by omega⟩, hlo⟩⟩⟩
end Go.Proofs.YtbmkindgbabobaaDoor
