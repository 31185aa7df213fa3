/- The program's writer: signed numbers, texts, lists of numbers. -/
import Derived.Test.YtbmkindgbabobaaDoorWriter
namespace Go.Proofs.YtbmkindgbabobaaDoor
open Go.RowKit
set_option maxRecDepth 20000

/-- The count that a signed number is written as. -/
def sgn (n : Int) : Nat := if n < 0 then (-2 * n - 1).toNat else (2 * n).toNat
def I64 (n : Int) : Prop := -9223372036854775808 ≤ n ∧ n ≤ 9223372036854775807
theorem sgn_lt {n : Int} (h : I64 n) : sgn n < 18446744073709551616 := by
  unfold I64 at h; unfold sgn; split <;> omega

theorem sgn_neg {n : Int} (h : I64 n) (h0 : n < 0) : bits .or .u64 (IntKind.u64.wrap (IntKind.u64.wrap (wrap64 (-wrap64 (n + 1))) * 2)) 1 = (sgn n : Int) := by
  unfold I64 at h
  have e1 : wrap64 (-wrap64 (n + 1)) = -(n + 1) := by unfold wrap64; omega
  have e2 : IntKind.u64.wrap (IntKind.u64.wrap (-(n + 1)) * 2) = ((2 * (-(n + 1)).toNat : Nat) : Int) := by
    simp only [IntKind.wrap_u64]
    omega
  rw [e1, e2]
  have e3 := u64_or_nat (2 * (-(n + 1)).toNat) 1 (by omega) (by omega)
  rw [show ((1 : Nat) : Int) = 1 from rfl] at e3
  rw [e3]
  have e4 := Nat.two_pow_add_eq_or_of_lt (i := 1) (b := 1) (by omega) (-(n + 1)).toNat
  rw [Nat.pow_one] at e4
  rw [← e4]
  unfold sgn
  rw [if_pos h0]
  omega
theorem sgn_pos {n : Int} (h : I64 n) (h0 : ¬ n < 0) : IntKind.u64.wrap (IntKind.u64.wrap n * 2) = (sgn n : Int) := by
  unfold I64 at h
  simp only [IntKind.wrap_u64]
  unfold sgn
  rw [if_neg h0]
  omega

set_option maxHeartbeats 400000 in
theorem wsigned_any (n : Int) (hn : I64 n) (w : World) (base g : Nat) (xs : List Int) (bad : Bool) (A : Option Addr) (m c : Nat) (h : Wst w base g xs bad A m c) (hm : m ≤ 199999999999900) :
    Calls Tryd.prog 65 #[.pointer (some ⟨g, 0, none⟩), .int .i64 n] w (Wrote w base g xs bad (cnt (sgn n))) := by
  have H := hide h
  have HN := hide hn
  clear h hn
  by_cases h0 : n < 0
  · go_enter Tryd.func65, Tryd.ntmps65
    go_wp2_with fail
    rw [sgn_neg HN.out h0]
    refine (wcount_any _ (sgn_lt HN.out) _ _ _ _ _ _ _ _ H.out hm).mono ?_
    rintro e w' ⟨rfl, hb, hx⟩
    have HB := hide hb
    have HX := hide hx
    clear hb hx
    go_wp2
    go_end0
    exact ⟨rfl, HB.out, HX.out⟩
  · go_enter Tryd.func65, Tryd.ntmps65
    go_wp2_with fail
    rw [sgn_pos HN.out (by omega)]
    refine (wcount_any _ (sgn_lt HN.out) _ _ _ _ _ _ _ _ H.out hm).mono ?_
    rintro e w' ⟨rfl, hb, hx⟩
    have HB := hide hb
    have HX := hide hx
    clear hb hx
    go_wp2
    go_end0
    exact ⟨rfl, HB.out, HX.out⟩

/-- A text's bytes: its count, then they. -/
def txt (s : List Int) : List Int := cnt s.length ++ s
theorem len_cast (n : Nat) (h : n ≤ 200000000000000) : IntKind.u64.wrap (n : Int) = (n : Int) := by rw [IntKind.wrap_u64]; omega

/-- append of a string's bytes onto the writer's own. -/
theorem wpList_append_wstr {P : Program} {ops : Array Oper} {rest : List Oper} {o : Oper} {a : Act} {Q : Exit → Act → World → Prop} {W : World} {base g n c : Nat} {xs : List Int} {bad : Bool} {A : Option Addr} (hgd : o.guard = none) (s x : Operand) (t u : TypeId)
    (ho : o.op = .call { callee := .builtin .append, args := #[s, x], argTypes := #[t, u] })
    (ht : P.underlying t = some (.slice 5)) (hu : P.underlying u = some .string) (hi : (P.info? 5).map (fun i => (i.zero, i.size, i.bytes)) = some (some (.int .u8 0), 1, 1))
    (h0 : Wst W base g xs bad A n c) (hs : a.eval s = .slice A n c) (str : ByteArray) (hx : a.eval x = .string str)
    (N : Nat) (hN : n + str.size = N) (zs : List Int) (hzs : xs ++ sb str = zs) (hbytes : N ≤ 140737488355328)
    (h : ∀ A' c' w', Hid (Below base W (w'.setCell ⟨g, 0, none⟩ (.slice A' N c')) ∧ Wst (w'.setCell ⟨g, 0, none⟩ (.slice A' N c')) base g zs bad A' N c') → w'.cell? ⟨g, 0, none⟩ = some (.slice A n c) → w'.frozen? ⟨g, 0, none⟩ = false → wpList P ops Q rest (a.put o.dst (.slice A' N c')) w') :
    wpList P ops Q (o :: rest) a W := by
  subst hN hzs
  refine wpList_append_str _ hgd s x t u ho _ ht hu hi h0.own hs str hx hbytes h0.size fun A' c' w' ha => ?_
  have hb := h0.blk_app ha
  exact h A' c' w' ⟨h0.below_stored ha _, h0.stored ha⟩ (by rw [hb.cell]; rfl) (hb.frozen 0)

theorem cnt_small {n : Nat} (h : n ≤ 200000000000000) : (cnt n).length ≤ 10 := cnt_len n (by omega)

set_option maxHeartbeats 400000 in
theorem wtext_any (s : ByteArray) (w : World) (base g : Nat) (xs : List Int) (bad : Bool) (A : Option Addr) (m c : Nat) (h : Wst w base g xs bad A m c) (hm : m + s.size ≤ 140737488355000) :
    Calls Tryd.prog 36 #[.pointer (some ⟨g, 0, none⟩), .string s] w (Wrote w base g xs bad (txt (sb s))) := by
  have H := hide h
  clear h
  go_enter Tryd.func36, Tryd.ntmps36
  go_wp2_with fail
  refine (wcount_any _ (by omega) _ _ _ _ _ _ _ _ H.out (by omega)).mono ?_
  rintro e w1 ⟨rfl, hb1, A1, n1, c1, h1⟩
  have hn1 : n1 ≤ m + 10 := by
    have e1 := h1.len
    have e2 := H.out.len
    have e3 := cnt_small (n := s.size) (by omega)
    rw [List.length_append] at e1
    omega
  have hc0 := h1.blk.cell 0
  have hf0 := h1.blk.frozen 0
  simp only [List.getElem?_toArray, List.getElem?_cons_zero] at hc0
  have HB1 := hide hb1
  have H1 := hide h1
  clear hb1 h1 H
  go_wp2_with (at_builtin; refine to_halt ?_)
  refine of_halt (wpList_append_wstr rfl _ _ _ _ rfl Tryd.underlying27 Tryd.underlying9 info_u8 H1.out rfl s rfl _ rfl _ rfl (by omega) ?_)
  intro A2 c2 w2 hP hcell hfroz
  go_wp2
  go_end0
  refine ⟨rfl, HB1.out.trans hP.out.1, A2, n1 + s.size, c2, ?_⟩
  unfold txt
  rw [sb_len, ← List.append_assoc]
  exact hP.out.2

/-- A slice of int64 reads as xs. -/
structure Is (w : World) (B : Nat) (A : Option Addr) (n : Nat) (xs : List Int) : Prop where
  rd : Reads w B 1 A n (xs.map (Value.int .i64))
  rng : ∀ x ∈ xs, I64 x
section
variable {w w' : World} {B B' n : Nat} {A : Option Addr} {xs : List Int}
theorem Is.len (h : Is w B A n xs) : xs.length = n := by have := h.rd.1; rw [List.length_map] at this; omega
theorem Is.at_ {k : Nat} (h : Is w B A n xs) (hk : k < n) : ∃ ad x, A = some ad ∧ ad.block < B ∧ I64 x ∧ w.cell? (ad.add k) = some (.int .i64 x) ∧ xs[k]? = some x := by
  obtain ⟨ad, u, e, hb, hx, hc⟩ := h.rd.at_ hk
  simp only [List.getElem?_map, Option.map_eq_some_iff] at hx
  obtain ⟨x, hx, rfl⟩ := hx
  exact ⟨ad, x, e, hb, h.rng x (List.mem_of_getElem? hx), hc, hx⟩
theorem Is.below (h : Is w B A n xs) (hb : Below B w w') : Is w' B A n xs := ⟨h.rd.below hb, h.rng⟩
theorem Is.more (h : Is w B A n xs) (hB : B ≤ B') : Is w B' A n xs := ⟨h.rd.more hB, h.rng⟩
theorem Is.drewN (h : Is w B A n xs) (k : Nat) : Is (w.drewN k) B A n xs := ⟨h.rd, h.rng⟩
theorem Is.alloc (h : Is w B A n xs) (hB : B ≤ w.heap.size) (o : Obj) : Is (w.alloc o) B A n xs := ⟨h.rd.alloc hB o, h.rng⟩
end

def nms (l : List Int) : List Int := cnt l.length ++ l.flatMap fun n => cnt (sgn n)
theorem flat_len (l : List Int) (h : ∀ x ∈ l, I64 x) : (l.flatMap fun n => cnt (sgn n)).length ≤ 10 * l.length := by
  induction l with
  | nil => simp
  | cons x l ih =>
    simp only [List.flatMap_cons, List.length_append, List.length_cons]
    have h1 := cnt_len (sgn x) (sgn_lt (h x (by simp)))
    have h2 := ih fun y hy => h y (by simp [hy])
    omega

set_option maxHeartbeats 400000 in
theorem wnums_any (l : List Int) (w : World) (base g B : Nat) (xs : List Int) (bad : Bool) (A : Option Addr) (m c : Nat) (h : Wst w base g xs bad A m c) (L : Option Addr) (n d : Nat) (hl : Is w B L n l) (hB : B ≤ base) (hm : m + 10 * n ≤ 199999999999000) :
    Calls Tryd.prog 35 #[.pointer (some ⟨g, 0, none⟩), .slice L n d] w (Wrote w base g xs bad (nms l)) := by
  have H := hide h
  have HL := hide hl
  clear h hl
  go_enter Tryd.func35, Tryd.ntmps35
  go_wp2_with fail
  refine (wcount_any _ (by omega) _ _ _ _ _ _ _ _ H.out (by omega)).mono ?_
  rintro e w1 ⟨rfl, hb1, h1⟩
  have HB1 := hide hb1
  have H1 := hide h1
  clear hb1 h1
  go_wp2
  go_loopw [5, 13] (fun _ i wr => ∃ k : Nat, k ≤ n ∧ i = .int .i64 k ∧ Hid (∃ A' m' c', Wst wr base g (xs ++ (cnt n ++ (l.take k).flatMap fun n => cnt (sgn n))) bad A' m' c') ∧ Hid (Below base w wr)) (fun _ i _ => n - (intOf i).toNat)
  case atStart => exact ⟨0, by omega, by go_num, hide (by simpa using H1.out), HB1⟩
  case round =>
    obtain ⟨k, hk, rfl, h2, hb2⟩ := hrel
    by_cases hlt : k < n
    · obtain ⟨ad, x, rfl, hadB, hx64, hcx, hx⟩ := (HL.out.below (hb2.out.mono hB)).at_ hlt
      obtain ⟨A2, m2, c2, h2⟩ := h2
      have hm2 : m2 ≤ m + 10 + 10 * n := by
        have e1 := h2.len
        have e2 := H.out.len
        have e3 := cnt_small (n := n) (by omega)
        have e4 := flat_len (l.take k) fun y hy => HL.out.rng y (List.mem_of_mem_take hy)
        rw [List.length_append, List.length_append] at e1
        rw [List.length_take] at e4
        omega
      have HX := hide hx
      have H64 := hide hx64
      have H2 := hide h2
      clear h2 hx hx64
      go_wp2_with fail
      refine (wsigned_any x H64.out _ _ _ _ _ _ _ _ H2.out (by omega)).mono ?_
      rintro e w3 ⟨rfl, hb3, h3⟩
      have HB3 := hide (hb2.out.trans hb3)
      have H3 := hide h3
      clear hb3 h3 hb2
      go_wp2
      go_roundw
      case rel =>
        refine ⟨k + 1, by omega, by go_num, ?_, HB3⟩
        have h3 := H3.out
        rw [List.append_assoc, List.append_assoc] at h3
        rw [take_snoc' l k x HX.out, List.flatMap_append]
        exact hide (by simpa using h3)
      case measure => simp [intOf]; omega
    · go_wp2
      go_end0
      refine ⟨rfl, hb2.out, ?_⟩
      have h2' := h2.out
      rw [List.take_of_length_le (by have := HL.out.len; omega)] at h2'
      unfold nms
      rw [HL.out.len]
      exact h2'
end Go.Proofs.YtbmkindgbabobaaDoor
