/- Words and small laws on memory that the contracts over this seat share: a slice that reads as a list, a row that the call owns, an append onto it. Nothing of the program is named. -/
import Derived.WalkKit
import Derived.WalkSpells
import Derived.WalkLawsBesides
import Derived.Deep.QuietTactic
import Derived.BigQuiet
import Derived.Lib.Hide
import Derived.Deep.LoopGhost
import Derived.Deep.AppendLies
import Derived.Deep.Draws
import Derived.Maps.AppendAt
import Derived.Below
import Derived.Laws.OwnMore
import Derived.RegionTactic
import Derived.OwnWalk
import Derived.Lib.AppendStr
namespace Go.Proofs.YtbmkindgbabobaaDoor
open Go.RowKit

/-- A goal at which a walk is to stand still. -/
def Halted (p : Prop) : Prop := p
theorem to_halt {p : Prop} (h : Halted p) : p := h
theorem of_halt {p : Prop} (h : p) : Halted p := h
theorem hide {p : Prop} (h : p) : Hid p := h

theorem block_of_add (a : Addr) (n : Nat) : (a.add n).block = a.block := by unfold Addr.add; split <;> rfl
theorem add_of_add (a : Addr) (i j : Nat) : (a.add i).add j = a.add (i + j) := by
  unfold Addr.add
  by_cases hi : i = 0 <;> by_cases hj : j = 0 <;> simp [hi, hj, Nat.add_assoc]
theorem add_lit0 (g j : Nat) : (⟨g, 0, none⟩ : Addr).add j = ⟨g, j, none⟩ := by
  unfold Addr.add; split <;> simp_all

/-- The slice value '.slice A n c' holds the cells xs and lies below block B (nil let in). -/
def Reads (w : World) (B size : Nat) (A : Option Addr) (n : Nat) (xs : List Value) : Prop :=
  xs.length = n * size ∧ (0 < n → ∃ ad, A = some ad ∧ ad.block < B ∧ ∀ j u, xs[j]? = some u → w.cell? (ad.add j) = some u)

section
variable {w w' : World} {B B' size n : Nat} {A : Option Addr} {xs : List Value}
theorem Reads.none_ : Reads w B size A 0 [] := ⟨by simp, fun h => absurd h (by omega)⟩
theorem Reads.at_ {k : Nat} (h : Reads w B 1 A n xs) (hk : k < n) : ∃ ad u, A = some ad ∧ ad.block < B ∧ xs[k]? = some u ∧ w.cell? (ad.add k) = some u := by
  obtain ⟨ad, e, hb, hc⟩ := h.2 (by omega)
  have hl : k < xs.length := by have := h.1; omega
  exact ⟨ad, xs[k], e, hb, List.getElem?_eq_getElem hl, hc k _ (List.getElem?_eq_getElem hl)⟩
theorem Reads.keep (h : Reads w B size A n xs) (hk : ∀ p : Addr, p.block < B → w'.cell? p = w.cell? p) : Reads w' B size A n xs :=
  ⟨h.1, fun hn => by
    obtain ⟨ad, e, hb, hc⟩ := h.2 hn
    exact ⟨ad, e, hb, fun j u hu => (hk _ (by rw [block_of_add]; exact hb)).trans (hc j u hu)⟩⟩
theorem Reads.more (h : Reads w B size A n xs) (hB : B ≤ B') : Reads w B' size A n xs :=
  ⟨h.1, fun hn => by
    obtain ⟨ad, e, hb, hc⟩ := h.2 hn
    exact ⟨ad, e, by omega, hc⟩⟩
theorem Reads.below (h : Reads w B size A n xs) (hb : Below B w w') : Reads w' B size A n xs := h.keep fun _ hp => hb.cell hp
theorem Reads.drewN (h : Reads w B size A n xs) (k : Nat) : Reads (w.drewN k) B size A n xs := h
theorem Reads.alloc (h : Reads w B size A n xs) (hB : B ≤ w.heap.size) (o : Obj) : Reads (w.alloc o) B size A n xs := h.keep fun p hp => World.cell?_alloc_lt w o p (by omega)
theorem Reads.setCell (h : Reads w B size A n xs) {p : Addr} (hB : B ≤ p.block) (u : Value) : Reads (w.setCell p u) B size A n xs :=
  h.keep fun q hq => World.cell?_setCell_other w p q u (fun e => by subst e; omega)
theorem Reads.grown (h : Reads w B size A n xs) {row : Option Nat} (hg : w.grownBy w' row) (hB : B ≤ w.heap.size) (hr : ∀ g, row = some g → B ≤ g) : Reads w' B size A n xs :=
  h.keep fun p hp => World.cell?_of_block (hg.block p.block (by omega) (fun e => by have := hr _ e.symm; omega))
theorem Reads.cut (h : Reads w B size A n xs) {k cap : Nat} (hk : k ≤ n) (hc : n ≤ cap) :
    Reads w B size (if cap = k then A else A.map (·.add (k * size))) (n - k) (xs.drop (k * size)) := by
  refine ⟨by rw [List.length_drop, h.1, Nat.sub_mul], fun hn => ?_⟩
  obtain ⟨ad, rfl, hb, hcell⟩ := h.2 (by omega)
  rw [if_neg (by omega)]
  refine ⟨ad.add (k * size), rfl, by rw [block_of_add]; exact hb, fun j u hu => ?_⟩
  rw [add_of_add]
  exact hcell _ u (by rw [← hu, List.getElem?_drop])
theorem Reads.take (h : Reads w B size A n xs) {k : Nat} (hk : k ≤ n) : Reads w B size A k (xs.take (k * size)) := by
  have hle : k * size ≤ n * size := Nat.mul_le_mul_right _ hk
  refine ⟨by rw [List.length_take, h.1]; omega, fun hn => ?_⟩
  obtain ⟨ad, rfl, hb, hcell⟩ := h.2 (by omega)
  refine ⟨ad, rfl, hb, fun j u hu => ?_⟩
  rw [List.getElem?_take] at hu
  split at hu
  · exact hcell j u hu
  · cases hu
theorem Reads.of_own {base : Nat} {e : TypeId} {c : Nat} (h : w.ownsRow base e size (.slice A n c) n xs) : Reads w w.heap.size size A n xs := by
  refine ⟨h.1, fun hn => ?_⟩
  obtain ⟨g, cap, hv, _, hlt⟩ := h.form hn
  have hA : A = some ⟨g, 0, none⟩ := by injection hv
  subst hA
  exact ⟨_, rfl, hlt, h.cells (g := g) rfl⟩
end

/-- Bytes as cells. -/
def bv (xs : List Int) : List Value := xs.map (Value.int .u8)
def Byt (xs : List Int) : Prop := ∀ x ∈ xs, 0 ≤ x ∧ x < 256
theorem bv_length (xs : List Int) : (bv xs).length = xs.length := by simp [bv]
theorem bv_append (xs ys : List Int) : bv (xs ++ ys) = bv xs ++ bv ys := by simp [bv]
theorem bv_one (xs : List Int) : ∀ u ∈ bv xs, u.oneCell' = true := by
  intro u hu; simp only [bv, List.mem_map] at hu; obtain ⟨x, _, rfl⟩ := hu; rfl
theorem bv_take (xs : List Int) (k : Nat) : (bv xs).take k = bv (xs.take k) := by simp [bv, List.map_take]
theorem bv_drop (xs : List Int) (k : Nat) : (bv xs).drop k = bv (xs.drop k) := by simp [bv, List.map_drop]
theorem Byt.append {xs ys : List Int} (h : Byt xs) (h' : Byt ys) : Byt (xs ++ ys) := by
  intro x hx; rcases List.mem_append.1 hx with h1 | h1
  · exact h x h1
  · exact h' x h1
theorem Byt.take {xs : List Int} (h : Byt xs) (k : Nat) : Byt (xs.take k) := fun x hx => h x (List.mem_of_mem_take hx)
theorem Byt.drop {xs : List Int} (h : Byt xs) (k : Nat) : Byt (xs.drop k) := fun x hx => h x (List.mem_of_mem_drop hx)
theorem Byt.nil : Byt [] := by intro x hx; cases hx
theorem Byt.left {xs ys : List Int} (h : Byt (xs ++ ys)) : Byt xs := fun x hx => h x (List.mem_append.2 (.inl hx))
theorem Byt.right {xs ys : List Int} (h : Byt (xs ++ ys)) : Byt ys := fun x hx => h x (List.mem_append.2 (.inr hx))

/-- '.slice A n c' reads as the bytes xs, below block B. -/
structure Bs (w : World) (B : Nat) (A : Option Addr) (n : Nat) (xs : List Int) : Prop where
  rd : Reads w B 1 A n (bv xs)
  byt : Byt xs
section
variable {w w' : World} {B B' n : Nat} {A : Option Addr} {xs : List Int}
theorem Bs.len (h : Bs w B A n xs) : xs.length = n := by have := h.rd.1; rw [bv_length] at this; omega
theorem Bs.at_ {k : Nat} (h : Bs w B A n xs) (hk : k < n) : ∃ ad x, A = some ad ∧ ad.block < B ∧ 0 ≤ x ∧ x < 256 ∧ w.cell? (ad.add k) = some (.int .u8 x) ∧ xs[k]? = some x := by
  obtain ⟨ad, u, e, hb, hx, hc⟩ := h.rd.at_ hk
  simp only [bv, List.getElem?_map, Option.map_eq_some_iff] at hx
  obtain ⟨x, hx, rfl⟩ := hx
  have := h.byt x (List.mem_of_getElem? hx)
  exact ⟨ad, x, e, hb, this.1, this.2, hc, hx⟩
theorem Bs.below (h : Bs w B A n xs) (hb : Below B w w') : Bs w' B A n xs := ⟨h.rd.below hb, h.byt⟩
theorem Bs.more (h : Bs w B A n xs) (hB : B ≤ B') : Bs w B' A n xs := ⟨h.rd.more hB, h.byt⟩
theorem Bs.drewN (h : Bs w B A n xs) (k : Nat) : Bs (w.drewN k) B A n xs := ⟨h.rd, h.byt⟩
theorem Bs.alloc (h : Bs w B A n xs) (hB : B ≤ w.heap.size) (o : Obj) : Bs (w.alloc o) B A n xs := ⟨h.rd.alloc hB o, h.byt⟩
theorem Bs.take (h : Bs w B A n xs) {k : Nat} (hk : k ≤ n) : Bs w B A k (xs.take k) := by
  have := h.rd.take hk
  rw [Nat.mul_one, bv_take] at this
  exact ⟨this, h.byt.take k⟩
theorem Bs.cut (h : Bs w B A n xs) {k cap : Nat} (hk : k ≤ n) (hc : n ≤ cap) : Bs w B (if cap = k then A else A.map (·.add k)) (n - k) (xs.drop k) := by
  have := h.rd.cut hk hc
  rw [Nat.mul_one, bv_drop] at this
  exact ⟨this, h.byt.drop k⟩
theorem Bs.cutk (h : Bs w B A n xs) {k m : Nat} (h0 : 0 < k) (hk : k + m = n) : Bs w B (A.map fun x => { block := x.block, off := x.off + k }) m (xs.drop k) := by
  obtain rfl : m = n - k := by omega
  have := h.cut (k := k) (cap := n + k + 1) (by omega) (by omega)
  rw [if_neg (by omega)] at this
  rw [show (fun x : Addr => ({ block := x.block, off := x.off + k } : Addr)) = (fun x : Addr => x.add k) from funext fun x => by unfold Addr.add; rw [if_neg (by omega)]]
  exact this
theorem Bs.none_ : Bs w B A 0 [] := ⟨Reads.none_, Byt.nil⟩
end

/-- The array of a literal, just made. -/
theorem Bs.made (w : World) (e : TypeId) (xs : List Int) (vs : Array Value) (hv : vs = (bv xs).toArray) (hb : Byt xs) : Bs (w.alloc (.cells vs e)) (w.heap.size + 1) (some ⟨w.heap.size, 0, none⟩) xs.length xs := by
  subst hv
  refine ⟨⟨by rw [bv_length]; omega, fun _ => ⟨_, rfl, Nat.lt_succ_self _, fun j u hu => ?_⟩⟩, hb⟩
  rw [add_lit0, cell_of_row _ w.heap.size j _ e (0, 0) (heap_alloc_new w _)]
  simpa using hu
/-- The slice value v of n bytes owns its row from block 'base' on. -/
structure Ow (w : World) (base : Nat) (e : TypeId) (v : Value) (n : Nat) (xs : List Int) : Prop where
  own : w.ownsRow base e 1 v n (bv xs)
  byt : Byt xs
section
variable {w w' : World} {base e n c : Nat} {v : Value} {xs : List Int} {A : Option Addr}
theorem Ow.len (h : Ow w base e v n xs) : xs.length = n := by have := h.own.1; rw [bv_length] at this; omega
theorem Ow.bs (h : Ow w base e (.slice A n c) n xs) : Bs w w.heap.size A n xs := ⟨Reads.of_own h.own, h.byt⟩
theorem Ow.nil (w : World) (base e : Nat) : Ow w base e (.slice none 0 0) 0 [] := ⟨World.ownsRow_nil _ _ _ _, Byt.nil⟩
theorem Ow.drewN (h : Ow w base e v n xs) (k : Nat) : Ow (w.drewN k) base e v n xs := ⟨h.own, h.byt⟩
theorem Ow.alloc (h : Ow w base e v n xs) (o : Obj) : Ow (w.alloc o) base e v n xs := ⟨h.own.alloc o, h.byt⟩
theorem Ow.shape (h : Ow w base e v n xs) : ∃ A c, v = .slice A n c ∧ n ≤ c ∧ c ≤ maxLen := by
  rcases h.own.2 with ⟨rfl, rfl⟩ | ⟨g, cap, cur, rfl, _, _, hn, hm, _⟩
  · exact ⟨none, 0, rfl, Nat.le_refl _, Nat.zero_le _⟩
  · exact ⟨_, cap, rfl, hn, hm⟩
theorem Ow.below (h : Ow w base e v n xs) (hb : Below w.heap.size w w') : Ow w' base e v n xs := by
  refine ⟨⟨h.own.1, ?_⟩, h.byt⟩
  rcases h.own.2 with hn | ⟨g, cap, cur, rfl, hg, hgg, rest⟩
  · exact .inl hn
  · exact .inr ⟨g, cap, cur, rfl, hg, by rw [hb.block g (Array.getElem?_eq_some_iff.1 hgg).1]; exact hgg, rest⟩
theorem Ow.base_le (h : Ow w base e v n xs) {base' : Nat} (hb : base' ≤ base) : Ow w base' e v n xs := by
  refine ⟨⟨h.own.1, ?_⟩, h.byt⟩
  rcases h.own.2 with hn | ⟨g, cap, cur, rfl, hg, rest⟩
  · exact .inl hn
  · exact .inr ⟨g, cap, cur, rfl, by omega, rest⟩
theorem Ow.grown {row : Option Nat} (h : Ow w base e v n xs) (hg : w.grownBy w' row) (hne : v.ownBlock = none ∨ v.ownBlock ≠ row) : Ow w' base e v n xs := ⟨h.own.kept hg hne, h.byt⟩
end

section
variable {P : Program} (w : World)

theorem run_append_of_nil (base : Nat) (t ty e : TypeId) (i : TypeInfo) (size : Nat) (ht : P.underlying t = some (.slice e)) (hi : P.info? e = some i)
    (v : Value) (n : Nat) (xs : List Value) (hown : w.ownsRow base e size v n xs) (c : Nat) : (Builtin.append_ #[t, t] ty #[v, .slice none 0 c]).run P w = .ok v w := by
  rcases hown.2 with ⟨rfl, rfl⟩ | ⟨g, cap, cur, rfl, _, _, hnc, _⟩
  · simp [Builtin.append_, run_underlying ht, sizeOf, typeInfo, hi, Builtin.lenOf, Builtin.firstCells]
  · simp [Builtin.append_, run_underlying ht, sizeOf, typeInfo, hi, Builtin.lenOf, Builtin.firstCells, hnc, storeCells]

theorem nextslicecap_tight {need old : Nat} (h : old < need) : Builtin.nextslicecap need old ≤ need + need / 4 + 512 := by
  unfold Builtin.nextslicecap
  split
  · omega
  · split
    · omega
    · rw [growBy_four]
      repeat' split
      all_goals omega

/-- 'run_append_own_at' with the growth's own bound in the place of 2^47. -/
theorem run_append_tight (base : Nat) (t ty e : TypeId) (i : TypeInfo) (z : Value) (size bytes : Nat) (ht : P.underlying t = some (.slice e)) (hi : P.info? e = some i) (hz : i.zero = some z)
    (hsize : i.size = size) (hby : i.bytes = bytes) (hzs : z.cells.size = size) (hsz : 0 < size)
    (v : Value) (n : Nat) (xs : List Value) (hown : w.ownsRow base e size v n xs)
    (a : Addr) (m c : Nat) (news : List Value) (hl : news.length = m * size) (hnews : ∀ j u, news[j]? = some u → w.cell? (a.add j) = some u) (h1 : ∀ u ∈ news, u.oneCell' = true)
    (h63 : n + m ≤ maxLen) (hbytes : (n + m + (n + m) / 4 + 512) * bytes ≤ 281474976710656) (hbase : base ≤ w.heap.size) :
    ∃ v' w', (Builtin.append_ #[t, t] ty #[v, .slice (some a) m c]).run P w = .ok v' w' ∧ w'.ownsRow base e size v' (n + m) (xs ++ news) ∧ w.grownBy w' v.ownBlock ∧
      (v'.ownBlock = v.ownBlock ∨ v'.ownBlock = some w.heap.size) := by
  subst hsize
  subst hby
  have hsmall : n + m ≤ 9223372036854775807 := by simp only [maxLen] at h63; omega
  have hlen : (xs ++ news).length = (n + m) * i.size := by rw [List.length_append, hown.1, hl, Nat.add_mul]
  have fits : ∀ old, old < n + m → Builtin.nextslicecap (n + m) old * i.bytes ≤ 281474976710656 := fun old ho => Nat.le_trans (Nat.mul_le_mul_right _ (nextslicecap_tight ho)) hbytes
  have grown : ∀ (old : Nat), old < n + m → ∀ (row : Option Nat),
      (w.drew.alloc (.cells (xs.toArray ++ news.toArray ++ Builtin.zeroCells z.cells (grownCap w (n + m) old e - (n + m))) e)).ownsRow base e i.size
        (.slice (some ⟨w.heap.size, 0, none⟩) (n + m) (grownCap w (n + m) old e)) (n + m) (xs ++ news) ∧
      w.grownBy (w.drew.alloc (.cells (xs.toArray ++ news.toArray ++ Builtin.zeroCells z.cells (grownCap w (n + m) old e - (n + m))) e)) row := by
    intro old ho row
    have hge := grownCap_ge w (n + m) old e
    have hcm : grownCap w (n + m) old e ≤ maxLen := grownCap_le_maxLen w (n + m) old e h63
    refine ⟨⟨hlen, .inr ⟨w.heap.size, _, _, rfl, hbase, heap_alloc_new w.drew _, hge, hcm, ?_, ?_⟩⟩, ⟨rfl, rfl, rfl, by simp, fun k hk _ => Below.heap_alloc w.drew _ k hk⟩⟩
    · simp only [Array.size_append, List.size_toArray, size_zeroCells, hzs, hown.1, hl, ← Nat.add_mul]
      congr 1
      omega
    · simp only [Array.toList_append, List.append_assoc]
      rw [← List.append_assoc, ← hlen]
      exact List.take_left
  rcases hown.2 with ⟨rfl, rfl⟩ | ⟨g, cap, cur, rfl, hbg, hg, hnc, hcm, hcs, htake⟩
  · have hx : xs = [] := List.eq_nil_of_length_eq_zero (by simpa using hown.1)
    subst hx
    by_cases hm : m = 0
    · subst hm
      have hn : news = [] := List.eq_nil_of_length_eq_zero (by simpa using hl)
      subst hn
      refine ⟨.slice none 0 0, w, ?_, World.ownsRow_nil w base e i.size, ⟨rfl, rfl, rfl, Nat.le_refl _, fun _ _ _ => rfl⟩, Or.inl rfl⟩
      simp [Builtin.append_, run_underlying ht, sizeOf, typeInfo, hi, Builtin.lenOf, Builtin.firstCells, loadCells, loadCellsFrom]
    · have hfm := fits 0 (by omega)
      rw [nextslicecap_zero (by omega)] at hfm
      simp only [Nat.zero_add] at hfm
      have hr := run_append_nil (P := P) w t ty e i z ht hi hz a m c news hl hnews (by omega) (by omega) hfm
      have hgr := grown 0 (by omega) (Value.ownBlock (.slice none 0 0))
      simp only [Nat.zero_add, List.nil_append, Array.empty_append] at hgr ⊢
      exact ⟨_, _, hr, hgr.1, hgr.2, Or.inr rfl⟩
  · by_cases hroom : n + m ≤ cap
    · have hfit : n * i.size + news.length ≤ cur.size := by rw [hl, hcs, ← Nat.add_mul]; exact Nat.mul_le_mul_right _ hroom
      have hr := run_append_room (P := P) w t ty e i ht hi g n cap cur hg a m c news hl hnews h1 hroom hfit
      refine ⟨_, _, hr, ⟨hlen, .inr ⟨g, cap, _, rfl, hbg, setRow_heap w g cur _ e _ hg, hroom, hcm, ?_, ?_⟩⟩, ⟨rfl, rfl, rfl, by simp, fun k _ hk => setRow_other w g k _ (fun e => hk (by simp [Value.ownBlock, e]))⟩, Or.inl rfl⟩
      · simp only [List.size_toArray, List.length_append, List.length_take, List.length_drop, Array.length_toList]
        omega
      · rw [htake, ← hlen]
        exact List.take_left
    · have holds : ∀ j u, xs[j]? = some u → w.cell? ((⟨g, 0, none⟩ : Addr).add j) = some u := hown.cells (g := g) rfl
      have hr := run_append_grow (P := P) w t ty e i z ht hi hz ⟨g, 0, none⟩ n cap xs hown.1 holds a m c news hl hnews (by omega) (by omega) (fits cap (by omega))
      have hgr := grown cap (by omega) (Value.ownBlock (.slice (some ⟨g, 0, none⟩) n cap))
      exact ⟨_, _, hr, hgr.1, hgr.2, Or.inr rfl⟩

theorem run_append_any (base : Nat) (t ty e : TypeId) (i : TypeInfo) (z : Value) (size bytes : Nat) (ht : P.underlying t = some (.slice e)) (hi : P.info? e = some i) (hz : i.zero = some z)
    (hsize : i.size = size) (hby : i.bytes = bytes) (hzs : z.cells.size = size) (hsz : 0 < size)
    (v : Value) (n : Nat) (xs : List Value) (hown : w.ownsRow base e size v n xs)
    (B : Nat) (A : Option Addr) (m c : Nat) (news : List Value) (hr : Reads w B size A m news) (h1 : ∀ u ∈ news, u.oneCell' = true)
    (h63 : n + m ≤ maxLen) (hbytes : (n + m + (n + m) / 4 + 512) * bytes ≤ 281474976710656) (hbase : base ≤ w.heap.size) :
    ∃ v' w', (Builtin.append_ #[t, t] ty #[v, .slice A m c]).run P w = .ok v' w' ∧ w'.ownsRow base e size v' (n + m) (xs ++ news) ∧ w.grownBy w' v.ownBlock ∧
      (v'.ownBlock = v.ownBlock ∨ v'.ownBlock = some w.heap.size) := by
  rcases A with _ | ad
  · have hm : m = 0 := by
      rcases Nat.eq_zero_or_pos m with h0 | h0
      · exact h0
      · obtain ⟨ad, h, _⟩ := hr.2 h0
        cases h
    subst hm
    have hn : news = [] := List.eq_nil_of_length_eq_zero (by simpa using hr.1)
    subst hn
    exact ⟨v, w, run_append_of_nil w base t ty e i size ht hi v n xs hown c, by simpa using hown, World.grownBy.refl w _, .inl rfl⟩
  · have hcells : ∀ j u, news[j]? = some u → w.cell? (ad.add j) = some u := by
      intro j u hu
      rcases Nat.eq_zero_or_pos m with h0 | h0
      · subst h0
        have hn : news = [] := List.eq_nil_of_length_eq_zero (by simpa using hr.1)
        subst hn
        simp at hu
      · obtain ⟨ad', h, _, hc⟩ := hr.2 h0
        injection h with h
        subst h
        exact hc j u hu
    obtain ⟨v', w', hrun, h2, h3, h5⟩ := run_append_tight (P := P) w base t ty e i z size bytes ht hi hz hsize hby hzs hsz v n xs hown ad m c news hr.1 hcells h1 h63 hbytes hbase
    exact ⟨v', w', hrun, h2, h3, h5⟩

/-- append onto owned bytes: of the new world what is said here alone is known. -/
structure Appended (w w' : World) (base e : Nat) (v v' : Value) (n : Nat) (xs : List Int) : Prop where
  own : Ow w' base e v' n xs
  grown : w.grownBy w' v.ownBlock

theorem run_append_bs (t ty e : TypeId) (ht : P.underlying t = some (.slice e)) (hi : (P.info? e).map (fun i => (i.zero, i.size, i.bytes)) = some (some (.int .u8 0), 1, 1))
    {base : Nat} {v : Value} {n : Nat} {xs : List Int} (hown : Ow w base e v n xs)
    {B : Nat} {A : Option Addr} {m c : Nat} {news : List Int} (hr : Bs w B A m news)
    (hbytes : n + m ≤ 200000000000000) (hbase : base ≤ w.heap.size) :
    ∃ A' c' w', (Builtin.append_ #[t, t] ty #[v, .slice A m c]).run P w = .ok (.slice A' (n + m) c') w' ∧ Appended w w' base e v (.slice A' (n + m) c') (n + m) (xs ++ news) := by
  obtain ⟨i, hi0, hz, hsz, hby⟩ := info_parts hi
  obtain ⟨v', w', hrun, h2, h3, _⟩ := run_append_any (P := P) w base t ty e i (.int .u8 0) 1 1 ht hi0 hz hsz hby rfl (by decide) v n (bv xs) hown.own B A m c (bv news) hr.rd (bv_one _) (by unfold maxLen; omega) (by omega) hbase
  have h5 : Ow w' base e v' (n + m) (xs ++ news) := ⟨by rw [bv_append]; exact h2, hown.byt.append hr.byt⟩
  obtain ⟨A', c', rfl, _⟩ := h5.shape
  exact ⟨A', c', w', hrun, h5, h3⟩

theorem wp_append_bs {o : Oper} {a : Act} {K : Act → World → Prop} {Q : Exit → Act → World → Prop} (s x : Operand) (t : TypeId)
    (ho : o.op = .call { callee := .builtin .append, args := #[s, x], argTypes := #[t, t] })
    (e : TypeId) (ht : P.underlying t = some (.slice e)) (hi : (P.info? e).map (fun i => (i.zero, i.size, i.bytes)) = some (some (.int .u8 0), 1, 1))
    {base : Nat} {v : Value} {n : Nat} {xs : List Int} (hown : Ow w base e v n xs) (hs : a.eval s = v)
    {B : Nat} {A : Option Addr} {m c : Nat} {news : List Int} (hr : Bs w B A m news) (hx : a.eval x = .slice A m c)
    (hbytes : n + m ≤ 200000000000000) (hbase : base ≤ w.heap.size)
    (h : ∀ A' c' w', Appended w w' base e v (.slice A' (n + m) c') (n + m) (xs ++ news) → K (a.put o.dst (.slice A' (n + m) c')) w') : o.wp P a w K Q := by
  obtain ⟨A', c', w', hrun, h2⟩ := run_append_bs (P := P) w t o.type e ht hi hown (c := c) hr hbytes hbase
  unfold Oper.wp execOp
  simp only [ho, resolve, invoke, builtin, Sem.run_bind, Sem.run_pure, Result.andThen_ok, List.map_toArray, List.map_cons, List.map_nil, hs, hx, hrun]
  exact h A' c' w' h2

/-- append at the head of a list of operations: WHAT IS ASKED LAST IS THE REST. -/
theorem wpList_append_bs {ops : Array Oper} {rest : List Oper} {o : Oper} {a : Act} {Q : Exit → Act → World → Prop} (hgd : o.guard = none) (s x : Operand) (t : TypeId)
    (ho : o.op = .call { callee := .builtin .append, args := #[s, x], argTypes := #[t, t] })
    (e : TypeId) (ht : P.underlying t = some (.slice e)) (hi : (P.info? e).map (fun i => (i.zero, i.size, i.bytes)) = some (some (.int .u8 0), 1, 1))
    {base : Nat} {v : Value} {n : Nat} {xs : List Int} (hown : Ow w base e v n xs) (hs : a.eval s = v)
    {B : Nat} {A : Option Addr} {m c : Nat} {news : List Int} (hr : Bs w B A m news) (hx : a.eval x = .slice A m c)
    (hbytes : n + m ≤ 200000000000000) (hbase : base ≤ w.heap.size)
    (h : ∀ A' c' w', Appended w w' base e v (.slice A' (n + m) c') (n + m) (xs ++ news) → wpList P ops Q rest (a.put o.dst (.slice A' (n + m) c')) w') : wpList P ops Q (o :: rest) a w :=
  wpList_plain hgd fun _ hK => wp_append_bs w s x t ho e ht hi hown hs hr hx hbytes hbase fun A' c' w' h2 => hK _ _ (h A' c' w' h2)

/-- append onto an owned row of one-cell elements, whatever they are. -/
theorem wpList_append_row {ops : Array Oper} {rest : List Oper} {o : Oper} {a : Act} {Q : Exit → Act → World → Prop} (hgd : o.guard = none) (s x : Operand) (t : TypeId)
    (ho : o.op = .call { callee := .builtin .append, args := #[s, x], argTypes := #[t, t] })
    (e : TypeId) (ht : P.underlying t = some (.slice e)) {z : Value} {bytes : Nat} (hi : (P.info? e).map (fun i => (i.zero, i.size, i.bytes)) = some (some z, 1, bytes)) (hzs : z.cells.size = 1)
    {base : Nat} {v : Value} {n : Nat} {xs : List Value} (hown : w.ownsRow base e 1 v n xs) (hs : a.eval s = v)
    {B : Nat} {A : Option Addr} {m c : Nat} {news : List Value} (hr : Reads w B 1 A m news) (h1 : ∀ u ∈ news, u.oneCell' = true) (hx : a.eval x = .slice A m c)
    (N : Nat) (hN : n + m = N) (hbytes : (N + N / 4 + 512) * bytes ≤ 281474976710656) (h63 : N ≤ 9223372036854775807) (hbase : base ≤ w.heap.size)
    (h : ∀ A' c' w', w'.ownsRow base e 1 (.slice A' N c') N (xs ++ news) → w.grownBy w' v.ownBlock → wpList P ops Q rest (a.put o.dst (.slice A' N c')) w') : wpList P ops Q (o :: rest) a w := by
  subst hN
  refine wpList_plain hgd fun K hK => ?_
  obtain ⟨i, hi0, hz, hsz, hby⟩ := info_parts hi
  obtain ⟨v', w', hrun, h2, h3, _⟩ := run_append_any (P := P) w base t o.type e i z 1 bytes ht hi0 hz hsz hby hzs (by decide) v n xs hown B A m c news hr h1 (by unfold maxLen; omega) hbytes hbase
  have hsh : ∃ A' c', v' = .slice A' (n + m) c' := by
    rcases h2.2 with ⟨rfl, h0⟩ | ⟨g, cap, cur, rfl, _⟩
    · rw [h0]; exact ⟨none, 0, rfl⟩
    · exact ⟨_, cap, rfl⟩
  obtain ⟨A', c', rfl⟩ := hsh
  unfold Oper.wp execOp
  simp only [ho, resolve, invoke, builtin, Sem.run_bind, Sem.run_pure, Result.andThen_ok, List.map_toArray, List.map_cons, List.map_nil, hs, hx, hrun]
  exact hK _ _ (h A' c' w' h2 h3)

/-- A string's bytes as numbers. -/
def sb (s : ByteArray) : List Int := s.data.toList.map fun b => (b.toNat : Int)
theorem sb_len (s : ByteArray) : (sb s).length = s.size := by unfold sb; rw [List.length_map, Array.length_toList]; rfl
theorem sb_byt (s : ByteArray) : Byt (sb s) := by
  intro x hx
  simp only [sb, List.mem_map] at hx
  obtain ⟨b, _, rfl⟩ := hx
  have := b.toNat_lt
  omega
theorem sb_cells (s : ByteArray) : Lib.strCells s = bv (sb s) := by
  simp only [Lib.strCells, bv, sb, List.map_map]
  rfl

/-- append of a string's bytes. -/
theorem run_append_str (t u ty e : TypeId) (ht : P.underlying t = some (.slice e)) (hu : P.underlying u = some .string) (hi : (P.info? e).map (fun i => (i.zero, i.size, i.bytes)) = some (some (.int .u8 0), 1, 1))
    {base : Nat} {v : Value} {n : Nat} {xs : List Int} (hown : Ow w base e v n xs) (s : ByteArray) (hbytes : n + s.size ≤ 140737488355328) (hbase : base ≤ w.heap.size) :
    ∃ A' c' w', (Builtin.append_ #[t, u] ty #[v, .string s]).run P w = .ok (.slice A' (n + s.size) c') w' ∧ Appended w w' base e v (.slice A' (n + s.size) c') (n + s.size) (xs ++ sb s) := by
  obtain ⟨i, hi0, hz, hsz, hby⟩ := info_parts hi
  obtain ⟨v', w', hrun, h2, h3, _⟩ := Lib.run_append_own_string (P := P) w base t u ty e i ht hu hi0 hz hsz hby v n (bv xs) hown.own s (by unfold maxLen; omega) hbytes hbase
  have h5 : Ow w' base e v' (n + s.size) (xs ++ sb s) := ⟨by rw [bv_append, ← sb_cells]; exact h2, hown.byt.append (sb_byt s)⟩
  obtain ⟨A', c', rfl, _⟩ := h5.shape
  exact ⟨A', c', w', hrun, h5, h3⟩
theorem wpList_append_str {ops : Array Oper} {rest : List Oper} {o : Oper} {a : Act} {Q : Exit → Act → World → Prop} (hgd : o.guard = none) (sl x : Operand) (t u : TypeId)
    (ho : o.op = .call { callee := .builtin .append, args := #[sl, x], argTypes := #[t, u] })
    (e : TypeId) (ht : P.underlying t = some (.slice e)) (hu : P.underlying u = some .string) (hi : (P.info? e).map (fun i => (i.zero, i.size, i.bytes)) = some (some (.int .u8 0), 1, 1))
    {base : Nat} {v : Value} {n : Nat} {xs : List Int} (hown : Ow w base e v n xs) (hs : a.eval sl = v) (s : ByteArray) (hx : a.eval x = .string s) (hbytes : n + s.size ≤ 140737488355328) (hbase : base ≤ w.heap.size)
    (h : ∀ A' c' w', Appended w w' base e v (.slice A' (n + s.size) c') (n + s.size) (xs ++ sb s) → wpList P ops Q rest (a.put o.dst (.slice A' (n + s.size) c')) w') : wpList P ops Q (o :: rest) a w := by
  refine wpList_plain hgd fun K hK => ?_
  obtain ⟨A', c', w', hrun, h2⟩ := run_append_str (P := P) w t u o.type e ht hu hi hown s hbytes hbase
  unfold Oper.wp execOp
  simp only [ho, resolve, invoke, builtin, Sem.run_bind, Sem.run_pure, Result.andThen_ok, List.map_toArray, List.map_cons, List.map_nil, hs, hx, hrun]
  exact hK _ _ (h A' c' w' h2)

/-- '[]byte(s)': the string's bytes in new memory. -/
theorem run_conv_bs (src dst e : TypeId) (s : ByteArray) (hs : P.underlying src = some .string) (hd : P.underlying dst = some (.slice e)) (he : P.underlying e = some (.int .u8)) :
    ∃ c' w', (convert src dst (.string s)).run P w = .ok (.slice (some ⟨w.heap.size, 0, none⟩) s.size c') w' ∧ Bs w' w'.heap.size (some ⟨w.heap.size, 0, none⟩) s.size (sb s) ∧ Below w.heap.size w w' := by
  refine ⟨_, _, run_bytes_of_string w src dst e s hs hd he, ⟨⟨by rw [bv_length, sb_len]; omega, fun _ => ⟨_, rfl, by simp, fun j u hu => ?_⟩⟩, sb_byt s⟩, ((Below.refl _ _).drew).alloc (Nat.le_refl _) _⟩
  have hj : j < (sb s).length := by
    have h1 := (List.getElem?_eq_some_iff.1 hu).1
    rwa [bv_length] at h1
  rw [sb_len] at hj
  rw [add_lit0, cell_of_row _ w.heap.size j _ e _ (heap_alloc_new w.drew _), bytesRow_at s _ j hj, ← hu]
  simp only [bv, sb, List.getElem?_map]
  have : s.data.toList[j]? = some s.data[j] := by rw [List.getElem?_eq_getElem (by simpa using hj)]; simp
  rw [this]; rfl

theorem run_make_bs (t e : TypeId) (ht : P.underlying t = some (.slice e)) (hi : (P.info? e).map (fun i => (i.zero, i.size, i.bytes)) = some (some (.int .u8 0), 1, 1))
    (base : Nat) (n : Nat) (C : Int) (hC : C = n) (hn : n ≤ 281474976710656) (hbase : base ≤ w.heap.size) :
    ∃ w', (Instr.makeSlice t (.int .i64 0) (.int .i64 C)).run P w = .ok (.slice (some ⟨w.heap.size, 0, none⟩) 0 n) w' ∧ Ow w' base e (.slice (some ⟨w.heap.size, 0, none⟩) 0 n) 0 [] ∧ Below w.heap.size w w' := by
  subst hC
  obtain ⟨i, hi0, hz, hsz, hby⟩ := info_parts hi
  obtain ⟨w', hrun, r1, r2⟩ := run_make_own (P := P) w base t e i (.int .u8 0) 1 ht hi0 hz hsz .i64 .i64 n (by rw [hby]; omega) (by unfold maxLen; omega) hbase
  exact ⟨w', hrun, ⟨r1, Byt.nil⟩, (Below.refl _ _).grown r2 (Nat.le_refl _) (by simp)⟩
end

theorem below_drewN {B : Nat} {a w : World} (h : Below B a w) (n : Nat) : Below B a (w.drewN n) := ⟨h.os, h.tape, h.output, h.size, h.block⟩
theorem Appended.below {w0 w w' : World} {base e n : Nat} {v v' : Value} {xs : List Int} (h : Appended w w' base e v v' n xs) {m : Nat} {ys : List Int} (hv : Ow w base e v m ys) (hb : Below base w0 w) (hB : base ≤ w.heap.size) : Below base w0 w' :=
  hb.grown h.grown hB (fun k hk => (hv.own.lt k hk).1)

/-- Since the call began in w0 nothing of the old has turned, and v owns a row of the call's own that reads xs. -/
structure Gw (w0 w : World) (e : Nat) (v : Value) (n : Nat) (xs : List Int) : Prop where
  own : Ow w w0.heap.size e v n xs
  bel : Below w0.heap.size w0 w
theorem Ow.made (w : World) (e : TypeId) (xs : List Int) (vs : Array Value) (n : Nat) (hv : vs = (bv xs).toArray) (hn : xs.length = n) (hm : n ≤ maxLen) (hb : Byt xs) : Ow (w.alloc (.cells vs e)) w.heap.size e (.slice (some ⟨w.heap.size, 0, none⟩) n n) n xs := by
  subst hv hn
  refine ⟨⟨by rw [bv_length]; omega, .inr ⟨w.heap.size, xs.length, _, rfl, Nat.le_refl _, heap_alloc_new w _, Nat.le_refl _, hm, by simp [bv_length], ?_⟩⟩, hb⟩
  rw [Nat.mul_one, List.take_of_length_le (by simp [bv_length])]
theorem Gw.made (w : World) (e : TypeId) (xs : List Int) (vs : Array Value) (n : Nat) (hv : vs = (bv xs).toArray) (hn : xs.length = n) (hm : n ≤ maxLen) (hb : Byt xs) : Gw w (w.alloc (.cells vs e)) e (.slice (some ⟨w.heap.size, 0, none⟩) n n) n xs :=
  ⟨Ow.made w e xs vs n hv hn hm hb, (Below.refl _ _).alloc (Nat.le_refl _) _⟩
/-- The array of a literal, just made, is a row of the call's own. -/
theorem Gw.lit {w0 w : World} (hb : Below w0.heap.size w0 w) (e : TypeId) (xs : List Int) (vs : Array Value) (n : Nat) (hv : vs = (bv xs).toArray) (hn : xs.length = n) (hm : n ≤ maxLen) (hbt : Byt xs) : Gw w0 (w.alloc (.cells vs e)) e (.slice (some ⟨w.heap.size, 0, none⟩) n n) n xs :=
  ⟨(Ow.made w e xs vs n hv hn hm hbt).base_le hb.size, hb.alloc hb.size _⟩
section
variable {P : Program} {w0 w w' : World} {e n c : Nat} {v : Value} {A : Option Addr} {xs : List Int}
theorem Gw.alloc (h : Gw w0 w e v n xs) (o : Obj) : Gw w0 (w.alloc o) e v n xs := ⟨h.own.alloc o, h.bel.alloc h.bel.size o⟩
theorem Gw.drewN (h : Gw w0 w e v n xs) (k : Nat) : Gw w0 (w.drewN k) e v n xs := ⟨h.own.drewN k, below_drewN h.bel k⟩
theorem Gw.below (h : Gw w0 w e v n xs) (hb : Below w.heap.size w w') : Gw w0 w' e v n xs := ⟨h.own.below hb, h.bel.trans (hb.mono h.bel.size)⟩
theorem Gw.bs (h : Gw w0 w e (.slice A n c) n xs) : Bs w w.heap.size A n xs := h.own.bs
theorem Gw.cap (h : Gw w0 w e (.slice A n c) n xs) : n ≤ c ∧ c ≤ 9223372036854775807 := by
  obtain ⟨A', c', e', h1, h2⟩ := h.own.shape
  injection e' with _ _ e3
  subst e3
  exact ⟨h1, h2⟩
theorem Gw.of_app {v' : Value} {m : Nat} {ys : List Int} (h : Gw w0 w e v n xs) (ha : Appended w w' w0.heap.size e v v' m ys) : Gw w0 w' e v' m ys := ⟨ha.own, ha.below h.own h.bel h.bel.size⟩

theorem wpList_append_gw {ops : Array Oper} {rest : List Oper} {o : Oper} {a : Act} {Q : Exit → Act → World → Prop} (hgd : o.guard = none) (s x : Operand) (t : TypeId)
    (ho : o.op = .call { callee := .builtin .append, args := #[s, x], argTypes := #[t, t] })
    (ht : P.underlying t = some (.slice e)) (hi : (P.info? e).map (fun i => (i.zero, i.size, i.bytes)) = some (some (.int .u8 0), 1, 1))
    (hown : Gw w0 w e v n xs) (hs : a.eval s = v)
    {B : Nat} {m d : Nat} {C : Option Addr} {news : List Int} (hr : Bs w B C m news) (hx : a.eval x = .slice C m d) (N : Nat) (hN : n + m = N) (ys : List Int) (hys : xs ++ news = ys)
    (hbytes : N ≤ 200000000000000)
    (h : ∀ A' c' w', Gw w0 w' e (.slice A' N c') N ys → wpList P ops Q rest (a.put o.dst (.slice A' N c')) w') : wpList P ops Q (o :: rest) a w := by
  subst hN hys
  exact wpList_append_bs w hgd s x t ho e ht hi hown.own hs hr hx hbytes hown.bel.size fun A' c' w' h2 => h A' c' w' (hown.of_app h2)

/-- append of a literal's bytes: its array has just been made. -/
theorem wpList_append_lit {ops : Array Oper} {rest : List Oper} {o : Oper} {a : Act} {Q : Exit → Act → World → Prop} (hgd : o.guard = none) (s x : Operand) (t : TypeId)
    (ho : o.op = .call { callee := .builtin .append, args := #[s, x], argTypes := #[t, t] })
    (ht : P.underlying t = some (.slice e)) (hi : (P.info? e).map (fun i => (i.zero, i.size, i.bytes)) = some (some (.int .u8 0), 1, 1))
    (hown : Gw w0 w e v n xs) (news : List Int) {vs : Array Value} {e' : Nat} (hvs : vs = (bv news).toArray) (hbyt : Byt news) (hs : a.eval s = v)
    {d m g : Nat} (hx : a.eval x = .slice (some ⟨g, 0, none⟩) m d) (hg : g = w.heap.size) (hm : news.length = m) (N : Nat) (hN : n + m = N) (ys : List Int) (hys : xs ++ news = ys)
    (hbytes : N ≤ 200000000000000)
    (h : ∀ A' c' w', Gw w0 w' e (.slice A' N c') N ys → wpList P ops Q rest (a.put o.dst (.slice A' N c')) w') : wpList P ops Q (o :: rest) a (w.alloc (.cells vs e')) := by
  subst hm hg
  exact wpList_append_gw hgd s x t ho ht hi (hown.alloc _) hs (Bs.made w e' news vs hvs hbyt) hx N hN ys hys hbytes h
end
end Go.Proofs.YtbmkindgbabobaaDoor
