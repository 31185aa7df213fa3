/- The program's writer: a struct behind a pointer that holds the bytes written so far. Each method of it writes just the bytes that the plain words name, behind what stood there. -/
import Derived.Test.YtbmkindgbabobaaDoorCnt
import Derived.Deep.RegionLaw
import Derived.OneCell
namespace Go.Proofs.YtbmkindgbabobaaDoor
open Go.RowKit
set_option maxRecDepth 20000

/-- Block g is just the cells cs of element type t, none frozen. -/
def Blk (w : World) (g : Nat) (t : TypeId) (cs : Array Value) : Prop := w.heap[g]? = some (.cells cs t (0, 0))
section
variable {w w' : World} {g : Nat} {t : TypeId} {cs : Array Value}
theorem Blk.lt (h : Blk w g t cs) : g < w.heap.size := by
  rcases Nat.lt_or_ge g w.heap.size with hlt | hge
  · exact hlt
  · unfold Blk at h; rw [Array.getElem?_eq_none hge] at h; cases h
theorem Blk.cell (h : Blk w g t cs) (i : Nat) : w.cell? ⟨g, i, none⟩ = cs[i]? := cell_of_row w g i cs t (0, 0) h
theorem Blk.frozen (h : Blk w g t cs) (i : Nat) : w.frozen? ⟨g, i, none⟩ = false := by
  unfold Blk at h
  simp [World.frozen?, h]
theorem Blk.new (w : World) (t : TypeId) (cs : Array Value) : Blk (w.alloc (.cells cs t)) w.heap.size t cs := heap_alloc_new w _
theorem Blk.drewN (h : Blk w g t cs) (n : Nat) : Blk (w.drewN n) g t cs := h
theorem Blk.drew (h : Blk w g t cs) : Blk w.drew g t cs := h
theorem Blk.alloc (h : Blk w g t cs) (o : Obj) : Blk (w.alloc o) g t cs := (Below.heap_alloc w o g h.lt).trans h
theorem Blk.set_ (h : Blk w g t cs) (i : Nat) (u : Value) : Blk (w.setCell ⟨g, i, none⟩ u) g t (cs.setIfInBounds i u) := by
  unfold Blk at h ⊢
  simp [World.setCell, Array.getElem?_modify, h]
theorem Blk.far (h : Blk w g t cs) {p : Addr} (hp : g ≠ p.block) (u : Value) : Blk (w.setCell p u) g t cs := (Below.heap_setCell w p u g hp).trans h
theorem Blk.below {B : Nat} (h : Blk w g t cs) (hb : Below B w w') (hg : g < B) : Blk w' g t cs := (hb.block g hg).trans h
theorem Blk.grown {row : Option Nat} (h : Blk w g t cs) (hb : w.grownBy w' row) (hg : some g ≠ row) : Blk w' g t cs := (hb.block g h.lt hg).trans h
theorem Blk.ne_ {g' : Nat} {t' : TypeId} {cs' : Array Value} (h : Blk w g t cs) (h' : Blk w g' t' cs') (hne : t ≠ t') : g ≠ g' := by
  rintro rfl
  unfold Blk at h h'
  rw [h] at h'
  injection h' with h'
  injection h' with _ ht
  exact hne ht
theorem Ow.blk_ne {base e n : Nat} {v : Value} {xs : List Int} (h : Ow w base e v n xs) (hg : Blk w g t cs) (hne : e ≠ t) : v.ownBlock ≠ some g := by
  rcases h.own.2 with ⟨rfl, _⟩ | ⟨g', cap, cur, rfl, _, hh, _⟩
  · simp [Value.ownBlock]
  · intro he
    have : g' = g := by simpa [Value.ownBlock] using he
    subst this
    exact Blk.ne_ (t := e) hh hg hne rfl
theorem row_blk_ne {base e size n : Nat} {v : Value} {xs : List Value} (h : w.ownsRow base e size v n xs) (hg : Blk w g t cs) (hne : e ≠ t) : v.ownBlock ≠ some g := by
  rcases h.2 with ⟨rfl, _⟩ | ⟨g', cap, cur, rfl, _, hh, _⟩
  · simp [Value.ownBlock]
  · intro he
    have : g' = g := by simpa [Value.ownBlock] using he
    subst this
    exact Blk.ne_ (t := e) hh hg hne rfl
theorem row_setCell {base e size n : Nat} {v : Value} {xs : List Value} (h : w.ownsRow base e size v n xs) {p : Addr} (hp : v.ownBlock ≠ some p.block) (u : Value) : (w.setCell p u).ownsRow base e size v n xs := by
  refine ⟨h.1, ?_⟩
  rcases h.2 with hn | ⟨g, cap, cur, rfl, hg, hgg, rest⟩
  · exact .inl hn
  · refine .inr ⟨g, cap, cur, rfl, hg, ?_, rest⟩
    rw [Below.heap_setCell _ _ _ _ (by intro e; apply hp; simp [Value.ownBlock, e])]
    exact hgg
theorem Ow.setCell {base e n : Nat} {v : Value} {xs : List Int} (h : Ow w base e v n xs) {p : Addr} (hp : v.ownBlock ≠ some p.block) (u : Value) : Ow (w.setCell p u) base e v n xs := by
  refine ⟨⟨h.own.1, ?_⟩, h.byt⟩
  rcases h.own.2 with hn | ⟨g, cap, cur, rfl, hg, hgg, rest⟩
  · exact .inl hn
  · refine .inr ⟨g, cap, cur, rfl, hg, ?_, rest⟩
    rw [Below.heap_setCell _ _ _ _ (by intro e; apply hp; simp [Value.ownBlock, e])]
    exact hgg
end

/-- The writer behind block g: what is written so far. -/
structure Wst (w : World) (base g : Nat) (xs : List Int) (bad : Bool) (A : Option Addr) (n c : Nat) : Prop where
  blk : Blk w g 74 #[.slice A n c, .bool bad]
  own : Ow w base 5 (.slice A n c) n xs
  lo : base ≤ g

section
variable {P : Program} {w w' : World} {base g n c m c' : Nat} {xs ys : List Int} {bad : Bool} {A A' : Option Addr}
theorem Wst.size (h : Wst w base g xs bad A n c) : base ≤ w.heap.size := Nat.le_trans h.lo (Nat.le_of_lt h.blk.lt)
theorem Wst.len (h : Wst w base g xs bad A n c) : xs.length = n := h.own.len
theorem Wst.drewN (h : Wst w base g xs bad A n c) (k : Nat) : Wst (w.drewN k) base g xs bad A n c := ⟨h.blk, h.own.drewN k, h.lo⟩
theorem Wst.drew (h : Wst w base g xs bad A n c) : Wst w.drew base g xs bad A n c := ⟨h.blk, ⟨h.own.own, h.own.byt⟩, h.lo⟩
theorem Wst.alloc (h : Wst w base g xs bad A n c) (o : Obj) : Wst (w.alloc o) base g xs bad A n c := ⟨h.blk.alloc o, h.own.alloc o, h.lo⟩
theorem Wst.below (h : Wst w base g xs bad A n c) (hb : Below w.heap.size w w') : Wst w' base g xs bad A n c := ⟨h.blk.below hb h.blk.lt, h.own.below hb, h.lo⟩
/-- behind an append onto its bytes, ahead of the store: the block stands. -/
theorem Wst.blk_app (h : Wst w base g xs bad A n c) (ha : Appended w w' base 5 (.slice A n c) (.slice A' m c') m ys) : Blk w' g 74 #[.slice A n c, .bool bad] :=
  h.blk.grown ha.grown (Ne.symm (h.own.blk_ne h.blk (by decide)))
theorem Wst.stored (h : Wst w base g xs bad A n c) (ha : Appended w w' base 5 (.slice A n c) (.slice A' m c') m ys) : Wst (w'.setCell ⟨g, 0, none⟩ (.slice A' m c')) base g ys bad A' m c' := by
  have hb := h.blk_app ha
  exact ⟨by simpa using hb.set_ 0 (.slice A' m c'), ha.own.setCell (ha.own.blk_ne hb (by decide)) _, h.lo⟩
theorem Wst.below_stored (h : Wst w base g xs bad A n c) (ha : Appended w w' base 5 (.slice A n c) (.slice A' m c') m ys) (u : Value) : Below base w (w'.setCell ⟨g, 0, none⟩ u) :=
  (ha.below h.own (Below.refl _ _) h.size).setCell h.lo u

/-- append as one step of a region that draws. -/
theorem step_append_bs {ops : Array Oper} {o : Oper} {a : Act} {K : Act → World → Prop} {Q : Exit → Act → World → Prop} {E : Prop} (hgd : o.guard = none) (s x : Operand) (t : TypeId)
    (ho : o.op = .call { callee := .builtin .append, args := #[s, x], argTypes := #[t, t] })
    (e : TypeId) (ht : P.underlying t = some (.slice e)) (hi : (P.info? e).map (fun i => (i.zero, i.size, i.bytes)) = some (some (.int .u8 0), 1, 1))
    {v : Value} (hown : Ow w base e v n xs) (hs : a.eval s = v)
    {B d : Nat} {C : Option Addr} {news : List Int} (hr : Bs w B C m news) (hx : a.eval x = .slice C m d)
    (N : Nat) (hN : n + m = N) (zs : List Int) (hzs : xs ++ news = zs)
    (hbytes : N ≤ 200000000000000) (hbase : base ≤ w.heap.size)
    (h : ∀ A' c' w', Appended w w' base e v (.slice A' N c') N zs → K (a.put o.dst (.slice A' N c')) w') :
    if Region.wanted o (yielded ops a.tmps) = true then Oper.wp P o a w K Q else E := by
  have hw : Region.wanted o (yielded ops a.tmps) = true := by simp [Region.wanted, hgd]
  rw [if_pos hw]
  subst hN hzs
  exact wp_append_bs w s x t ho e ht hi hown hs hr hx hbytes hbase h
end

/-- append of a literal's bytes onto the writer's own, as one step of a region that draws; the block ahead of the store stands. -/
theorem step_append_wlit {P : Program} {ops : Array Oper} {o : Oper} {a : Act} {K : Act → World → Prop} {Q : Exit → Act → World → Prop} {E : Prop} {W W0 : World} {base g n c : Nat} {xs : List Int} {bad : Bool} {A : Option Addr} (hgd : o.guard = none) (s x : Operand) (t : TypeId)
    (ho : o.op = .call { callee := .builtin .append, args := #[s, x], argTypes := #[t, t] })
    (ht : P.underlying t = some (.slice 5)) (hi : (P.info? 5).map (fun i => (i.zero, i.size, i.bytes)) = some (some (.int .u8 0), 1, 1))
    (h0 : Wst W0 base g xs bad A n c) (news : List Int) {vs : Array Value} {e' : Nat} (hW : W = W0.alloc (.cells vs e')) (hvs : vs = (bv news).toArray) (hbyt : Byt news) (hs : a.eval s = .slice A n c)
    {d m g' : Nat} (hx : a.eval x = .slice (some ⟨g', 0, none⟩) m d) (hg : g' = W0.heap.size) (hm : news.length = m)
    (N : Nat) (hN : n + m = N) (zs : List Int) (hzs : xs ++ news = zs) (hbytes : N ≤ 200000000000000)
    (h : ∀ A' c' w', Hid (Below base W0 (w'.setCell ⟨g, 0, none⟩ (.slice A' N c')) ∧ Wst (w'.setCell ⟨g, 0, none⟩ (.slice A' N c')) base g zs bad A' N c') → w'.cell? ⟨g, 0, none⟩ = some (.slice A n c) → w'.frozen? ⟨g, 0, none⟩ = false → K (a.put o.dst (.slice A' N c')) w') :
    if Region.wanted o (yielded ops a.tmps) = true then Oper.wp P o a W K Q else E := by
  subst hW hm hg
  have h1 := h0.alloc (.cells vs e')
  refine step_append_bs hgd s x t ho _ ht hi h1.own hs (Bs.made W0 e' news vs hvs hbyt) hx N hN zs hzs hbytes h1.size fun A' c' w' ha => ?_
  have hb := h1.blk_app ha
  exact h A' c' w' ⟨((Below.refl _ _).alloc h0.size _).trans (h1.below_stored ha _), h1.stored ha⟩ (by rw [hb.cell]; rfl) (hb.frozen 0)

/-- .. and in a region in the text's order. -/
theorem wpList_append_wlit {P : Program} {ops : Array Oper} {rest : List Oper} {o : Oper} {a : Act} {Q : Exit → Act → World → Prop} {W W0 : World} {base g n c : Nat} {xs : List Int} {bad : Bool} {A : Option Addr} (hgd : o.guard = none) (s x : Operand) (t : TypeId)
    (ho : o.op = .call { callee := .builtin .append, args := #[s, x], argTypes := #[t, t] })
    (ht : P.underlying t = some (.slice 5)) (hi : (P.info? 5).map (fun i => (i.zero, i.size, i.bytes)) = some (some (.int .u8 0), 1, 1))
    (h0 : Wst W0 base g xs bad A n c) (news : List Int) {vs : Array Value} {e' : Nat} (hW : W = W0.alloc (.cells vs e')) (hvs : vs = (bv news).toArray) (hbyt : Byt news) (hs : a.eval s = .slice A n c)
    {d m g' : Nat} (hx : a.eval x = .slice (some ⟨g', 0, none⟩) m d) (hg : g' = W0.heap.size) (hm : news.length = m)
    (N : Nat) (hN : n + m = N) (zs : List Int) (hzs : xs ++ news = zs) (hbytes : N ≤ 200000000000000)
    (h : ∀ A' c' w', Hid (Below base W0 (w'.setCell ⟨g, 0, none⟩ (.slice A' N c')) ∧ Wst (w'.setCell ⟨g, 0, none⟩ (.slice A' N c')) base g zs bad A' N c') → w'.cell? ⟨g, 0, none⟩ = some (.slice A n c) → w'.frozen? ⟨g, 0, none⟩ = false → wpList P ops Q rest (a.put o.dst (.slice A' N c')) w') :
    wpList P ops Q (o :: rest) a W := by
  subst hW hm hg hN hzs
  have h1 := h0.alloc (.cells vs e')
  refine wpList_append_bs _ hgd s x t ho _ ht hi h1.own hs (Bs.made W0 e' news vs hvs hbyt) hx hbytes h1.size fun A' c' w' ha => ?_
  have hb := h1.blk_app ha
  exact h A' c' w' ⟨((Below.refl _ _).alloc h0.size _).trans (h1.below_stored ha _), h1.stored ha⟩ (by rw [hb.cell]; rfl) (hb.frozen 0)

/-- What a method of the writer leaves. -/
def Wrote (w : World) (base g : Nat) (xs : List Int) (bad : Bool) (enc : List Int) (e : Ending) (w' : World) : Prop :=
  e = .returned (.tuple #[]) ∧ Below base w w' ∧ ∃ A n c, Wst w' base g (xs ++ enc) bad A n c

/-! ### count -/
theorem or_128 (x : Int) (h0 : 0 ≤ x) (h1 : x < 128) : bits .or .u8 x 128 = x + 128 := by
  obtain ⟨a, rfl⟩ := Int.eq_ofNat_of_zero_le h0
  have h := u8_or_nat a 128 (by omega) (by omega)
  rw [show ((128 : Nat) : Int) = 128 from rfl] at h
  rw [h]
  have e : a ||| 128 = a + 128 := by
    have := Nat.two_pow_add_eq_or_of_lt (i := 7) (b := a) (by omega) 1
    rw [Nat.or_comm, show (128 : Nat) = 2 ^ 7 * 1 from rfl, ← this]
    omega
  rw [e]; omega
theorem and_127 (x : Int) (h0 : 0 ≤ x) (h1 : x < 256) : bits .and .u8 x 127 = x % 128 := by
  obtain ⟨a, rfl⟩ := Int.eq_ofNat_of_zero_le h0
  have h := u8_and_nat a 127 (by omega) (by omega)
  rw [show ((127 : Nat) : Int) = 127 from rfl] at h
  rw [h, show (127 : Nat) = 2 ^ 7 - 1 from rfl, Nat.and_two_pow_sub_one_eq_mod]
  omega

theorem grp_byte (n i y : Nat) (hy : y = n / 128 ^ i) : bits .or .u8 (bits .and .u8 (IntKind.u8.wrap ((n : Int) / 2 ^ (7 * (i : Int)).toNat)) 127) 128 = ((y % 128 + 128 : Nat) : Int) := by
  have e : (n : Int) / 2 ^ (7 * (i : Int)).toNat = (y : Int) := by
    rw [hy, ← pow7, show (7 * (i : Int)).toNat = 7 * i from by omega]; simp
  rw [e, IntKind.wrap_u8', and_127 _ (by omega) (by omega), or_128 _ (by omega) (by omega)]
  omega
theorem last_byte (n : Nat) : bits .and .u8 ((n : Int) % 256) 127 = ((n % 128 : Nat) : Int) := by
  rw [and_127 _ (by omega) (by omega)]; omega

set_option maxHeartbeats 1000000 in
theorem wcount_any (n : Nat) (hn : n < 18446744073709551616) (w : World) (base g : Nat) (xs : List Int) (bad : Bool) (A : Option Addr) (m c : Nat) (h : Wst w base g xs bad A m c) (hm : m ≤ 199999999999900) :
    Calls Tryd.prog 37 #[.pointer (some ⟨g, 0, none⟩), .int .u64 n] w (Wrote w base g xs bad (cnt n)) := by
  have HN := hide hn
  clear hn
  have H := hide h
  clear h
  go_enter Tryd.func37, Tryd.ntmps37
  go_wp2
  go_loop [4] (fun s => ∃ j : Nat, j ≤ 9 ∧ s = .int .i64 (7 * j : Nat) ∧ (0 < j → n / 128 ^ j ≠ 0)) (fun s => 70 - (intOf s).toNat)
  case atStart => exact ⟨0, by omega, by go_num, by omega⟩
  case round =>
    obtain ⟨j, hj, rfl, hnz⟩ := hrel
    have HNZ := hide hnz
    clear hnz
    obtain ⟨q, hq⟩ : ∃ q : Nat, q = n / 128 ^ j := ⟨_, rfl⟩
    have hqi : (n : Int) / 2 ^ (7 * j) = (q : Int) := by rw [hq, ← pow7]; simp
    have hq9 : j = 9 → q ≤ 1 := by
      rintro rfl
      have := HN.out
      have e : (128 : Nat) ^ 9 = 9223372036854775808 := by decide
      rw [hq, e]; omega
    have hqn : n / 128 ^ (j + 1) = q / 128 := by rw [Nat.pow_succ, ← Nat.div_div_eq_div_mul, ← hq]
    clear hq
    by_cases hgo : 127 < q ∧ j < 9
    · obtain ⟨h1, h2⟩ := hgo
      have hnext : n / 128 ^ (j + 1) ≠ 0 := by rw [hqn]; omega
      have h1' : (127 : Int) < (n : Int) / 2 ^ (7 * j) := by rw [hqi]; omega
      have h2' : 7 * (j : Int) < 63 := by omega
      have HX := hide hnext
      clear h1 hqi hqn hq9 hnext
      go_wp2
      go_round
      case rel => exact ⟨j + 1, by omega, by go_num, fun _ => HX.out⟩
      case measure => simp [intOf]; omega
    · have hend : grp n j = [] := by unfold grp; rw [hqn, show q / 128 = 0 from by omega, cntHi_zero]
      have hcase : ((127 : Int) < (n : Int) / 2 ^ (7 * j) ∧ ¬ 7 * (j : Int) < 63) ∨ ¬ ((127 : Int) < (n : Int) / 2 ^ (7 * j)) := by rw [hqi]; omega
      clear hgo hqi hqn hq9
      have HE := hide hend
      clear hend
      rcases hcase with ⟨h1, h2⟩ | h1
      all_goals
        go_wp2
        clear h1
        go_loopw [4] (fun s wr => ∃ i : Nat, i ≤ j ∧ s = .int .i64 (7 * i : Nat) ∧ (∃ A' m' c', Wst wr base g (xs ++ grp n i) bad A' m' c') ∧ Below base w wr) (fun s _ => (intOf s).toNat)
        case atStart => exact ⟨j, Nat.le_refl _, by go_num, ⟨A, m, c, by rw [HE.out, List.append_nil]; exact H.out⟩, Below.refl _ _⟩
        case round =>
          obtain ⟨i, hij, rfl, ⟨A1, m1, c1, h1⟩, hb1⟩ := hrel
          have hm1 : m1 ≤ m + 9 := by
            have e1 := h1.len
            have e2 := H.out.len
            have e3 := grp_len n i HN.out
            rw [List.length_append] at e1
            omega
          have H1 := hide h1
          have HB1 := hide hb1
          clear h1 hb1
          by_cases hi : 0 < i
          · have hc0 := H1.out.blk.cell 0
            have hf0 := H1.out.blk.frozen 0
            simp only [List.getElem?_toArray, List.getElem?_cons_zero] at hc0
            have hcx : ∀ o, (wr.alloc o).cell? ⟨g, 0, none⟩ = some (.slice A1 m1 c1) := fun o => by rw [(H1.out.blk.alloc o).cell]; rfl
            obtain ⟨y, hy⟩ : ∃ y : Nat, y = n / 128 ^ i := ⟨_, rfl⟩
            have HGB := hide (grp_byte n i y hy)
            have HY : Hid (grp n (i - 1) = grp n i ++ [((y % 128 + 128 : Nat) : Int)]) := by
              have hz : n / 128 ^ i ≠ 0 := fun h0 => HNZ.out (by omega) (by
                have : n / 128 ^ j ≤ n / 128 ^ i := Nat.div_le_div_left (Nat.pow_le_pow_right (by decide) hij) (Nat.pow_pos (by decide))
                rw [h0] at this
                exact Nat.le_zero.1 this)
              have h := grp_step n (i - 1) (by rw [Nat.sub_add_cancel hi]; exact hz)
              rw [Nat.sub_add_cancel hi, ← hy] at h
              exact h
            clear hy
            go_wp2
            go_region_law (refine step_append_wlit rfl _ _ _ rfl Tryd.underlying27 info_u8 H1.out.drew [((y % 128 + 128 : Nat) : Int)] rfl (by simp [bv, HGB.out]) (by intro x hx; simp at hx; omega) rfl rfl rfl (m := 1) rfl (m1 + 1) rfl _ rfl (by omega) ?_; intro A2 c2 w2 hP hcell hfroz)
            all_goals
              go_wp2
              go_roundw
              case rel => exact ⟨i - 1, by omega, by go_num, ⟨A2, m1 + 1, c2, by rw [HY.out]; simpa using hP.out.2⟩, HB1.out.drew.trans hP.out.1⟩
              case measure => simp [intOf]; omega
          · obtain rfl : i = 0 := by omega
            have hc0 := H1.out.blk.cell 0
            have hf0 := H1.out.blk.frozen 0
            simp only [List.getElem?_toArray, List.getElem?_cons_zero] at hc0
            have HLB := hide (last_byte n)
            go_wp2_with (at_builtin; refine to_halt ?_)
            refine of_halt (wpList_append_wlit rfl _ _ _ rfl Tryd.underlying27 info_u8 H1.out [((n % 128 : Nat) : Int)] rfl (by simp [bv, HLB.out]) (by intro x hx; simp at hx; omega) rfl rfl rfl (m := 1) rfl (m1 + 1) rfl _ rfl (by omega) ?_)
            intro A2 c2 w2 hP hcell hfroz
            go_wp2
            go_end0
            refine ⟨rfl, HB1.out.trans hP.out.1, A2, m1 + 1, c2, ?_⟩
            rw [grp_last, ← List.append_assoc]
            exact hP.out.2
end Go.Proofs.YtbmkindgbabobaaDoor
