/- WireAsked, the tied card: whatever frame comes in, the law returns true and the frame reads behind the call as it read before; the table 'takes' is tied to the program's text by the card. No condition. -/
import Derived.Test.YtbmkindgbabobaaDoorLawAsked
import Derived.Test.YtbmkindgbabobaaDoorRowKit
import Derived.Test.YtbmkindgbabobaaDoorCards
import Derived.Test.YtbmkindgbabobaaDoorTie
import Derived.Deep.DeepHandedRow
import Derived.Lib.LaidTab
import Derived.Lib.SmallJoins
import Derived.SevenTiedAt
namespace Go.Proofs.YtbmkindgbabobaaDoor.wireAskedP
open Go.ChangeShapes Go.WideShapes Go.ChangeAt Go.RowKit Go.Joins

theorem own : ownKnob Tryd.prog.godebug = none := by kernel_rfl
theorem laidOut : laidOutB Tryd.prog = true := by kernel_rfl
theorem bytes_u8 : Tryd.prog.bytesOf 5 = 1 := by kernel_rfl
theorem gTab : Tryd.prog.globalNamed "trellis/wire.takes" = some 0 := by kernel_rfl
theorem gTabType : (Tryd.prog.globals[0]?).map (·.type) = some 121 := by kernel_rfl
theorem cellsTab : Tryd.prog.cellsOf 121 = 13 := by kernel_rfl
theorem cells3 : Tryd.prog.cellsOf 3 = 1 := by kernel_rfl

section
variable {H : Type} {enc : TypeId × Value → H} {P : Program} {W : World} {t e : TypeId} {fuel : Nat} {v : Value} {y : DataW H × List MemPlace}
def Shape (y : DataW H × List MemPlace) (c : Nat) : Prop := (y.1 = .nil ∧ c = 0) ∨ ∃ elems spare, y.1 = .slice elems spare ∧ elems.length + spare.length = c

theorem open_bytes (ht : P.underlying t = some (.slice e)) (he : P.underlying e = some (.int .u8)) (hce : P.cellsOf e = 1) (hf : DataW.trod enc P W 0 (fun _ => true) true fuel t [v] = some y) :
    ∃ A n c xs, v = .slice A n c ∧ Bs W W.heap.size A n xs ∧ n ≤ c ∧ c ≤ 9223372036854775807 ∧ Shape y c := by
  rcases open_ints ht he hce hf with ⟨hcs, hx⟩ | ⟨x, l, c', zs, hcs, _, hl, hm, hz, hx, hcell, hwz⟩
  · simp at hcs
    subst hcs hx
    exact ⟨none, 0, 0, [], rfl, Bs.none_, Nat.le_refl _, by omega, .inl ⟨rfl, rfl⟩⟩
  · simp at hcs
    subst hcs hx
    simp only [if_true] at hz
    have hlen : (zs.take l).length = l := by rw [List.length_take]; omega
    refine ⟨some x, l, c', zs.take l, rfl, ⟨⟨by rw [bv_length, hlen]; omega, fun hn => ⟨x, rfl, ?_, ?_⟩⟩, fun y hy => wf_u8 (hwz y (List.mem_of_mem_take hy))⟩, hl, hm, .inr ⟨_, _, rfl, by simp [lits]; omega⟩⟩
    · have := World.block_lt_of_cell? W _ (hcell 0 (by omega))
      rw [block_of_add] at this
      exact this
    · intro j u hu
      have hj : j < zs.length := by
        have h1 := (List.getElem?_eq_some_iff.1 hu).1
        rw [bv_length] at h1; omega
      rw [hcell j hj, ← hu, ← bv_take, List.getElem?_take]
      have h1 := (List.getElem?_eq_some_iff.1 hu).1
      rw [bv_length] at h1
      rw [if_pos (by omega)]
      simp [bv, hj]

theorem shape_reach {ts : List TypeId} {ds : List (DataW H)} (h : (DataW.weightsEach P ts ds).all (· ≤ reachBytes) = true) {j b c : Nat} (ht' : ts[j]? = some t) (hd : ds[j]? = some y.1)
    (hu : P.underlying t = some (.slice e)) (hb : P.bytesOf e = b) (hc : Shape y c) : c * b ≤ 140737488351232 := by
  rcases hc with ⟨h1, rfl⟩ | ⟨elems, spare, h1, rfl⟩
  · omega
  · rw [h1] at hd
    have := sized_slice h ht' hd hu
    rw [hb] at this
    simp only [reachBytes] at this
    omega
end

/-- What the row's list gives: the table stands. -/
theorem table {W : World} (h : laidMetH Tryd.prog Rows.wireAskedRow.laid W) : Tab W := by
  have ht : Lib.TabIs Tryd.prog W "trellis/wire.takes" .i64 [0, 6, 0, 1, 1, 1, 1, 0, 2, 0, 0, 0, 1] :=
    Lib.tabIs_of_head (rest := []) gTab gTabType Tryd.underlying121 Tryd.underlying3 cells3 cellsTab h
  intro k hk
  have hc := ht.cell gTab k (by simpa using hk)
  rw [hc]
  match k, hk with
  | 0, _ | 1, _ | 2, _ | 3, _ | 4, _ | 5, _ | 6, _ | 7, _ | 8, _ | 9, _ | 10, _ | 11, _ | 12, _ => rfl

set_option maxRecDepth 100000 in
theorem contract (H : Type) (enc : TypeId × Value → H) (W : World) (base : Nat) (args : Array Value) (ds gs : List (DataW H)) (before : List MemPlace)
    (hval0 : ∀ (j : Nat) t v, Tryd.f4.params[j]? = some t → args[j]? = some v → Value.okWide Tryd.prog W .any base t v)
    (hW : DataW.Whole enc Tryd.prog Tryd.f4.params.toList Rows.wireAskedSpec.vars false W args.toList ds gs before)
    (hsz0 : (DataW.weightsEach Tryd.prog (Tryd.f4.params.toList ++ (OpenSpec.ofChange Rows.wireAskedSpec).bare.plain.varTypes Tryd.prog) (ds ++ gs)).all (· ≤ reachBytes) = true)
    (hL : laidMetH Tryd.prog Rows.wireAskedRow.laid W) :
    Calls Tryd.prog 4 args W fun e W' => ∃ v, e = .returned v ∧ Rows.wireAskedSpec.post enc Tryd.prog Tryd.f4 false true false false W args v W' := by
  have hT := table hL
  have hval := hval0
  have hsz := hsz0
  clear hsz0 hval0
  have hW' := hW
  obtain ⟨p, q, hA0, hV, rfl, hfz, hnd⟩ := hW
  have hA : DataW.TrodAll enc Tryd.prog W 0 (fun _ => true) true Tryd.f4.params.toList args.toList ds p := hA0
  rw [Tryd.params4] at hA hval hsz
  obtain ⟨v0, vs0, d0, ds0, p0, q0, hargs, rfl, rfl, h0, r0⟩ := trodAll_cons hA
  obtain ⟨rfl, rfl, rfl⟩ := trodAll_nil r0
  obtain rfl : args = #[v0] := by cases args; simp_all
  obtain ⟨rfl, rfl⟩ := trodVars_none hV
  have k0 := h0
  have lt0 : ∀ x ∈ p0, x.block < W.heap.size := by obtain ⟨m, hm⟩ := k0; exact DataW.trod_lt m _ _ _ hm
  obtain ⟨c0, c1, c2, y0, y1, y2, m, rfl, rfl, _, hy0, hy1, hy2⟩ := open_agg3 Tryd.underlying35 (by kernel_rfl) (by kernel_rfl) (hval 0 35 _ rfl rfl) h0
  obtain ⟨code, e0, rfl, _⟩ := DataW.trod_int Tryd.underlying28 hy0
  obtain ⟨kind, e1, rfl, _⟩ := DataW.trod_int Tryd.underlying3 hy1
  simp only [List.cons.injEq, and_true] at e0 e1
  subst e0 e1
  obtain ⟨A, n, c, body, rfl, hB, hc, hc2, sB⟩ := open_bytes Tryd.underlying27 Tryd.underlying5 (by kernel_rfl) hy2
  simp only [List.append_nil] at hW'
  have hw : (DataW.weightsEach Tryd.prog [28, 3, 27] [DataW.lit (.int .i64 code), .lit (.int .i64 kind), y2.1]).all (· ≤ reachBytes) = true := by
    have e : DataW.weightsEach Tryd.prog (#[35].toList ++ (OpenSpec.ofChange Rows.wireAskedSpec).bare.plain.varTypes Tryd.prog) ([DataW.agg [DataW.lit (.int .i64 code), .lit (.int .i64 kind), y2.1]] ++ []) =
        DataW.weightsEach Tryd.prog [28, 3, 27] [DataW.lit (.int .i64 code), .lit (.int .i64 kind), y2.1] ++ [] := by
      show DataW.weightsEach Tryd.prog [35] [DataW.agg [DataW.lit (.int .i64 code), .lit (.int .i64 kind), y2.1]] = _
      have e2 : ∀ parts : List (DataW H), DataW.weights Tryd.prog 35 (.agg parts) = DataW.weightsEach Tryd.prog [28, 3, 27] parts := fun parts => by
        simp only [DataW.weights, Tryd.underlying35]; rfl
      have e3 : ∀ d : DataW H, DataW.weightsEach Tryd.prog [35] [d] = DataW.weights Tryd.prog 35 d ++ [] := fun d => by simp only [DataW.weightsEach]
      rw [e3, e2]
    rw [e, List.append_nil] at hsz
    exact hsz
  have hn := shape_reach hw (j := 2) rfl rfl Tryd.underlying27 bytes_u8 sB
  refine (wireAsked_law code kind body A n c W hT hB (by omega) hc hc2).mono fun e W' ⟨he, bel⟩ => ?_
  subst he
  exact ⟨_, rfl, _, _, _, [], _, [], hW', trodAll_mk1 (shut_bool Tryd.underlying4 _), (trodAll_cons_mk (Below.trod laidOut (by kernel_rfl) (of_decide_eq_true (by kernel_rfl)) k0 bel lt0) trodAll_mk0), rfl, bel.frame _, fun h => by cases h⟩

/-- A world for the witness: the settled one, the table holding what its initialiser lays. -/
noncomputable def laidWorld (os : Os) : World :=
  { World.holding Tryd.prog os ⟨#[], #[], []⟩ with heap := (World.holding Tryd.prog os ⟨#[], #[], []⟩).heap.modify 0 fun
      | .cells _ t frozen => .cells #[.int .i64 0, .int .i64 6, .int .i64 0, .int .i64 1, .int .i64 1, .int .i64 1, .int .i64 1, .int .i64 0, .int .i64 2, .int .i64 0, .int .i64 0, .int .i64 0, .int .i64 1] t frozen
      | o => o }
noncomputable abbrev arg : Value := .agg #[.int .i64 0, .int .i64 0, .slice none 0 0]
set_option maxRecDepth 100000 in
theorem laid_met (os : Os) : laidMet Tryd.prog Rows.wireAskedRow.laid ((laidWorld os).forCall (fun _ _ => 0) ⟨#[], #[arg], []⟩).memory :=
  laidMet_of_run' 8 (by kernel_rfl) (by kernel_rfl)
set_option maxRecDepth 100000 in
theorem reads (os : Os) {H : Type} (enc : TypeId × Value → H) : ∃ places, DataW.whole enc Tryd.prog ((laidWorld os).forCall (fun _ _ => 0) ⟨#[], #[arg], []⟩).memory Tryd.f4.params.toList Rows.wireAskedSpec.vars false #[arg].toList 8 = some ([.agg [.lit (.int .i64 0), .lit (.int .i64 0), .nil]], [], places) :=
  ⟨[], by kernel_rfl⟩

set_option maxRecDepth 100000 in
theorem lifted (os : Os) (started : os.Started) (H : Type) (enc : TypeId × Value → H) (F : Stop.Interp) :
    ReturnsInHanded {} Tryd.checked os 4 .any ((OpenSpec.ofChange Rows.wireAskedSpec).preRow enc Tryd.prog Tryd.f4 Rows.wireAskedRow.domain false Rows.wireAskedRow.laid) (((OpenSpec.ofChange Rows.wireAskedSpec).at F).post enc Tryd.prog Tryd.f4 false true false false) := by
  obtain ⟨places, hx⟩ := reads os enc
  refine returnsInHanded_of_row (C := Tryd.checked) (s := OpenSpec.ofChange Rows.wireAskedSpec) own started (by kernel_rfl) Tryd.func4
    (witness_row_at (enc := enc) (C := Tryd.checked) false (laidWorld os) #[arg] rfl (by kernel_rfl) (by kernel_rfl) (by kernel_rfl)
      (OpenSpec.preRow_of_cond 8 hx (by kernel_rfl) (fun k hk => by cases hk) (by kernel_rfl) (laid_met os))) ?_
  intro W base args ds gs before hval hW _ _ hsz hL _ _
  exact contract H enc W base args ds gs before hval hW hsz hL

theorem said : Rows.WireAskedSaid :=
  OpenClaim.holds_of_cond 4 Tryd.f4 rfl rfl rfl rfl rfl rfl rfl ⟨rfl, rfl, rfl, rfl, rfl⟩ rfl rfl rfl rfl rfl (by kernel_rfl) Tryd.func4 (by kernel_rfl)
    (of_decide_eq_true (by kernel_rfl)) (by unfold Func.isWrapper; first | (rw [if_pos (by decide +kernel)]; kernel_rfl) | (rw [if_neg (by decide +kernel)]; exact ⟨rfl, rfl⟩))
    (fun os started H enc _ F => by rw [OpenClaim.pre_eq_preRow]; exact lifted os started H enc F)

theorem plain (f : FuncId) (fn : Func) (hf : Tryd.pinned.checked.prog.funcNamed "trellis/trellislaw16.WireAsked" = some f) (hfn : Tryd.pinned.checked.prog.funcs[f]? = some fn) :
    false = Tryd.pinned.checked.prog.looks [] ∧ ∀ (j : Nat) t, fn.params[j]? = some t → Tryd.pinned.checked.prog.wantsStandIn t = false := by
  obtain rfl : f = 4 := Option.some.inj ((show Tryd.prog.funcNamed "trellis/trellislaw16.WireAsked" = some 4 by kernel_rfl).symm.trans hf) |>.symm
  obtain rfl : fn = Tryd.f4 := (Option.some.inj (Tryd.func4.symm.trans hfn)).symm
  refine ⟨by kernel_rfl, fun j t ht => ?_⟩
  rw [Tryd.params4] at ht
  obtain rfl : t = 35 := by simpa using Array.mem_of_getElem? ht
  exact (show Tryd.prog.wantsStandIn 35 = false by kernel_rfl)

theorem card : Rows.WireAskedCardSaid :=
  Claim7.holds_tied_plain_at .later [] _ _ _ _ said (fun _ h => by cases h) (by kernel_rfl) (fun _ h => by cases h) wireAsked_row_tie rfl ⟨rfl, rfl⟩ (by kernel_rfl) rfl plain (by kernel_rfl)
end Go.Proofs.YtbmkindgbabobaaDoor.wireAskedP
