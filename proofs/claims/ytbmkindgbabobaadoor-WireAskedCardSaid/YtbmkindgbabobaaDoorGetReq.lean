/- GetRequest: the words. -/
import Derived.Test.YtbmkindgbabobaaDoorScanBits2
import Derived.Deep.RegionWith
import Derived.Deep.DeepCutAuto
namespace Go.Proofs.YtbmkindgbabobaaDoor
open Go.RowKit
set_option maxRecDepth 20000

/-- The request that a body holds. -/
def pReq (kind : Int) (body : List Int) : Option (List Int × List Int × List Bool) :=
  (pNums body).bind fun a => (pText a.2).bind fun b => (pBits b.2).bind fun c =>
    if c.2 = [] ∧ mayB kind a.1.length b.1.length c.1.length = true then some (a.1, b.1, c.1) else none
/-- What GetRequest hands back: the code, then the request's fields. -/
noncomputable def gotV (code kind : Int) (body : List Int) : Int × Int × List Int × List Int × List Bool :=
  if code ≠ 0 then (code, 0, [], [], [])
  else if kind < 1 ∨ 12 < kind then (162, 0, [], [], [])
  else if lim < body.length then (163, 0, [], [], [])
  else match pReq kind body with
    | none => (163, 0, [], [], [])
    | some x => (0, kind, x.1, x.2.1, x.2.2)
theorem req_of {kind : Int} {body : List Int} {b1 b2 b3 : Bool} {v1 r1 v2 r2 r3 : List Int} {v3 : List Bool}
    (h1 : nxt false (pNums body) = if b1 then none else some (v1, r1)) (h2 : nxt b1 (pText r1) = if b2 then none else some (v2, r2)) (h3 : nxt b2 (pBits r2) = if b3 then none else some (v3, r3)) :
    pReq kind body = if b3 = false ∧ r3 = [] ∧ mayB kind v1.length v2.length v3.length = true then some (v1, v2, v3) else none := by
  unfold pReq
  cases b1 with
  | true =>
    cases b2 with
    | false => simp [nxt] at h2
    | true =>
      cases b3 with
      | false => simp [nxt] at h3
      | true => simp [nxt] at h1; simp [h1]
  | false =>
    simp [nxt] at h1
    cases b2 with
    | true =>
      cases b3 with
      | false => simp [nxt] at h3
      | true => simp [nxt] at h2; simp [h1, h2]
    | false =>
      simp [nxt] at h2
      cases b3 with
      | true => simp [nxt] at h3; simp [h1, h2, h3]
      | false => simp [nxt] at h3; simp [h1, h2, h3]
def GotReq (w : World) (x : Int × Int × List Int × List Int × List Bool) (e : Ending) (w' : World) : Prop :=
  ∃ N nn nc text L nb bc, e = .returned (.tuple #[.agg #[.int .i64 x.2.1, .slice N nn nc, .string text, .slice L nb bc], .int .i64 x.1]) ∧
    (w'.ownsRow w.heap.size 2 1 (.slice N nn nc) nn (x.2.2.1.map (Value.int .i64)) ∧ ∀ y ∈ x.2.2.1, I64 y) ∧ sb text = x.2.2.2.1 ∧ w'.ownsRow w.heap.size 4 1 (.slice L nb bc) nb (x.2.2.2.2.map Value.bool) ∧ nn ≤ 4096 ∧ nb ≤ 4096 ∧ Below w.heap.size w w'
theorem row_base {w : World} {base base' e size n : Nat} {v : Value} {xs : List Value} (h : w.ownsRow base e size v n xs) (hle : base' ≤ base) : w.ownsRow base' e size v n xs := by
  refine ⟨h.1, ?_⟩
  rcases h.2 with hn | ⟨k, cap, cur, e1, hk, rest⟩
  · exact .inl hn
  · exact .inr ⟨k, cap, cur, e1, by omega, rest⟩
theorem got_zero {w w' : World} {c : Int} (h : Below w.heap.size w w') : GotReq w (c, 0, [], [], []) (.returned (.tuple #[.agg #[.int .i64 0, .slice none 0 0, .string { data := #[] }, .slice none 0 0], .int .i64 c])) w' :=
  ⟨none, 0, 0, _, none, 0, 0, rfl, ⟨World.ownsRow_nil _ _ _ _, by simp⟩, rfl, World.ownsRow_nil _ _ _ _, by omega, by omega, h⟩


set_option maxHeartbeats 2000000 in
theorem wGetReq_code (code kind : Int) (hc : code ≠ 0) (body : List Int) (A : Option Addr) (n c : Nat) (w : World) :
    Calls Tryd.prog 16 #[.agg #[.int .i64 code, .int .i64 kind, .slice A n c]] w (GotReq w (gotV code kind body)) := by
  have hg : gotV code kind body = (code, 0, [], [], []) := by unfold gotV; rw [if_pos hc]
  rw [hg]
  have hc' : (code != 0) = true := by simp [hc]
  clear hg
  go_enter Tryd.func16, Tryd.ntmps16
  go_wp2
  go_region
  all_goals go_wp2
  all_goals refine bodyPost_ret (v := .tuple #[.agg #[.int .i64 0, .slice none 0 0, .string { data := #[] }, .slice none 0 0], .int .i64 code]) (by simp [results, Tryd.results16, go_sem]) rfl (got_zero ?_)
  all_goals exact ((((Below.refl _ _).alloc (Nat.le_refl _) _).alloc (by simp) _).drew)

set_option maxHeartbeats 2000000 in
theorem wGetReq_kind (kind : Int) (hk : kind < 1 ∨ 12 < kind) (body : List Int) (A : Option Addr) (n c : Nat) (w : World) :
    Calls Tryd.prog 16 #[.agg #[.int .i64 0, .int .i64 kind, .slice A n c]] w (GotReq w (gotV 0 kind body)) := by
  have hg : gotV 0 kind body = (162, 0, [], [], []) := by unfold gotV; rw [if_neg (by omega), if_pos hk]
  rw [hg]
  clear hg
  by_cases h1 : kind < 1
  · clear hk
    go_enter Tryd.func16, Tryd.ntmps16
    go_wp2
    refine bodyPost_ret (v := .tuple #[.agg #[.int .i64 0, .slice none 0 0, .string { data := #[] }, .slice none 0 0], .int .i64 162]) (by simp [results, Tryd.results16, go_sem]) rfl (got_zero ?_)
    exact (((Below.refl _ _).alloc (Nat.le_refl _) _).alloc (by simp) _)
  · have h2 : (13 : Int) ≤ kind := by omega
    clear hk
    go_enter Tryd.func16, Tryd.ntmps16
    go_wp2
    refine bodyPost_ret (v := .tuple #[.agg #[.int .i64 0, .slice none 0 0, .string { data := #[] }, .slice none 0 0], .int .i64 162]) (by simp [results, Tryd.results16, go_sem]) rfl (got_zero ?_)
    exact (((Below.refl _ _).alloc (Nat.le_refl _) _).alloc (by simp) _)

set_option maxHeartbeats 2000000 in
theorem wGetReq_long (kind : Int) (h1 : 1 ≤ kind) (h2 : kind ≤ 12) (body : List Int) (A : Option Addr) (n c : Nat) (w : World) (hn : body.length = n) (hl : lim < n) :
    Calls Tryd.prog 16 #[.agg #[.int .i64 0, .int .i64 kind, .slice A n c]] w (GotReq w (gotV 0 kind body)) := by
  have hg : gotV 0 kind body = (163, 0, [], [], []) := by unfold gotV; rw [if_neg (by omega), if_neg (by omega), if_pos (by omega)]
  rw [hg]
  have hl' : (2097152 : Int) < (n : Int) := by have := lim_eq; omega
  have h1' : ¬ kind < 1 := by omega
  have h2' : ¬ (13 : Int) ≤ kind := by omega
  clear hg h1 h2 hl hn
  go_enter Tryd.func16, Tryd.ntmps16
  go_wp2
  refine bodyPost_ret (v := .tuple #[.agg #[.int .i64 0, .slice none 0 0, .string { data := #[] }, .slice none 0 0], .int .i64 163]) (by simp [results, Tryd.results16, go_sem]) rfl (got_zero ?_)
  exact (((Below.refl _ _).alloc (Nat.le_refl _) _).alloc (by simp) _)
set_option maxHeartbeats 2000000 in
theorem rGetReq_code (code kind : Int) (hc : code ≠ 0) (body : List Int) (A : Option Addr) (n c : Nat) (w : World) :
    Calls Tryd.prog 17 #[.agg #[.int .i64 code, .int .i64 kind, .slice A n c]] w (GotReq w (gotV code kind body)) := by
  have hg : gotV code kind body = (code, 0, [], [], []) := by unfold gotV; rw [if_pos hc]
  rw [hg]
  have hc' : (code != 0) = true := by simp [hc]
  clear hg
  go_enter Tryd.func17, Tryd.ntmps17
  go_wp2
  go_region
  all_goals go_wp2
  all_goals refine bodyPost_ret (v := .tuple #[.agg #[.int .i64 0, .slice none 0 0, .string { data := #[] }, .slice none 0 0], .int .i64 code]) (by simp [results, Tryd.results17, go_sem]) rfl (got_zero ?_)
  all_goals exact ((((Below.refl _ _).alloc (Nat.le_refl _) _).alloc (by simp) _).drew)

set_option maxHeartbeats 2000000 in
theorem rGetReq_kind (kind : Int) (hk : kind < 1 ∨ 12 < kind) (body : List Int) (A : Option Addr) (n c : Nat) (w : World) :
    Calls Tryd.prog 17 #[.agg #[.int .i64 0, .int .i64 kind, .slice A n c]] w (GotReq w (gotV 0 kind body)) := by
  have hg : gotV 0 kind body = (162, 0, [], [], []) := by unfold gotV; rw [if_neg (by omega), if_pos hk]
  rw [hg]
  clear hg
  by_cases h1 : kind < 1
  · clear hk
    go_enter Tryd.func17, Tryd.ntmps17
    go_wp2
    refine bodyPost_ret (v := .tuple #[.agg #[.int .i64 0, .slice none 0 0, .string { data := #[] }, .slice none 0 0], .int .i64 162]) (by simp [results, Tryd.results17, go_sem]) rfl (got_zero ?_)
    exact (((Below.refl _ _).alloc (Nat.le_refl _) _).alloc (by simp) _)
  · have h2 : (12 : Int) < kind := by omega
    clear hk
    go_enter Tryd.func17, Tryd.ntmps17
    go_wp2
    refine bodyPost_ret (v := .tuple #[.agg #[.int .i64 0, .slice none 0 0, .string { data := #[] }, .slice none 0 0], .int .i64 162]) (by simp [results, Tryd.results17, go_sem]) rfl (got_zero ?_)
    exact (((Below.refl _ _).alloc (Nat.le_refl _) _).alloc (by simp) _)

set_option maxHeartbeats 2000000 in
theorem rGetReq_long (kind : Int) (h1 : 1 ≤ kind) (h2 : kind ≤ 12) (body : List Int) (A : Option Addr) (n c : Nat) (w : World) (hn : body.length = n) (hl : lim < n) :
    Calls Tryd.prog 17 #[.agg #[.int .i64 0, .int .i64 kind, .slice A n c]] w (GotReq w (gotV 0 kind body)) := by
  have hg : gotV 0 kind body = (163, 0, [], [], []) := by unfold gotV; rw [if_neg (by omega), if_neg (by omega), if_pos (by omega)]
  rw [hg]
  have hl' : (2097152 : Int) < (n : Int) := by have := lim_eq; omega
  have h1' : ¬ kind < 1 := by omega
  have h2' : ¬ (12 : Int) < kind := by omega
  clear hg h1 h2 hl hn
  go_enter Tryd.func17, Tryd.ntmps17
  go_wp2
  refine bodyPost_ret (v := .tuple #[.agg #[.int .i64 0, .slice none 0 0, .string { data := #[] }, .slice none 0 0], .int .i64 163]) (by simp [results, Tryd.results17, go_sem]) rfl (got_zero ?_)
  exact (((Below.refl _ _).alloc (Nat.le_refl _) _).alloc (by simp) _)
end Go.Proofs.YtbmkindgbabobaaDoor
