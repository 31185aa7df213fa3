/- The four sums (the program's fletcher and adler, the reference's headSum and wholeSum): each call returns the sum of the bytes of the slice that it is handed, and leaves memory as it was. -/
import Derived.Test.YtbmkindgbabobaaDoorBase
import Derived.Test.YtbmkindgbabobaaDoorRows
namespace Go.Proofs.YtbmkindgbabobaaDoor
open Go.RowKit
set_option maxRecDepth 20000

/-! ### the sums, of lists -/
def adl (p : Int × Int) (x : Int) : Int × Int := ((p.1 + x) % 65521, (p.2 + (p.1 + x) % 65521) % 65521)
def adls (xs : List Int) : Int × Int := xs.foldl adl (1, 0)
def fle (p : Int × Int) (x : Int) : Int × Int := ((p.1 + x) % 255, (p.2 + (p.1 + x) % 255) % 255)
def fles (xs : List Int) : Int × Int := xs.foldl fle (0, 0)
/-- the whole sum as a number -/
def adn (xs : List Int) : Int := (adls xs).2 * 65536 + (adls xs).1
theorem adls_bd (xs : List Int) : 0 ≤ (adls xs).1 ∧ (adls xs).1 < 65521 ∧ 0 ≤ (adls xs).2 ∧ (adls xs).2 < 65521 := by
  unfold adls
  suffices h : ∀ (p : Int × Int), 0 ≤ p.1 ∧ p.1 < 65521 ∧ 0 ≤ p.2 ∧ p.2 < 65521 → 0 ≤ (xs.foldl adl p).1 ∧ (xs.foldl adl p).1 < 65521 ∧ 0 ≤ (xs.foldl adl p).2 ∧ (xs.foldl adl p).2 < 65521 from h _ (by omega)
  induction xs with
  | nil => intro p h; exact h
  | cons x xs ih => intro p h; simp only [List.foldl_cons]; apply ih; unfold adl; omega
theorem fles_bd (xs : List Int) : 0 ≤ (fles xs).1 ∧ (fles xs).1 < 255 ∧ 0 ≤ (fles xs).2 ∧ (fles xs).2 < 255 := by
  unfold fles
  suffices h : ∀ (p : Int × Int), 0 ≤ p.1 ∧ p.1 < 255 ∧ 0 ≤ p.2 ∧ p.2 < 255 → 0 ≤ (xs.foldl fle p).1 ∧ (xs.foldl fle p).1 < 255 ∧ 0 ≤ (xs.foldl fle p).2 ∧ (xs.foldl fle p).2 < 255 from h _ (by omega)
  induction xs with
  | nil => intro p h; exact h
  | cons x xs ih => intro p h; simp only [List.foldl_cons]; apply ih; unfold fle; omega
theorem take_snoc' {α : Type} (xs : List α) (k : Nat) (x : α) (h : xs[k]? = some x) : xs.take (k + 1) = xs.take k ++ [x] := by
  obtain ⟨h1, rfl⟩ := List.getElem?_eq_some_iff.1 h
  exact List.take_succ_eq_append_getElem h1
theorem adls_snoc (xs : List Int) (k : Nat) (x : Int) (h : xs[k]? = some x) : adls (xs.take (k+1)) = adl (adls (xs.take k)) x := by
  rw [take_snoc' xs k x h]; unfold adls; rw [List.foldl_append]; rfl
theorem fles_snoc (xs : List Int) (k : Nat) (x : Int) (h : xs[k]? = some x) : fles (xs.take (k+1)) = fle (fles (xs.take k)) x := by
  rw [take_snoc' xs k x h]; unfold fles; rw [List.foldl_append]; rfl
theorem or_shl16 (t s : Int) (ht : 0 ≤ t) (ht' : t < 65536) (hs : 0 ≤ s) (hs' : s < 65536) : bits .or .u32 (t * 65536) s = t * 65536 + s := by
  obtain ⟨a, rfl⟩ := Int.eq_ofNat_of_zero_le ht
  obtain ⟨b, rfl⟩ := Int.eq_ofNat_of_zero_le hs
  have h := u32_or_nat (a * 65536) b (by omega) (by omega)
  rw [show ((a : Int) * 65536) = ((a * 65536 : Nat) : Int) from by omega, h]
  have e : a * 65536 ||| b = a * 65536 + b := by
    have := Nat.two_pow_add_eq_or_of_lt (i := 16) (b := b) (by omega) a
    rw [Nat.mul_comm] at this
    exact this.symm
  rw [e]; omega
theorem adn_def (xs : List Int) : Ending.returned (.int .u32 (bits .or .u32 ((adls xs).2 * 65536) (adls xs).1)) = .returned (.int .u32 (adn xs)) := by
  have := adls_bd xs
  rw [or_shl16 _ _ (by omega) (by omega) (by omega) (by omega)]; rfl
theorem adn_bd (xs : List Int) : 0 ≤ adn xs ∧ adn xs < 4294967296 := by have := adls_bd xs; unfold adn; omega

set_option maxHeartbeats 400000 in
theorem adler_any (w : World) (B : Nat) (A : Option Addr) (n c : Nat) (xs : List Int) (hr : Bs w B A n xs) (hl : n ≤ 200000000000000) :
    Calls Tryd.prog 75 #[.slice A n c] w fun e w' => e = .returned (.int .u32 (adn xs)) ∧ w = w' := by
  have HR := Lib.hid hr; clear hr
  go_enter Tryd.func75, Tryd.ntmps75
  go_wp2
  go_loop [3, 4, 9] (fun s t i => ∃ k : Nat, k ≤ n ∧ i = .int .i64 k ∧ s = .int .u32 (adls (xs.take k)).1 ∧ t = .int .u32 (adls (xs.take k)).2) (fun _ _ i => n - (intOf i).toNat)
  case atStart => exact ⟨0, by omega, by go_num, rfl, rfl⟩
  case round =>
    obtain ⟨k, hk, rfl, rfl, rfl⟩ := hrel
    have hbd := adls_bd (xs.take k)
    by_cases hlt : k < n
    · obtain ⟨ad, x, rfl, _, hx0, hx1, hcx, hx⟩ := HR.out.at_ hlt
      have HS := Lib.hid (adls_snoc xs k x hx); clear hx
      generalize adls (xs.take k) = p at *
      go_wp2
      go_round
      case rel => exact ⟨k + 1, by omega, by go_num, by rw [HS.out]; unfold adl; go_num, by rw [HS.out]; unfold adl; go_num⟩
      case measure => simp [intOf]; omega
    · go_wp2
      go_ret
      have hk' : xs.take k = xs := List.take_of_length_le (by have := HR.out.len; omega)
      exact ⟨(congrArg (fun l => Ending.returned (.int .u32 (bits .or .u32 ((adls l).2 * 65536) (adls l).1))) hk').trans (adn_def xs), rfl⟩

set_option maxHeartbeats 400000 in
theorem wholeSum_any (w : World) (B : Nat) (A : Option Addr) (n c : Nat) (xs : List Int) (hr : Bs w B A n xs) (hl : n ≤ 200000000000000) :
    Calls Tryd.prog 80 #[.slice A n c] w fun e w' => e = .returned (.int .u32 (adn xs)) ∧ w = w' := by
  have HR := Lib.hid hr; clear hr
  go_enter Tryd.func80, Tryd.ntmps80
  go_wp2
  go_loop [3, 4, 5] (fun s t i => ∃ k : Nat, k ≤ n ∧ i = .int .i64 k ∧ s = .int .u32 (adls (xs.take k)).1 ∧ t = .int .u32 (adls (xs.take k)).2) (fun _ _ i => n - (intOf i).toNat)
  case atStart => exact ⟨0, by omega, by go_num, rfl, rfl⟩
  case round =>
    obtain ⟨k, hk, rfl, rfl, rfl⟩ := hrel
    have hbd := adls_bd (xs.take k)
    by_cases hlt : k < n
    · obtain ⟨ad, x, rfl, _, hx0, hx1, hcx, hx⟩ := HR.out.at_ hlt
      have HS := Lib.hid (adls_snoc xs k x hx); clear hx
      generalize adls (xs.take k) = p at *
      go_wp2
      go_round
      case rel => exact ⟨k + 1, by omega, by go_num, by rw [HS.out]; unfold adl; go_num, by rw [HS.out]; unfold adl; go_num⟩
      case measure => simp [intOf]; omega
    · go_wp2
      go_ret
      have hk' : xs.take k = xs := List.take_of_length_le (by have := HR.out.len; omega)
      exact ⟨(congrArg (fun l => Ending.returned (.int .u32 ((adls l).2 * 65536 + (adls l).1))) hk'), rfl⟩

set_option maxHeartbeats 400000 in
theorem headSum_any (w : World) (B : Nat) (A : Option Addr) (n c : Nat) (xs : List Int) (hr : Bs w B A n xs) (hl : n ≤ 200000000000000) :
    Calls Tryd.prog 79 #[.slice A n c] w fun e w' => e = .returned (.tuple #[.int .u8 (fles xs).2, .int .u8 (fles xs).1]) ∧ w = w' := by
  have HR := Lib.hid hr; clear hr
  go_enter Tryd.func79, Tryd.ntmps79
  go_wp2
  go_loop [4, 5, 6] (fun s t i => ∃ k : Nat, k ≤ n ∧ i = .int .i64 k ∧ s = .int .i64 (fles (xs.take k)).1 ∧ t = .int .i64 (fles (xs.take k)).2) (fun _ _ i => n - (intOf i).toNat)
  case atStart => exact ⟨0, by omega, by go_num, rfl, rfl⟩
  case round =>
    obtain ⟨k, hk, rfl, rfl, rfl⟩ := hrel
    have hbd := fles_bd (xs.take k)
    by_cases hlt : k < n
    · obtain ⟨ad, x, rfl, _, hx0, hx1, hcx, hx⟩ := HR.out.at_ hlt
      have HS := Lib.hid (fles_snoc xs k x hx); clear hx
      generalize fles (xs.take k) = p at *
      go_wp2
      go_round
      case rel => exact ⟨k + 1, by omega, by go_num, by rw [HS.out]; unfold fle; go_num, by rw [HS.out]; unfold fle; go_num⟩
      case measure => simp [intOf]; omega
    · have hk' : xs.take k = xs := List.take_of_length_le (by have := HR.out.len; omega)
      rw [hk'] at hbd ⊢
      clear hk'
      go_wp2
      go_ret2
      exact ⟨rfl, rfl⟩

set_option maxHeartbeats 400000 in
theorem fletcher_any (w : World) (B : Nat) (A : Option Addr) (n c : Nat) (xs : List Int) (hr : Bs w B A n xs) (hl : n ≤ 200000000000000) :
    Calls Tryd.prog 74 #[.slice A n c] w fun e w' => e = .returned (.agg #[.int .u8 (fles xs).2, .int .u8 (fles xs).1]) ∧ Below w.heap.size w w' := by
  have HR := Lib.hid hr; clear hr
  go_enter Tryd.func74, Tryd.ntmps74
  go_wp2
  go_loop [3, 4, 9] (fun s t i => ∃ k : Nat, k ≤ n ∧ i = .int .i64 k ∧ s = .int .i64 (fles (xs.take k)).1 ∧ t = .int .i64 (fles (xs.take k)).2) (fun _ _ i => n - (intOf i).toNat)
  case atStart => exact ⟨0, by omega, by go_num, rfl, rfl⟩
  case round =>
    obtain ⟨k, hk, rfl, rfl, rfl⟩ := hrel
    have hbd := fles_bd (xs.take k)
    by_cases hlt : k < n
    · obtain ⟨ad, x, rfl, hB, hx0, hx1, hcx, hx⟩ := HR.out.at_ hlt
      have hcy : (w.alloc (.cells #[Value.int IntKind.u8 0, Value.int IntKind.u8 0] 113)).cell? (ad.add k) = some (.int .u8 x) := cell_later ((Below.refl _ _).alloc (Nat.le_refl _) _) hcx
      clear hcx
      have HS := Lib.hid (fles_snoc xs k x hx); clear hx
      generalize fles (xs.take k) = p at *
      go_wp2
      go_round
      case rel => exact ⟨k + 1, by omega, by go_num, by rw [HS.out]; unfold fle; go_num, by rw [HS.out]; unfold fle; go_num⟩
      case measure => simp [intOf]; omega
    · have hk' : xs.take k = xs := List.take_of_length_le (by have := HR.out.len; omega)
      rw [hk'] at hbd ⊢
      clear hk'
      go_wp2
      refine bodyPost_ret (v := .agg #[.int .u8 (fles xs).2, .int .u8 (fles xs).1]) (by simp [results, Tryd.results74, go_sem]) rfl ⟨rfl, ?_⟩
      exact (Below.refl _ _).alloc (Nat.le_refl _) _
end Go.Proofs.YtbmkindgbabobaaDoor
