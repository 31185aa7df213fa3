/- What a row's proof needs besides the walk: an argument that is a slice of bytes, opened into what the contracts ask. -/
import Derived.Test.YtbmkindgbabobaaDoorBase
import Derived.ProofKit
import Derived.OpenShut
import Derived.ShutString
import Derived.SizedLaws
import Derived.ChangeOld
namespace Go.Proofs.YtbmkindgbabobaaDoor
open Go.ChangeShapes Go.WideShapes Go.ChangeAt Go.RowKit

theorem wf_u8 {n : Int} (h : (Lit.int .u8 n).wf = true) : 0 ≤ n ∧ n < 256 := by
  have h1 : IntKind.u8.min = 0 := rfl
  have h2 : IntKind.u8.max = 255 := rfl
  simp only [Lit.wf, Bool.and_eq_true, decide_eq_true_eq] at h
  omega

theorem open_bytes_arg {H : Type} {enc : TypeId × Value → H} {P : Program} {W : World} {t e : TypeId} (ht : P.underlying t = some (.slice e)) (he : P.underlying e = some (.int .u8)) (hce : P.cellsOf e = 1)
    {A : Option Addr} {n c : Nat} {d : DataW H} {p : List MemPlace} (h : DataW.Trod enc P W 0 (fun _ => true) true t (.slice A n c) d p) :
    ∃ xs, Bs W W.heap.size A n xs ∧ n ≤ c ∧ c ≤ 9223372036854775807 ∧ ((d = .nil ∧ c = 0) ∨ ∃ elems spare, d = .slice elems spare ∧ elems.length + spare.length = c) := by
  obtain ⟨fuel, hf⟩ := h
  rcases open_ints ht he hce hf with ⟨hcs, hx⟩ | ⟨x, l, c', zs, hcs, _, hl, hm, hz, hx, hcell, hwz⟩
  · simp [Value.cells] at hcs
    obtain ⟨rfl, rfl, rfl⟩ := hcs
    simp only [Prod.mk.injEq] at hx
    exact ⟨[], Bs.none_, Nat.le_refl _, by omega, .inl ⟨hx.1, rfl⟩⟩
  · simp [Value.cells] at hcs
    obtain ⟨rfl, rfl, rfl⟩ := hcs
    simp only [Prod.mk.injEq] at hx
    simp only [if_true] at hz
    have hlen : (zs.take n).length = n := by rw [List.length_take]; omega
    refine ⟨zs.take n, ⟨⟨by rw [bv_length, hlen]; omega, fun hn => ⟨x, rfl, ?_, ?_⟩⟩, fun y hy => wf_u8 (hwz y (List.mem_of_mem_take hy))⟩, hl, hm, .inr ⟨_, _, hx.1, by simp [lits]; omega⟩⟩
    · have := World.block_lt_of_cell? W _ (hcell 0 (by omega))
      rw [block_of_add] at this
      exact this
    · intro j u hu
      have hj : j < zs.length := by
        have h1 := (List.getElem?_eq_some_iff.1 hu).1
        rw [bv_length] at h1; omega
      rw [hcell j hj, ← hu, ← bv_take, List.getElem?_take]
      have h1 := (List.getElem?_eq_some_iff.1 hu).1
      rw [bv_length] at h1
      rw [if_pos (by omega)]
      simp [bv, hj]

theorem bytes_reach {H : Type} {P : Program} {ts : List TypeId} {ds : List (DataW H)} (h : (DataW.weightsEach P ts ds).all (· ≤ reachBytes) = true) {j : Nat} {t e : TypeId} {d : DataW H} {c : Nat} (ht : ts[j]? = some t) (hd : ds[j]? = some d)
    (hu : P.underlying t = some (.slice e)) (hb : P.bytesOf e = 1) (hc : (d = .nil ∧ c = 0) ∨ ∃ elems spare, d = .slice elems spare ∧ elems.length + spare.length = c) : c ≤ 140737488351232 := by
  rcases hc with ⟨rfl, rfl⟩ | ⟨elems, spare, rfl, rfl⟩
  · exact Nat.zero_le _
  · have := sized_slice h ht hd hu
    rw [hb] at this
    simp only [reachBytes] at this
    omega
end Go.Proofs.YtbmkindgbabobaaDoor
