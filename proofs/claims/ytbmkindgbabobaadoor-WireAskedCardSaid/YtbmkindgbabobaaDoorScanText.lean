/- The scanner's texts: the bytes that come next, as a string. -/
import Derived.Test.YtbmkindgbabobaaDoorScanLow
import Derived.Laws.BytesString
import Derived.Lib.BufferRead
namespace Go.Proofs.YtbmkindgbabobaaDoor
open Go.RowKit
set_option maxRecDepth 20000

theorem sb_push (s : ByteArray) (b : UInt8) : sb (s.push b) = sb s ++ [(b.toNat : Int)] := by
  unfold sb
  have : (s.push b).data = s.data.push b := rfl
  rw [this, Array.toList_push, List.map_append]
  rfl
theorem sb_fold (xs : List Int) (hx : Byt xs) : ∀ s : ByteArray, sb (xs.foldl (fun r n => r.push (UInt8.ofNat n.toNat)) s) = sb s ++ xs := by
  induction xs with
  | nil => intro s; simp
  | cons x xs ih =>
    intro s
    rw [List.foldl_cons, ih (fun y hy => hx y (List.mem_cons_of_mem _ hy)), sb_push]
    have h := hx x (List.mem_cons_self ..)
    have e : ((UInt8.ofNat x.toNat).toNat : Int) = x := by
      rw [UInt8.toNat_ofNat']
      omega
    rw [e]; simp
theorem run_conv_str {P : Program} (w : World) (src dst e : TypeId) (hs : P.underlying src = some (.slice e)) (he : P.underlying e = some (.int .u8)) (hd : P.underlying dst = some .string)
    {B n c : Nat} {A : Option Addr} {xs : List Int} (h : Bs w B A n xs) : ∃ s, (convert src dst (.slice A n c)).run P w = .ok (.string s) w ∧ sb s = xs := by
  cases A with
  | none =>
    have hn : n = 0 := by
      rcases Nat.eq_zero_or_pos n with h0 | h0
      · exact h0
      · obtain ⟨ad, h', _⟩ := h.rd.2 h0
        cases h'
    subst hn
    have hx : xs = [] := List.eq_nil_of_length_eq_zero h.len
    subst hx
    exact ⟨_, Lib.run_convert_nil_bytes w src dst e c hs he hd, rfl⟩
  | some ad =>
    refine ⟨xs.foldl (fun r n => r.push (UInt8.ofNat n.toNat)) ByteArray.empty, ?_, ?_⟩
    · rw [run_convert_bytes_string w src dst e _ n c hs he hd]
      refine run_bytesToString w ad n c xs ?_
      have hl := run_loadCells_list (P := P) (w := w) ad (bv xs) (fun j v hj => by
        rcases Nat.eq_zero_or_pos n with h0 | h0
        · have hlt := (List.getElem?_eq_some_iff.1 hj).1
          rw [bv_length, h.len] at hlt
          omega
        · obtain ⟨ad', h', _, hc⟩ := h.rd.2 h0
          injection h' with h'
          subst h'
          exact hc j v hj)
      rw [bv_length, h.len] at hl
      exact hl
    · rw [sb_fold xs h.byt]; rfl

theorem text_of {xs r : List Int} {n : Nat} {bad bad' : Bool} (h : nxt bad (pSome xs) = if bad' then none else some (n, r)) : nxt bad (pText xs) = if bad' then none else some (r.take n, r.drop n) := by
  unfold pText
  cases bad <;> cases bad' <;> simp_all [nxt]

set_option maxHeartbeats 400000 in
theorem wrtext_any (w : World) (base g : Nat) (xs : List Int) (bad : Bool) (h : St 84 w base g xs bad) :
    Calls Tryd.prog 45 #[.pointer (some ⟨g, 0, none⟩)] w (Read1 84 w base g (nxt bad (pText xs)) VText) := by
  have H := hide h
  clear h
  go_enter Tryd.func45, Tryd.ntmps45
  go_wp2_with fail
  refine (wrsome_any _ _ _ _ _ H.out).mono ?_
  rintro e w1 ⟨hb1, k, r, bad', rfl, hk, _, h2, hf⟩
  obtain ⟨A, n, c, hblk, hs, hc, hc2, hlim⟩ := h2.ex
  have hkn : k ≤ n := by rw [← hs.len]; exact hk
  have hlo := h2.lo
  have c0 := hblk.cell 0
  have f0 := hblk.frozen 0
  simp only [List.getElem?_toArray, List.getElem?_cons_zero] at c0
  have HB := hide hb1
  have HBK := hide hblk
  have HT := hide (hs.take hkn)
  have HC := hide (hs.cut (cap := c) hkn hc)
  have HF := hide (text_of hf)
  have HL := hide hs.len
  clear hb1 h2 hf hk hblk hs
  go_wp2_with fail
  obtain ⟨str, hrun, hsb⟩ := run_conv_str (P := Tryd.prog) w1 27 9 5 Tryd.underlying27 Tryd.underlying5 Tryd.underlying9 (c := c) HT.out
  rw [hrun]; clear hrun
  have HS := hide hsb
  clear hsb
  by_cases hck : c = k
  · subst hck
    obtain rfl : n = c := by omega
    have HC' := HC.out
    rw [if_pos rfl] at HC'
    have HC2 := hide HC'
    clear HC HC'
    go_wp2
    go_ret
    exact ⟨HB.out.setCell 0 _, _, r.drop n, bad', ⟨str, rfl, HS.out⟩, ⟨⟨A, n - n, 0, by simpa using HBK.out.set_ 0 (.slice A (n - n) 0), HC2.out.below ((Below.refl _ _).setCell hlo _), by omega, by omega, by omega⟩, hlo⟩, HF.out⟩
  · have HC' := HC.out
    rw [if_neg hck] at HC'
    have HC2 := hide HC'
    clear HC HC'
    go_wp2
    go_ret
    exact ⟨HB.out.setCell 0 _, _, r.drop k, bad', ⟨str, rfl, HS.out⟩, ⟨⟨A.map (·.add k), n - k, c - k, by simpa using HBK.out.set_ 0 (.slice (A.map (·.add k)) (n - k) (c - k)), HC2.out.below ((Below.refl _ _).setCell hlo _), by omega, by omega, by omega⟩, hlo⟩, HF.out⟩


set_option maxHeartbeats 400000 in
theorem rrtext_any (w : World) (base g : Nat) (xs : List Int) (bad : Bool) (h : St 90 w base g xs bad) :
    Calls Tryd.prog 48 #[.pointer (some ⟨g, 0, none⟩)] w (Read1 90 w base g (nxt bad (pText xs)) VText) := by
  have H := hide h
  clear h
  go_enter Tryd.func48, Tryd.ntmps48
  go_wp2_with fail
  refine (rrlist_any _ _ _ _ _ H.out).mono ?_
  rintro e w1 ⟨hb1, k, r, bad', rfl, hk, _, h2, hf⟩
  obtain ⟨A, n, c, hblk, hs, hc, hc2, hlim⟩ := h2.ex
  have hkn : k ≤ n := by rw [← hs.len]; exact hk
  have hlo := h2.lo
  have c0 := hblk.cell 0
  have f0 := hblk.frozen 0
  simp only [List.getElem?_toArray, List.getElem?_cons_zero] at c0
  have HB := hide hb1
  have HBK := hide hblk
  have HT := hide (hs.take hkn)
  have HC := hide (hs.cut (cap := c) hkn hc)
  have HF := hide (text_of hf)
  have HL := hide hs.len
  clear hb1 h2 hf hk hblk hs
  go_wp2_with fail
  obtain ⟨str, hrun, hsb⟩ := run_conv_str (P := Tryd.prog) w1 27 9 5 Tryd.underlying27 Tryd.underlying5 Tryd.underlying9 (c := c) HT.out
  rw [hrun]; clear hrun
  have HS := hide hsb
  clear hsb
  by_cases hck : c = k
  · subst hck
    obtain rfl : n = c := by omega
    have HC' := HC.out
    rw [if_pos rfl] at HC'
    have HC2 := hide HC'
    clear HC HC'
    go_wp2
    go_ret
    exact ⟨HB.out.setCell 0 _, _, r.drop n, bad', ⟨str, rfl, HS.out⟩, ⟨⟨A, n - n, 0, by simpa using HBK.out.set_ 0 (.slice A (n - n) 0), HC2.out.below ((Below.refl _ _).setCell hlo _), by omega, by omega, by omega⟩, hlo⟩, HF.out⟩
  · have HC' := HC.out
    rw [if_neg hck] at HC'
    have HC2 := hide HC'
    clear HC HC'
    go_wp2
    go_ret
    exact ⟨HB.out.setCell 0 _, _, r.drop k, bad', ⟨str, rfl, HS.out⟩, ⟨⟨A.map (·.add k), n - k, c - k, by simpa using HBK.out.set_ 0 (.slice (A.map (·.add k)) (n - k) (c - k)), HC2.out.below ((Below.refl _ _).setCell hlo _), by omega, by omega, by omega⟩, hlo⟩, HF.out⟩

end Go.Proofs.YtbmkindgbabobaaDoor
