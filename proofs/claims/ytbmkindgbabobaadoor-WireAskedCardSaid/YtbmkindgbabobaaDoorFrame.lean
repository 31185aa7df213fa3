/- Frame, the program's and the reference's: each hands back the very bytes that the plain definition 'frm' names, in new memory, or the error that the document names. -/
import Derived.Test.YtbmkindgbabobaaDoorHelp
namespace Go.Proofs.YtbmkindgbabobaaDoor
open Go.RowKit
set_option maxRecDepth 20000

/-! ### the frame, as a list of bytes -/
/-- Bytes 2 to 5. -/
def hd4 (kind : Int) (n : Nat) : List Int := [kind, (n : Int) / 65536, (n : Int) / 256 % 256, (n : Int) % 256]
/-- Bytes 2 to 7 and the body. -/
def inner (kind : Int) (body : List Int) : List Int := (hd4 kind body.length ++ [(fles (hd4 kind body.length)).2, (fles (hd4 kind body.length)).1]) ++ body
def sum4 (s : Int) : List Int := [s / 16777216, s / 65536 % 256, s / 256 % 256, s % 256]
def frm (kind : Int) (body : List Int) : List Int := (165 :: 90 :: inner kind body) ++ sum4 (adn (inner kind body))
/-- Frame's answer: the error, the bytes. -/
def frameCode (kind : Int) (n : Nat) : Int := if kind < 1 ∨ 255 < kind then 162 else if 2097152 < n then 163 else 0
def frameOut (kind : Int) (body : List Int) : List Int := if frameCode kind body.length = 0 then frm kind body else []
theorem hd4_byt (kind : Int) (n : Nat) (h1 : 1 ≤ kind) (h2 : kind ≤ 255) (hn : n ≤ 2097152) : Byt (hd4 kind n) := by
  intro x hx
  simp only [hd4, List.mem_cons, List.not_mem_nil, or_false] at hx
  omega
theorem hd4_len (kind : Int) (n : Nat) : (hd4 kind n).length = 4 := rfl
theorem inner_len (kind : Int) (body : List Int) : (inner kind body).length = body.length + 6 := by simp [inner, hd4]
theorem frm_len (kind : Int) (body : List Int) : (frm kind body).length = body.length + 12 := by simp [frm, sum4, inner_len]

theorem frm_eq {kind : Int} {n : Nat} {body : List Int} (hlen : body.length = n) {f : Int × Int} {s : Int} (hf : fles [kind, (n : Int) / 65536, (n : Int) / 256 % 256, (n : Int) % 256] = f)
    (hs : adn (List.drop 2 ([] ++ [165, 90, kind, (n : Int) / 65536, (n : Int) / 256 % 256, (n : Int) % 256] ++ [f.2, f.1] ++ body)) = s) :
    ([] ++ [165, 90, kind, (n : Int) / 65536, (n : Int) / 256 % 256, (n : Int) % 256] ++ [f.2, f.1] ++ body) ++ [s / 16777216, s / 65536 % 256, s / 256 % 256, s % 256] = frm kind body := by
  subst hlen hf hs
  simp [frm, inner, hd4, sum4]

set_option maxHeartbeats 400000 in
theorem wFrame_type (kind : Int) (hk : kind < 1 ∨ 255 < kind) (w : World) (A : Option Addr) (n c : Nat) :
    Calls Tryd.prog 27 #[.int .i64 kind, .slice A n c] w fun e w' => e = .returned (.tuple #[.slice none 0 0, .int .i64 162]) ∧ w = w' := by
  by_cases h1 : kind < 1
  · clear hk
    go_enter Tryd.func27, Tryd.ntmps27
    go_wp2
    go_ret2
    exact ⟨rfl, rfl⟩
  · have h2 : 255 < kind := by omega
    clear hk
    go_enter Tryd.func27, Tryd.ntmps27
    go_wp2
    go_ret2
    exact ⟨rfl, rfl⟩

set_option maxHeartbeats 400000 in
theorem wFrame_body (kind : Int) (h1 : 1 ≤ kind) (h2 : kind ≤ 255) (w : World) (A : Option Addr) (n c : Nat) (hn : 2097152 < n) :
    Calls Tryd.prog 27 #[.int .i64 kind, .slice A n c] w fun e w' => e = .returned (.tuple #[.slice none 0 0, .int .i64 163]) ∧ w = w' := by
  go_enter Tryd.func27, Tryd.ntmps27
  go_wp2
  go_ret2
  exact ⟨rfl, rfl⟩

set_option maxHeartbeats 1000000 in
theorem wFrame_ok (kind : Int) (h1 : 1 ≤ kind) (h2 : kind ≤ 255) (w : World) (B : Nat) (A : Option Addr) (n c : Nat) (body : List Int) (hr : Bs w B A n body) (hB : B ≤ w.heap.size) (hn : n ≤ 2097152) :
    Calls Tryd.prog 27 #[.int .i64 kind, .slice A n c] w fun e w' => ∃ A' c', e = .returned (.tuple #[.slice A' (n + 12) c', .int .i64 0]) ∧ Ow w' w.heap.size 5 (.slice A' (n + 12) c') (n + 12) (frm kind body) ∧ Below w.heap.size w w' := by
  have HL := hide hr.len
  have HR := hide hr; clear hr
  go_enter Tryd.func27, Tryd.ntmps27
  go_wp2_with fail
  obtain ⟨w1, hrun, hown, hb1⟩ := run_make_bs (P := Tryd.prog) w 27 5 Tryd.underlying27 info_u8 w.heap.size (n + 12) (12 + n) (by omega) (by omega) (Nat.le_refl _)
  rw [hrun]; clear hrun
  have hg1 : Gw w w1 5 _ _ _ := ⟨hown, hb1⟩
  clear hown hb1
  go_wp2_with (at_builtin; refine to_halt ?_)
  refine of_halt (wpList_append_lit rfl _ _ _ rfl Tryd.underlying27 info_u8 hg1 [165, 90, kind, (n : Int) / 65536, (n : Int) / 256 % 256, (n : Int) % 256] rfl (by intro x hx; simp at hx; omega) rfl rfl (by simp) rfl 6 rfl _ rfl (by omega) ?_)
  intro A2 c2 w2 hg2
  clear hg1
  have hc2 := hg2.cap
  have H2 := hide hg2
  have hcut := hide (hg2.bs.cutk (k := 2) (m := 4) (by omega) (by omega))
  clear hg2
  go_wp2_with fail
  refine (fletcher_any _ _ _ _ _ _ hcut.out (by omega)).mono ?_
  rintro e w3 ⟨rfl, hb3⟩
  have H3 := hide (H2.out.below hb3)
  clear hcut H2 hb3
  simp only [List.nil_append, List.drop_succ_cons, List.drop_zero] at ⊢
  generalize hf : fles [kind, (n : Int) / 65536, (n : Int) / 256 % 256, (n : Int) % 256] = f
  have hfb := hf ▸ fles_bd [kind, (n : Int) / 65536, (n : Int) / 256 % 256, (n : Int) % 256]
  have HF := hide hf
  clear hf
  go_wp2_with (at_builtin; refine to_halt ?_)
  refine of_halt (wpList_append_lit rfl _ _ _ rfl Tryd.underlying27 info_u8 (H3.out.alloc _) [f.2, f.1] rfl (by intro x hx; simp at hx; omega) rfl rfl (by simp) rfl 8 rfl _ rfl (by omega) ?_)
  intro A4 c4 w4 hg4
  have H4 := hide hg4
  have HB4 := hide (HR.out.below (hg4.bel.mono hB))
  clear hg4 H3 HR
  go_wp2_with (at_builtin; refine to_halt ?_)
  refine of_halt (wpList_append_gw rfl _ _ _ rfl Tryd.underlying27 info_u8 H4.out rfl HB4.out rfl (n + 8) (by omega) _ rfl (by omega) ?_)
  intro A5 c5 w5 hg5
  have hc5 := hg5.cap
  have H5 := hide hg5
  have hcut := hide (hg5.bs.cutk (k := 2) (m := n + 6) (by omega) (by omega))
  clear hg5 H4 HB4
  go_wp2_with fail
  refine (adler_any _ _ _ _ _ _ hcut.out (by omega)).mono ?_
  rintro e w' ⟨rfl, rfl⟩
  clear hcut
  generalize hs : adn _ = s
  have hsb := hs ▸ adn_bd _
  have HS := hide hs
  clear hs
  go_wp2_with (at_builtin; refine to_halt ?_)
  refine of_halt (wpList_append_lit rfl _ _ _ rfl Tryd.underlying27 info_u8 H5.out [s / 16777216, s / 65536 % 256, s / 256 % 256, s % 256] rfl (by intro x hx; simp at hx; omega) rfl (m := 4) rfl (by simp) rfl (n + 12) (by omega) _ (frm_eq HL.out HF.out HS.out) (by omega) ?_)
  intro A6 c6 w6 hg6
  have H6 := hide hg6
  clear hg6 H5
  go_wp2
  go_ret2
  exact ⟨A6, c6, rfl, H6.out.own, H6.out.bel⟩

set_option maxHeartbeats 400000 in
theorem rFrame_type (kind : Int) (hk : kind < 1 ∨ 255 < kind) (w : World) (A : Option Addr) (n c : Nat) :
    Calls Tryd.prog 42 #[.int .i64 kind, .slice A n c] w fun e w' => e = .returned (.tuple #[.slice none 0 0, .int .i64 162]) ∧ w = w' := by
  by_cases h1 : kind < 1
  · clear hk
    go_enter Tryd.func42, Tryd.ntmps42
    go_wp2
    go_ret2
    exact ⟨rfl, rfl⟩
  · have h2 : 255 < kind := by omega
    clear hk
    go_enter Tryd.func42, Tryd.ntmps42
    go_wp2
    go_ret2
    exact ⟨rfl, rfl⟩

set_option maxHeartbeats 400000 in
theorem rFrame_body (kind : Int) (h1 : 1 ≤ kind) (h2 : kind ≤ 255) (w : World) (A : Option Addr) (n c : Nat) (hn : 2097152 < n) :
    Calls Tryd.prog 42 #[.int .i64 kind, .slice A n c] w fun e w' => e = .returned (.tuple #[.slice none 0 0, .int .i64 163]) ∧ w = w' := by
  go_enter Tryd.func42, Tryd.ntmps42
  go_wp2
  go_ret2
  exact ⟨rfl, rfl⟩

set_option maxHeartbeats 1000000 in
theorem rFrame_ok (kind : Int) (h1 : 1 ≤ kind) (h2 : kind ≤ 255) (w : World) (B : Nat) (A : Option Addr) (n c : Nat) (body : List Int) (hr : Bs w B A n body) (hB : B ≤ w.heap.size) (hn : n ≤ 2097152) :
    Calls Tryd.prog 42 #[.int .i64 kind, .slice A n c] w fun e w' => ∃ A' c', e = .returned (.tuple #[.slice A' (n + 12) c', .int .i64 0]) ∧ Ow w' w.heap.size 5 (.slice A' (n + 12) c') (n + 12) (frm kind body) ∧ Below w.heap.size w w' := by
  have HL := hide hr.len
  have HR := hide hr; clear hr
  go_enter Tryd.func42, Tryd.ntmps42
  go_wp2_with fail
  have hg1 := Gw.made w 5 [165, 90, kind, (n : Int) / 65536, (n : Int) / 256 % 256, (n : Int) % 256] _ 6 rfl rfl (by unfold maxLen; omega) (by intro x hx; simp at hx; omega)
  have H1 := hide hg1
  have hcut := hide (hg1.bs.cutk (k := 2) (m := 4) (by omega) (by omega))
  clear hg1
  refine (headSum_any _ _ _ _ _ _ hcut.out (by omega)).mono ?_
  rintro e w' ⟨rfl, rfl⟩
  clear hcut
  simp only [List.drop_succ_cons, List.drop_zero] at ⊢
  generalize hf : fles [kind, (n : Int) / 65536, (n : Int) / 256 % 256, (n : Int) % 256] = f
  have hfb := hf ▸ fles_bd [kind, (n : Int) / 65536, (n : Int) / 256 % 256, (n : Int) % 256]
  have HF := hide hf
  clear hf
  go_wp2_with (at_builtin; refine to_halt ?_)
  refine of_halt (wpList_append_lit rfl _ _ _ rfl Tryd.underlying27 info_u8 H1.out [f.2, f.1] rfl (by intro x hx; simp at hx; omega) rfl (m := 2) rfl (by simp) rfl 8 rfl _ rfl (by omega) ?_)
  intro A4 c4 w4 hg4
  have H4 := hide hg4
  have HB4 := hide (HR.out.below (hg4.bel.mono hB))
  clear hg4 H1 HR
  go_wp2_with (at_builtin; refine to_halt ?_)
  refine of_halt (wpList_append_gw rfl _ _ _ rfl Tryd.underlying27 info_u8 H4.out rfl HB4.out rfl (n + 8) (by omega) _ rfl (by omega) ?_)
  intro A5 c5 w5 hg5
  have hc5 := hg5.cap
  have H5 := hide hg5
  have hcut := hide (hg5.bs.cutk (k := 2) (m := n + 6) (by omega) (by omega))
  clear hg5 H4 HB4
  go_wp2_with fail
  refine (wholeSum_any _ _ _ _ _ _ hcut.out (by omega)).mono ?_
  rintro e w' ⟨rfl, rfl⟩
  clear hcut
  generalize hs : adn _ = s
  have hsb := hs ▸ adn_bd _
  have HS := hide hs
  clear hs
  go_wp2_with (at_builtin; refine to_halt ?_)
  refine of_halt (wpList_append_lit rfl _ _ _ rfl Tryd.underlying27 info_u8 H5.out [s / 16777216, s / 65536 % 256, s / 256 % 256, s % 256] rfl (by intro x hx; simp at hx; omega) rfl (m := 4) rfl (by simp) rfl (n + 12) (by omega) _ (frm_eq HL.out HF.out HS.out) (by omega) ?_)
  intro A6 c6 w6 hg6
  have H6 := hide hg6
  clear hg6 H5
  go_wp2
  go_ret2
  exact ⟨A6, c6, rfl, H6.out.own, H6.out.bel⟩
/-- Frame's two makers agree, and what they hand back: the error's number, the bytes, nil where there is an error. -/
def FrameGives (w : World) (kind : Int) (body : List Int) (e : Ending) (w' : World) : Prop :=
  ∃ A n c, e = .returned (.tuple #[.slice A n c, .int .i64 (frameCode kind body.length)]) ∧ Ow w' w.heap.size 5 (.slice A n c) n (frameOut kind body) ∧ Below w.heap.size w w'

theorem wFrame_any (kind : Int) (w : World) (B : Nat) (A : Option Addr) (n c : Nat) (body : List Int) (hr : Bs w B A n body) (hB : B ≤ w.heap.size) :
    Calls Tryd.prog 27 #[.int .i64 kind, .slice A n c] w (FrameGives w kind body) := by
  have hl := hr.len
  by_cases hk : kind < 1 ∨ 255 < kind
  · refine (wFrame_type kind hk w A n c).mono ?_
    rintro e w' ⟨rfl, rfl⟩
    have hc : frameCode kind body.length = 162 := by unfold frameCode; rw [if_pos hk]
    exact ⟨none, 0, 0, by rw [hc], by unfold frameOut; rw [hc, if_neg (by omega)]; exact Ow.nil _ _ _, Below.refl _ _⟩
  · by_cases hn : 2097152 < n
    · refine (wFrame_body kind (by omega) (by omega) w A n c hn).mono ?_
      rintro e w' ⟨rfl, rfl⟩
      have hc : frameCode kind body.length = 163 := by unfold frameCode; rw [if_neg hk, if_pos (by omega)]
      exact ⟨none, 0, 0, by rw [hc], by unfold frameOut; rw [hc, if_neg (by omega)]; exact Ow.nil _ _ _, Below.refl _ _⟩
    · refine (wFrame_ok kind (by omega) (by omega) w B A n c body hr hB (by omega)).mono ?_
      rintro e w' ⟨A', c', rfl, h1, h2⟩
      have hc : frameCode kind body.length = 0 := by unfold frameCode; rw [if_neg hk, if_neg (by omega)]
      exact ⟨A', n + 12, c', by rw [hc], by unfold frameOut; rw [hc, if_pos rfl]; exact h1, h2⟩

theorem rFrame_any (kind : Int) (w : World) (B : Nat) (A : Option Addr) (n c : Nat) (body : List Int) (hr : Bs w B A n body) (hB : B ≤ w.heap.size) :
    Calls Tryd.prog 42 #[.int .i64 kind, .slice A n c] w (FrameGives w kind body) := by
  have hl := hr.len
  by_cases hk : kind < 1 ∨ 255 < kind
  · refine (rFrame_type kind hk w A n c).mono ?_
    rintro e w' ⟨rfl, rfl⟩
    have hc : frameCode kind body.length = 162 := by unfold frameCode; rw [if_pos hk]
    exact ⟨none, 0, 0, by rw [hc], by unfold frameOut; rw [hc, if_neg (by omega)]; exact Ow.nil _ _ _, Below.refl _ _⟩
  · by_cases hn : 2097152 < n
    · refine (rFrame_body kind (by omega) (by omega) w A n c hn).mono ?_
      rintro e w' ⟨rfl, rfl⟩
      have hc : frameCode kind body.length = 163 := by unfold frameCode; rw [if_neg hk, if_pos (by omega)]
      exact ⟨none, 0, 0, by rw [hc], by unfold frameOut; rw [hc, if_neg (by omega)]; exact Ow.nil _ _ _, Below.refl _ _⟩
    · refine (rFrame_ok kind (by omega) (by omega) w B A n c body hr hB (by omega)).mono ?_
      rintro e w' ⟨A', c', rfl, h1, h2⟩
      have hc : frameCode kind body.length = 0 := by unfold frameCode; rw [if_neg hk, if_neg (by omega)]
      exact ⟨A', n + 12, c', by rw [hc], by unfold frameOut; rw [hc, if_pos rfl]; exact h1, h2⟩

end Go.Proofs.YtbmkindgbabobaaDoor
