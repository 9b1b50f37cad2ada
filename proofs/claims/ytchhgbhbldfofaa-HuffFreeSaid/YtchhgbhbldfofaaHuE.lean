/-
  huff: a row of ints; deepen walked.
-/
import Derived.Test.YtchhgbhbldfofaaHuD
namespace Go.Proofs.Ytchhgbhbldfofaa.Hu
open Go.RowKit

abbrev iz (x : Int) : Value := .int .i64 x
/-- the value v is a slice of the ints l in the world w -/
def IntsAt (w : World) (v : Value) (l : List Int) : Prop :=
  ∃ ao cap, v = .slice ao l.length cap ∧ (0 < l.length → ∃ b off, ao = some ⟨b, off, none⟩ ∧ ∀ i x, l[i]? = some x → w.cell? ⟨b, off + i, none⟩ = some (iz x))
theorem IntsAt.ext {w w' : World} {v : Value} {l : List Int} (h : IntsAt w v l) (hx : Ext [] w w') : IntsAt w' v l := by
  obtain ⟨ao, cap, rfl, hc⟩ := h
  refine ⟨ao, cap, rfl, fun hn => ?_⟩
  obtain ⟨b, off, rfl, h⟩ := hc hn
  exact ⟨b, off, rfl, fun i x hi => Ext.cell hx (h i x hi)⟩
theorem IntsAt.of_own {w : World} {v : Value} {l : List Int} (h : w.ownsRow 0 3 1 v l.length (l.map iz)) : IntsAt w v l := by
  rcases h.2 with ⟨rfl, hn⟩ | ⟨g, cap, cs, rfl, _, hg, hnc, hcap, hsz, ht⟩
  · exact ⟨none, 0, by rw [hn], fun h => by omega⟩
  · refine ⟨_, cap, rfl, fun _ => ⟨g, 0, rfl, fun i x hi => ?_⟩⟩
    rw [Nat.zero_add]
    exact ownsRow_at h (by rw [List.getElem?_map, hi]; rfl)
theorem IntsAt.slice {w : World} {v : Value} {l : List Int} (h : IntsAt w v l) : ∃ ao cap, v = .slice ao l.length cap := by
  obtain ⟨ao, cap, rfl, _⟩ := h
  exact ⟨ao, cap, rfl⟩
def NdS (n : Nat) : Nd → Prop
  | .leaf _ s => s < n
  | .join _ _ a b => NdS n a ∧ NdS n b
def hgt : Nd → Nat
  | .leaf _ _ => 0
  | .join _ _ a b => max (hgt a) (hgt b) + 1
theorem setD_len : ∀ (x : Nd) (d : Nat) (L : List Int), (setD x d L).length = L.length
  | .leaf _ _, _, _ => by rw [setD, List.length_set]
  | .join _ _ a b, d, L => by rw [setD, setD_len b, setD_len a]
theorem infoInt7 : (Try.prog.info? 3).map (fun i => (i.zero, i.size, i.bytes)) = some (some (.int .i64 0), 1, 8) := by kernel_rfl
set_option maxRecDepth 100000 in
set_option maxHeartbeats 8000000 in
theorem deepen_walk : ∀ (x : Nd) (N : List Nat) (a d q cap : Nat) (L : List Int) (w : World), NdAt w N a x → q ∉ N → w.ownsRow 0 3 1 (.slice (some ⟨q, 0, none⟩) L.length cap) L.length (L.map iz) → NdS L.length x → d + hgt x ≤ 1000000 →
    Calls Try.prog 52 #[ptr a, .slice (some ⟨q, 0, none⟩) L.length cap, .int .i64 d] w fun e w' => e = .returned (.tuple #[]) ∧ Ext [q] w w' ∧ w'.ownsRow 0 3 1 (.slice (some ⟨q, 0, none⟩) L.length cap) L.length ((setD x d L).map iz) := by
  intro x
  induction x with
  | leaf c s =>
    intro N a d q cap L w hN hq hown hs hd
    have hs' : s < L.length := hs
    have hb := hN.2
    have c1 : w.cell? ⟨a, 1, none⟩ = some (.bool false) := cellOf hb 1
    have c2 : w.cell? ⟨a, 2, none⟩ = some (.int .i64 (s : Int)) := cellOf hb 2
    have hcell : w.cell? ⟨q, s, none⟩ = some (iz (L.getD s 0)) := ownsRow_at hown (by rw [List.getElem?_map, List.getD_eq_getElem?_getD, List.getElem?_eq_getElem hs']; rfl)
    have hfree : w.frozen? ⟨q, s, none⟩ = false := ownsRow_free hown s
    have hx : Ext [q] w (w.setCell ⟨q, s, none⟩ (iz d)) := (Ext.refl [q] w).setCell _ _ (.inl (by simp))
    have hb' := hx.keep hb (by simp; rintro rfl; exact hq hN.1)
    have c3 : (w.setCell ⟨q, s, none⟩ (iz d)).cell? ⟨a, 3, none⟩ = some (.slice none 0 0) := cellOf hb' 3
    have hst := ownsRow_store (i := s) hown (iz d)
    rw [← List.map_set] at hst
    have HF := Lib.hid (⟨hx, hst⟩ : _ ∧ _)
    clear hx hst hb' hb hN hown hs
    go_enter Try.func52, Try.ntmps52
    go_wp2_with fail
    go_loopg [25] 0 (fun g iv wr => iv = .int .i64 0 ∧ wr = w.setCell ⟨q, s, none⟩ (iz d))
    case atStart => exact ⟨rfl, rfl⟩
    case round =>
      obtain ⟨rfl, rfl⟩ := hrel
      go_wp2_with fail
      go_end0
      exact ⟨rfl, HF.out.1, HF.out.2⟩
  | join c g x y ihx ihy =>
    intro N a d q cap L w hN hq hown hs hd
    obtain ⟨hs1, hs2⟩ := hs
    obtain ⟨haN, r, ax, ay, hrN, hb, hr, hnx, hny⟩ := hN
    have hd1 : d + 1 + hgt x ≤ 1000000 := by unfold hgt at hd; omega
    have hd2 : d + 1 + hgt y ≤ 1000000 := by unfold hgt at hd; omega
    have c1 : w.cell? ⟨a, 1, none⟩ = some (.bool true) := cellOf hb 1
    have c3 : w.cell? ⟨a, 3, none⟩ = some (.slice (some ⟨r, 0, none⟩) 2 2) := cellOf hb 3
    have hqr : r ∉ [q] := by simp; rintro rfl; exact hq hrN
    have hqN : ∀ k ∈ N, k ∉ [q] := fun k hk h => by simp at h; subst h; exact hq hk
    have HH := Lib.hid (⟨hr, hnx, hny, hown, hs1, hs2⟩ : _ ∧ _ ∧ _ ∧ _ ∧ _ ∧ _)
    have IH := Lib.hid (⟨ihx, ihy⟩ : _ ∧ _)
    clear hb hr hnx hny hown hs1 hs2 ihx ihy hd
    have hd9 : (d : Int) + 1 ≤ 1000000 := by omega
    go_enter Try.func52, Try.ntmps52
    go_wp2_with fail
    clear c1 c3
    go_loopg [25] 2 (fun gg iv wr => ∃ (k : Nat) (M : List Int), gg + k = 2 ∧ iv = .int .i64 k ∧ Ext [q] w wr ∧ M.length = L.length ∧ wr.ownsRow 0 3 1 (.slice (some ⟨q, 0, none⟩) L.length cap) L.length (M.map iz) ∧ ((k = 0 ∧ M = L) ∨ (k = 1 ∧ M = setD x (d + 1) L) ∨ (k = 2 ∧ M = setD y (d + 1) (setD x (d + 1) L))))
    case atStart => exact ⟨0, L, by omega, rfl, Ext.refl _ _, rfl, HH.out.2.2.2.1, .inl ⟨rfl, rfl⟩⟩
    case round =>
      obtain ⟨k, M, hk, rfl, hx, hl, hown, hM⟩ := hrel
      have hr := hx.keep HH.out.1 hqr
      rcases hM with ⟨rfl, rfl⟩ | ⟨rfl, rfl⟩ | ⟨rfl, rfl⟩
      · have r0 : wr.cell? ⟨r, 0, none⟩ = some (ptr ax) := cellOf hr 0
        have hc := IH.out.1 N ax (d + 1) q cap M wr (HH.out.2.1.ext hx hqN) hq hown HH.out.2.2.2.2.1 hd1
        rw [show ((d + 1 : Nat) : Int) = (d : Int) + 1 from by omega] at hc
        have HC := Lib.hid hc
        have HX := Lib.hid hx
        clear hc hx hown hr hl
        go_wp2_with fail
        refine HC.out.mono ?_
        clear r0 HC
        rintro e w2 ⟨rfl, hx2, ho2⟩
        have HX2 := Lib.hid (⟨HX.out.trans hx2, ho2⟩ : _ ∧ _)
        clear hx2 ho2
        go_wp2_with fail
        go_roundg 1
        case measure => omega
        case rel => exact ⟨1, setD x (d + 1) M, by omega, rfl, HX2.out.1, setD_len _ _ _, HX2.out.2, .inr (.inl ⟨rfl, rfl⟩)⟩
      · have r1 : wr.cell? ⟨r, 1, none⟩ = some (ptr ay) := cellOf hr 1
        have hc := IH.out.2 N ay (d + 1) q cap (setD x (d + 1) L) wr (HH.out.2.2.1.ext hx hqN) hq (by rw [setD_len]; exact hown) (by rw [setD_len]; exact HH.out.2.2.2.2.2) hd2
        rw [show ((d + 1 : Nat) : Int) = (d : Int) + 1 from by omega, setD_len] at hc
        have HC := Lib.hid hc
        have HX := Lib.hid hx
        clear hc hx hown hr hl
        go_wp2_with fail
        refine HC.out.mono ?_
        clear r1 HC
        rintro e w2 ⟨rfl, hx2, ho2⟩
        have HX2 := Lib.hid (⟨HX.out.trans hx2, ho2⟩ : _ ∧ _)
        clear hx2 ho2
        go_wp2_with fail
        go_roundg 0
        case measure => omega
        case rel => exact ⟨2, setD y (d + 1) (setD x (d + 1) L), by omega, rfl, HX2.out.1, by rw [setD_len, setD_len], HX2.out.2, .inr (.inr ⟨rfl, rfl⟩)⟩
      · have HX := Lib.hid (⟨hx, hown⟩ : _ ∧ _)
        clear hx hown hr hl
        go_wp2_with fail
        go_end0
        exact ⟨rfl, HX.out.1, HX.out.2⟩
end Go.Proofs.Ytchhgbhbldfofaa.Hu
