/-
  match.Check, match.Size walked, over pieces that lie in memory.
-/
import Derived.Test.YtngfhnpelchplaaMtH
namespace Go.Proofs.Ytngfhnpelchplaa.Mt
open Go.RowKit

/-- the value v is a slice of the pieces l in the world w -/
def PcAt (w : World) (v : Value) (l : List Pc) : Prop :=
  ∃ ao cap, v = .slice ao l.length cap ∧ (0 < l.length → ∃ b off, ao = some ⟨b, off, none⟩ ∧ ∀ i x, l[i]? = some x → w.cell? ⟨b, off + i * 3, none⟩ = some (u8v x.1) ∧ w.cell? ⟨b, off + i * 3 + 1, none⟩ = some (.int .i64 x.2.1) ∧ w.cell? ⟨b, off + i * 3 + 2, none⟩ = some (.int .i64 x.2.2))
theorem PcAt.ext {w w' : World} {v : Value} {l : List Pc} (h : PcAt w v l) (hx : Ext [] w w') : PcAt w' v l := by
  obtain ⟨ao, cap, rfl, hc⟩ := h
  refine ⟨ao, cap, rfl, fun hn => ?_⟩
  obtain ⟨b, off, rfl, h⟩ := hc hn
  exact ⟨b, off, rfl, fun i x hi => ⟨Ext.cell hx (h i x hi).1, Ext.cell hx (h i x hi).2.1, Ext.cell hx (h i x hi).2.2⟩⟩
theorem pcC_at (l : List Pc) : ∀ (i : Nat) (x : Pc), l[i]? = some x → (pcC l)[i * 3]? = some (u8v x.1) ∧ (pcC l)[i * 3 + 1]? = some (.int .i64 x.2.1) ∧ (pcC l)[i * 3 + 2]? = some (.int .i64 x.2.2) := by
  induction l with
  | nil => intro i x h; simp at h
  | cons a l ih =>
    intro i x h
    have e : pcC (a :: l) = u8v a.1 :: .int .i64 a.2.1 :: .int .i64 a.2.2 :: pcC l := by simp [pcC]
    rw [e]
    cases i with
    | zero => simp at h; subst h; simp
    | succ i =>
      have := ih i x (by simpa using h)
      rw [show (i + 1) * 3 = i * 3 + 3 by omega]
      exact this
theorem PcAt.of_own {w : World} {v : Value} {l : List Pc} (h : w.ownsRow 0 34 3 v l.length (pcC l)) : PcAt w v l := by
  rcases h.2 with ⟨rfl, hn⟩ | ⟨g, cap, cs, rfl, _, hg, hnc, hcap, hsz, ht⟩
  · refine ⟨none, 0, by rw [hn], fun h => by omega⟩
  · refine ⟨_, cap, rfl, fun _ => ⟨g, 0, rfl, fun i x hi => ?_⟩⟩
    have hl : i < l.length := (List.getElem?_eq_some_iff.1 hi).1
    obtain ⟨h0, h1, h2⟩ := pcC_at l i x hi
    have at_ : ∀ j, j < l.length * 3 → cs[j]? = (pcC l)[j]? := fun j hj => by
      rw [← ht, List.getElem?_take, if_pos hj, Array.getElem?_toList]
    refine ⟨?_, ?_, ?_⟩
    · rw [cellOf hg, Nat.zero_add, at_ _ (by omega), h0]
    · rw [cellOf hg, Nat.zero_add, at_ _ (by omega), h1]
    · rw [cellOf hg, Nat.zero_add, at_ _ (by omega), h2]
/-! ### plain -/
def mayP (p : Pc) : Bool := mayB p.1 p.2.1 p.2.2
theorem mayP_iff (p : Pc) (h : mayP p = true) : (p.2.1 = 0 ∧ p.2.2 = 0) ∨ (p.1 = 0 ∧ 3 ≤ p.2.1 ∧ p.2.1 ≤ 258 ∧ 1 ≤ p.2.2 ∧ p.2.2 ≤ 32768) := by
  unfold mayP mayB at h
  split at h
  · exact .inl ⟨by assumption, by simpa using h⟩
  · exact .inr (by simpa using h)
/-- where the first piece stands that may not be, or -1 -/
def idxF : List Pc → Nat → Int
  | [], _ => -1
  | p :: l, k => if mayP p then idxF l (k + 1) else k
theorem idxF_any (l : List Pc) : ∀ k, decide (0 ≤ idxF l k) = l.any (fun p => !mayP p) := by
  induction l with
  | nil => intro k; rfl
  | cons p l ih =>
    intro k
    rw [idxF, List.any_cons]
    cases h : mayP p
    · simp
    · rw [if_pos rfl, ih]; simp
def chkL : List Pc → Int → Int
  | [], _ => 0
  | p :: l, n => if n < p.2.2 then 4 else chkL l (n + max 1 p.2.1)
def badN (l : List Pc) : Bool := l.any fun p => !mayP p
def chkN (l : List Pc) : Int := if badN l then 2 else chkL l 0
def sumL : List Pc → Int → Int
  | [], n => n
  | p :: l, n => sumL l (n + max 1 p.2.1)
def sizN (l : List Pc) : Int := if chkN l = 0 then sumL l 0 else 0
theorem drop_at {α : Type} {l : List α} {k : Nat} {x : α} (h : l[k]? = some x) : l.drop k = x :: l.drop (k + 1) := by
  obtain ⟨h1, h2⟩ := List.getElem?_eq_some_iff.1 h
  rw [List.drop_eq_getElem_cons h1, h2]
/-! ### the walks -/
set_option maxRecDepth 100000 in
set_option maxHeartbeats 8000000 in
theorem IndexFunc_walk (v : Value) (l : List Pc) (w : World) (hv : PcAt w v l) (hl : l.length ≤ 1048576) :
    Calls Try.prog 34 #[v, .func (.func 29) #[] #[]] w fun e w' => e = .returned (.int .i64 (idxF l 0)) ∧ Ext [] w w' := by
  obtain ⟨ao, cap, rfl, hc⟩ := hv
  obtain ⟨R, hR⟩ : ∃ R, idxF l 0 = R := ⟨_, rfl⟩
  rw [hR]
  have HC := Lib.hid hc
  have HR := Lib.hid hR
  clear hc hR
  go_enter Try.func34, Try.ntmps34
  go_wp2_with fail
  go_loopg [5, 8] l.length (fun g _ iv wr => ∃ k : Nat, g + k = l.length ∧ iv = .int .i64 k ∧ idxF (l.drop k) k = R ∧ Ext [] w wr)
  case atStart => exact ⟨0, by omega, rfl, HR.out, Ext.refl _ _⟩
  case round =>
    clear HR
    obtain ⟨k, hk, rfl, hR, hx⟩ := hrel
    have HX := Lib.hid hx
    clear hx
    by_cases hlt : k < l.length
    · obtain ⟨b, off, rfl, hcell⟩ := HC.out (by omega)
      obtain ⟨x, hxk⟩ : ∃ x, l[k]? = some x := ⟨_, List.getElem?_eq_getElem hlt⟩
      obtain ⟨c0, c1, c2⟩ := hcell k x hxk
      have d0 := Ext.cell HX.out c0
      have d1 := Ext.cell HX.out c1
      have d2 := Ext.cell HX.out c2
      rw [drop_at hxk, idxF] at hR
      have HR := Lib.hid hR
      clear hcell c0 c1 c2 hR hxk
      have HN := Lib.hid (not_may x.1 x.2.1 x.2.2 wr)
      change Hid (Calls Try.prog 29 #[pcV x.1 x.2.1 x.2.2] wr fun e w' => e = .returned (.bool (!mayP x)) ∧ Ext [] wr w') at HN
      unfold pcV at HN
      go_wp2_with fail
      refine HN.out.mono ?_
      clear HN d0 d1 d2
      rintro e w1 ⟨rfl, hx1⟩
      have HX1 := Lib.hid (HX.out.trans hx1)
      clear hx1
      cases hm : mayP x
      · have hR := HR.out
        rw [hm] at hR
        have HR := Lib.hid hR
        clear hm hR
        go_wp2_with fail
        go_ret
        exact ⟨by rw [← HR.out]; rfl, HX1.out⟩
      · have hR := HR.out
        rw [hm, if_pos rfl] at hR
        have HR := Lib.hid hR
        clear hm hR
        go_wp2_with fail
        go_roundg (l.length - (k + 1))
        case measure => omega
        case rel => exact ⟨k + 1, by omega, by go_num, HR.out, HX1.out⟩
    · obtain rfl : k = l.length := by omega
      rw [List.drop_length] at hR
      have HR := Lib.hid hR
      clear hR
      go_wp2_with fail
      go_ret
      exact ⟨by rw [← HR.out]; rfl, HX.out⟩
set_option maxHeartbeats 4000000 in
theorem ContainsFunc_walk (v : Value) (l : List Pc) (w : World) (hv : PcAt w v l) (hl : l.length ≤ 1048576) :
    Calls Try.prog 28 #[v, .func (.func 29) #[] #[]] w fun e w' => e = .returned (.bool (badN l)) ∧ Ext [] w w' := by
  have HI := Lib.hid (IndexFunc_walk v l w hv hl)
  have HA := Lib.hid (idxF_any l 0)
  clear hv
  generalize idxF l 0 = r at *
  go_enter Try.func28, Try.ntmps28
  go_wp2_with fail
  refine HI.out.mono ?_
  rintro e w1 ⟨rfl, hx1⟩
  have HX1 := Lib.hid hx1
  clear hx1
  go_wp2_with fail
  go_ret
  exact ⟨by rw [show badN l = decide (0 ≤ r) from HA.out.symm]; rfl, HX1.out⟩
set_option maxRecDepth 100000 in
set_option maxHeartbeats 8000000 in
theorem Check_walk (v : Value) (l : List Pc) (w : World) (hv : PcAt w v l) (hl : l.length ≤ 1048576) :
    Calls Try.prog 12 #[v] w fun e w' => e = .returned (.int .i64 (chkN l)) ∧ Ext [] w w' := by
  have HI := Lib.hid (ContainsFunc_walk v l w hv hl)
  obtain ⟨ao, cap, rfl, hc⟩ := hv
  have HC := Lib.hid hc
  clear hc
  cases hb : badN l
  · obtain ⟨R, hR⟩ : ∃ R, chkL l 0 = R := ⟨_, rfl⟩
    have e : chkN l = R := by unfold chkN; rw [hb]; exact hR
    rw [e]
    have HB := Lib.hid hb
    have HR := Lib.hid hR
    rw [hb] at HI
    clear hb hR e
    go_enter Try.func12, Try.ntmps12
    go_wp2_with fail
    refine HI.out.mono ?_
    rintro e w1 ⟨rfl, hx1⟩
    have HX1 := Lib.hid hx1
    clear hx1
    go_wp2_with fail
    go_loopg [3, 10] l.length (fun g nv iv wr => ∃ (k : Nat) (n : Int), g + k = l.length ∧ iv = .int .i64 k ∧ nv = .int .i64 n ∧ 0 ≤ n ∧ n ≤ 258 * k ∧ chkL (l.drop k) n = R ∧ Ext [] w wr)
    case atStart => exact ⟨0, 0, by omega, rfl, rfl, by omega, by omega, HR.out, HX1.out⟩
    case round =>
      clear HR HX1
      obtain ⟨k, n, hk, rfl, rfl, hn0, hn1, hR, hx⟩ := hrel
      have HX := Lib.hid hx
      clear hx
      by_cases hlt : k < l.length
      · obtain ⟨b, off, rfl, hcell⟩ := HC.out (by omega)
        obtain ⟨x, hxk⟩ : ∃ x, l[k]? = some x := ⟨_, List.getElem?_eq_getElem hlt⟩
        obtain ⟨c0, c1, c2⟩ := hcell k x hxk
        have d0 := Ext.cell HX.out c0
        have d1 := Ext.cell HX.out c1
        have d2 := Ext.cell HX.out c2
        have hm : mayP x = true := by
          have h := HB.out
          unfold badN at h
          rw [List.any_eq_false] at h
          simpa using h x (List.mem_of_getElem? hxk)
        have hm := mayP_iff x hm
        rw [drop_at hxk, chkL] at hR
        obtain ⟨xb, xl, xd⟩ := x
        simp only at d0 d1 d2 hm hR
        clear hcell c0 c1 c2 hxk
        by_cases hd : n < xd
        · rw [if_pos hd] at hR
          subst hR
          clear hm
          go_wp2_with fail
          go_ret
          exact ⟨rfl, HX.out.alloc _⟩
        · rw [if_neg hd] at hR
          have hd' : xd ≤ n := by omega
          rcases hm with ⟨rfl, _⟩ | ⟨_, hl3, hl4, _⟩
          · have HR := Lib.hid hR
            clear hR hd
            go_wp2_with fail
            go_roundg (l.length - (k + 1))
            case measure => omega
            case rel => exact ⟨k + 1, n + 1, by omega, by go_num, rfl, by omega, by omega, HR.out, HX.out.alloc _⟩
          · rw [Int.max_eq_right (by omega : (1 : Int) ≤ xl)] at hR
            have HR := Lib.hid hR
            have hl1 : 1 ≤ xl := by omega
            clear hR hd
            go_wp2_with fail
            go_roundg (l.length - (k + 1))
            case measure => omega
            case rel => exact ⟨k + 1, n + xl, by omega, by go_num, rfl, by omega, by omega, HR.out, HX.out.alloc _⟩
      · obtain rfl : k = l.length := by omega
        rw [List.drop_length] at hR
        have HR := Lib.hid hR
        clear hR
        go_wp2_with fail
        go_ret
        exact ⟨by rw [← HR.out]; rfl, HX.out⟩
  · have e : chkN l = 2 := by unfold chkN; rw [hb]; rfl
    rw [e]
    rw [hb] at HI
    clear hb e
    go_enter Try.func12, Try.ntmps12
    go_wp2_with fail
    refine HI.out.mono ?_
    rintro e w1 ⟨rfl, hx1⟩
    have HX1 := Lib.hid hx1
    clear hx1
    go_wp2_with fail
    go_ret
    exact ⟨rfl, HX1.out⟩
end Go.Proofs.Ytngfhnpelchplaa.Mt
