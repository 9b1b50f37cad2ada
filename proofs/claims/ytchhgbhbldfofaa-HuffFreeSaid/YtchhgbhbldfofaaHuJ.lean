/-
  huff: slices.Clone, slices.Max at int; Lens walked.
-/
import Derived.Test.YtchhgbhbldfofaaHuI
import Derived.Maps.AppendAt
namespace Go.Proofs.Ytchhgbhbldfofaa.Hu
open Go.RowKit

theorem append_of_nil7 {P : Program} (w : World) (base : Nat) (t ty e : TypeId) (i : TypeInfo) (size : Nat) (ht : P.underlying t = some (.slice e)) (hi : P.info? e = some i)
    (v : Value) (n : Nat) (xs : List Value) (hown : w.ownsRow base e size v n xs) (c : Nat) : (Builtin.append_ #[t, t] ty #[v, .slice none 0 c]).run P w = .ok v w := by
  rcases hown.2 with ⟨rfl, rfl⟩ | ⟨g, cap, cur, rfl, _, _, hnc, _⟩
  · simp [Builtin.append_, run_underlying ht, sizeOf, typeInfo, hi, Builtin.lenOf, Builtin.firstCells]
  · simp [Builtin.append_, run_underlying ht, sizeOf, typeInfo, hi, Builtin.lenOf, Builtin.firstCells, hnc, storeCells]
theorem IntsAt.cells {w : World} {a : Addr} {n cap : Nat} {l : List Int} (h : IntsAt w (.slice (some a) n cap) l) (j : Nat) (u : Value) (hu : (l.map iz)[j]? = some u) : w.cell? (a.add j) = some u := by
  have hj : j < l.length := by have := (List.getElem?_eq_some_iff.1 hu).1; simpa using this
  obtain ⟨ao, cap', he, hc⟩ := h
  obtain ⟨b, off, rfl, hcell⟩ := hc (by omega)
  injection he with h1 h2 h3
  injection h1 with h1
  subst h1
  have ad : (⟨b, off, none⟩ : Addr).add j = ⟨b, off + j, none⟩ := by unfold Addr.add; split <;> simp_all
  rw [List.getElem?_map] at hu
  cases hx : l[j]? with
  | none => rw [hx] at hu; cases hu
  | some x =>
    rw [hx] at hu
    rw [ad, hcell j x hx, ← hu]
    rfl
/-- an own copy: append([]int{}, l...) in a world where an empty row has been made -/
theorem copy_ints (w : World) (ao : Option Addr) (cap : Nat) (l : List Int) (h : IntsAt w (.slice ao l.length cap) l) (hl : l.length ≤ 1048576) (hcap : ao = none → cap = 0) (hn0 : ao = none → l.length = 0) :
    ∃ v' w', (∀ ty, (Builtin.append_ #[22, 22] ty #[.slice (some ⟨w.heap.size, 0, none⟩) 0 0, .slice ao l.length cap]).run Try.prog (w.alloc (.cells #[] 3)) = .ok v' w') ∧ Ext [] w w' ∧ (oSl 3 1 v' l.length (l.map iz)).P w' ∧ ∀ k ∈ v'.ownBlock.toList, w.heap.size ≤ k := by
  obtain ⟨i0, hif, hz0, hz1, hz2⟩ := info_parts infoInt7
  have hxW : Ext [] w (w.alloc (.cells #[] 3)) := (Ext.refl _ w).alloc _
  have hE : (w.alloc (.cells #[] 3)).ownsRow 0 3 1 (.slice (some ⟨w.heap.size, 0, none⟩) 0 0) 0 [] :=
    ⟨rfl, .inr ⟨w.heap.size, 0, #[], rfl, Nat.zero_le _, heap_alloc_at _, Nat.le_refl _, by unfold maxLen; omega, rfl, rfl⟩⟩
  cases ao with
  | none =>
    obtain rfl : cap = 0 := hcap rfl
    have h0 : l = [] := List.eq_nil_of_length_eq_zero (hn0 rfl)
    subst h0
    exact ⟨_, _, fun ty => append_of_nil7 _ 0 22 ty 3 i0 1 Try.underlying22 hif _ 0 [] hE 0, hxW, hE, by simp [Value.ownBlock]⟩
  | some a =>
    have hcells : ∀ j u, (l.map iz)[j]? = some u → (w.alloc (.cells #[] 3)).cell? (a.add j) = some u := fun j u hu => Ext.cell hxW (h.cells j u hu)
    have h1 : ∀ u ∈ l.map iz, u.oneCell' = true := fun u hu => by
      obtain ⟨x, _, rfl⟩ := List.mem_map.1 hu
      rfl
    obtain ⟨v', w', hr, hown, hgr, _, hat⟩ := run_append_own_at (P := Try.prog) (w.alloc (.cells #[] 3)) 0 22 0 3 i0 _ 1 8 Try.underlying22 hif hz0 hz1 hz2 rfl (by decide) _ 0 [] hE a l.length cap (l.map iz) (by simp) hcells h1 (by unfold maxLen; omega) (by omega) (Nat.zero_le _)
    rw [Nat.zero_add] at hown
    refine ⟨v', w', fun ty => hr, hxW.trans' (T := [w.heap.size]) ((Ext.refl _ _).grown hgr (fun k hk => .inl (by simpa [Value.ownBlock] using hk.symm))) (fun i hi h => by simp at h; omega), hown, fun k hk => ?_⟩
    have hk : v'.ownBlock = some k := by simpa using hk
    rcases hat with e | e
    · rw [e] at hk; simp [Value.ownBlock] at hk; omega
    · rw [e] at hk; simp at hk; omega
/-- the argument []int -/
def IntsArg (w : World) (v : Value) (l : List Int) : Prop := IntsAt w v l ∧ ∃ ao cap, v = .slice ao l.length cap ∧ l.length ≤ cap ∧ cap ≤ maxLen ∧ (ao = none → cap = 0)
theorem IntsArg.ext {w w' : World} {v : Value} {l : List Int} (h : IntsArg w v l) (hx : Ext [] w w') : IntsArg w' v l := ⟨h.1.ext hx, h.2⟩
theorem IntsArg.of_own {w : World} {v : Value} {l : List Int} (h : w.ownsRow 0 3 1 v l.length (l.map iz)) : IntsArg w v l := by
  refine ⟨IntsAt.of_own h, ?_⟩
  rcases h.2 with ⟨rfl, hn⟩ | ⟨g, cap, cs, rfl, _, hg, hnc, hcap, hsz, ht⟩
  · exact ⟨none, 0, by rw [hn], by omega, by unfold maxLen; omega, fun _ => rfl⟩
  · exact ⟨_, cap, rfl, hnc, hcap, fun h => by cases h⟩
def NewInts (w : World) (l : List Int) (e : Ending) (w' : World) : Prop := ∃ v', e = .returned v' ∧ Ext [] w w' ∧ (oSl 3 1 v' l.length (l.map iz)).P w' ∧ ∀ k ∈ v'.ownBlock.toList, w.heap.size ≤ k
set_option maxRecDepth 100000 in
set_option maxHeartbeats 8000000 in
theorem clone_walk (v : Value) (l : List Int) (w : World) (hv : IntsArg w v l) (hl : l.length ≤ 1048576) :
    Calls Try.prog 39 #[v] w (NewInts w l) := by
  obtain ⟨hA, ao, cap, rfl, hcap, hcm, hnil⟩ := hv
  obtain ⟨v', w', hr, hx, hp, hn⟩ := copy_ints w ao cap l hA hl hnil (fun h => by have := hnil h; omega)
  have HXP := Lib.hid (⟨hx, hp, hn⟩ : _ ∧ _ ∧ _)
  cases ao with
  | none =>
    obtain rfl : cap = 0 := hnil rfl
    have h0 : l = [] := List.eq_nil_of_length_eq_zero (by omega)
    subst h0
    have hq := fun w1 => Lib.run_eql_slice_nil (P := Try.prog) w1 22 3 none 0 0 0 0 Try.underlying22
    clear hr hx hp hn HXP
    go_enter Try.func39, Try.ntmps39
    go_wp2_with fail
    go_ret
    exact ⟨_, rfl, Ext.refl _ _, World.ownsRow_nil _ _ _ _, by simp [Value.ownBlock]⟩
  | some a =>
    have hq := fun w1 => Lib.run_eql_slice_nil (P := Try.prog) w1 22 3 (some a) l.length cap 0 0 Try.underlying22
    clear hx hp hn hA
    go_enter Try.func39, Try.ntmps39
    go_wp2_with (at_builtin; refine wpList_plain rfl (fun K hK => wp_append_run _ _ _ _ rfl rfl rfl (hr _) (hK _ _ ?_)))
    go_ret
    exact ⟨_, rfl, HXP.out.1, HXP.out.2.1, HXP.out.2.2⟩
def maxL : List Int → Int
  | [] => 0
  | x :: l => l.foldl max x
set_option maxRecDepth 100000 in
set_option maxHeartbeats 8000000 in
theorem max_walk (v : Value) (l : List Int) (w : World) (hv : IntsAt w v l) (h0 : 0 < l.length) (hl : l.length ≤ 1048576) :
    Calls Try.prog 41 #[v] w fun e w' => e = .returned (.int .i64 (maxL l)) ∧ w = w' := by
  obtain ⟨ao, cap, rfl, hc⟩ := hv
  obtain ⟨b, off, rfl, hcell⟩ := hc h0
  obtain ⟨x, r, rfl⟩ : ∃ x r, l = x :: r := by
    cases l with
    | nil => simp at h0
    | cons x r => exact ⟨x, r, rfl⟩
  have c0 := hcell 0 x rfl
  rw [Nat.add_zero] at c0
  obtain ⟨R, hR⟩ : ∃ R, maxL (x :: r) = R := ⟨_, rfl⟩
  rw [hR]
  have HR := Lib.hid hR
  have HC := Lib.hid hcell
  obtain ⟨n, hn⟩ : ∃ n, (x :: r).length = n := ⟨_, rfl⟩
  have hrn : r.length + 1 = n := by simpa using hn
  have HN := Lib.hid hrn
  rw [hn] at hl h0 ⊢
  have hn1 : (1 : Int) ≤ (n : Int) := by omega
  clear hc hR hcell hn hrn
  go_enter Try.func41, Try.ntmps41
  go_wp2_with fail
  clear c0
  go_loopg [3, 4] (n - 1) (fun g mv iv wr => ∃ (k : Nat) (m : Int), g + k = n ∧ 1 ≤ k ∧ iv = .int .i64 k ∧ mv = .int .i64 m ∧ (r.drop (k - 1)).foldl max m = R ∧ w = wr)
  case atStart => exact ⟨1, x, by omega, by omega, rfl, rfl, HR.out, rfl⟩
  case round =>
    clear HR
    obtain ⟨k, m, hk, hk1, rfl, rfl, hR, rfl⟩ := hrel
    by_cases hlt : k < n
    · obtain ⟨j, rfl⟩ : ∃ j, k = j + 1 := ⟨k - 1, by omega⟩
      have hj : j < r.length := by have := HN.out; omega
      obtain ⟨y, hy⟩ : ∃ y, r[j]? = some y := ⟨_, List.getElem?_eq_getElem hj⟩
      have c1 := HC.out (j + 1) y (by simpa using hy)
      obtain ⟨h1, h2⟩ := List.getElem?_eq_some_iff.1 hy
      rw [Nat.add_sub_cancel, List.drop_eq_getElem_cons h1, h2, List.foldl_cons] at hR
      have HR := Lib.hid hR
      obtain ⟨i, hi⟩ : ∃ i, j + 1 = i := ⟨_, rfl⟩
      have HI := Lib.hid hi
      rw [hi] at c1 hlt hk ⊢
      clear hR hy hi h1 h2 hj hk1
      go_wp2_with fail
      all_goals
        go_roundg (n - (i + 1))
        case measure => omega
        case rel => exact ⟨i + 1, max m y, by omega, by omega, by go_num, by (first | rw [Int.max_eq_left (by omega)] | rw [Int.max_eq_right (by omega)]), by rw [Nat.add_sub_cancel, ← HI.out]; exact HR.out, rfl⟩
    · obtain rfl : k = n := by omega
      have hd : r.drop (k - 1) = [] := by rw [List.drop_eq_nil_iff]; have := HN.out; omega
      rw [hd] at hR
      have hR : m = R := hR
      subst hR
      go_wp2_with fail
      go_ret
      exact ⟨rfl, rfl⟩
end Go.Proofs.Ytchhgbhbldfofaa.Hu
