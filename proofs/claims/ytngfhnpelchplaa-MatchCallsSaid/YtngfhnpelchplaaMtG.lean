/-
  match.Find walked.
-/
import Derived.Test.YtngfhnpelchplaaMtF
namespace Go.Proofs.Ytngfhnpelchplaa.Mt
open Go.RowKit Go.Maps

/-- find, of whatever place -/
theorem find_walk (fb mb p : Nat) (F : List Nat) (s : ByteArray) (w : World) (hP : (oFi fb mb F s p).P w) (hs : s.size ≤ 1048576) (hp : p ≤ s.size) :
    Calls Try.prog 26 #[.pointer (some ⟨fb, 0, none⟩), .int .i64 p] w fun e w' => e = .returned (.tuple #[.int .i64 ((findN s p).1 : Nat), .int .i64 ((findN s p).2 : Nat)]) ∧ Ext [] w w' := by
  by_cases h3 : p + 3 ≤ s.size
  · exact find_yes fb mb p F s w hP hs h3
  · have h := find_no fb mb p F s w hP hs hp (by omega)
    have e : findN s p = (0, 0) := by unfold findN; rw [if_neg h3]
    rw [e]
    exact h
/-- what Find tells -/
def findI (s : ByteArray) (i : Int) : Nat × Nat := if 0 ≤ i ∧ i < s.size then findN s i.toNat else (0, 0)
set_option maxRecDepth 100000 in
set_option maxHeartbeats 8000000 in
theorem Find_walk (s : ByteArray) (i : Int) (w : World) (hs : s.size ≤ 1048576) :
    Calls Try.prog 17 #[.string s, .int .i64 i] w fun e w' => e = .returned (.tuple #[.int .i64 ((findI s i).1 : Nat), .int .i64 ((findI s i).2 : Nat)]) ∧ Ext [] w w' := by
  have hmm := @run_makeMap Try.prog
  by_cases h0 : i < 0
  · have e : findI s i = (0, 0) := by unfold findI; rw [if_neg (by omega)]
    rw [e]
    clear e
    go_enter Try.func17, Try.ntmps17
    go_wp2_with fail
    exact bodyPost_ret (results_tmp2 rfl _ _ _) rfl ⟨rfl, Ext.refl _ _⟩
  · by_cases h1 : i < s.size
    · obtain ⟨p, rfl⟩ : ∃ p : Nat, i = (p : Int) := ⟨i.toNat, by omega⟩
      have e : findI s p = findN s p := by unfold findI; rw [if_pos (by omega)]; rfl
      rw [e]
      have hp : p < s.size := by omega
      obtain ⟨R, hR⟩ : ∃ R, findN s p = R := ⟨_, rfl⟩
      rw [hR]
      have HR := Lib.hid hR
      have h2 : (p : Int) < (s.size : Int) := h1
      have h3 : (0 : Int) ≤ (p : Int) := by omega
      clear e h0 h1 hR
      go_enter Try.func17, Try.ntmps17
      go_wp2_with fail
      have hx2 : Ext [] w ((w.alloc (.map #[] 0)).alloc (finder s w.heap.size 0)) := ((Ext.refl _ w).alloc _).alloc _
      have hfb := heap_alloc_at (w := w.alloc (.map #[] 0)) (finder s w.heap.size 0)
      rw [show (w.alloc (.map #[] 0)).heap.size = w.heap.size + 1 from by simp] at hfb
      have hP0 : (oFi (w.heap.size + 1) w.heap.size [] s 0).P ((w.alloc (.map #[] 0)).alloc (finder s w.heap.size 0)) := ⟨hfb, (oPl w.heap.size [] s 0).ok (oPl_new w s) ((Ext.refl [] _).alloc _) (by simp), by omega, by simp⟩
      refine (know_walk (w.heap.size + 1) w.heap.size 0 p [] s _ hP0 hs (Nat.zero_le _) (by omega)).mono ?_
      rintro e w3 ⟨rfl, F', hx3, _, hP3⟩
      have hxw := hx2.trans' hx3 (fun k hk hkF => by simp at hkF; omega)
      have HX := Lib.hid (⟨hxw, hP3⟩ : _ ∧ _)
      clear hx2 hfb hP0 hx3 hP3 hxw
      go_wp2_with fail
      refine (find_walk (w.heap.size + 1) w.heap.size p F' s w3 HX.out.2 hs (by omega)).mono ?_
      rintro e w4 ⟨rfl, hx4⟩
      rw [HR.out]
      go_wp2_with fail
      exact bodyPost_ret (results_tmp2 rfl _ _ _) rfl ⟨rfl, HX.out.1.trans hx4⟩
    · have e : findI s i = (0, 0) := by unfold findI; rw [if_neg (by omega)]
      rw [e]
      have h2 : (s.size : Int) ≤ i := by omega
      have h3 : (0 : Int) ≤ i := by omega
      clear e h0 h1
      go_enter Try.func17, Try.ntmps17
      go_wp2_with fail
      exact bodyPost_ret (results_tmp2 rfl _ _ _) rfl ⟨rfl, Ext.refl _ _⟩
end Go.Proofs.Ytngfhnpelchplaa.Mt
