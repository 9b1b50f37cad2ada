/-
  tree: LightTree walked.
-/
import Derived.Test.YtkjcjklnclahdaaDoorTrA
namespace Go.Proofs.YtkjcjklnclahdaaDoor.Tr
open Go.RowKit

def lightL (l : List Nd) (most : Int) : Bool := l.all (fun x => decide ((x.kids.length : Int) ≤ most ∧ x.s.size ≤ 2000)) && decide ((l.length : Int) ≤ most)
theorem drop_at {α : Type} (l : List α) (k : Nat) (h : k < l.length) : l.drop k = l[k]'h :: l.drop (k + 1) := List.drop_eq_getElem_cons h
set_option maxRecDepth 100000 in
set_option maxHeartbeats 2000000 in
theorem light_walk (v : Value) (l : List Nd) (most : Int) (w : World) (h : NodesAt w v l) (hl : l.length ≤ 9223372036854775807) :
    Calls Tryd.prog 18 #[v, .int .i64 most] w fun e w' => e = .returned (.bool (lightL l most)) ∧ w = w' := by
  obtain ⟨base, cap, rfl, -, hN⟩ := h
  obtain ⟨R, hR⟩ : ∃ R, lightL l most = R := ⟨_, rfl⟩
  rw [hR]
  have HR := Lib.hid hR
  have HN := Lib.hid hN
  clear hR hN
  go_enter Tryd.func18, Tryd.ntmps18
  go_wp2_with fail
  go_loopg [5] l.length (fun g iv wr => ∃ k : Nat, g + k = l.length ∧ iv = .int .i64 k ∧ ((l.drop k).all (fun x => decide ((x.kids.length : Int) ≤ most ∧ x.s.size ≤ 2000)) && decide ((l.length : Int) ≤ most)) = R ∧ wr = w)
  case atStart => exact ⟨0, by omega, rfl, HR.out, rfl⟩
  case round =>
    obtain ⟨k, hgk, rfl, hd, rfl⟩ := hrel
    by_cases hlt : k < l.length
    · obtain ⟨g, rfl⟩ : ∃ g, gk = g + 1 := ⟨gk - 1, by omega⟩
      have hltz : (k : Int) < (l.length : Int) := by omega
      rw [drop_at l k hlt, List.all_cons] at hd
      obtain ⟨b, o, rfl, n1, n2, n3, n4, nw, bk, ck, n5, n6⟩ := HN.out k hlt
      generalize l[k]'hlt = x at *
      clear n1 n2 n3 nw n6
      by_cases q1 : most < (x.kids.length : Int)
      · rw [decide_eq_false (by omega), Bool.false_and, Bool.false_and] at hd
        subst hd
        clear HR
        go_wp2_with fail
        go_ret
        exact ⟨rfl, rfl⟩
      · by_cases q2 : 2000 < x.s.size
        · rw [decide_eq_false (by omega), Bool.false_and, Bool.false_and] at hd
          subst hd
          clear HR
          have q2z : (2000 : Int) < (x.s.size : Int) := by omega
          go_wp2_with fail
          go_ret
          exact ⟨rfl, rfl⟩
        · rw [decide_eq_true (by omega), Bool.true_and] at hd
          have HD := Lib.hid hd
          have q2z : ¬ (2000 : Int) < (x.s.size : Int) := by omega
          clear hd
          go_wp2_with fail
          go_roundg g
          case measure => omega
          case rel => exact ⟨k + 1, by omega, by go_num, HD.out, rfl⟩
    · obtain rfl : k = l.length := by omega
      rw [List.drop_length, List.all_nil, Bool.true_and] at hd
      subst hd
      clear HR
      go_wp2_with fail
      go_ret
      exact ⟨rfl, rfl⟩
end Go.Proofs.YtkjcjklnclahdaaDoor.Tr
