/-
  slices.Chunk over whole rows: the iterator walked.
-/
import Derived.Test.YtoiegmdlbcbgoaaPrF
import Derived.Test.YtoiegmdlbcbgoaaRnd
import Derived.TacticsInMore
import Derived.LoopIn
import Derived.Sort.LoopGhostIn
import Derived.BigFrameIn
import Derived.BigGuardIn
namespace Go.Proofs.Ytoiegmdlbcbgoaa.Pr
open Go.RowKit

def bxS (v : Value) : Obj := .cells #[v] 42 (0, 0)
def bxI (n : Nat) : Obj := .cells #[.int .i64 n] 3 (0, 0)
set_option maxHeartbeats 4000000 in
theorem chunk_walk (blk N cap n : Nat) (w : World) (hn : 1 ≤ n) :
    Calls Try.prog 18 #[.slice (some ⟨blk, 0, none⟩) N cap, .int .i64 n] w fun e w' => e = .returned (.func (.func 25) #[] #[.pointer (some ⟨w.heap.size, 0, none⟩), .pointer (some ⟨w.heap.size + 1, 0, none⟩)]) ∧ w' = (w.alloc (bxS (.slice (some ⟨blk, 0, none⟩) N cap))).alloc (bxI n) := by
  go_enter Try.func18, Try.ntmps18
  go_wp2_with fail
  go_ret
  exact ⟨rfl, rfl⟩
theorem range_split {j rows : Nat} (h : j < rows) : ∃ post, List.range rows = List.range j ++ j :: post := by
  refine ⟨(List.range rows).drop (j + 1), ?_⟩
  have h1 := List.take_append_drop j (List.range rows)
  rw [List.take_range, Nat.min_eq_left (by omega), List.drop_eq_getElem_cons (by simpa using h)] at h1
  simpa using h1.symm
/-- the j-th row -/
def rowS (blk n j : Nat) : Value := .slice (some ⟨blk, j * n, none⟩) n n
def encR (blk n : Nat) (j : Nat) : Array Value := #[rowS blk n j]
set_option maxRecDepth 100000 in
set_option maxHeartbeats 8000000 in
theorem chunk_iter (blk n rows N cap b1 b2 : Nat) (hn : 1 ≤ n) (hN : rows * n = N) (hn2 : n ≤ 1048576) (hcap : N ≤ cap) (hcap2 : cap ≤ maxLen) :
    SeqX Try.prog 25 #[.pointer (some ⟨b1, 0, none⟩), .pointer (some ⟨b2, 0, none⟩)] (encR blk n) (List.range rows) [] [b1, b2] (fun W => W.heap[b1]? = some (bxS (.slice (some ⟨blk, 0, none⟩) N cap)) ∧ W.heap[b2]? = some (bxI n)) := by
  unfold maxLen at hcap2
  intro l J Jx W hb hJ hJx hY h0
  obtain ⟨hb1, hb2⟩ := hb
  have H0 := Lib.hid h0
  have HY := Lib.hid hY
  have HJ := Lib.hid hJ
  have HN := Lib.hid hN
  have HB := Lib.hid (⟨hb1, hb2⟩ : _ ∧ _)
  clear h0 hY hJ hJx hN hb1 hb2
  refine callsIn_of_wp Try.func25 rfl trivial ?_
  simp only [Try.ntmps25, List.size_toArray, List.length_cons, List.length_nil, Nat.reduceAdd, Nat.reduceSub, Array.replicate_succ, Array.replicate_zero, List.push_toArray, List.append_toArray, List.nil_append, List.cons_append]
  gi_wp2_with fail
  gi_loopg [4, 5] rows (fun g iv _ wr => ∃ (j a : Nat), g + j = rows ∧ a = j * n ∧ iv = .int .i64 a ∧ wr.heap[b1]? = some (bxS (.slice (some ⟨blk, 0, none⟩) N cap)) ∧ wr.heap[b2]? = some (bxI n) ∧ J (List.range j) wr)
  case atStart => exact ⟨0, 0, by omega, by simp, rfl, HB.out.1, HB.out.2, H0.out⟩
  case round =>
    obtain ⟨j, a, hg, ha, rfl, hb1, hb2, hj⟩ := hrel
    have HJ0 := Lib.hid hj
    have hle : j * n ≤ rows * n := Nat.mul_le_mul_right n (by omega)
    rw [HN.out, ← ha] at hle
    have hlt9 : j < rows → a + n ≤ N := fun h => by
      have := Nat.mul_le_mul_right n (show j + 1 ≤ rows by omega)
      rw [HN.out, Nat.add_mul, Nat.one_mul, ← ha] at this
      exact this
    have hge9 : ¬ j < rows → a = N := fun h => by
      rw [ha, ← HN.out, show j = rows by omega]
    have HA := Lib.hid ha
    have c1 := cellOf hb1 0
    have c2 := cellOf hb2 0
    clear ha hj
    by_cases hlt : j < rows
    · have hlt8 := hlt9 hlt
      clear hlt9 hge9 hle
      have i0 : (a : Int) < (N : Int) := by omega
      have i1 : (0 : Int) ≤ (a : Int) := by omega
      have i2 : (a : Int) ≤ (N : Int) := by omega
      have i3 : ((N : Int) - (a : Int)).toNat = N - a := by omega
      have m1 : (if (N : Int) - (a : Int) < (n : Int) then (N : Int) - (a : Int) else (n : Int)) = (n : Int) := if_neg (by omega)
      have m2 : ¬ ((N : Int) - (a : Int) < (n : Int)) := by omega
      gi_wp2_with fail
      refine (wpIn_wide (n := 0)).2 ?_
      go_quiet (fail)
      obtain ⟨w3, hw3, hx3⟩ : ∃ w3, wr.drewN nq = w3 ∧ Ext [] wr w3 := ⟨_, rfl, (Ext.refl _ _).drewN _⟩
      rw [hw3]
      have hb1' := hx3.keep hb1 (by simp)
      have hb2' := hx3.keep hb2 (by simp)
      have c1' := cellOf hb1' 0
      have c2' := cellOf hb2' 0
      obtain ⟨post, hsp⟩ := range_split hlt
      have hy := HY.out (List.range j) j post w3 hsp (HJ.out _ _ _ HJ0.out hx3)
      clear hw3 hx3 c1 c2 hb1 hb2
      have HSP := Lib.hid hsp
      clear hsp
      obtain ⟨fn, tmps, assign, body, hy, hR⟩ := hy
      unfold encR rowS at hy
      rw [← HA.out] at hy
      have HR := Lib.hid hR
      have HB1 := Lib.hid hb1'
      have HB2 := Lib.hid hb2'
      clear hR hb1' hb2'
      have i4 : (a : Int) ≤ (a : Int) + (n : Int) := by omega
      have i5 : (a : Int) + (n : Int) ≤ (cap : Int) := by omega
      have i6 : ((a : Int) + (n : Int) - (a : Int)).toNat = n := by omega
      gi_wp2_with fail
      refine HR.out.mono ?_
      clear hy HR
      rintro e w4 (⟨rfl, hj3, hk3⟩ | ⟨rfl, hj3⟩)
      · have hb3 := (hk3.same b1 (by simp)).trans HB1.out
        have hb4 := (hk3.same b2 (by simp)).trans HB2.out
        have c3 := cellOf hb3 0
        have c4 := cellOf hb4 0
        have HJ3 := Lib.hid hj3
        have HB3 := Lib.hid hb3
        have HB4 := Lib.hid hb4
        clear hj3 hb3 hb4 hk3 c1' c2'
        gi_wp2_with fail
        gi_roundg (rows - (j + 1))
        case measure => omega
        case rel => exact ⟨j + 1, a + n, by omega, by rw [HA.out, Nat.add_mul, Nat.one_mul], by go_num, HB3.out, HB4.out, by rw [List.range_succ]; exact HJ3.out⟩
      · gi_wp2_with fail
        refine bodyPost_ret (results_none rfl _ _ _) rfl ?_
        exact ⟨⟨_, rfl⟩, .inr ⟨List.range j, j, post, HSP.out, hj3⟩⟩
    · have e := hge9 hlt
      have e2 : j = rows := by omega
      have HJ1 := Lib.hid (e2 ▸ HJ0.out)
      clear hge9 hlt9 HJ0
      have HE := Lib.hid e
      have i0 : ¬ ((a : Int) < (N : Int)) := by omega
      clear e e2
      gi_wp2_with fail
      go_end0
      exact ⟨⟨_, rfl⟩, .inl HJ1.out⟩
end Go.Proofs.Ytoiegmdlbcbgoaa.Pr
