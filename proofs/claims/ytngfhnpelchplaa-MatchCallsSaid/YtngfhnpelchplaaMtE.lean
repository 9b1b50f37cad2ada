/-
  slices.Backward over whole numbers: what its iterator promises.
-/
import Derived.Test.YtngfhnpelchplaaMtD
import Derived.Test.YtngfhnpelchplaaRnd
import Derived.TacticsInMore
import Derived.LoopIn
import Derived.Sort.LoopGhostIn
import Derived.BigFrameIn
import Derived.BigGuardIn
namespace Go.Proofs.Ytngfhnpelchplaa.Mt
open Go.RowKit
attribute [local go_sem] Oper.semAt_some

def bxN (v : Value) : Obj := .cells #[v] 58 (0, 0)
set_option maxHeartbeats 4000000 in
theorem back_walk (p : Option Addr) (n cap : Nat) (w : World) :
    Calls Try.prog 32 #[.slice p n cap] w fun e w' => e = .returned (.func (.func 35) #[] #[.pointer (some ⟨w.heap.size, 0, none⟩)]) ∧ w' = w.alloc (bxN (.slice p n cap)) := by
  go_enter Try.func32, Try.ntmps32
  go_wp2_with fail
  go_ret
  exact ⟨rfl, rfl⟩
theorem range_split {j rows : Nat} (h : j < rows) : ∃ post, List.range rows = List.range j ++ j :: post := by
  refine ⟨(List.range rows).drop (j + 1), ?_⟩
  have h1 := List.take_append_drop j (List.range rows)
  rw [List.take_range, Nat.min_eq_left (by omega), List.drop_eq_getElem_cons (by simpa using h)] at h1
  simpa using h1.symm
/-- the j-th from behind -/
def encB (n : Nat) (vs : Nat → Nat) (j : Nat) : Array Value := #[.int .i64 ((n : Int) - 1 - (j : Int)), iv (vs (n - 1 - j))]
set_option maxRecDepth 100000 in
set_option maxHeartbeats 8000000 in
theorem back_iter (n cap b1 g : Nat) (p : Option Addr) (vs : Nat → Nat) (cs : Array Value) (hn : n ≤ 1048576) (hp : 1 ≤ n → p = some ⟨g, 0, none⟩) (hcs : ∀ j, j < n → cs[j]? = some (iv (vs j))) :
    SeqX Try.prog 35 #[.pointer (some ⟨b1, 0, none⟩)] (encB n vs) (List.range n) [] [b1, g] (fun W => W.heap[b1]? = some (bxN (.slice p n cap)) ∧ (1 ≤ n → W.heap[g]? = some (.cells cs 3 (0, 0)))) := by
  intro l J Jx W hb hJ hJx hY h0
  obtain ⟨hb1, hb2⟩ := hb
  have H0 := Lib.hid h0
  have HY := Lib.hid hY
  have HJ := Lib.hid hJ
  have HCS := Lib.hid hcs
  have HPP := Lib.hid hp
  have HB := Lib.hid (⟨hb1, hb2⟩ : _ ∧ _)
  have c0 := cellOf hb1 0
  clear h0 hY hJ hJx hb1 hb2 hcs hp
  refine callsIn_of_wp Try.func35 rfl trivial ?_
  simp only [Try.ntmps35, List.size_toArray, List.length_cons, List.length_nil, Nat.reduceAdd, Nat.reduceSub, Array.replicate_succ, Array.replicate_zero, List.push_toArray, List.append_toArray, List.nil_append, List.cons_append]
  gi_wp2_with fail
  clear c0
  gi_loopg [3] n (fun k iv' wr => ∃ j : Nat, k + j = n ∧ iv' = .int .i64 ((n : Int) - 1 - (j : Int)) ∧ wr.heap[b1]? = some (bxN (.slice p n cap)) ∧ (1 ≤ n → wr.heap[g]? = some (.cells cs 3 (0, 0))) ∧ J (List.range j) wr)
  case atStart => exact ⟨0, by omega, by go_num, HB.out.1, HB.out.2, H0.out⟩
  case round =>
    obtain ⟨j, hg, rfl, hb1, hb2, hj⟩ := hrel
    have HJ0 := Lib.hid hj
    have c1 := cellOf hb1 0
    clear hj
    by_cases hlt : j < n
    · obtain rfl := HPP.out (by omega)
      have hb2' := hb2 (by omega)
      obtain ⟨u, hu⟩ : ∃ u, n - 1 - j = u := ⟨_, rfl⟩
      have hui : (n : Int) - 1 - (j : Int) = (u : Int) := by omega
      have hun : u < n := by omega
      have c2 : wr.cell? ⟨g, u, none⟩ = some (.int .i64 (vs u : Nat)) := by rw [cellOf hb2', HCS.out u hun]
      obtain ⟨post, hsp⟩ := range_split hlt
      have hy := HY.out (List.range j) j post wr hsp HJ0.out
      have HSP := Lib.hid hsp
      clear hsp
      obtain ⟨fn, tmps, assign, body, hy, hR⟩ := hy
      unfold encB at hy
      rw [hui, hu] at hy
      have HR := Lib.hid hR
      have HB1 := Lib.hid (⟨hb1, hb2'⟩ : _ ∧ _)
      have i1 : (0 : Int) ≤ (u : Int) := by omega
      have i2 : (u : Int) < (n : Int) := by omega
      clear hR hb1 hb2 hb2' hu
      rw [hui]
      gi_wp2_with fail
      refine HR.out.mono ?_
      clear hy HR c1 c2
      rintro e w4 (⟨rfl, hj3, hk3⟩ | ⟨rfl, hj3⟩)
      · have hb3 := (hk3.same b1 (by simp)).trans HB1.out.1
        have hb4 := (hk3.same g (by simp)).trans HB1.out.2
        have HJ3 := Lib.hid hj3
        have HB3 := Lib.hid hb3
        have HB4 := Lib.hid hb4
        clear hj3 hb3 hb4 hk3
        gi_wp2_with fail
        gi_roundg (n - (j + 1))
        case measure => omega
        case rel => exact ⟨j + 1, by omega, by go_num, HB3.out, fun _ => HB4.out, by rw [List.range_succ]; exact HJ3.out⟩
      · gi_wp2_with fail
        refine bodyPost_ret (results_none rfl _ _ _) rfl ?_
        exact ⟨⟨_, rfl⟩, .inr ⟨List.range j, j, post, HSP.out, hj3⟩⟩
    · have e2 : j = n := by omega
      have HJ1 := Lib.hid (e2 ▸ HJ0.out)
      have i0 : (n : Int) - 1 - (j : Int) < 0 := by omega
      clear HJ0 e2 hb2 hb1
      gi_wp2_with fail
      go_end0
      exact ⟨⟨_, rfl⟩, .inl HJ1.out⟩
end Go.Proofs.Ytngfhnpelchplaa.Mt
