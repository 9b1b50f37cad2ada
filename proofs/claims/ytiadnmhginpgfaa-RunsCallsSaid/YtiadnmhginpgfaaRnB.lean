/-
  runs: a text's pieces; the iterator over them walked.
-/
import Derived.Test.YtiadnmhginpgfaaRnA
import Derived.TacticsInMore
import Derived.LoopIn
import Derived.Sort.LoopGhostIn
import Derived.BigFrameIn
import Derived.BigGuardIn
namespace Go.Proofs.Ytiadnmhginpgfaa.Rn
open Go.RowKit

/-! ### plain -/
def S (l : List UInt8) : ByteArray := ⟨l.toArray⟩
theorem B_S (l : List UInt8) : B (S l) = l := rfl
theorem S_B (s : ByteArray) : S (B s) = s := B_ext rfl
theorem S_take (s : ByteArray) (n : Nat) : s.extract 0 n = S ((B s).take n) := B_ext (B_take s n)
theorem same_pos (l : List UInt8) : 1 ≤ same l := by
  have h : ∀ k n, k + n = 128 → n ≤ sameF l n := by
    intro k
    induction k with
    | zero => intro n hn; rw [sameF_stop _ _ (by omega)]; exact Nat.le_refl _
    | succ k ih =>
      intro n hn
      by_cases h : n < 128 ∧ n < l.length ∧ l[n]? = l[0]?
      · rw [sameF_more _ _ h]; have := ih (n + 1) (by omega); omega
      · rw [sameF_stop _ _ h]; exact Nat.le_refl _
  exact h 127 1 rfl
theorem sameF_le (l : List UInt8) : ∀ (k n : Nat), k + n = 128 → n ≤ l.length → n ≤ sameF l n ∧ sameF l n ≤ 128 ∧ sameF l n ≤ l.length := by
  intro k
  induction k with
  | zero => intro n hn hl; rw [sameF_stop _ _ (by omega)]; omega
  | succ k ih =>
    intro n hn hl
    by_cases h : n < 128 ∧ n < l.length ∧ l[n]? = l[0]?
    · rw [sameF_more _ _ h]; have := ih (n + 1) (by omega) (by omega); omega
    · rw [sameF_stop _ _ h]; omega
theorem plainF_le (l : List UInt8) : ∀ (k n : Nat), k + n = 128 → n ≤ l.length → n ≤ plainF l n ∧ plainF l n ≤ 128 ∧ plainF l n ≤ l.length := by
  intro k
  induction k with
  | zero => intro n hn hl; rw [plainF_stop _ _ (by omega)]; omega
  | succ k ih =>
    intro n hn hl
    by_cases h : n < 128 ∧ n < l.length ∧ same (l.drop n) < 2
    · rw [plainF_more _ _ h]; have := ih (n + 1) (by omega) (by omega); omega
    · rw [plainF_stop _ _ h]; omega
theorem cut_le (l : List UInt8) (h : 0 < l.length) : 1 ≤ cut l ∧ cut l ≤ 128 ∧ cut l ≤ l.length := by
  unfold cut
  split
  · have := sameF_le l 127 1 rfl (by omega); unfold same; omega
  · have := plainF_le l 127 1 rfl (by omega); omega
abbrev Piece := List UInt8 × Bool
def many (l : List UInt8) : Bool := decide (1 < same l)
def pieces (l : List UInt8) : List Piece := if _h : 0 < l.length then (l.take (cut l), many l) :: pieces (l.drop (cut l)) else []
termination_by l.length
decreasing_by have := cut_le l _h; simp; omega
theorem pieces_nil : pieces [] = [] := by rw [pieces]; simp
theorem pieces_cons (l : List UInt8) (h : 0 < l.length) : pieces l = (l.take (cut l), many l) :: pieces (l.drop (cut l)) := by rw [pieces, dif_pos h]
def encs (p : Piece) : Array Value := #[.string (S p.1), .bool p.2]

/-! ### the iterator -/
def bx (t : ByteArray) : Obj := .cells #[.string t] 9 (0, 0)
set_option maxRecDepth 100000 in
set_option maxHeartbeats 8000000 in
theorem iter_walk (s : ByteArray) (b : Nat) (hs : s.size ≤ maxLen) :
    SeqX Try.prog 21 #[.pointer (some ⟨b, 0, none⟩)] encs (pieces (B s)) [b] [b] (fun W => W.heap[b]? = some (bx s)) := by
  intro l J Jx W hb hJ hJx hY h0
  have HB := Lib.hid hb
  have H0 := Lib.hid h0
  have HY := Lib.hid hY
  have HJ := Lib.hid hJ
  have HS := Lib.hid hs
  clear hb h0 hY hJ hJx hs
  refine callsIn_of_wp Try.func21 rfl trivial ?_
  simp only [Try.ntmps21, List.size_toArray, List.length_cons, List.length_nil, Nat.reduceAdd, Nat.reduceSub, Array.replicate_succ, Array.replicate_zero, List.push_toArray, List.append_toArray, List.nil_append, List.cons_append]
  gi_wp2_with fail
  gi_loopg [] s.size (fun g wr => ∃ (t : ByteArray) (pre : List Piece), g = t.size ∧ t.size ≤ s.size ∧ pre ++ pieces (B t) = pieces (B s) ∧ wr.heap[b]? = some (bx t) ∧ J pre wr)
  case atStart => exact ⟨s, [], rfl, Nat.le_refl _, rfl, HB.out, H0.out⟩
  case round =>
    obtain ⟨t, pre, rfl, hts, hp, hb, hj⟩ := hrel
    have ht63 : t.size ≤ maxLen := Nat.le_trans hts HS.out
    have HP := Lib.hid hp
    have HJ0 := Lib.hid hj
    have c0 := cellOf hb 0
    clear hp hj
    by_cases hpos : 0 < t.size
    · have hpi := pieces_cons (B t) (by rw [B_len]; exact hpos)
      have HPI := Lib.hid hpi
      clear hpi
      have i0 : (0 : Int) < (t.size : Int) := by omega
      have hl1 := same_pos (B t)
      have hl2 := (sameF_le (B t) 127 1 rfl (by rw [B_len]; omega)).2
      rw [B_len] at hl2
      have hl3 : same (B t) ≤ 128 ∧ same (B t) ≤ t.size := hl2
      clear hl2
      gi_wp2_with fail
      refine CallsIn.mono ((callsIn_wide (n := 0)).2 (same_walk t _ ht63)) ?_
      rintro e w2 ⟨rfl, hx2⟩
      have hb2 := hx2.keep hb (by simp)
      have HX2 := Lib.hid hx2
      clear hx2
      have c2 := cellOf hb2 0
      have HC : cut (B t) = if 1 < same (B t) then same (B t) else plainF (B t) 1 := rfl
      have HC := Lib.hid HC
      have HM : many (B t) = decide (1 < same (B t)) := rfl
      have HM := Lib.hid HM
      generalize hn0 : same (B t) = n0 at hl1 hl3 HC HM
      have HN := Lib.hid hn0
      clear hn0
      by_cases h1 : 1 < n0
      · have q1 : (1 : Int) < (n0 : Int) := by omega
        have q2 : decide ((1 : Int) < (n0 : Int)) = true := decide_eq_true q1
        gi_wp2_with fail
        gi_loopg [3] 128 (fun g i wr2 => ∃ n : Nat, i = .int .i64 n ∧ n = n0 ∧ wr2 = w2)
        case atStart => exact ⟨n0, rfl, rfl, rfl⟩
        case round =>
          obtain ⟨n, rfl, rfl, rfl⟩ := hrel
          have i1 : (0 : Int) ≤ (n : Int) := by omega
          have i2 : (n : Int) ≤ (t.size : Int) := by omega
          have hcn : cut (B t) = n := by rw [HC.out, if_pos h1]
          have hmn : many (B t) = true := by rw [HM.out, decide_eq_true h1]
          have hy := HY.out pre (B t |>.take (cut (B t)), many (B t)) _ wr (by rw [← HP.out, HPI.out]) (HJ.out _ _ _ HJ0.out (HX2.out.mono (by simp)))
          obtain ⟨fn, tmps, assign, body, hy, hR⟩ := hy
          rw [hcn, hmn] at hy hR
          unfold encs at hy
          dsimp only at hy
          rw [← S_take] at hy
          have HCN := Lib.hid hcn
          have HMN := Lib.hid hmn
          have HR := Lib.hid hR
          have i3 : (0 : Int) ≤ (n : Int) ∧ (n : Int) ≤ (t.size : Int) := ⟨i1, i2⟩
          clear hcn hmn hR
          gi_wp2_with fail
          refine HR.out.mono ?_
          clear hy HR
          rintro e w3 (⟨rfl, hj3, hk3⟩ | ⟨rfl, hj3⟩)
          · have hb3 := (hk3.same b (by simp)).trans hb2
            have c3 := cellOf hb3 0
            have f3 := freeOf hb3 0
            have HJ3 := Lib.hid hj3
            have HB3 := Lib.hid hb3
            clear hj3 hb3 hk3
            gi_wp2_with fail
            gi_roundg (t.size - n)
            case measure => omega
            case rel =>
              have he : (t.extract n t.size).size = t.size - n := by simp
              refine ⟨t.extract n t.size, pre ++ [((B t).take n, true)], he.symm, by omega, ?_, heap_setCell_same HB3.out _, HJ.out _ _ _ HJ3.out ((Ext.refl [b] w3).setCell _ _ (by simp))⟩
              rw [B_drop, List.append_assoc, ← HP.out, HPI.out, HCN.out, HMN.out]
              rfl
          · gi_wp2_with fail
            refine bodyPost_ret (results_none rfl _ _ _) rfl ?_
            exact ⟨⟨_, rfl⟩, .inr ⟨pre, _, _, by rw [← HP.out, HPI.out, HCN.out, HMN.out], hj3⟩⟩
      · have q1 : ¬ ((1 : Int) < (n0 : Int)) := by omega
        have q2 : decide ((1 : Int) < (n0 : Int)) = false := decide_eq_false q1
        have e1 : n0 = 1 := by omega
        subst e1
        gi_wp2_with fail
        gi_loopg [3] 128 (fun g i wr2 => ∃ n : Nat, g + n = 129 ∧ i = .int .i64 n ∧ 1 ≤ n ∧ n ≤ t.size ∧ plainF (B t) n = plainF (B t) 1 ∧ wr2.heap[b]? = some (bx t) ∧ Ext [] wr wr2)
        case atStart => exact ⟨1, by omega, rfl, by omega, by omega, rfl, hb2, HX2.out⟩
        case round =>
          clear c2 hb2 HX2
          obtain ⟨n, hg, rfl, hn1, hn2, hpl, hb2, hx2⟩ := hrel
          have HX2 := Lib.hid hx2
          have HPL := Lib.hid hpl
          clear hx2 hpl
          have c2 := cellOf hb2 0
          have i1 : (0 : Int) ≤ (n : Int) := by omega
          have i2 : (n : Int) ≤ (t.size : Int) := by omega
          by_cases h : n < 128 ∧ n < t.size
          · obtain ⟨ha, hb'⟩ := h
            have m1 : decide ((n : Int) < (if (t.size : Int) < 128 then (t.size : Int) else 128)) = true := decide_eq_true (by split <;> omega)
            have m2 : (n : Int) < (if (t.size : Int) < 128 then (t.size : Int) else 128) := by split <;> omega
            have hes : (t.extract n t.size).size ≤ maxLen := by have := HS.out; simp; omega
            gi_wp2_with fail
            all_goals (
              refine CallsIn.mono ((callsIn_wide (n := 0)).2 (same_walk (t.extract n t.size) _ hes)) ?_
              rintro e w5 ⟨rfl, hx5⟩
              have hb5 := hx5.keep hb2 (by simp)
              have c5 := cellOf hb5 0
              have HX5 := Lib.hid hx5
              clear hx5
              rw [B_drop]
              generalize hn5 : same ((B t).drop n) = n5
              have HN5 := Lib.hid hn5
              clear hn5
              by_cases h5 : n5 < 2
              · have q5 : (n5 : Int) < 2 := by omega
                have hpm := plainF_more (B t) n ⟨ha, by rw [B_len]; exact hb', by rw [HN5.out]; exact h5⟩
                rw [HPL.out] at hpm
                have HPM := Lib.hid hpm
                clear hpm
                gi_wp2_with fail
                gi_roundg (128 - n)
                case measure => omega
                case rel => exact ⟨n + 1, by omega, by go_num, by omega, by omega, HPM.out.symm, hb5, HX2.out.trans HX5.out⟩
              · have q5 : ¬ ((n5 : Int) < 2) := by omega
                have hcn : cut (B t) = n := by rw [HC.out, if_neg h1, ← HPL.out, plainF_stop _ _ (fun h => h5 (by rw [← HN5.out]; exact h.2.2))]
                have hmn : many (B t) = false := by rw [HM.out, decide_eq_false h1]
                have hy := HY.out pre (B t |>.take (cut (B t)), many (B t)) _ w5 (by rw [← HP.out, HPI.out]) (HJ.out _ _ _ HJ0.out ((HX2.out.trans HX5.out).mono (by simp)))
                obtain ⟨fn, tmps, assign, body, hy, hR⟩ := hy
                rw [hcn, hmn] at hy hR
                unfold encs at hy
                dsimp only at hy
                rw [← S_take] at hy
                have HCN := Lib.hid hcn
                have HMN := Lib.hid hmn
                have HR := Lib.hid hR
                have i3 : (0 : Int) ≤ (n : Int) ∧ (n : Int) ≤ (t.size : Int) := ⟨i1, i2⟩
                clear hcn hmn hR
                gi_wp2_with fail
                refine HR.out.mono ?_
                clear hy HR
                rintro e w3 (⟨rfl, hj3, hk3⟩ | ⟨rfl, hj3⟩)
                · have hb3 := (hk3.same b (by simp)).trans hb5
                  have c3 := cellOf hb3 0
                  have f3 := freeOf hb3 0
                  have HJ3 := Lib.hid hj3
                  have HB3 := Lib.hid hb3
                  clear hj3 hb3 hk3
                  gi_wp2_with fail
                  gi_roundg (t.size - n)
                  case measure => omega
                  case rel =>
                    have he : (t.extract n t.size).size = t.size - n := by simp
                    refine ⟨t.extract n t.size, pre ++ [((B t).take n, false)], he.symm, by omega, ?_, heap_setCell_same HB3.out _, HJ.out _ _ _ HJ3.out ((Ext.refl [b] w3).setCell _ _ (by simp))⟩
                    rw [B_drop, List.append_assoc, ← HP.out, HPI.out, HCN.out, HMN.out]
                    rfl
                · gi_wp2_with fail
                  refine bodyPost_ret (results_none rfl _ _ _) rfl ?_
                  exact ⟨⟨_, rfl⟩, .inr ⟨pre, _, _, by rw [← HP.out, HPI.out, HCN.out, HMN.out], hj3⟩⟩)
          · have m1 : decide ((n : Int) < (if (t.size : Int) < 128 then (t.size : Int) else 128)) = false := decide_eq_false (by split <;> omega)
            have m2 : ¬ ((n : Int) < (if (t.size : Int) < 128 then (t.size : Int) else 128)) := by split <;> omega
            have hcn : cut (B t) = n := by rw [HC.out, if_neg h1, ← HPL.out, plainF_stop _ _ (by rw [B_len]; omega)]
            have hmn : many (B t) = false := by rw [HM.out, decide_eq_false h1]
            have hy := HY.out pre (B t |>.take (cut (B t)), many (B t)) _ wr (by rw [← HP.out, HPI.out]) (HJ.out _ _ _ HJ0.out (HX2.out.mono (by simp)))
            obtain ⟨fn, tmps, assign, body, hy, hR⟩ := hy
            rw [hcn, hmn] at hy hR
            unfold encs at hy
            dsimp only at hy
            rw [← S_take] at hy
            have HCN := Lib.hid hcn
            have HMN := Lib.hid hmn
            have HR := Lib.hid hR
            have i3 : (0 : Int) ≤ (n : Int) ∧ (n : Int) ≤ (t.size : Int) := ⟨i1, i2⟩
            clear hcn hmn hR
            gi_wp2_with fail
            all_goals (
              refine HR.out.mono ?_
              clear hy HR
              rintro e w3 (⟨rfl, hj3, hk3⟩ | ⟨rfl, hj3⟩)
              · have hb3 := (hk3.same b (by simp)).trans hb2
                have c3 := cellOf hb3 0
                have f3 := freeOf hb3 0
                have HJ3 := Lib.hid hj3
                have HB3 := Lib.hid hb3
                clear hj3 hb3 hk3
                gi_wp2_with fail
                gi_roundg (t.size - n)
                case measure => omega
                case rel =>
                  have he : (t.extract n t.size).size = t.size - n := by simp
                  refine ⟨t.extract n t.size, pre ++ [((B t).take n, false)], he.symm, by omega, ?_, heap_setCell_same HB3.out _, HJ.out _ _ _ HJ3.out ((Ext.refl [b] w3).setCell _ _ (by simp))⟩
                  rw [B_drop, List.append_assoc, ← HP.out, HPI.out, HCN.out, HMN.out]
                  rfl
              · gi_wp2_with fail
                refine bodyPost_ret (results_none rfl _ _ _) rfl ?_
                exact ⟨⟨_, rfl⟩, .inr ⟨pre, _, _, by rw [← HP.out, HPI.out, HCN.out, HMN.out], hj3⟩⟩)
    · have i0 : ¬ ((0 : Int) < (t.size : Int)) := by omega
      have he : B t = [] := List.eq_nil_of_length_eq_zero (by rw [B_len]; omega)
      have hpp : pre = pieces (B s) := by have := HP.out; rwa [he, pieces_nil, List.append_nil] at this
      have HPP := Lib.hid hpp
      clear hpp he
      gi_wp2_with fail
      go_end0
      exact ⟨⟨_, rfl⟩, .inl (HPP.out ▸ HJ0.out)⟩
end Go.Proofs.Ytiadnmhginpgfaa.Rn
