/-
  RunsSame walked.
-/
import Derived.Test.YtiadnmhginpgfaaRnL
import Derived.Test.YtiadnmhginpgfaaKit
import Derived.Laws.OwnMore
namespace Go.Proofs.Ytiadnmhginpgfaa.Rn
open Go.RowKit

def fillL (b : UInt8) (N k : Nat) : List UInt8 := List.replicate k b ++ List.replicate (N - k) 0
theorem fillL_len (b : UInt8) (N k : Nat) (h : k ≤ N) : (fillL b N k).length = N := by simp [fillL]; omega
theorem fillL_set (b : UInt8) (N k : Nat) (h : k < N) : (fillL b N k).set k b = fillL b N (k + 1) := by
  obtain ⟨m, hm⟩ : ∃ m, N - k = m + 1 := ⟨N - k - 1, by omega⟩
  unfold fillL
  rw [show N - (k + 1) = m by omega, hm, List.set_append, if_neg (by simp), List.length_replicate, Nat.sub_self, List.replicate_succ, List.set_cons_zero, List.replicate_succ', List.append_assoc]
  rfl
theorem fillL_at (b : UInt8) (N k : Nat) (h : k < N) : ((fillL b N k).map c8)[k]? = some (.int .u8 0) := by
  obtain ⟨m, hm⟩ : ∃ m, N - k = m + 1 := ⟨N - k - 1, by omega⟩
  unfold fillL
  rw [hm, List.map_append, List.getElem?_append_right (by simp)]
  simp [c8]
theorem fillL_end (b : UInt8) (N : Nat) : fillL b N N = List.replicate N b := by simp [fillL]
set_option maxRecDepth 100000 in
set_option maxHeartbeats 4000000 in
theorem runsSame_walk (c n : Int) (w : World) (wc : (Lit.int .u8 c).wf = true) (wn : (Lit.int .i64 n).wf = true) :
    Calls Try.prog 4 #[.int .u8 c, .int .i64 n] w fun e w' => e = .returned (.bool true) ∧ Ext [] w w' := by
  obtain ⟨b, rfl⟩ := Kt.wf_u8 wc
  obtain ⟨n0, n1⟩ := Kt.wf_i64 wn
  clear wc wn
  obtain ⟨i0, hi, hz0, hz1, hz2⟩ := info_parts infoByte
  obtain ⟨N, hN⟩ : ∃ N : Nat, n % 1001 = N := ⟨(n % 1001).toNat, by omega⟩
  have hN1 : N ≤ 1000 := by omega
  have HN := Lib.hid hN
  clear hN
  go_enter Try.func4, Try.ntmps4
  go_wp2_with fail
  refine (lives13 _).mono ?_; rintro e w1 ⟨rfl, hx1⟩
  have S := (Sep.start w).quiet hx1
  clear hx1
  obtain ⟨w2, hmk, hown, hgrow⟩ := run_make_full (P := Try.prog) w1 0 29 5 i0 (.int .u8 0) 1 Try.underlying29 hi hz0 hz1 .i64 .i64 N (by rw [hz2]; omega) (by unfold maxLen; omega) (by omega)
  have hx2 : Ext [] w1 w2 := (Ext.refl [] w1).grown hgrow (fun k hk => by cases hk)
  have S := S.new hx2 (oSl 5 1 (.slice (some ⟨w1.heap.size, 0, none⟩) N N) N ((fillL b N 0).map c8)) (by
    have hm : (madeCells (Value.int .u8 0).cells (N * 1)).toList = (fillL b N 0).map c8 := by
      rw [show fillL b N 0 = List.replicate N 0 from by simp [fillL], List.map_replicate, Nat.mul_one]
      exact toList_madeCells_one _ _
    rw [← hm]; exact hown) (fun q hq => by simp [oSl, Value.ownBlock] at hq; omega)
  have HS := Lib.hid S
  clear S hx2 hown hgrow
  obtain ⟨G, hG⟩ : ∃ G, w1.heap.size = G := ⟨_, rfl⟩
  rw [hG] at hmk HS
  clear hG
  go_wp2_with fail
  refine (Kt.pick_any n 1001 _ (by omega) (by omega) n0 n1).mono ?_; rintro e w3 ⟨rfl, rfl⟩
  rw [HN.out]
  go_wp2_with fail
  clear hmk
  go_loopg [6] N (fun gg iv wr => ∃ k : Nat, gg + k = N ∧ iv = .int .i64 k ∧ Sep w wr [oSl 5 1 (.slice (some ⟨G, 0, none⟩) N N) N ((fillL b N k).map c8)])
  case atStart => exact ⟨0, by omega, rfl, HS.out⟩
  case round =>
    clear HS
    obtain ⟨k, hk, rfl, S⟩ := hrel
    have hown : wr.ownsRow 0 5 1 (.slice (some ⟨G, 0, none⟩) N N) N ((fillL b N k).map c8) := S.get 0 rfl
    have HS := Lib.hid S
    clear S
    by_cases hlt : k < N
    · have hcell : wr.cell? ⟨G, k, none⟩ = some (.int .u8 0) := ownsRow_at hown (fillL_at b N k hlt)
      have hfree := ownsRow_free hown k
      go_wp2_with fail
      go_roundg (N - (k + 1))
      case measure => omega
      case rel =>
        refine ⟨k + 1, by omega, by go_num, ?_⟩
        refine HS.out.upd 0 (oSl 5 1 (.slice (some ⟨G, 0, none⟩) N N) N ((fillL b N (k + 1)).map c8)) rfl ((Ext.refl _ wr).setCell _ _ (.inl (by simp [oSl, Value.ownBlock]))) (Fr.refl _ _) ?_
        have hst := ownsRow_store (i := k) hown (.int .u8 ((b.toNat : Nat) : Int))
        have he : ((fillL b N k).map c8).set k (.int .u8 ((b.toNat : Nat) : Int)) = (fillL b N (k + 1)).map c8 := by rw [← fillL_set b N k hlt, List.map_set]; rfl
        rw [he] at hst
        exact hst
    · obtain rfl : k = N := by omega
      have hct := run_text hown
      rw [fillL_end] at hct
      have hl := putL_rep b k
      have hlast := putL_last (List.replicate k b)
      have hp := put_walk (Rn.S (List.replicate k b))
      rw [B_S] at hp
      obtain ⟨t, ht⟩ : ∃ t, Rn.S (List.replicate k b) = t := ⟨_, rfl⟩
      have htz : t.size = k := by rw [← ht, S_size, List.length_replicate]
      obtain ⟨p, hpe⟩ : ∃ p, Rn.S (putL (List.replicate k b)) = p := ⟨_, rfl⟩
      have hBp : B p = putL (List.replicate k b) := by rw [← hpe, B_S]
      rw [← hBp] at hlast hl
      rw [B_len] at hlast hl
      rw [ht] at hct hp
      rw [hpe] at hp
      have hz : p.size - 1 < p.size := by omega
      have hb := B_get p (p.size - 1) hz
      rw [hlast] at hb
      have hb2 : (((p[p.size - 1]'hz).toNat : Nat) : Int) = 128 := by rw [← Option.some.inj hb]; rfl
      have HP := Lib.hid (hp)
      have hp9 : p.size ≤ 100 := by omega
      have hp8 : 1 ≤ p.size := by omega
      have HB2 := Lib.hid hb2
      clear hb hb2 hlast hBp hpe ht hp hown
      have hq : ((p.size : Int) == 2 * (((k : Int) + 127) / 128) + 1) = true := by simp; omega
      have q0 : (0 : Int) < (p.size : Int) := by omega
      have q1 : (0 : Int) ≤ (p.size : Int) - 1 := by omega
      have q2 : (p.size : Int) - 1 < (p.size : Int) := by omega
      have q3 : ((p.size : Int) - 1).toNat = p.size - 1 := by omega
      have HTZ := Lib.hid htz
      clear hl htz
      go_wp2_with fail
      refine (HP.out _ (by have := HTZ.out; omega)).mono ?_; rintro e w4 ⟨rfl, hx4⟩
      have HX4 := Lib.hid hx4
      clear hx4
      go_wp2_with fail
      go_ret
      exact ⟨by simp [HB2.out], HS.out.ext.trans HX4.out⟩
end Go.Proofs.Ytiadnmhginpgfaa.Rn
