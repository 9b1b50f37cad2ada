/-
  predict: a row told by a way, its weight, the least way: walked.
-/
import Derived.Test.YtoiegmdlbcbgoaaPrC
namespace Go.Proofs.Ytoiegmdlbcbgoaa.Pr
open Go.RowKit

/-! ### put -/
/-- the bytes of a row, told by a way, as far as k; noughts behind -/
def putK (way bs : Nat) (R U : Nat → UInt8) (n k : Nat) : List UInt8 := (List.range n).map fun i => if i < k then R i - guessV way bs R U i else 0
def putR (way bs : Nat) (R U : Nat → UInt8) (n : Nat) : List UInt8 := (List.range n).map fun i => R i - guessV way bs R U i
theorem putK_len (way bs : Nat) (R U : Nat → UInt8) (n k : Nat) : (putK way bs R U n k).length = n := by simp [putK]
theorem putR_len (way bs : Nat) (R U : Nat → UInt8) (n : Nat) : (putR way bs R U n).length = n := by simp [putR]
theorem putK_zero (way bs : Nat) (R U : Nat → UInt8) (n : Nat) : putK way bs R U n 0 = List.replicate n 0 := by
  apply List.ext_getElem <;> simp [putK]
theorem putK_set (way bs : Nat) (R U : Nat → UInt8) (n k : Nat) : (putK way bs R U n k).set k (R k - guessV way bs R U k) = putK way bs R U n (k + 1) := by
  apply List.ext_getElem
  · simp [putK]
  · intro i h1 h2
    simp only [putK, List.getElem_set, List.getElem_map, List.getElem_range]
    by_cases hik : k = i
    · subst hik; simp
    · rw [if_neg hik]
      by_cases hlt : i < k
      · rw [if_pos hlt, if_pos (by omega)]
      · rw [if_neg hlt, if_neg (by omega)]
theorem putK_at (way bs : Nat) (R U : Nat → UInt8) (n k : Nat) (h : k < n) : ((putK way bs R U n k).map c8)[k]? = some (.int .u8 0) := by
  simp [putK, h]
theorem putK_end (way bs : Nat) (R U : Nat → UInt8) (n : Nat) : putK way bs R U n n = putR way bs R U n := by
  apply List.ext_getElem
  · simp [putK, putR]
  · intro i h1 h2
    have hi : i < n := by simpa [putK] using h1
    simp only [putK, putR, List.getElem_map, List.getElem_range, if_pos hi]
theorem infoByte : (Try.prog.info? 5).map (fun i => (i.zero, i.size, i.bytes)) = some (some (.int .u8 0), 1, 1) := by kernel_rfl
theorem sub_u8 (a b : UInt8) : (((a - b).toNat : Nat) : Int) = ((a.toNat : Int) - (b.toNat : Int)) % 256 := by
  have h1 := a.toNat_lt
  have h2 := b.toNat_lt
  rw [UInt8.toNat_sub]
  omega
set_option maxRecDepth 100000 in
set_option maxHeartbeats 8000000 in
theorem cput_walk (way : Nat) (hw5 : way < 5) (bs n : Nat) (R U : Nat → UInt8) (cb rb ro rc ab ao ac : Nat) (w : World) (hc : w.heap[cb]? = some (coderO bs n ab ao ac))
    (hR : ∀ j, j < n → w.cell? ⟨rb, ro + j, none⟩ = some (c8 (R j))) (hU : ∀ j, j < n → w.cell? ⟨ab, ao + j, none⟩ = some (c8 (U j))) (hn : n ≤ 1048576) (hbs : 1 ≤ bs) :
    Calls Try.prog 21 #[.pointer (some ⟨cb, 0, none⟩), .int .u8 way, .slice (some ⟨rb, ro, none⟩) n rc] w fun e w' => ∃ g, e = .returned (.slice (some ⟨g, 0, none⟩) n n) ∧ Sep w w' [oSl 5 1 (.slice (some ⟨g, 0, none⟩) n n) n ((putR way bs R U n).map c8)] := by
  obtain ⟨i0, hif, hz0, hz1, hz2⟩ := info_parts infoByte
  obtain ⟨w2, hmk, hown, hgrow⟩ := run_make_full (P := Try.prog) w 0 42 5 i0 (.int .u8 0) 1 Try.underlying42 hif hz0 hz1 .i64 .i64 n (by rw [hz2]; omega) (by unfold maxLen; omega) (by omega)
  have hx2 : Ext [] w w2 := (Ext.refl [] w).grown hgrow (fun k hk => by cases hk)
  have S := (Sep.start w).new hx2 (oSl 5 1 (.slice (some ⟨w.heap.size, 0, none⟩) n n) n ((putK way bs R U n 0).map c8)) (by
    have hm : (madeCells (Value.int .u8 0).cells (n * 1)).toList = (putK way bs R U n 0).map c8 := by
      rw [putK_zero, List.map_replicate, Nat.mul_one]
      exact toList_madeCells_one _ _
    rw [← hm]; exact hown) (fun q hq => by simp [oSl, Value.ownBlock] at hq; omega)
  have HS := Lib.hid S
  have HR := Lib.hid hR
  have HU := Lib.hid hU
  have HC := Lib.hid hc
  clear S hx2 hown hgrow hR hU hc
  obtain ⟨G, hG⟩ : ∃ G, w.heap.size = G := ⟨_, rfl⟩
  rw [hG] at hmk HS
  have HG := Lib.hid hG
  clear hG
  go_enter Try.func21, Try.ntmps21
  go_wp2_with fail
  clear hmk
  go_loopg [8, 9, 15] n (fun gg _ _ iv wr => ∃ k : Nat, gg + k = n ∧ iv = .int .i64 k ∧ Sep w wr [oSl 5 1 (.slice (some ⟨G, 0, none⟩) n n) n ((putK way bs R U n k).map c8)])
  case atStart => exact ⟨0, by omega, rfl, HS.out⟩
  case round =>
    clear HS
    obtain ⟨k, hk, rfl, S⟩ := hrel
    have HS := Lib.hid S
    by_cases hlt : k < n
    · have q1 := Ext.cell S.ext (HR.out k hlt)
      unfold c8 at q1
      have i1 : (0 : Int) ≤ (k : Int) := by omega
      have i2 : (k : Int) < (n : Int) := by omega
      have hsub := sub_u8 (R k) (guessV way bs R U k)
      have ha8 := (R k).toNat_lt
      have hb8 := (guessV way bs R U k).toNat_lt
      have hset := putK_set way bs R U n k
      have hgw := guess_walk way hw5 bs n k R U cb rb ro rc ab ao ac wr (S.ext.keep HC.out (by simp)) (fun j hj => Ext.cell S.ext (HR.out j hj)) (fun j hj => Ext.cell S.ext (HU.out j hj)) hlt hn hbs
      generalize guessV way bs R U k = gs at *
      obtain ⟨z, hz⟩ : ∃ z, R k - gs = z := ⟨_, rfl⟩
      rw [hz] at hsub hset
      generalize R k = rk at *
      have HGW := Lib.hid hgw
      have HSUB := Lib.hid hsub
      have HSET := Lib.hid hset
      clear hgw hsub hset hz S
      go_wp2_with fail
      refine HGW.out.mono ?_
      rintro e w5 ⟨rfl, hx5⟩
      have HS5 := Lib.hid (HS.out.quiet hx5)
      clear hx5 HS HGW
      have hown : w5.ownsRow 0 5 1 (.slice (some ⟨G, 0, none⟩) n n) n ((putK way bs R U n k).map c8) := HS5.out.get 0 rfl
      have hcell : w5.cell? ⟨G, k, none⟩ = some (.int .u8 0) := ownsRow_at hown (putK_at way bs R U n k hlt)
      have hfree := ownsRow_free hown k
      have HOWN := Lib.hid hown
      clear hown q1
      unfold c8
      go_wp2_with fail
      go_roundg (n - (k + 1))
      case measure => omega
      case rel =>
        refine ⟨k + 1, by omega, by go_num, ?_⟩
        refine HS5.out.upd 0 (oSl 5 1 (.slice (some ⟨G, 0, none⟩) n n) n ((putK way bs R U n (k + 1)).map c8)) rfl ((Ext.refl _ w5).setCell _ _ (.inl (by simp [oSl, Value.ownBlock]))) (Fr.refl _ _) ?_
        have hst := ownsRow_store (i := k) HOWN.out (c8 z)
        have he : ((putK way bs R U n k).map c8).set k (c8 z) = (putK way bs R U n (k + 1)).map c8 := by rw [← HSET.out, List.map_set]
        rw [he] at hst
        unfold c8 at hst
        rw [HSUB.out] at hst
        exact hst
    · obtain rfl : k = n := by omega
      go_wp2_with fail
      go_ret
      exact ⟨G, rfl, by rw [← putK_end]; exact HS.out⟩
end Go.Proofs.Ytoiegmdlbcbgoaa.Pr
