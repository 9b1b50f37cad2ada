/-
  deflate: Best walked.
-/
import Derived.Test.YtnapnaaejignaaaGreatDgC
import Derived.Test.YtnapnaaejignaaaGreatDgD
import Derived.Test.YtnapnaaejignaaaGreatDgI
namespace Go.Proofs.YtnapnaaejignaaaGreat.De
open Go.RowKit Bt Hu If Mt

def wayF (k : Nat) : Nat := if k = 0 then 21 else if k = 1 then 22 else 23
def wayN (k : Nat) (s : ByteArray) : ByteArray := if k = 0 then storedN s else if k = 1 then fixedN s else dynN s
def bestK (s : ByteArray) : Nat → ByteArray
  | 0 => storedN s
  | k + 1 => shortN (bestK s k) (wayN (k + 1) s)
theorem bestK_2 (s : ByteArray) : bestK s 2 = bestN s := rfl
theorem way_walk (k : Nat) (s : ByteArray) (w : World) (hs : s.size ≤ 1000000) :
    Calls Tryz.prog (wayF k) #[.string s] w fun e w' => e = .returned (.string (wayN k s)) ∧ Ext [] w w' := by
  unfold wayF wayN
  split
  · exact stored_walk s w (by omega)
  · split
    · exact fixedD_walk s w (by omega)
    · exact dynD_walk s w hs
abbrev fnV (k : Nat) : Value := .func (.func (wayF k)) #[] #[]
def fn3 : Array Value := #[.func (.func 21) #[] #[], .func (.func 22) #[] #[], .func (.func 23) #[] #[]]
theorem fn3_one : fn3.all (·.oneCell') = true := by simp [fn3, Value.oneCell']
theorem fn3_at (k : Nat) (hk : k < 3) : fn3[k]? = some (fnV k) := by
  match k, hk with
  | 0, _ => rfl
  | 1, _ => rfl
  | 2, _ => rfl
set_option maxRecDepth 100000 in
set_option maxHeartbeats 8000000 in
theorem best_walk (s : ByteArray) (w : World) (hs : s.size ≤ 1000000) :
    Calls Tryz.prog 17 #[.string s] w fun e w' => e = .returned (.string (bestN s)) ∧ Ext [] w w' := by
  have HW := Lib.hid (fun k w => way_walk k s w hs)
  obtain ⟨R, hR⟩ : ∃ R, bestN s = R := ⟨_, rfl⟩
  rw [hR]
  have HR := Lib.hid hR
  clear hR
  go_enter Tryz.func17, Tryz.ntmps17
  go_upto_region 2 with (refine wpList_store_row rfl 45 _ _ rfl w.heap.size fn3 rfl rfl 45 _ (heap_alloc_at _) (by kernel_rfl) rfl fn3_one ?_)
  obtain ⟨hX, hW⟩ := alloc_row w #[.nilFunc, .nilFunc, .nilFunc] fn3 45
  obtain ⟨W, hWW⟩ : ∃ W, (w.alloc (.cells #[.nilFunc, .nilFunc, .nilFunc] 45)).setRow w.heap.size fn3 = W := ⟨_, rfl⟩
  obtain ⟨b, hb⟩ : ∃ b, w.heap.size = b := ⟨_, rfl⟩
  simp only [hWW] at hW hX ⊢
  simp only [hb] at hW ⊢
  have hat : ∀ (k : Nat) (A : World), k < 3 → Ext [] W A → A.cell? ⟨b, k, none⟩ = some (fnV k) := fun k A hk hx => by
    have h := hx.keep hW (by simp)
    rw [cellOf h k, fn3_at k hk]
  have HAT := Lib.hid hat
  have HX := Lib.hid hX
  clear hWW hat hX hb hW
  have c0 : W.cell? ⟨b, 0, none⟩ = some (.func (.func 21) #[] #[]) := HAT.out 0 W (by omega) (Ext.refl _ _)
  go_wp2_with fail
  refine (HW.out 0 W).mono ?_
  rintro e w1 ⟨rfl, hx1⟩
  have HX1 := Lib.hid hx1
  clear hx1 c0
  go_wp2_with fail
  go_loopg [4, 15] 2 (fun g rv iv wr => ∃ k : Nat, g + k = 2 ∧ iv = .int .i64 k ∧ rv = .string (bestK s k) ∧ Ext [] W wr)
  case atStart => exact ⟨0, by omega, rfl, rfl, HX1.out⟩
  case round =>
    obtain ⟨k, hgk, rfl, rfl, hx⟩ := hrel
    have HX2 := Lib.hid hx
    clear hx
    rcases (by omega : k = 0 ∨ k = 1 ∨ k = 2) with rfl | rfl | rfl
    · obtain ⟨g, rfl⟩ : ∃ g, gk = g + 1 := ⟨gk - 1, by omega⟩
      obtain rfl : g = 1 := by omega
      have c1 : wr.cell? ⟨b, 1, none⟩ = some (.func (.func 22) #[] #[]) := HAT.out 1 wr (by omega) HX2.out
      have HBK := Lib.hid (show bestK s 1 = shortN (bestK s 0) (wayN 1 s) from rfl)
      obtain ⟨A, hA⟩ : ∃ A, bestK s 0 = A := ⟨_, rfl⟩
      obtain ⟨M, hM⟩ : ∃ M, wayN 1 s = M := ⟨_, rfl⟩
      rw [hA, hM] at HBK
      have HW1 := Lib.hid (HW.out 1)
      rw [hM] at HW1
      simp only [hA]
      have HBK := Lib.hid (show bestK s 1 = if M.size < A.size then M else A from HBK.out)
      clear hA hM
      go_wp2_with fail
      refine (HW1.out wr).mono ?_
      rintro e w2 ⟨rfl, hx2⟩
      have HX3 := Lib.hid (HX2.out.trans hx2)
      clear hx2 c1 HX2
      go_wp2_with fail
      · go_roundg 1
        case measure => omega
        case rel => exact ⟨1, by omega, rfl, by rw [HBK.out, if_pos (by omega)], HX3.out⟩
      · go_roundg 1
        case measure => omega
        case rel => exact ⟨1, by omega, rfl, by rw [HBK.out, if_neg (by omega)], HX3.out⟩
    · obtain ⟨g, rfl⟩ : ∃ g, gk = g + 1 := ⟨gk - 1, by omega⟩
      obtain rfl : g = 0 := by omega
      have c1 : wr.cell? ⟨b, 2, none⟩ = some (.func (.func 23) #[] #[]) := HAT.out 2 wr (by omega) HX2.out
      have HBK := Lib.hid (show bestK s 2 = shortN (bestK s 1) (wayN 2 s) from rfl)
      obtain ⟨A, hA⟩ : ∃ A, bestK s 1 = A := ⟨_, rfl⟩
      obtain ⟨M, hM⟩ : ∃ M, wayN 2 s = M := ⟨_, rfl⟩
      rw [hA, hM] at HBK
      have HW1 := Lib.hid (HW.out 2)
      rw [hM] at HW1
      simp only [hA]
      have HBK := Lib.hid (show bestK s 2 = if M.size < A.size then M else A from HBK.out)
      clear hA hM
      go_wp2_with fail
      refine (HW1.out wr).mono ?_
      rintro e w2 ⟨rfl, hx2⟩
      have HX3 := Lib.hid (HX2.out.trans hx2)
      clear hx2 c1 HX2
      go_wp2_with fail
      · go_roundg 0
        case measure => omega
        case rel => exact ⟨2, by omega, rfl, by rw [HBK.out, if_pos (by omega)], HX3.out⟩
      · go_roundg 0
        case measure => omega
        case rel => exact ⟨2, by omega, rfl, by rw [HBK.out, if_neg (by omega)], HX3.out⟩
    · rw [bestK_2, HR.out]
      go_wp2_with fail
      go_ret
      exact ⟨rfl, HX.out.trans HX2.out⟩
end Go.Proofs.YtnapnaaejignaaaGreat.De
