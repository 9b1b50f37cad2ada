/-
  tree: the chapter's example, plain.
-/
import Derived.Test.YtkjcjklnclahdaaDoorTrX
import Derived.Test.YtkjcjklnclahdaaDoorTrS
namespace Go.Proofs.YtkjcjklnclahdaaDoor.Tr
open Go.RowKit
def nullNd : Nd := ⟨1, 0, 0, ⟨#[]⟩, []⟩
def numNd (n : Int) : Nd := ⟨3, n, 0, ⟨#[]⟩, []⟩
def exL : List Nd := [⟨8, 0, 0, ⟨#[]⟩, [1, 2, 3, 4]⟩, nameNd ⟨#[65]⟩, nullNd, nameNd ⟨#[66]⟩, numNd 1]
theorem nm_a : nameN ⟨#[65]⟩ = 0 := by rfl
theorem nm_b : nameN ⟨#[66]⟩ = 0 := by rfl
theorem sh_ex : shapeN exL = some ([5, 2, 3, 4, 5], [1, 2, 2, 2, 2]) := by rfl
theorem less_ab : Op.bytesLess (ByteArray.toList ⟨#[65]⟩) (ByteArray.toList ⟨#[66]⟩) = true := by
  rw [ByteArray.toList_eq, ByteArray.toList_eq]; rfl
theorem ck_ex : checkN exL = 0 := by
  unfold checkN
  rw [sh_ex]
  have e1 : bareN (nameNd ⟨#[65]⟩) = true := by simp [bareN, nameNd, nm_a]
  have e2 : bareN (nameNd ⟨#[66]⟩) = true := by simp [bareN, nameNd, nm_b]
  have e3 : bareN nullNd = true := by simp [bareN, nullNd]
  have e4 : bareN (numNd 1) = true := by simp [bareN, numNd]
  have e5 : bareN ⟨8, 0, 0, ⟨#[]⟩, [1, 2, 3, 4]⟩ = true := by simp [bareN]
  have e6 : risesN exL none [1, 2, 3, 4] = true := by
    show (decide ((6 : Int) = 6) && true && (decide ((6 : Int) = 6) && belowN (some ⟨#[65]⟩) ⟨#[66]⟩ && true)) = true
    rw [show belowN (some ⟨#[65]⟩) ⟨#[66]⟩ = true from less_ab]
    rfl
  have e7 : exL.all (nodeOk exL) = true := by
    show (nodeOk exL _ && (nodeOk exL _ && (nodeOk exL _ && (nodeOk exL _ && (nodeOk exL _ && true))))) = true
    have o1 : nodeOk exL ⟨8, 0, 0, ⟨#[]⟩, [1, 2, 3, 4]⟩ = true := by rw [nodeOk, e5]; simp [e6]
    have o2 : nodeOk exL (nameNd ⟨#[65]⟩) = true := by rw [nodeOk, e1]; rfl
    have o3 : nodeOk exL nullNd = true := by rw [nodeOk, e3]; rfl
    have o4 : nodeOk exL (nameNd ⟨#[66]⟩) = true := by rw [nodeOk, e2]; rfl
    have o5 : nodeOk exL (numNd 1) = true := by rw [nodeOk, e4]; rfl
    rw [o1, o2, o3, o4, o5]
    rfl
  rw [e7]
  rfl
theorem cmp_ba : cmpN ⟨#[66]⟩ ⟨#[65]⟩ = 1 := rfl
theorem cmp_ab : cmpN ⟨#[65]⟩ ⟨#[66]⟩ = -1 := rfl
theorem cmp_aa : cmpN ⟨#[65]⟩ ⟨#[65]⟩ = 0 := rfl
theorem nm_ex : namesN exL = [⟨#[65]⟩, ⟨#[66]⟩] := by
  have h : isN exL 8 = true := by rw [isN, ck_ex]; rfl
  rw [namesN, h]
  rfl
theorem get_ex : getN exL ⟨#[65]⟩ = some [nullNd] := by
  have h1 : findN [⟨#[65]⟩, ⟨#[66]⟩] ⟨#[65]⟩ = 0 := rfl
  have h2 : foundN [⟨#[65]⟩, ⟨#[66]⟩] ⟨#[65]⟩ = true := rfl
  rw [getN, nm_ex, h1, h2]
  have h3 : ((ndAt exL 0).kids.getD (2 * 0 + 1) 0).toNat = 2 := rfl
  rw [h3, if_pos rfl, subN, sh_ex]
  rfl
theorem one_ok {x : Nd} (hk : x.kids = []) (h8 : x.kind ≠ 8) (hb : bareN x = true) : checkN [x] = 0 := by
  have hs : shapeN [x] = some ([1], [1]) := by
    obtain ⟨a, b, c, d, e⟩ := x
    simp only at hk
    subst hk
    rfl
  unfold checkN
  rw [hs]
  have : [x].all (nodeOk [x]) = true := by simp [nodeOk, hb, h8]
  rw [this]
  rfl
theorem ck_null : checkN [nullNd] = 0 := one_ok rfl (by decide) (by simp [bareN, nullNd])
theorem ck_num : checkN [numNd 1] = 0 := one_ok rfl (by decide) (by simp [bareN, numNd])
theorem dict_ex : dictionN [⟨#[66]⟩, ⟨#[65]⟩] [[numNd 1], [nullNd]] = (exL, 0) := by
  have h1 : firstN [[numNd 1], [nullNd]] = 0 := by rw [firstN, ck_num, if_pos rfl, firstN, ck_null, if_pos rfl, firstN]
  have h2 : ([⟨#[66]⟩, ⟨#[65]⟩] : List ByteArray).any (fun s => decide (nameN s ≠ 0)) = false := by simp [nm_a, nm_b]
  rw [dictionN, h1, h2, if_neg (by simp), if_neg (by simp), dictN]
  have h3 : sortG (fun p : Ent => p.1) (([⟨#[66]⟩, ⟨#[65]⟩] : List ByteArray).zip [[numNd 1], [nullNd]]) = [(⟨#[65]⟩, [nullNd]), (⟨#[66]⟩, [numNd 1])] := rfl
  have h4 : twiceF none [(⟨#[65]⟩, [nullNd]), (⟨#[66]⟩, [numNd 1])] = false := by
    simp [twiceF, likeN, ByteArray.toList_eq]
  rw [h3, h4, if_neg (by simp)]
  have h5 : underN 8 (allN [(⟨#[65]⟩, [nullNd]), (⟨#[66]⟩, [numNd 1])]) = if checkN exL = 0 then (exL, 0) else ([], checkN exL) := rfl
  rw [h5, ck_ex, if_pos rfl]
end Go.Proofs.YtkjcjklnclahdaaDoor.Tr
