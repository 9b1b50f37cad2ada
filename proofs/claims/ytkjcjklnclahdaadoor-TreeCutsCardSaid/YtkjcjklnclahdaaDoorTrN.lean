/-
  tree: entries sorted by their names (at most 20 of them).
-/
import Derived.Test.YtkjcjklnclahdaaDoorTrI
import Derived.Test.YtkjcjklnclahdaaDoorShA
namespace Go.Proofs.YtkjcjklnclahdaaDoor.Tr
open Go.RowKit

/-- an entry: its name, its value as a slice -/
abbrev Et := ByteArray × Option Addr × Nat × Nat
def etC (l : List Et) : List Value := l.flatMap fun p => [.string p.1, .slice p.2.1 p.2.2.1 p.2.2.2]
theorem etC_len (T : List Et) : (etC T).length = T.length * 2 := by
  induction T with
  | nil => rfl
  | cons a l ih => rw [etC, List.flatMap_cons, List.length_append, ← etC, ih]; simp; omega
theorem etC_append (T U : List Et) : etC (T ++ U) = etC T ++ etC U := by unfold etC; rw [List.flatMap_append]
theorem etC_cons (p : Et) (U : List Et) : etC (p :: U) = .string p.1 :: .slice p.2.1 p.2.2.1 p.2.2.2 :: etC U := by simp [etC]
def oEt (v : Value) (l : List Et) : Ob := oSl 67 2 v l.length (etC l)
def cmpN (a b : ByteArray) : Int := Lib.compareBytes a.data.toList b.data.toList
/-- an entry is put among those that are sorted, the last one first -/
def insR (x : Et) : List Et → List Et
  | [] => [x]
  | y :: R => if cmpN x.1 y.1 < 0 then y :: insR x R else x :: y :: R
def sortR : List Et → List Et → List Et
  | acc, [] => acc
  | acc, x :: r => sortR (insR x acc) r
def sortN (l : List Et) : List Et := (sortR [] l).reverse
theorem insR_len (x : Et) : ∀ R, (insR x R).length = R.length + 1
  | [] => rfl
  | y :: R => by unfold insR; split <;> simp [insR_len x R]
theorem sortR_len : ∀ (r acc : List Et), (sortR acc r).length = acc.length + r.length
  | [], acc => rfl
  | x :: r, acc => by rw [sortR, sortR_len r, insR_len, List.length_cons]; omega
theorem sortN_len (l : List Et) : (sortN l).length = l.length := by rw [sortN, List.length_reverse, sortR_len]; simp
theorem et_cells {w : World} {g n cap : Nat} {P Q : List Et} {x : Et} (h : w.ownsRow 0 67 2 (.slice (some ⟨g, 0, none⟩) n cap) n (etC (P ++ x :: Q))) (m : Nat) (hm : P.length = m) :
    w.cell? ⟨g, m * 2, none⟩ = some (.string x.1) ∧ w.cell? ⟨g, m * 2 + 1, none⟩ = some (.slice x.2.1 x.2.2.1 x.2.2.2) ∧ w.frozen? ⟨g, m * 2, none⟩ = false ∧ w.frozen? ⟨g, m * 2 + 1, none⟩ = false := by
  subst hm
  rw [etC_append, etC_cons] at h
  have hl : (etC P).length = P.length * 2 := etC_len P
  refine ⟨row_cell h ?_, row_cell h ?_, row_free h _, row_free h _⟩
  · rw [List.getElem?_append_right (by omega), hl, Nat.sub_self]; rfl
  · rw [List.getElem?_append_right (by omega), hl, show P.length * 2 + 1 - P.length * 2 = 1 by omega]; rfl
theorem set4 : ∀ (A T : List Value) (a b c d a' b' c' d' : Value), ((((A ++ a :: b :: c :: d :: T).set (A.length + 2) c').set (A.length + 3) d').set A.length a').set (A.length + 1) b' = A ++ a' :: b' :: c' :: d' :: T
  | [], _, _, _, _, _, _, _, _, _ => rfl
  | z :: A, T, a, b, c, d, a', b', c', d' => by
    have := set4 A T a b c d a' b' c' d'
    rw [List.cons_append, List.length_cons, show A.length + 1 + 2 = A.length + 2 + 1 by omega, show A.length + 1 + 3 = A.length + 3 + 1 by omega, List.set_cons_succ, List.set_cons_succ, List.set_cons_succ, List.set_cons_succ, this]
    rfl
theorem et_swap {w : World} {g n cap : Nat} {P Q : List Et} {x y : Et} (h : w.ownsRow 0 67 2 (.slice (some ⟨g, 0, none⟩) n cap) n (etC (P ++ y :: x :: Q))) (m : Nat) (hm : P.length = m) :
    ((((w.setCell ⟨g, (m + 1) * 2, none⟩ (.string y.1)).setCell ⟨g, (m + 1) * 2 + 1, none⟩ (.slice y.2.1 y.2.2.1 y.2.2.2)).setCell ⟨g, m * 2, none⟩ (.string x.1)).setCell ⟨g, m * 2 + 1, none⟩ (.slice x.2.1 x.2.2.1 x.2.2.2)).ownsRow 0 67 2 (.slice (some ⟨g, 0, none⟩) n cap) n (etC (P ++ x :: y :: Q)) := by
  subst hm
  rw [show (P.length + 1) * 2 = P.length * 2 + 2 by omega]
  have h2 := row_put (row_put (row_put (row_put (i := P.length * 2 + 2) h (.string y.1)) (i := P.length * 2 + 3) (.slice y.2.1 y.2.2.1 y.2.2.2)) (i := P.length * 2) (.string x.1)) (i := P.length * 2 + 1) (.slice x.2.1 x.2.2.1 x.2.2.2)
  rw [etC_append, etC_cons, etC_cons, ← etC_len P, set4] at h2
  rw [etC_append, etC_cons, etC_cons, ← etC_len P]
  exact h2
set_option maxRecDepth 100000 in
set_option maxHeartbeats 2000000 in
theorem cmp_walk (a b : ByteArray) (va vb : Value) (w : World) : Calls Tryd.prog 63 #[.agg #[.string a, va], .agg #[.string b, vb]] w fun e w' => e = .returned (.int .i64 (cmpN a b)) ∧ Ext [] w w' := by
  have H := Lib.hid (fun w => Tryd.strings_Compare a b w)
  go_enter Tryd.func63, Tryd.ntmps63
  go_wp2_with fail
  refine (H.out _).mono ?_
  rintro e w' ⟨rfl, rfl⟩
  go_wp2_with fail
  go_ret
  exact ⟨rfl, ((Ext.refl [] w).alloc _).alloc _⟩
end Go.Proofs.YtkjcjklnclahdaaDoor.Tr
