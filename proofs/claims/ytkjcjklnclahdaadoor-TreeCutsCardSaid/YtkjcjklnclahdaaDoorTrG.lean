/-
  tree: plain: what shape tells of a row; what may be (Check).
-/
import Derived.Test.YtkjcjklnclahdaaDoorTrE
import Derived.Test.YtkjcjklnclahdaaDoorTrC
import Derived.Lib.Slices
namespace Go.Proofs.YtkjcjklnclahdaaDoor.Tr
open Go.RowKit

structure Inv (l : List Nd) (i : Nat) (T : List Fm) (E : List Int) : Prop where
  stk : ∀ p ∈ T, p.1 < i ∧ p.2 ≤ i
  kids : ∀ a, a < i → ∀ (j : Nat) (c : Int), (kidsAt l a)[j]? = some c → (∃ k, (a, k) ∈ T ∧ k ≤ j) ∨ ((a : Int) < c ∧ c < i)
  ends : ∀ a, a < i → (∃ k, (a, k) ∈ T) ∨ (((a : Int) < E.getD a 0 ∧ E.getD a 0 ≤ i) ∧ (kidsAt l a).length ≤ i)
theorem Inv.come {l : List Nd} {i : Nat} {T T2 : List Fm} {E : List Int} (h : Inv l i T E) (hc : comeN l i T = some T2) : Inv l (i + 1) ((i, 0) :: T2) E := by
  -- what the top turns into
  have key : (T2 = T) ∨ (∃ a k U, T = (a, k) :: U ∧ T2 = (a, k + 1) :: U ∧ (kidsAt l a)[k]? = some (i : Int)) := by
    cases T with
    | nil => rw [comeN] at hc; split at hc <;> simp_all
    | cons p U =>
      obtain ⟨a, k⟩ := p
      rw [comeN] at hc
      split at hc
      · split at hc
        · rename_i h2
          exact .inr ⟨a, k, U, rfl, by simpa using hc.symm, h2⟩
        · cases hc
      · exact .inl (by simpa using hc.symm)
  rcases key with rfl | ⟨a, k, U, rfl, rfl, hk⟩
  · refine ⟨fun p hp => ?_, fun b hb j c hj => ?_, fun b hb => ?_⟩
    · rcases List.mem_cons.1 hp with rfl | hp
      · exact ⟨Nat.lt_succ_self _, Nat.zero_le _⟩
      · exact ⟨Nat.lt_succ_of_lt (h.stk p hp).1, Nat.le_succ_of_le (h.stk p hp).2⟩
    · rcases Nat.lt_or_ge b i with q | q
      · rcases h.kids b q j c hj with ⟨k, h1, h2⟩ | ⟨h1, h2⟩
        · exact .inl ⟨k, by simp [h1], h2⟩
        · exact .inr ⟨h1, by omega⟩
      · obtain rfl : b = i := by omega
        exact .inl ⟨0, by simp, by omega⟩
    · rcases Nat.lt_or_ge b i with q | q
      · rcases h.ends b q with ⟨k, h1⟩ | ⟨h1, h2⟩
        · exact .inl ⟨k, by simp [h1]⟩
        · exact .inr ⟨by omega, by omega⟩
      · obtain rfl : b = i := by omega
        exact .inl ⟨0, by simp⟩
  · have ha := h.stk (a, k) (by simp)
    simp only at ha
    refine ⟨fun p hp => ?_, fun b hb j c hj => ?_, fun b hb => ?_⟩
    · simp only [List.mem_cons] at hp
      rcases hp with rfl | rfl | hp
      · exact ⟨Nat.lt_succ_self _, Nat.zero_le _⟩
      · exact ⟨Nat.lt_succ_of_lt ha.1, Nat.succ_le_succ ha.2⟩
      · exact ⟨Nat.lt_succ_of_lt (h.stk p (by simp [hp])).1, Nat.le_succ_of_le (h.stk p (by simp [hp])).2⟩
    · rcases Nat.lt_or_ge b i with q | q
      · rcases h.kids b q j c hj with ⟨k2, h1, h2⟩ | ⟨h1, h2⟩
        · rcases List.mem_cons.1 h1 with h3 | h3
          · injection h3 with h4 h5
            subst h4 h5
            have ha := ha.1
            by_cases hjk : j = k2
            · subst hjk
              rw [hk] at hj
              injection hj with hj
              exact .inr ⟨by omega, by omega⟩
            · exact .inl ⟨k2 + 1, by simp, by omega⟩
          · exact .inl ⟨k2, by simp [h3], h2⟩
        · exact .inr ⟨h1, by omega⟩
      · obtain rfl : b = i := by omega
        exact .inl ⟨0, by simp, by omega⟩
    · rcases Nat.lt_or_ge b i with q | q
      · rcases h.ends b q with ⟨k2, h1⟩ | ⟨h1, h2⟩
        · rcases List.mem_cons.1 h1 with h3 | h3
          · injection h3 with h4 h5
            subst h4 h5
            exact .inl ⟨k2 + 1, by simp⟩
          · exact .inl ⟨k2, by simp [h3]⟩
        · exact .inr ⟨by omega, by omega⟩
      · obtain rfl : b = i := by omega
        exact .inl ⟨0, by simp⟩
theorem Inv.close {l : List Nd} {i : Nat} : ∀ {T : List Fm} {E : List Int}, Inv l (i + 1) T E → i < E.length → Inv l (i + 1) (closeN l i T E).1 (closeN l i T E).2
  | [], E, h, _ => h
  | (a, k) :: T, E, h, hE => by
    unfold closeN
    split
    · exact h
    · rename_i hk
      have ha := h.stk (a, k) (by simp)
      simp only at ha
      refine Inv.close ⟨fun p hp => h.stk p (by simp [hp]), fun b hb j c hj => ?_, fun b hb => ?_⟩ (by simpa using hE)
      · rcases h.kids b hb j c hj with ⟨k2, h1, h2⟩ | h1
        · rcases List.mem_cons.1 h1 with h3 | h3
          · injection h3 with h4 h5
            subst h4 h5
            have := (List.getElem?_eq_some_iff.1 hj).1
            omega
          · exact .inl ⟨k2, h3, h2⟩
        · exact .inr h1
      · by_cases hab : b = a
        · subst hab
          refine .inr ⟨?_, by omega⟩
          rw [List.getD_eq_getElem?_getD, List.getElem?_set_self (by omega)]
          simp only [Option.getD_some]
          omega
        · rcases h.ends b hb with ⟨k2, h1⟩ | h1
          · rcases List.mem_cons.1 h1 with h3 | h3
            · injection h3 with h4 h5
              exact absurd h4 hab
            · exact .inl ⟨k2, h3⟩
          · refine .inr ?_
            refine ⟨?_, h1.2⟩
            rw [List.getD_eq_getElem?_getD, List.getElem?_set_ne (fun h => hab h.symm), ← List.getD_eq_getElem?_getD]
            exact h1.1
theorem walk_inv {l : List Nd} : ∀ (g i : Nat) (T : List Fm) (E D : List Int), g + i = l.length → E.length = l.length → Inv l i T E → ∀ {T2 : List Fm} {E2 D2 : List Int}, walkN l g i T E D = some (T2, E2, D2) → Inv l l.length T2 E2 ∧ E2.length = l.length ∧ D2.length = D.length
  | 0, i, T, E, D, hg, hE, h, T2, E2, D2, hw => by
    obtain rfl : i = l.length := by omega
    unfold walkN at hw
    injection hw with hw
    injection hw with h1 h2
    injection h2 with h2 h3
    subst h1 h2 h3
    exact ⟨h, hE, rfl⟩
  | g + 1, i, T, E, D, hg, hE, h, T2, E2, D2, hw => by
    unfold walkN at hw
    split at hw
    · cases hw
    · rename_i U hc
      have h2 := (h.come hc).close (by omega)
      have h3 := (close_len l i ((i, 0) :: U) E).2.1
      obtain ⟨r1, r2, r3⟩ := walk_inv g (i + 1) _ _ _ (by omega) (by rw [h3, hE]) h2 hw
      exact ⟨r1, r2, by rw [r3, List.length_set]⟩
theorem shape_some {l : List Nd} {E D : List Int} (h : shapeN l = some (E, D)) : 0 < l.length ∧ E.length = l.length ∧ D.length = l.length ∧ (∀ a, a < l.length → ∀ (j : Nat) (c : Int), (kidsAt l a)[j]? = some c → (a : Int) < c ∧ c < l.length) ∧ (∀ a, a < l.length → ((a : Int) < E.getD a 0 ∧ E.getD a 0 ≤ l.length) ∧ (kidsAt l a).length ≤ l.length) := by
  unfold shapeN at h
  split at h
  · rename_i E2 D2 hw
    split at h
    · rename_i h0
      injection h with h
      injection h with h1 h2
      subst h1 h2
      obtain ⟨r1, r2, r3⟩ := walk_inv l.length 0 [] _ _ (by omega) (zers_len _) ⟨by simp, by simp, by simp⟩ hw
      refine ⟨h0, r2, by rw [r3, zers_len], fun a ha j c hj => ?_, fun a ha => ?_⟩
      · rcases r1.kids a ha j c hj with ⟨k, h1, _⟩ | h1
        · cases h1
        · exact h1
      · rcases r1.ends a ha with ⟨k, h1⟩ | h1
        · cases h1
        · exact h1
    · cases h
  · cases h
/-! ### what may be -/
def ndAt (l : List Nd) (k : Int) : Nd := l.getD k.toNat ⟨0, 0, 0, ⟨#[]⟩, []⟩
def belowN : Option ByteArray → ByteArray → Bool
  | none, _ => true
  | some s, t => Op.bytesLess s.toList t.toList
/-- are those names, and do they rise? -/
def risesN (l : List Nd) : Option ByteArray → List Int → Bool
  | p, k :: _ :: r => decide ((ndAt l k).kind = 6) && belowN p (ndAt l k).s && risesN l (some (ndAt l k).s) r
  | _, _ => true
def nodeOk (l : List Nd) (x : Nd) : Bool := bareN x && (decide (x.kind ≠ 8) || (decide (x.kids.length % 2 = 0) && risesN l none x.kids))
/-- the number of Check's error -/
def checkN (l : List Nd) : Int :=
  if 65536 < l.length then 3 else
  match shapeN l with
  | none => 2
  | some (_, D) => if 256 < Lib.maxOf D then 3 else if l.all (nodeOk l) then 0 else 2
theorem rises_step (l : List Nd) (p : Option ByteArray) (L : List Int) (j : Nat) (hj : j + 1 < L.length) :
    risesN l p (L.drop j) = (decide ((ndAt l (L[j]'(by omega))).kind = 6) && belowN p (ndAt l (L[j]'(by omega))).s && risesN l (some (ndAt l (L[j]'(by omega))).s) (L.drop (j + 2))) := by
  rw [drop_at L j (by omega), drop_at L (j + 1) hj, risesN]
end Go.Proofs.YtkjcjklnclahdaaDoor.Tr
