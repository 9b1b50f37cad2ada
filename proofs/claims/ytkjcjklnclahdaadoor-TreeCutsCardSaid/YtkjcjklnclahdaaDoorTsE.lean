/-
  tree: plain: what TreeCuts asks of a tree.
-/
import Derived.Test.YtkjcjklnclahdaaDoorTsD
import Derived.Test.YtkjcjklnclahdaaDoorTrU
namespace Go.Proofs.YtkjcjklnclahdaaDoor.Tr
open Go.RowKit

theorem foldl_max_ge : ∀ (D : List Int) (a : Int), a ≤ D.foldl max a ∧ ∀ x ∈ D, x ≤ D.foldl max a
  | [], a => ⟨Int.le_refl _, by simp⟩
  | y :: D, a => by
    obtain ⟨h1, h2⟩ := foldl_max_ge D (max a y)
    rw [List.foldl_cons]
    refine ⟨by omega, fun x hx => ?_⟩
    rcases List.mem_cons.1 hx with rfl | hx
    · omega
    · exact h2 x hx
theorem foldl_max_le : ∀ (D : List Int) (a M : Int), a ≤ M → (∀ x ∈ D, x ≤ M) → D.foldl max a ≤ M
  | [], a, M, h, _ => h
  | y :: D, a, M, h, hD => by
    have := hD y (by simp)
    rw [List.foldl_cons]
    exact foldl_max_le D _ M (by omega) (fun x hx => hD x (by simp [hx]))
theorem le_maxOf {D : List Int} {x : Int} (h : x ∈ D) : x ≤ Lib.maxOf D := (foldl_max_ge D _).2 x h
theorem maxOf_le {D : List Int} {M : Int} (h0 : D ≠ []) (h : ∀ x ∈ D, x ≤ M) : Lib.maxOf D ≤ M := by
  obtain _ | ⟨y, D⟩ := D
  · exact absurd rfl h0
  · exact foldl_max_le _ _ _ (h y (by simp)) h
theorem bare_move (b : Int) (x : Nd) : bareN (moveN b x) = bareN x := by
  unfold bareN moveN
  simp only [List.length_map]
theorem cut_nd {l : List Nd} {p e : Nat} {c : Int} (he : e ≤ l.length) (h0 : 0 ≤ c) (h1 : c < ((cutN l p e).length : Int)) : ndAt (cutN l p e) c = moveN (-(p : Int)) (ndAt l (c + p)) := by
  obtain ⟨a, rfl⟩ : ∃ a : Nat, c = (a : Int) := ⟨c.toNat, by omega⟩
  have hl := cut_len (p := p) he
  have ha : a < (cutN l p e).length := by omega
  rw [ndAt, ndAt, Int.toNat_natCast, show ((a : Int) + (p : Int)).toNat = p + a by omega, List.getD_eq_getElem?_getD, List.getD_eq_getElem?_getD, cutN, List.getElem?_map, List.getElem?_drop, List.getElem?_take, if_pos (by omega), List.getElem?_eq_getElem (show p + a < l.length by omega)]
  rfl
theorem rises_cut {l : List Nd} {p e : Nat} (he : e ≤ l.length) : ∀ (pr : Option ByteArray) (L : List Int), (∀ k ∈ L, 0 ≤ k + -(p : Int) ∧ k + -(p : Int) < ((cutN l p e).length : Int)) → risesN (cutN l p e) pr (L.map (· + -(p : Int))) = risesN l pr L
  | _, [], _ => rfl
  | _, [_], _ => rfl
  | pr, k :: m :: r, h => by
    have hk := h k (by simp)
    have hn : ndAt (cutN l p e) (k + -(p : Int)) = moveN (-(p : Int)) (ndAt l k) := by
      rw [cut_nd he hk.1 hk.2, show k + -(p : Int) + (p : Int) = k by omega]
    rw [List.map_cons, List.map_cons, risesN, risesN, hn, rises_cut he _ r (fun q hq => h q (by simp [hq]))]
    rfl
/-- all that TreeCuts asks of a tree, but for its refs -/
structure CutsOk (l : List Nd) (p : Nat) : Prop where
  sub : checkN (subN l p) = 0
  fin : (endsN l).getD p 0 = (p : Int) + (subN l p).length
  all : (endsN l).getD 0 0 = l.length
  deep : depthN (subN l p) ≤ depthN l
  chain : chainP (endsN l) (kidsAt l p) ((p : Int) + 1) ((endsN l).getD p 0)
theorem cuts_ok {l : List Nd} {p : Nat} (hc : checkN l = 0) (hp : p < l.length) : CutsOk l p := by
  obtain ⟨h0, hn9, E2, D2, hsh, hmx, hall⟩ := check_zero hc
  have hsh0 := hsh
  obtain ⟨-, hE2, hD2, -, -⟩ := shape_some hsh
  have hends : endsN l = E2 := by rw [endsN, hsh]
  have hdeps : depsN l = D2 := by rw [depsN, hsh]
  obtain ⟨n, hn⟩ : ∃ n, l.length = n := ⟨_, rfl⟩
  rw [hn] at hp h0 hn9 hE2 hD2
  -- the whole run
  have hw : walkN l n 0 [] (zers n) (zers n) = some ([], E2, D2) := by
    rw [shapeN_is, hn] at hsh
    unfold shapeR at hsh
    split at hsh
    · rename_i E D hw
      rw [if_pos h0] at hsh
      injection hsh with hsh
      injection hsh with e1 e2
      rw [hw, e1, e2]
    · cases hsh
  have hne : D2 ≠ [] := fun h => by rw [h] at hD2; simp at hD2; omega
  have hpos : 1 ≤ Lib.maxOf D2 := by
    have h1 := walk_at (l := l) 0 n 0 [] _ _ hw (by simp)
    obtain ⟨g, hg⟩ : ∃ g, n = g + 1 := ⟨n - 1, by omega⟩
    rw [hg, walkN, comeN, if_neg (by omega)] at hw
    have hk := walk_keepD _ _ _ _ _ hw 0 (by omega)
    rw [List.getD_eq_getElem?_getD, List.getD_eq_getElem?_getD, List.getElem?_set_self (by rw [zers_len]; omega), List.getElem?_eq_getElem (show 0 < D2.length by omega)] at hk
    have := le_maxOf (List.getElem_mem (show 0 < D2.length by omega))
    simp only [Option.getD_some, List.length_nil] at hk
    rw [hk] at this
    omega
  obtain ⟨M, hMM⟩ : ∃ M : Nat, Lib.maxOf D2 = (M : Int) := ⟨(Lib.maxOf D2).toNat, by omega⟩
  have hM : ∀ x ∈ D2, x ≤ (M : Int) := fun x hx => by rw [← hMM]; exact le_maxOf hx
  -- the whole is one value
  have hroot : E2.getD 0 0 = (n : Int) := by
    obtain ⟨g, hg⟩ : ∃ g, n = g + 1 := ⟨n - 1, by omega⟩
    have hw0 := hw
    rw [hg] at hw0
    obtain ⟨U, j, g', E', D', v1, v2, v3, v4, v5, v6, v7, -⟩ := value_at (p := 0) hM (by omega) (hn.trans hg) (by omega) (by simp) (zers_len _) (zers_len _) hw0
    rw [comeN, if_neg (by omega)] at v1
    injection v1 with v1
    subst v1
    rw [v5]
    obtain _ | g' := g'
    · omega
    · rw [closeN] at v4
      unfold walkN at v4
      rw [comeN, if_pos (by omega)] at v4
      cases v4
  -- the value at p
  obtain ⟨g, hg⟩ : ∃ g, n = g + 1 + p := ⟨n - 1 - p, by omega⟩
  have hw1 := hw
  rw [hg] at hw1
  obtain ⟨T, E, D, w1, w2, w3, w4⟩ := walk_at p (g + 1) 0 [] _ _ hw1 (by simp)
  rw [Nat.zero_add] at w1 w2
  rw [zers_len, ← hg] at w3 w4
  obtain ⟨U, j, g', E', D', v1, v2, v3, v4, v5, v6, v7, v8, E3, D3, v9, v10⟩ := value_at (p := p) hM (by omega) hn (by omega) w2 w3 w4 w1
  have hjl : j + 1 ≤ l.length := by omega
  have hsub : subN l p = cutN l p (j + 1) := by
    rw [subN, hsh0]
    simp only
    rw [v5, show ((j : Int) + 1).toNat = j + 1 by omega]
    rfl
  have hsl : (cutN l p (j + 1)).length = j + 1 - p := cut_len hjl
  obtain ⟨s0, sE, sD, sK, -⟩ := shape_some v9
  have hD3 : D3 ≠ [] := fun h => by rw [h] at sD; simp at sD; omega
  have hmx3 : Lib.maxOf D3 ≤ (M : Int) := maxOf_le hD3 v10
  have hck : checkN (cutN l p (j + 1)) = 0 := by
    have ha : (cutN l p (j + 1)).all (nodeOk (cutN l p (j + 1))) = true := by
      rw [List.all_eq_true]
      intro y hy
      obtain ⟨a, ha, hka⟩ := kidsAt_mem hy
      have hy2 := hy
      rw [cutN] at hy2
      obtain ⟨x, hx, rfl⟩ := List.mem_map.1 hy2
      have hxl : x ∈ l := List.mem_of_mem_take (List.mem_of_mem_drop hx)
      have hok := List.all_eq_true.1 hall x hxl
      rw [nodeOk] at hok ⊢
      rw [bare_move]
      have hkr : ∀ k ∈ x.kids, 0 ≤ k + -(p : Int) ∧ k + -(p : Int) < ((cutN l p (j + 1)).length : Int) := fun k hk => by
        have hm : k + -(p : Int) ∈ (moveN (-(p : Int)) x).kids := List.mem_map_of_mem (f := (· + -(p : Int))) hk
        rw [← hka] at hm
        obtain ⟨jj, hjj⟩ := List.getElem?_of_mem hm
        have := sK a ha jj _ hjj
        omega
      have hr : risesN (cutN l p (j + 1)) none (moveN (-(p : Int)) x).kids = risesN l none x.kids := rises_cut hjl none x.kids hkr
      have hlen : (moveN (-(p : Int)) x).kids.length = x.kids.length := List.length_map _
      rw [hr, hlen]
      exact hok
    unfold checkN
    rw [if_neg (by rw [hsl]; omega), v9]
    simp only
    rw [if_neg (by omega), if_pos ha]
  refine ⟨by rw [hsub]; exact hck, by rw [hends, v5, hsub, hsl]; omega, by rw [hends, hroot, hn], ?_, ?_⟩
  · rw [hsub, depthN, depthN, if_pos hck, if_pos hc, hdeps, hMM, depsN, v9]
    exact hmx3
  · rw [hends]
    cases hkd : kidsAt l p with
    | nil =>
      rw [chainP, v5, v8 hkd]
    | cons k r =>
      have hlen : 0 < (kidsAt l p).length := by rw [hkd]; simp
      have hU := come_lt (b := p) w2 v1
      have w5 := w1
      unfold walkN at w5
      rw [v1] at w5
      simp only at w5
      have hst : closeN l p ((p, 0) :: U) E = ((p, 0) :: U, E) := by rw [closeN, if_pos hlen]
      rw [hst] at w5
      have := chain_at hM (by omega) hn hU ((kidsAt l p).length - 1) 0 g (p + 1) E _ (by omega) (by omega) (by omega) w3 (by rw [List.length_set, w4]) w5
      rw [List.drop_zero, hkd, show ((p + 1 : Nat) : Int) = (p : Int) + 1 by omega] at this
      exact this
end Go.Proofs.YtkjcjklnclahdaaDoor.Tr
