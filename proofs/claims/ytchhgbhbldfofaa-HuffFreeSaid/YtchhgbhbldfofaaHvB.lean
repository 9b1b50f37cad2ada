/-
  The document's 'take' (chapter 7) walked.
-/
import Derived.Test.YtchhgbhbldfofaaHvA
namespace Go.Proofs.Ytchhgbhbldfofaa.Hu
open Go.RowKit

/-! ### plain: where the least node stands -/
def mnF (L : List Nd) : Nat → Nat → Nat → Nat
  | 0, _, k => k
  | g + 1, i, k => mnF L g (i + 1) (if ndLt (L.getD i default) (L.getD k default) = true then i else k)
def mnI (L : List Nd) : Nat := mnF L (L.length - 1) 1 0
theorem mnF_spec (L : List Nd) : ∀ (g i k : Nat), i + g = L.length → k < i → (∀ j, j < i → ndLt (L.getD j default) (L.getD k default) = false) →
    mnF L g i k < L.length ∧ ∀ j, j < L.length → ndLt (L.getD j default) (L.getD (mnF L g i k) default) = false
  | 0, i, k, hi, hk, h => ⟨by rw [mnF]; omega, fun j hj => h j (by omega)⟩
  | g + 1, i, k, hi, hk, h => by
    rw [mnF]
    by_cases hlt : ndLt (L.getD i default) (L.getD k default) = true
    · rw [if_pos hlt]
      refine mnF_spec L g (i + 1) i (by omega) (by omega) (fun j hj => ?_)
      by_cases hji : j = i
      · subst hji; exact ndLt_irr _
      · exact ndLt_trans _ _ _ (h j (by omega)) (ndLt_asymm _ _ hlt)
    · rw [if_neg hlt]
      refine mnF_spec L g (i + 1) k (by omega) (by omega) (fun j hj => ?_)
      by_cases hji : j = i
      · subst hji; simpa using hlt
      · exact h j (by omega)
theorem mnI_spec (L : List Nd) (h0 : 0 < L.length) : mnI L < L.length ∧ ∀ j, j < L.length → ndLt (L.getD j default) (L.getD (mnI L) default) = false :=
  mnF_spec L _ 1 0 (by omega) (by omega) (fun j hj => (show j = 0 by omega) ▸ ndLt_irr _)
theorem perm_erase : ∀ (L : List Nd) (r : Nat), r < L.length → L.Perm (L.getD r default :: L.eraseIdx r)
  | a :: L, 0, _ => List.Perm.refl _
  | a :: L, r + 1, h => by
    have ih := perm_erase L r (by simpa using h)
    rw [List.eraseIdx_cons_succ]
    exact (ih.cons a).trans (List.Perm.swap _ _ _)
theorem mn_take {L S : List Nd} {a : Nd} (hp : L.Perm (a :: S)) (hs : Srt (a :: S)) : mnI L < L.length ∧ L.getD (mnI L) default = a ∧ (L.eraseIdx (mnI L)).Perm S := by
  have hl : 0 < L.length := by rw [hp.length_eq]; simp
  obtain ⟨h1, h2⟩ := mnI_spec L hl
  have he := perm_erase L (mnI L) h1
  have hm : L.getD (mnI L) default ∈ a :: S := hp.mem_iff.1 (he.mem_iff.2 (by simp))
  have ha : L.getD (mnI L) default = a := by
    rcases List.mem_cons.1 hm with h | h
    · exact h
    · have hlt : ndLt a (L.getD (mnI L) default) = true := (List.pairwise_cons.1 hs).1 _ h
      obtain ⟨j, hj⟩ := List.getElem?_of_mem (hp.mem_iff.2 (List.mem_cons_self (a := a) (l := S)))
      have hjl := (List.getElem?_eq_some_iff.1 hj).1
      have := h2 j hjl
      rw [show L.getD j default = a by rw [List.getD_eq_getElem?_getD, hj]; rfl, hlt] at this
      cases this
  refine ⟨h1, ha, ?_⟩
  rw [ha] at he
  exact (he.symm.trans hp).cons_inv
/-! ### nodes in memory -/
abbrev Zn := Nd × Value
def rowC (Z : List Zn) : List Value := Z.flatMap fun p => [iz p.1.cnt, .bool p.1.mk, iz p.1.age, p.2]
theorem rowC_len : ∀ Z : List Zn, (rowC Z).length = Z.length * 4
  | [] => rfl
  | p :: Z => by
    have e : rowC (p :: Z) = iz p.1.cnt :: .bool p.1.mk :: iz p.1.age :: p.2 :: rowC Z := by simp [rowC]
    rw [e]
    have := rowC_len Z
    simp only [List.length_cons]
    omega
theorem rowC_app (Z Y : List Zn) : rowC (Z ++ Y) = rowC Z ++ rowC Y := by simp [rowC]
theorem rowC_at (Z : List Zn) : ∀ (i : Nat) (p : Zn), Z[i]? = some p → (rowC Z)[i * 4]? = some (iz p.1.cnt) ∧ (rowC Z)[i * 4 + 1]? = some (.bool p.1.mk) ∧ (rowC Z)[i * 4 + 2]? = some (iz p.1.age) ∧ (rowC Z)[i * 4 + 3]? = some p.2 := by
  induction Z with
  | nil => intro i p h; simp at h
  | cons a Z ih =>
    intro i p h
    have e : rowC (a :: Z) = iz a.1.cnt :: .bool a.1.mk :: iz a.1.age :: a.2 :: rowC Z := by simp [rowC]
    rw [e]
    cases i with
    | zero => simp at h; subst h; simp
    | succ i =>
      have := ih i p (by simpa using h)
      rw [show (i + 1) * 4 = i * 4 + 4 by omega]
      exact this
theorem rowC_take (Z : List Zn) (k : Nat) : (rowC Z).take (k * 4) = rowC (Z.take k) := by
  by_cases h : k ≤ Z.length
  · have e : rowC Z = rowC (Z.take k) ++ rowC (Z.drop k) := by rw [← rowC_app, List.take_append_drop]
    rw [e, List.take_left' (by rw [rowC_len, List.length_take]; omega)]
  · rw [List.take_of_length_le (by rw [rowC_len]; omega), List.take_of_length_le (by omega)]
theorem rowC_drop (Z : List Zn) (k : Nat) : (rowC Z).drop (k * 4) = rowC (Z.drop k) := by
  by_cases h : k ≤ Z.length
  · have e : rowC Z = rowC (Z.take k) ++ rowC (Z.drop k) := by rw [← rowC_app, List.take_append_drop]
    rw [e, List.drop_left' (by rw [rowC_len, List.length_take]; omega)]
  · rw [List.drop_eq_nil_of_le (by rw [rowC_len]; omega), List.drop_eq_nil_of_le (by omega)]; rfl
theorem infoRNode : (Try.prog.info? 102).map (fun i => (i.zero, i.size, i.bytes)) = some (some (.agg #[.int .i64 0, .bool false, .int .i64 0, .slice none 0 0]), 4, 48) := by kernel_rfl
theorem info4 : (Try.prog.info? 102).map (·.size) = some 4 := by kernel_rfl
def isSl (v : Value) : Prop := ∃ a n c, v = .slice a n c
theorem rowC_one {Z : List Zn} (h : ∀ p ∈ Z, isSl p.2) : ∀ u ∈ rowC Z, u.oneCell' = true := fun u hu => by
  obtain ⟨p, hp, hu⟩ := List.mem_flatMap.1 hu
  obtain ⟨a, n, c, e⟩ := h p hp
  simp at hu
  rcases hu with rfl | rfl | rfl | rfl
  · rfl
  · rfl
  · rfl
  · rw [e]; rfl
theorem two_apps (W : World) (g k cap : Nat) (Z : List Zn) (a : Addr) (c1 c2 : Nat) (ha : cap ≠ k + 1 → a = ⟨g, (k + 1) * 4, none⟩) (hc : ∀ j u, (rowC Z)[j]? = some u → W.cell? ⟨g, j, none⟩ = some u) (hs : ∀ p ∈ Z, isSl p.2) (hk : k < Z.length) (hl : Z.length ≤ 1000) (hcap : Z.length ≤ cap) :
    ∃ v1 w1 v2 w2, (∀ ty, (Builtin.append_ #[100, 100] ty #[.slice (some ⟨W.heap.size, 0, none⟩) 0 0, .slice (some ⟨g, 0, none⟩) k c1]).run Try.prog (W.alloc (.cells #[] 102)) = .ok v1 w1) ∧ Ext [] W w1 ∧
      (∀ ty, (Builtin.append_ #[100, 100] ty #[v1, .slice (some a) (Z.length - (k + 1)) c2]).run Try.prog w1 = .ok v2 w2) ∧ Ext [] W w2 ∧
      w2.ownsRow 0 102 4 v2 (Z.length - 1) (rowC (Z.eraseIdx k)) ∧ ∀ q ∈ v2.ownBlock.toList, W.heap.size ≤ q := by
  obtain ⟨i0, hif, hz0, hz1, hz2⟩ := info_parts infoRNode
  have hxW : Ext [] W (W.alloc (.cells #[] 102)) := (Ext.refl _ W).alloc _
  have hE : (W.alloc (.cells #[] 102)).ownsRow 0 102 4 (.slice (some ⟨W.heap.size, 0, none⟩) 0 0) 0 [] :=
    ⟨rfl, .inr ⟨W.heap.size, 0, #[], rfl, Nat.zero_le _, heap_alloc_at _, Nat.le_refl _, by unfold maxLen; omega, rfl, rfl⟩⟩
  have hone := rowC_one hs
  have htl : (Z.take k).length = k := by rw [List.length_take]; omega
  obtain ⟨v1, w1, hr1, hown1, hgr1, _, hat1⟩ := run_append_own_at (P := Try.prog) (W.alloc (.cells #[] 102)) 0 100 0 102 i0 _ 4 48 Try.underlying100 hif hz0 hz1 hz2 rfl (by decide) _ 0 [] hE ⟨g, 0, none⟩ k c1 (rowC (Z.take k)) (by rw [rowC_len, htl])
    (fun j u hu => by
      rw [← rowC_take, List.getElem?_take] at hu
      split at hu
      · rw [Addr.add_mid, Nat.zero_add]
        exact Ext.cell hxW (hc j u hu)
      · cases hu) (fun u hu => hone u (by rw [← rowC_take] at hu; exact List.mem_of_mem_take hu)) (by unfold maxLen; omega) (by omega) (Nat.zero_le _)
  rw [Nat.zero_add, List.nil_append] at hown1
  have hx1 : Ext [] W w1 := hxW.trans' (T := [W.heap.size]) ((Ext.refl _ _).grown hgr1 (fun k hk => .inl (by simpa [Value.ownBlock] using hk.symm))) (fun i hi h => by simp at h; omega)
  have hsz1 : W.heap.size < (W.alloc (.cells #[] 102)).heap.size := by simp
  have hb1 : ∀ q ∈ v1.ownBlock.toList, W.heap.size ≤ q := fun q hq => by
    have hq : v1.ownBlock = some q := by simpa using hq
    rcases hat1 with e | e
    · rw [e] at hq; simp [Value.ownBlock] at hq; omega
    · rw [e] at hq; have := Option.some.inj hq; omega
  have hc1 : ∀ j u, (rowC Z)[j]? = some u → w1.cell? ⟨g, j, none⟩ = some u := fun j u hu => Ext.cell hx1 (hc j u hu)
  have hdl : (Z.drop (k + 1)).length = Z.length - (k + 1) := List.length_drop
  obtain ⟨v2, w2, hr2, hown2, hgr2, _, hat2⟩ := run_append_own_at (P := Try.prog) w1 0 100 0 102 i0 _ 4 48 Try.underlying100 hif hz0 hz1 hz2 rfl (by decide) v1 k _ hown1 a (Z.length - (k + 1)) c2 (rowC (Z.drop (k + 1))) (by rw [rowC_len, hdl])
    (fun j u hu => by
      have hj : j < (Z.length - (k + 1)) * 4 := by have := (List.getElem?_eq_some_iff.1 hu).1; rw [rowC_len, hdl] at this; exact this
      have ha := ha (by omega)
      subst ha
      rw [← rowC_drop, List.getElem?_drop] at hu
      rw [Addr.add_mid]
      exact hc1 _ u hu) (fun u hu => hone u (by rw [← rowC_drop] at hu; exact List.mem_of_mem_drop hu)) (by unfold maxLen; omega) (by omega) (Nat.zero_le _)
  refine ⟨v1, w1, v2, w2, fun _ => hr1, hx1, fun _ => hr2, ?_, ?_, ?_⟩
  · refine hx1.trans' (T := v1.ownBlock.toList) ((Ext.refl _ _).grown hgr2 (fun k hk => .inl (by simpa using hk))) (fun i hi h => ?_)
    have := hb1 i h
    omega
  · rw [List.eraseIdx_eq_take_drop_succ, rowC_app]
    have e : k + (Z.length - (k + 1)) = Z.length - 1 := by omega
    rw [e] at hown2
    exact hown2
  · intro q hq
    have hq' : v2.ownBlock = some q := by simpa using hq
    rcases hat2 with e | e
    · exact hb1 q (by rw [← e]; exact hq)
    · rw [e] at hq'
      have := Option.some.inj hq'
      have := hx1.size
      omega
theorem results_node {fn : Func} {p q : Tmp} (h : fn.results = #[.cell p 102, .tmp q]) (tmps : Array Value) (w : World) (g : Nat) (cs : Array Value) (v : Value) (hp : tmps.getD p undef = .pointer (some ⟨g, 0, none⟩)) (hq : tmps.getD q undef = v) (hg : w.heap[g]? = some (.cells cs 102 (0, 0))) (h4 : cs.size = 4) :
    (results fn tmps).run Try.prog w = .ok (.tuple #[.agg cs, v]) w := by
  have hp' : tmps[p]?.getD undef = .pointer (some ⟨g, 0, none⟩) := by simpa using hp
  have hq' : tmps[q]?.getD undef = v := by simpa using hq
  simp [results, h, hp', hq', asAddr, run_loadVar_row w g 102 102 cs (0, 0) _ hg Try.underlying102 rfl (by rw [h4]; exact info4)]
set_option maxRecDepth 100000 in
set_option maxHeartbeats 1000000 in
theorem take_walk (v : Value) (Z : List Zn) (w : World) (hv : w.ownsRow 0 102 4 v Z.length (rowC Z)) (hs : ∀ p ∈ Z, isSl p.2) (h0 : 0 < Z.length) (hl : Z.length ≤ 1000) :
    Calls Try.prog 53 #[v] w fun e w' => ∃ v', e = .returned (.tuple #[rnV (Z.getD (mnI (Z.map (·.1))) default).1 (Z.getD (mnI (Z.map (·.1))) default).2, v']) ∧ Ext [] w w' ∧
      w'.ownsRow 0 102 4 v' (Z.length - 1) (rowC (Z.eraseIdx (mnI (Z.map (·.1))))) ∧ ∀ k ∈ v'.ownBlock.toList, w.heap.size ≤ k := by
  obtain ⟨i0, hif, hz0, hz1, hz2⟩ := info_parts infoRNode
  obtain ⟨g, cap, rfl⟩ : ∃ g cap, v = .slice (some ⟨g, 0, none⟩) Z.length cap := by
    rcases hv.2 with ⟨_, h⟩ | ⟨g, cap, cur, rfl, _⟩
    · omega
    · exact ⟨g, cap, rfl⟩
  have hcap : Z.length ≤ cap := by
    rcases hv.2 with ⟨_, h⟩ | ⟨g2, cap2, cur, he, _, _, h, _⟩
    · omega
    · injection he with _ _ h3; omega
  have HV := Lib.hid (⟨hv, hs⟩ : _ ∧ _)
  obtain ⟨R, hR⟩ : ∃ R, mnI (Z.map (·.1)) = R := ⟨_, rfl⟩
  have hRl : R < Z.length := by
    have := (mnI_spec (Z.map (·.1)) (by simpa using h0)).1
    rw [hR] at this
    simpa using this
  rw [hR]
  have HR := Lib.hid (show mnF (Z.map (·.1)) (Z.length - 1) 1 0 = R by rw [← hR, mnI, List.length_map])
  have HRL := Lib.hid hRl
  clear hv hs hR hRl
  go_enter Try.func53, Try.ntmps53
  go_wp2_with fail
  go_loopg [4, 5] (Z.length - 1) (fun gk kv iv wr => ∃ i k : Nat, i + gk = Z.length ∧ k < i ∧ iv = .int .i64 i ∧ kv = .int .i64 k ∧ mnF (Z.map (·.1)) gk i k = R ∧ Ext [] w wr ∧ wr.heap[w.heap.size]? = some (.cells #[.int .i64 0, .bool false, .int .i64 0, .slice none 0 0] 102 (0, 0)))
  case atStart => exact ⟨1, 0, by omega, by omega, rfl, rfl, HR.out, (Ext.refl [] w).alloc _, heap_alloc_at _⟩
  case round =>
    clear HR
    obtain ⟨i, k, hi, hki, rfl, rfl, hR, hx, hbx⟩ := hrel
    by_cases hil : i < Z.length
    · obtain ⟨gk', rfl⟩ : ∃ g', gk = g' + 1 := ⟨gk - 1, by omega⟩
      obtain ⟨p, hp⟩ : ∃ p, Z[i]? = some p := ⟨_, List.getElem?_eq_getElem hil⟩
      obtain ⟨q, hq⟩ : ∃ q, Z[k]? = some q := ⟨_, List.getElem?_eq_getElem (by omega)⟩
      have hpd : (Z.map (·.1)).getD i default = p.1 := by rw [List.getD_eq_getElem?_getD, List.getElem?_map, hp]; rfl
      have hqd : (Z.map (·.1)).getD k default = q.1 := by rw [List.getD_eq_getElem?_getD, List.getElem?_map, hq]; rfl
      rw [mnF, hpd, hqd] at hR
      obtain ⟨pa, pn, pc, hpv⟩ := HV.out.2 p (List.mem_of_getElem? hp)
      obtain ⟨qa, qn, qc, hqv⟩ := HV.out.2 q (List.mem_of_getElem? hq)
      obtain ⟨r0, r1, r2, r3⟩ := rowC_at Z i p hp
      obtain ⟨s0, s1, s2, s3⟩ := rowC_at Z k q hq
      have cell : ∀ (j : Nat) (u : Value), (rowC Z)[j]? = some u → ∀ z : Ex wr, z.w.cell? ⟨g, j, none⟩ = some u := fun j u hu z => Ext.cell z.ext (Ext.cell hx (by simpa [Addr.add_lit] using HV.out.1.cells (g := g) rfl j u hu))
      have p0 := cell _ _ r0
      have p1 := cell _ _ r1
      have p2 := cell _ _ r2
      have p3 := cell _ _ r3
      have q0 := cell _ _ s0
      have q1 := cell _ _ s1
      have q2 := cell _ _ s2
      have q3 := cell _ _ s3
      have HF := Lib.hid (⟨hR, hx, hbx, hpv, hqv⟩ : _ ∧ _ ∧ _ ∧ _ ∧ _)
      clear hR hx hbx r0 r1 r2 r3 s0 s1 s2 s3 cell hpd hqd hp hq hpv hqv
      go_wp2_with fail
      refine wp_region_ext (by kernel_rfl) (by kernel_rfl) ?_
      repeat (go_big_quiet_step ((go_at_call 60; refine Calls.ext_of (ahead_walk p.1 q.1 p.2 q.2 ⟨_, _, _, HF.out.2.2.2.1⟩ ⟨_, _, _, HF.out.2.2.2.2⟩ _))))
      refine wpQuiet_nil ?_
      clear p0 p1 p2 p3 q0 q1 q2 q3
      rintro _ ⟨z, rfl⟩
      have HX := Lib.hid (z.ext : Ext [] wr z.w)
      by_cases hlt : ndLt p.1 q.1 = true
      · rw [hlt]
        go_wp2_with fail
        go_roundg gk'
        case measure => omega
        case rel =>
          obtain ⟨hR, hx, hbx, _, _⟩ := HF.out
          rw [if_pos hlt] at hR
          exact ⟨i + 1, i, by omega, by omega, by go_num, by go_num, hR, hx.trans HX.out, HX.out.keep hbx (by simp)⟩
      · have hlf : ndLt p.1 q.1 = false := by simpa using hlt
        rw [hlf]
        go_wp2_with fail
        go_roundg gk'
        case measure => omega
        case rel =>
          obtain ⟨hR, hx, hbx, _, _⟩ := HF.out
          rw [if_neg hlt] at hR
          exact ⟨i + 1, k, by omega, by omega, by go_num, by go_num, hR, hx.trans HX.out, HX.out.keep hbx (by simp)⟩
    · obtain rfl : i = Z.length := by omega
      obtain rfl : gk = 0 := by omega
      rw [mnF] at hR
      subst hR
      have hkl := HRL.out
      obtain ⟨p, hp⟩ : ∃ p, Z[k]? = some p := ⟨_, List.getElem?_eq_getElem hkl⟩
      obtain ⟨pa, pn, pc, hpv⟩ := HV.out.2 p (List.mem_of_getElem? hp)
      obtain ⟨r0, r1, r2, r3⟩ := rowC_at Z k p hp
      have cell : ∀ (j : Nat) (u : Value), (rowC Z)[j]? = some u → ∀ z : Ex wr, z.w.cell? ⟨g, j, none⟩ = some u := fun j u hu z => Ext.cell z.ext (Ext.cell hx (by simpa [Addr.add_lit] using HV.out.1.cells (g := g) rfl j u hu))
      have p0 := cell _ _ r0
      have p1 := cell _ _ r1
      have p2 := cell _ _ r2
      have p3 := cell _ _ r3
      have k0 : (0 : Int) ≤ (k : Int) := by omega
      have k1 : (k : Int) < (Z.length : Int) := by omega
      have k2 : (k : Int) + 1 ≤ (Z.length : Int) := by omega
      have k3 : (k : Int) ≤ (cap : Int) := by omega
      have HF := Lib.hid (⟨hx, hbx, hpv, hp⟩ : _ ∧ _ ∧ _ ∧ _)
      clear hx hbx r0 r1 r2 r3 cell hp hpv
      go_wp2_with fail
      refine wp_region_perm (C := fun w' => ∃ x : Ex wr, w' = x.w) [0, 1, 2, 3, 5, 6, 7, 9, 10, 11, 12] 14 (by kernel_rfl) (by kernel_rfl) ⟨Ex.mk _ ((Ext.refl [] wr).drew), rfl⟩ ?_
      simp only [pick, List.getElem?_toArray, List.getElem?_cons_zero, List.getElem?_cons_succ, List.drop_succ_cons, List.drop_zero]
      by_cases hck : cap = k + 1
      · subst hck
        have HCAP := Lib.hid hcap
        clear hcap
        repeat (go_big_quiet_step (fail))
        refine wpQuiet_nil ?_
        clear p0 p1 p2 p3
        have hA := two_apps wr.drew g k (k + 1) Z ⟨g, 0, none⟩ (k + 1) 0 (fun h => by first | rfl | (exact absurd rfl h)) (fun j u hu => Ext.cell ((Ext.refl [] wr).drew) (Ext.cell HF.out.1 (by simpa [Addr.add_lit] using HV.out.1.cells (g := g) rfl j u hu))) HV.out.2 hkl hl HCAP.out
        obtain ⟨v1, w1, v2, w2, a1, x1, a2, x2, o2, b2⟩ := hA
        have HA := Lib.hid (⟨a1, a2⟩ : _ ∧ _)
        have x1 := ((Ext.refl [] wr).drew).trans x1
        have x2 := ((Ext.refl [] wr).drew).trans x2
        have HX2 := Lib.hid (⟨x2, o2, b2⟩ : _ ∧ _ ∧ _)
        clear a1 a2 o2 b2
        refine anyC_one (f := 2) (i := 4) (by kernel_rfl) (by decide) rfl rfl (fun K hK => ?_)
        go_wp2_with fail
        refine hK _ _ ⟨Ex.mk _ ((Ext.refl _ wr).drew.alloc _), rfl⟩ ?_
        clear hK K
        refine anyC_one (f := 1) (i := 8) (by kernel_rfl) (by decide) rfl rfl (fun K hK => ?_)
        refine wp_append_run _ _ _ _ rfl rfl rfl (HA.out.1 100) ?_
        refine hK _ _ ⟨Ex.mk _ x1, rfl⟩ ?_
        clear hK K
        refine anyC_one (f := 0) (i := 13) (by kernel_rfl) (by decide) rfl rfl (fun K hK => ?_)
        refine wp_append_run (v := v1) (xv := .slice (some ⟨g, 0, none⟩) (Z.length - (k + 1)) 0) (r := v2) (w' := w2) _ _ _ _ rfl rfl rfl (HA.out.2 100) ?_
        refine hK _ _ ⟨Ex.mk _ x2, rfl⟩ ?_
        clear hK K x1 x2
        refine anyC_end (by kernel_rfl) ?_
        have hb2 : w2.heap[w.heap.size]? = some (.cells #[.int .i64 0, .bool false, .int .i64 0, .slice none 0 0] 102 (0, 0)) := HX2.out.1.keep HF.out.2.1 (by simp)
        have HB2 := Lib.hid hb2
        clear hb2
        go_wp2_with (first | (refine wpList_store_row rfl 102 _ _ rfl w.heap.size #[iz p.1.cnt, .bool p.1.mk, iz p.1.age, p.2] rfl rfl 102 _ HB2.out (by exact info4) rfl (by simp [HF.out.2.2.1, Value.oneCell']) ?_))
        refine NoPanic.normal ?_
        go_wp2_with fail
        have hpd : Z.getD k default = p := by rw [List.getD_eq_getElem?_getD, HF.out.2.2.2]; rfl
        refine bodyPost_ret (results_node rfl _ _ w.heap.size #[iz p.1.cnt, .bool p.1.mk, iz p.1.age, p.2] v2 rfl rfl (setRow_heap9 HB2.out) rfl) rfl ⟨v2, by rw [hpd]; rfl, ?_, ?_, ?_⟩
        · exact ext_setRow (HF.out.1.trans HX2.out.1) w.heap.size _ (.inr (Nat.le_refl _))
        · have hne : ∀ q ∈ v2.ownBlock.toList, q ∉ [w.heap.size] := fun q hq h => by
            have h1 := HX2.out.2.2 q hq
            have h2 := lt_of_block HF.out.2.1
            rw [List.mem_singleton] at h
            rw [h] at h1
            exact absurd h2 (by simp at h1; omega)
          exact ownsRow_ext HX2.out.2.1 (ext_setRow (Ext.refl [w.heap.size] w2) w.heap.size _ (.inl (by simp))) (fun q hq => hne q (by simp [hq]))
        · intro q hq
          have h1 := HX2.out.2.2 q hq
          have h2 := HF.out.1.size
          have h3 : wr.drew.heap.size = wr.heap.size := rfl
          omega
      · repeat (go_big_quiet_step (fail))
        refine wpQuiet_nil ?_
        clear p0 p1 p2 p3
        have hA := two_apps wr.drew g k cap Z ⟨g, (k + 1) * 4, none⟩ cap (cap - (k + 1)) (fun h => by first | rfl | (exact absurd rfl h)) (fun j u hu => Ext.cell ((Ext.refl [] wr).drew) (Ext.cell HF.out.1 (by simpa [Addr.add_lit] using HV.out.1.cells (g := g) rfl j u hu))) HV.out.2 hkl hl hcap
        obtain ⟨v1, w1, v2, w2, a1, x1, a2, x2, o2, b2⟩ := hA
        have HA := Lib.hid (⟨a1, a2⟩ : _ ∧ _)
        have x1 := ((Ext.refl [] wr).drew).trans x1
        have x2 := ((Ext.refl [] wr).drew).trans x2
        have HX2 := Lib.hid (⟨x2, o2, b2⟩ : _ ∧ _ ∧ _)
        clear a1 a2 o2 b2
        refine anyC_one (f := 2) (i := 4) (by kernel_rfl) (by decide) rfl rfl (fun K hK => ?_)
        go_wp2_with fail
        refine hK _ _ ⟨Ex.mk _ ((Ext.refl _ wr).drew.alloc _), rfl⟩ ?_
        clear hK K
        refine anyC_one (f := 1) (i := 8) (by kernel_rfl) (by decide) rfl rfl (fun K hK => ?_)
        refine wp_append_run _ _ _ _ rfl rfl rfl (HA.out.1 100) ?_
        refine hK _ _ ⟨Ex.mk _ x1, rfl⟩ ?_
        clear hK K
        refine anyC_one (f := 0) (i := 13) (by kernel_rfl) (by decide) rfl rfl (fun K hK => ?_)
        refine wp_append_run (v := v1) (xv := .slice (some ⟨g, (k + 1) * 4, none⟩) (Z.length - (k + 1)) (cap - (k + 1))) (r := v2) (w' := w2) _ _ _ _ rfl rfl rfl (HA.out.2 100) ?_
        refine hK _ _ ⟨Ex.mk _ x2, rfl⟩ ?_
        clear hK K x1 x2
        refine anyC_end (by kernel_rfl) ?_
        have hb2 : w2.heap[w.heap.size]? = some (.cells #[.int .i64 0, .bool false, .int .i64 0, .slice none 0 0] 102 (0, 0)) := HX2.out.1.keep HF.out.2.1 (by simp)
        have HB2 := Lib.hid hb2
        clear hb2
        go_wp2_with (first | (refine wpList_store_row rfl 102 _ _ rfl w.heap.size #[iz p.1.cnt, .bool p.1.mk, iz p.1.age, p.2] rfl rfl 102 _ HB2.out (by exact info4) rfl (by simp [HF.out.2.2.1, Value.oneCell']) ?_))
        refine NoPanic.normal ?_
        go_wp2_with fail
        have hpd : Z.getD k default = p := by rw [List.getD_eq_getElem?_getD, HF.out.2.2.2]; rfl
        refine bodyPost_ret (results_node rfl _ _ w.heap.size #[iz p.1.cnt, .bool p.1.mk, iz p.1.age, p.2] v2 rfl rfl (setRow_heap9 HB2.out) rfl) rfl ⟨v2, by rw [hpd]; rfl, ?_, ?_, ?_⟩
        · exact ext_setRow (HF.out.1.trans HX2.out.1) w.heap.size _ (.inr (Nat.le_refl _))
        · have hne : ∀ q ∈ v2.ownBlock.toList, q ∉ [w.heap.size] := fun q hq h => by
            have h1 := HX2.out.2.2 q hq
            have h2 := lt_of_block HF.out.2.1
            rw [List.mem_singleton] at h
            rw [h] at h1
            exact absurd h2 (by simp at h1; omega)
          exact ownsRow_ext HX2.out.2.1 (ext_setRow (Ext.refl [w.heap.size] w2) w.heap.size _ (.inl (by simp))) (fun q hq => hne q (by simp [hq]))
        · intro q hq
          have h1 := HX2.out.2.2 q hq
          have h2 := HF.out.1.size
          have h3 : wr.drew.heap.size = wr.heap.size := rfl
          omega
end Go.Proofs.Ytchhgbhbldfofaa.Hu
