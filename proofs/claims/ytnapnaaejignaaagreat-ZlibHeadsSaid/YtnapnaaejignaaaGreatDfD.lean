/-
  deflate, plain: a block of kind 2, and its unpacking. No program is in sight here.
-/
import Derived.Test.YtnapnaaejignaaaGreatDfC
namespace Go.Proofs.YtnapnaaejignaaaGreat.De
open Go.RowKit Bt Hu If Mt

/-! ### the tables of a text -/
def dA (s : ByteArray) : List Int := if s.size = 0 then (cntA (allN s)).set 0 1 else cntA (allN s)
def dD1 (s : ByteArray) : List Int := lensF 40 15 (dA s)
def dD2 (s : ByteArray) : List Int := lensF 40 15 (cntB (allN s))
def dT1 (s : ByteArray) : List Int := trimN 257 (dD1 s)
def dT2 (s : ByteArray) : List Int := trimN 1 (dD2 s)
def fqT (R : List Td) : List Int := R.foldl (fun f x => inc f x.1.toNat) (zers 19)
def dR (s : ByteArray) : List Td := rowW 0 (dT1 s ++ dT2 s)
def dO (s : ByteArray) : List Int := lensF 40 7 (fqT (dR s))
def ordO (O : List Int) : List Int := ordN.map fun i => O.getD i 0
def dTold (s : ByteArray) : List Int := trimN 4 (ordO (dO s))
def b3 (l : List Int) : List Nat := l.flatMap fun x => bitsOf false x.toNat 3
def headD3 (a b c : Nat) : List Nat := bitsOf false a 5 ++ (bitsOf false b 5 ++ bitsOf false c 4)
def dynB8 (s : ByteArray) : List Nat := bitsOf false 1 1 ++ (bitsOf false 2 2 ++ (bitsOf false ((dT1 s).length - 257) 5 ++ (bitsOf false ((dT2 s).length - 1) 5 ++ (bitsOf false ((dTold s).length - 4) 4 ++ (b3 (dTold s) ++ (rowB (dO s) (dR s) ++ pcsB (dT1 s) (dT2 s) (allN s)))))))
def dynN (s : ByteArray) : ByteArray := txt (packB false (dynB8 s))
/-! ### what the tables are -/
theorem some_two {l : List Int} {i k : Nat} (hik : i ≠ k) (hi : 0 < l.getD i 0) (hk : 0 < l.getD k 0) : 2 ≤ someN l := by
  have g : ∀ j, 0 < l.getD j 0 → l[j]? = some (l.getD j 0) := fun j hj => by
    rw [List.getD_eq_getElem?_getD] at hj ⊢
    cases h : l[j]? with
    | none => rw [h] at hj; simp at hj
    | some x => rfl
  have := leaves_two l i k hik _ _ (g i hi) (g k hk) hi hk
  rwa [leaves_some] at this
theorem err_none {f : List Int} {m : Int} (hr : Rg 1048576 f) (hl : f.length ≤ 288) (h1 : 1 ≤ m) (h2 : m ≤ 15) (hs : someN f ≤ 2 ^ m.toNat) : lensErr f m = false := by
  unfold lensErr
  rw [Bool.or_eq_false_iff, List.any_eq_false]
  refine ⟨fun x hx => ?_, decide_eq_false ?_⟩
  · have := hr x hx
    simp
    omega
  · omega
theorem lens_of {f : List Int} {m : Int} (hl : f.length ≤ 288) (he : lensErr f m = false) (hm : m ≤ 15) : Lengths f (lensF 40 m f) m :=
  lengths_of f m hm hl (fun c hc => ((lensErr_false he).1 c hc).1) (fit_all he)
theorem one_few (f : List Int) (m : Int) (h : ∀ c ∈ f, 0 ≤ c) (hf : fitB 40 m f = true) (hs : someN f ≤ 1) : (lensF 40 m f).sum ≤ 1 := by
  obtain ⟨f', h1, h2, h3, h4, h5, h6⟩ := lensF_shape m 40 f h hf
  rw [h5]
  have hz := leaves_some f' 0
  have zsum : ∀ n, (zers n).sum = 0 := fun n => by
    induction n with
    | zero => rfl
    | succ n ih => rw [show zers (n + 1) = 0 :: zers n by simp [zers, List.replicate_succ], List.sum_cons, ih]; rfl
  match hleaf : leavesF f' 0, hz with
  | [], _ =>
    rw [deepN_more (by rw [hleaf]; simp), hleaf]
    show (topD f'.length []).sum ≤ 1
    show (zers f'.length).sum ≤ 1
    rw [zsum]
    omega
  | [x], _ =>
    rw [deepN_one hleaf]
    by_cases hx : x.age < f'.length
    · rw [sum_set _ _ _ (by rw [zers_len]; exact hx), zsum]
      have : (zers f'.length).getD x.age 0 = 0 := by rw [List.getD_eq_getElem?_getD, zers, List.getElem?_replicate, if_pos hx]; rfl
      omega
    · rw [List.set_eq_of_length_le (by rw [zers_len]; omega), zsum]
      omega
  | a :: b :: L, hz => simp at hz; omega
structure TabOk (f T : List Int) (k : Nat) : Prop where
  len : k ≤ T.length ∧ T.length ≤ f.length
  rg : ∀ y ∈ T, 0 ≤ y ∧ y ≤ 15
  pos : ∀ i, 0 < f.getD i 0 → 0 < T.getD i 0
  ok : badL T = false ∧ kra T ≤ 32768
  full : 2 ≤ someN f → fullB T = true
  few : someN f ≤ 1 → fewB T = true
theorem tab_ok (f : List Int) (k : Nat) (hl : f.length ≤ 288) (hk : k ≤ f.length) (he : lensErr f 15 = false) : TabOk f (trimN k (lensF 40 15 f)) k := by
  have L := lens_of hl he (Int.le_refl _)
  have one := one_few f 15 (fun c hc => ((lensErr_false he).1 c hc).1) (fit_all he)
  obtain ⟨m, h1, h2, h3, h4⟩ := trimN_spec k (lensF 40 15 f)
  rw [L.len] at h2 h3
  rw [h1]
  have hkra := kra_take L.rng h4
  refine ⟨?_, fun y hy => L.rng y (List.mem_of_mem_take hy), fun i hi => ?_, ⟨bad_take8 L.bad m, by rw [hkra]; exact L.kra⟩, fun h => ?_, fun h => ?_⟩
  · rw [List.length_take, L.len]
    have := h3 hk
    omega
  · rw [take_getD h4]
    by_cases hif : i < f.length
    · exact (L.pos i hif).2 hi
    · rw [List.getD_eq_getElem?_getD, List.getElem?_eq_none (by omega)] at hi
      simp at hi
  · unfold fullB stateN
    rw [bad_take8 L.bad m, hkra, L.full h]
    rfl
  · unfold fewB
    refine decide_eq_true ?_
    rw [sum_take _ _ h4]
    exact one h
theorem cnts (s : ByteArray) : CntOk (allN s) (zers 286) (zers 30) 0 (cntL (allN s) (zers 286) (zers 30)) :=
  cnt_ok (allN s) (zers 286) (zers 30) 0 (chk_zero (allN_chk s)).1 (zers_len _) (zers_len _) (Int.le_refl _) (Rg.zers _) (Rg.zers _)
theorem zers_at (n i : Nat) : (zers n).getD i 0 = 0 := by
  rw [List.getD_eq_getElem?_getD, zers, List.getElem?_replicate]
  split <;> rfl
structure Asked (s : ByteArray) : Prop where
  l1 : (dA s).length = 286
  l2 : (cntB (allN s)).length = 30
  r1 : Rg (s.size + 1 : Nat) (dA s)
  r2 : Rg (s.size + 1 : Nat) (cntB (allN s))
  two : 2 ≤ someN (dA s)
  use : ∀ x ∈ allN s, PcUse (dA s) (cntB (allN s)) x
  end_ : 0 < (dA s).getD 256 0
theorem asked (s : ByteArray) : Asked s := by
  have C := cnts s
  have hl := allN_len s
  obtain ⟨c1, c2⟩ := chk_zero (allN_chk s)
  have ha1 : (cntA (allN s)).length = 286 := by unfold cntA; rw [inc_len]; exact C.len1
  have hrA : Rg ((s.size : Int) + 1) (cntA (allN s)) := (C.rg1.mono (by omega)).inc (by omega) 256
  have hrB : Rg ((s.size : Int) + 1) (cntB (allN s)) := C.rg2.mono (by omega)
  have hup : ∀ i, (cntL (allN s) (zers 286) (zers 30)).1.getD i 0 ≤ (cntA (allN s)).getD i 0 := fun i => inc_up _ _ _
  have h256 : 0 < (cntA (allN s)).getD 256 0 := by
    unfold cntA
    rw [inc_at, if_pos ⟨rfl, by rw [C.len1]; omega⟩]
    have := C.up1 256
    rw [zers_at] at this
    omega
  have hdA : dA s = cntA (allN s) ∨ (s.size = 0 ∧ dA s = (cntA (allN s)).set 0 1) := by
    unfold dA
    split
    · exact .inr ⟨by assumption, rfl⟩
    · exact .inl rfl
  have hup2 : ∀ i, 0 < (cntA (allN s)).getD i 0 → 0 < (dA s).getD i 0 := fun i hi => by
    rcases hdA with e | ⟨_, e⟩
    · rw [e]; exact hi
    · rw [e, getD_set]
      split
      · decide
      · exact hi
  have hl1 : (dA s).length = 286 := by
    rcases hdA with e | ⟨_, e⟩
    · rw [e]; exact ha1
    · rw [e, List.length_set]; exact ha1
  refine ⟨hl1, C.len2, ?_, ?_, ?_, fun x hx => ?_, hup2 _ h256⟩
  · rw [show ((s.size + 1 : Nat) : Int) = (s.size : Int) + 1 by omega]
    rcases hdA with e | ⟨_, e⟩
    · rw [e]; exact hrA
    · rw [e]
      intro x hx
      rcases mem_set_cases hx with h | rfl
      · exact hrA x h
      · omega
  · rw [show ((s.size + 1 : Nat) : Int) = (s.size : Int) + 1 by omega]
    exact hrB
  · rcases hdA with e | ⟨_, e⟩
    · cases hall : allN s with
      | nil =>
        have hz := allN_exp s
        rw [hall] at hz
        have hz2 : (B s).length = 0 := by rw [← hz]; rfl
        rw [B_len] at hz2
        unfold dA at e ⊢
        rw [if_pos hz2]
        refine some_two (i := 0) (k := 256) (by omega) ?_ ?_
        · rw [getD_set, if_pos ⟨rfl, by omega⟩]; decide
        · rw [getD_set, if_neg (by omega)]; exact h256
      | cons x l =>
        have hx0 : x.2.1 = 0 := by
          rw [hall] at c1 c2
          have hm := mayP_iff x (bad_cons c1).1
          rw [chkL] at c2
          split at c2
          · cases c2
          · omega
        have hu := (C.use x (by rw [hall]; simp)).1 hx0
        have hb := x.1.toNat_lt
        exact some_two (i := x.1.toNat) (k := 256) (by omega) (hup2 _ (Int.lt_of_lt_of_le hu (hup _))) (hup2 _ h256)
    · rw [e]
      refine some_two (i := 0) (k := 256) (by omega) ?_ ?_
      · rw [getD_set, if_pos ⟨rfl, by omega⟩]; decide
      · rw [getD_set, if_neg (by omega)]; exact h256
  · obtain ⟨u1, u2⟩ := C.use x hx
    exact ⟨fun h => hup2 _ (Int.lt_of_lt_of_le (u1 h) (hup _)), fun h => ⟨hup2 _ (Int.lt_of_lt_of_le (u2 h).1 (hup _)), (u2 h).2⟩⟩
theorem some_le (l : List Int) : someN l ≤ l.length := someN_le l
theorem tab1 (s : ByteArray) (hs : s.size ≤ 1000000) : TabOk (dA s) (dT1 s) 257 := by
  have A := asked s
  have := some_le (dA s)
  have hl := A.l1
  exact tab_ok _ _ (by omega) (by omega) (err_none (A.r1.mono (by omega)) (by omega) (by decide) (by decide) (by rw [show (2 : Nat) ^ (15 : Int).toNat = 32768 from rfl]; omega))
theorem tab2 (s : ByteArray) (hs : s.size ≤ 1000000) : TabOk (cntB (allN s)) (dT2 s) 1 := by
  have A := asked s
  have := some_le (cntB (allN s))
  have hl := A.l2
  exact tab_ok _ _ (by omega) (by omega) (err_none (A.r2.mono (by omega)) (by omega) (by decide) (by decide) (by rw [show (2 : Nat) ^ (15 : Int).toNat = 32768 from rfl]; omega))
/-! ### the row's symbols: two at least -/
theorem row_one (c : Int) (hc : c ≠ 16) : ∀ (k : Nat) (v : Int) (l : List Int), l.length ≤ k → (∀ x ∈ l, 0 ≤ x ∧ x ≤ 15) → (∀ x ∈ rowW v l, x.1 = c) → ∀ y ∈ l, y = if c ≤ 15 then c else 0
  | 0, v, l, hk, _, _, y, hy => by
    obtain rfl : l = [] := List.eq_nil_of_length_eq_zero (by omega)
    cases hy
  | k + 1, v, l, hk, hr, h, y, hy => by
    have hl : 0 < l.length := List.length_pos_of_mem hy
    have hs := sameN_pos l hl
    have hh := hr _ (List.mem_of_getElem? (headD_at l hl))
    by_cases h2 : 0 < v ∧ l.headD 0 = v ∧ 3 ≤ sameN l
    · rw [rowW_again v l hl h2] at h
      exact absurd (h _ (List.mem_cons_self ..)).symm hc
    · rw [rowW_same v l (fun h => h2 h.2), rowW_step l hl] at h
      have rec_ : ∀ (m : Nat) (v' : Int), 1 ≤ m → m ≤ sameN l → (∀ x ∈ rowW v' (l.drop m), x.1 = c) → l.headD 0 = (if c ≤ 15 then c else 0) → y = if c ≤ 15 then c else 0 := fun m v' hm hms hx he => by
        rw [take_same l m hms] at hy
        rcases List.mem_append.1 hy with hy | hy
        · rw [List.eq_of_mem_replicate hy]; exact he
        · exact row_one c hc k v' (l.drop m) (by rw [List.length_drop]; omega) (fun z hz => hr z (List.mem_of_mem_drop hz)) hx y hy
      by_cases h3 : 0 < l.headD 0 ∨ sameN l < 3
      · rw [if_pos h3] at h
        have e := h _ (List.mem_cons_self ..)
        have e : l.headD 0 = c := e
        exact rec_ 1 _ (by omega) hs (fun x hx => h x (List.mem_cons_of_mem _ hx)) (by rw [e, if_pos (by omega)])
      · rw [if_neg h3] at h
        by_cases h4 : sameN l < 11
        · rw [if_pos h4] at h
          have e : (17 : Int) = c := h _ (List.mem_cons_self ..)
          exact rec_ _ _ (by omega) (Nat.le_refl _) (fun x hx => h x (List.mem_cons_of_mem _ hx)) (by rw [if_neg (by omega)]; omega)
        · rw [if_neg h4] at h
          have e : (18 : Int) = c := h _ (List.mem_cons_self ..)
          exact rec_ (min (sameN l) 138) _ (by omega) (by omega) (fun x hx => h x (List.mem_cons_of_mem _ hx)) (by rw [if_neg (by omega)]; omega)
theorem sameF_rep (v : Int) : ∀ n, sameF v (List.replicate n v) = n
  | 0 => rfl
  | n + 1 => by rw [List.replicate_succ, sameF, if_pos rfl, sameF_rep v n]
theorem row_two (l : List Int) (hl : 5 ≤ l.length) (hr : ∀ x ∈ l, 0 ≤ x ∧ x ≤ 15) (hp : ∃ y ∈ l, 0 < y) : ∃ x ∈ rowW 0 l, ∃ y ∈ rowW 0 l, x.1 ≠ y.1 := by
  obtain ⟨x, hx, hx16⟩ : ∃ x ∈ rowW 0 l, x.1 ≠ 16 := by
    have hh := hr _ (List.mem_of_getElem? (headD_at l (by omega)))
    rw [rowW_step l (by omega)]
    split
    · exact ⟨_, List.mem_cons_self .., by show l.headD 0 ≠ 16; omega⟩
    · split
      · exact ⟨_, List.mem_cons_self .., by show (17 : Int) ≠ 16; omega⟩
      · exact ⟨_, List.mem_cons_self .., by show (18 : Int) ≠ 16; omega⟩
  refine ⟨x, hx, ?_⟩
  apply Classical.byContradiction
  intro hno
  have hall : ∀ y ∈ rowW 0 l, y.1 = x.1 := fun y hy => Classical.byContradiction fun h => hno ⟨y, hy, fun e => h e.symm⟩
  have one := row_one x.1 hx16 l.length 0 l (Nat.le_refl _) hr hall
  obtain ⟨y, hy, hy0⟩ := hp
  have e := one y hy
  have h15 : x.1 ≤ 15 := by
    apply Classical.byContradiction
    intro h
    rw [if_neg h] at e
    omega
  rw [if_pos h15] at e one
  obtain ⟨c, hc⟩ : ∃ c, x.1 = c := ⟨_, rfl⟩
  rw [hc] at e one hall h15
  have hrep : l = List.replicate l.length c := List.eq_replicate_iff.2 ⟨rfl, one⟩
  obtain ⟨n, hn⟩ : ∃ n, l.length = n + 2 := ⟨l.length - 2, by omega⟩
  rw [hn] at hrep
  have hc0 : 0 < c := by omega
  have hd : l.drop 1 = List.replicate (n + 1) c := by rw [hrep, List.drop_replicate, show n + 2 - 1 = n + 1 by omega]
  have hhead : l.headD 0 = c := by rw [hrep]; rfl
  rw [rowW_step l (by omega), hhead, if_pos (.inl hc0), hd] at hall
  have hsm : sameN (List.replicate (n + 1) c) = n + 1 := by
    unfold sameN
    rw [show (List.replicate (n + 1) c).headD 0 = c from rfl, sameF_rep]
  rw [rowW_again c _ (by simp) ⟨hc0, rfl, by omega⟩] at hall
  have := hall (16, 2, _) (List.mem_cons_of_mem _ (List.mem_cons_self ..))
  have : (16 : Int) = c := this
  omega
/-! ### how often each symbol is told -/
theorem fq_ok : ∀ (R : List Td) (f : List Int) (m : Int), f.length = 19 → 0 ≤ m → Rg m f → (∀ x ∈ R, 0 ≤ x.1 ∧ x.1 ≤ 18) →
    (R.foldl (fun f x => inc f x.1.toNat) f).length = 19 ∧ Rg (m + R.length) (R.foldl (fun f x => inc f x.1.toNat) f) ∧ (∀ i, f.getD i 0 ≤ (R.foldl (fun f x => inc f x.1.toNat) f).getD i 0) ∧ ∀ x ∈ R, 0 < (R.foldl (fun f x => inc f x.1.toNat) f).getD x.1.toNat 0
  | [], f, m, hf, _, hr, _ => ⟨hf, by simpa using hr, fun _ => Int.le_refl _, fun x hx => by cases hx⟩
  | x :: R, f, m, hf, hm, hr, hR => by
    obtain ⟨h1, h2, h3, h4⟩ := fq_ok R (inc f x.1.toNat) (m + 1) (by rw [inc_len]; exact hf) (by omega) (hr.inc hm _) (fun y hy => hR y (by simp [hy]))
    have hx := hR x (by simp)
    rw [List.foldl_cons]
    refine ⟨h1, by rw [show m + ((x :: R).length : Nat) = m + 1 + (R.length : Nat) by rw [List.length_cons]; omega]; exact h2, fun i => Int.le_trans (inc_up _ _ _) (h3 i), fun y hy => ?_⟩
    rcases List.mem_cons.1 hy with rfl | hy
    · have := h3 y.1.toNat
      rw [inc_at, if_pos ⟨rfl, by omega⟩] at this
      have := hr.at hm y.1.toNat
      omega
    · exact h4 y hy
theorem td_rng {x : Td} (h : TdOk x) : 0 ≤ x.1 ∧ x.1 ≤ 18 := by unfold TdOk at h; omega
structure RowOk (s : ByteArray) : Prop where
  td : ∀ x ∈ dR s, TdOk x
  len : (dR s).length ≤ 316
  lt : Lengths (fqT (dR s)) (dO s) 7
  l19 : (dO s).length = 19
  full : fullB (dO s) = true
  use : ∀ x ∈ dR s, 0 < (dO s).getD x.1.toNat 0
  all15 : ∀ x ∈ dT1 s ++ dT2 s, 0 ≤ x ∧ x ≤ 15
  err : lensErr (fqT (dR s)) 7 = false
theorem row_ok (s : ByteArray) (hs : s.size ≤ 1000000) : RowOk s := by
  have A := asked s
  have T1 := tab1 s hs
  have T2 := tab2 s hs
  have hl1 := T1.len
  have hl2 := T2.len
  rw [A.l1] at hl1
  rw [A.l2] at hl2
  have hall : ∀ x ∈ dT1 s ++ dT2 s, 0 ≤ x ∧ x ≤ 15 := fun x hx => (List.mem_append.1 hx).elim (T1.rg x) (T2.rg x)
  have hlen : (dT1 s ++ dT2 s).length ≤ 316 ∧ 258 ≤ (dT1 s ++ dT2 s).length := by rw [List.length_append]; omega
  obtain ⟨k1, k2⟩ := rowW_ok _ 0 (dT1 s ++ dT2 s) (Nat.le_refl _) hall
  obtain ⟨x, hx, y, hy, hxy⟩ := row_two (dT1 s ++ dT2 s) (by omega) hall (by
    have h := T1.pos 256 A.end_
    refine ⟨(dT1 s).getD 256 0, List.mem_append_left _ ?_, h⟩
    rw [List.getD_eq_getElem?_getD, List.getElem?_eq_getElem (by omega)]
    exact List.getElem_mem _)
  obtain ⟨f1, f2, f3, f4⟩ := fq_ok (dR s) (zers 19) 0 (zers_len _) (Int.le_refl _) (Rg.zers _) (fun x hx => td_rng (k1 x hx))
  have hR : (dR s).length ≤ 316 := Nat.le_trans k2 hlen.1
  have hsm := some_le (fqT (dR s))
  have f1 : (fqT (dR s)).length = 19 := f1
  have he : lensErr (fqT (dR s)) 7 = false := err_none (Rg.mono f2 (by omega)) (by omega) (by decide) (by decide) (by rw [show (2 : Nat) ^ (7 : Int).toNat = 128 from rfl]; omega)
  have L : Lengths (fqT (dR s)) (dO s) 7 := lens_of (by omega) he (by decide)
  have htwo : 2 ≤ someN (fqT (dR s)) := by
    have hx0 := td_rng (k1 x hx)
    have hy0 := td_rng (k1 y hy)
    exact some_two (i := x.1.toNat) (k := y.1.toNat) (by omega) (f4 x hx) (f4 y hy)
  refine ⟨k1, hR, L, by rw [L.len]; exact f1, ?_, fun z hz => ?_, hall, he⟩
  · unfold fullB
    obtain ⟨s1, s2⟩ := L.state
    refine decide_eq_true ?_
    rw [← Prod.eta (stateN (dO s)), s1, s2 htwo]
  · have hz0 := td_rng (k1 z hz)
    exact (L.pos _ (by omega)).2 (f4 z hz)
/-! ### the lengths of lengths are read -/
def setO (t : List Int) : Nat → Nat → List Int → List Int
  | 0, _, own => own
  | k + 1, i, own => setO t k (i + 1) (own.set (ordN.getD i 0) (t.getD i 0))
theorem b3_cons (x : Int) (l : List Int) : b3 (x :: l) = bitsOf false x.toNat 3 ++ b3 l := by simp [b3]
theorem b3_len : ∀ l : List Int, (b3 l).length = 3 * l.length
  | [] => rfl
  | x :: l => by rw [b3_cons, List.length_append, bitsOf_length, b3_len l, List.length_cons]; omega
theorem b3_bin (l : List Int) : Bin (b3 l) := fun x hx => by
  obtain ⟨y, _, h⟩ := List.mem_flatMap.1 hx
  exact bitsOf_bin _ _ _ x h
theorem own_read (s : ByteArray) (t : List Int) (ht : ∀ x ∈ t, 0 ≤ x ∧ x ≤ 7) (out : List Nat) : ∀ (k i : Nat) (own : List Int) (p : Nat), i + k = t.length → BitsAt s p (b3 (t.drop i)) → ownL s k i own p out = .ok (setO t k i own) (p + 3 * k) out
  | 0, i, own, p, _, _ => rfl
  | k + 1, i, own, p, hi, hb => by
    obtain ⟨x, hx⟩ : ∃ x, t[i]? = some x := ⟨_, List.getElem?_eq_getElem (by omega)⟩
    have hd : t.drop i = x :: t.drop (i + 1) := drop_at hx
    have hx7 := ht x (List.mem_of_getElem? hx)
    have hg : t.getD i 0 = x := by rw [List.getD_eq_getElem?_getD, hx]; rfl
    rw [hd, b3_cons] at hb
    have hb2 := hb.right
    rw [bitsOf_length] at hb2
    rw [ownL, get_bits out (by omega) hb.left, Rs.bind_ok, own_read s t ht out k (i + 1) _ _ (by omega) hb2, setO, hg, Int.toNat_of_nonneg hx7.1]
    congr 1
    omega
def posO (x : Nat) : Nat := ordN.idxOf x
theorem pos_ord : ∀ x, x < 19 → posO x < 19 ∧ ordN.getD (posO x) 0 = x := by decide +kernel
theorem ord_pos : ∀ i, i < 19 → ordN.getD i 0 < 19 ∧ posO (ordN.getD i 0) = i := by decide +kernel
theorem setO_at (t : List Int) : ∀ (k i : Nat) (own : List Int) (x : Nat), i + k ≤ 19 → own.length = 19 → x < 19 → (setO t k i own).getD x 0 = if i ≤ posO x ∧ posO x < i + k then t.getD (posO x) 0 else own.getD x 0
  | 0, i, own, x, _, _, _ => by rw [setO, if_neg (by omega)]
  | k + 1, i, own, x, hi, ho, hx => by
    obtain ⟨p1, p2⟩ := pos_ord x hx
    obtain ⟨q1, q2⟩ := ord_pos i (by omega)
    rw [setO, setO_at t k (i + 1) _ x (by omega) (by rw [List.length_set]; exact ho) hx, getD_set]
    by_cases he : posO x = i
    · rw [if_neg (by omega), if_pos ⟨by rw [← he]; exact p2, by omega⟩, if_pos (by omega), he]
    · rw [if_neg (fun h : ordN.getD i 0 = x ∧ _ => he (by rw [← h.1]; exact q2))]
      by_cases h2 : i + 1 ≤ posO x ∧ posO x < i + 1 + k
      · rw [if_pos h2, if_pos (by omega)]
      · rw [if_neg h2, if_neg (by omega)]
theorem setO_len (t : List Int) : ∀ (k i : Nat) (own : List Int), (setO t k i own).length = own.length
  | 0, _, _ => rfl
  | k + 1, i, own => by rw [setO, setO_len t k, List.length_set]
theorem getD_ext {l m : List Int} (hl : l.length = m.length) (h : ∀ i, i < l.length → l.getD i 0 = m.getD i 0) : l = m := by
  apply List.ext_getElem hl
  intro i h1 h2
  have := h i h1
  rw [List.getD_eq_getElem?_getD, List.getD_eq_getElem?_getD, List.getElem?_eq_getElem h1, List.getElem?_eq_getElem h2] at this
  exact this
structure ToldOk (s : ByteArray) : Prop where
  len : 4 ≤ (dTold s).length ∧ (dTold s).length ≤ 19
  rg : ∀ x ∈ dTold s, 0 ≤ x ∧ x ≤ 7
  back : setO (dTold s) (dTold s).length 0 (zers 19) = dO s
theorem told_ok (s : ByteArray) (hs : s.size ≤ 1000000) : ToldOk s := by
  have R := row_ok s hs
  have hol : (ordO (dO s)).length = 19 := by simp [ordO, ordN]
  obtain ⟨m, h1, h2, h3, h4⟩ := trimN_spec 4 (ordO (dO s))
  have ht : dTold s = (ordO (dO s)).take m := h1
  rw [hol] at h2 h3
  have h3 := h3 (by omega)
  have htl : (dTold s).length = m := by rw [ht, List.length_take]; omega
  have hat : ∀ i, i < 19 → (ordO (dO s)).getD i 0 = (dO s).getD (ordN.getD i 0) 0 := fun i hi => by
    obtain ⟨y, hy⟩ : ∃ y, ordN[i]? = some y := ⟨_, List.getElem?_eq_getElem (by simpa [ordN] using hi)⟩
    have e : ordN.getD i 0 = y := by rw [List.getD_eq_getElem?_getD, hy]; rfl
    rw [e]
    unfold ordO
    rw [List.getD_eq_getElem?_getD, List.getElem?_map, hy]
    rfl
  refine ⟨by omega, fun x hx => ?_, ?_⟩
  · rw [ht] at hx
    obtain ⟨i, _, rfl⟩ := List.mem_map.1 (List.mem_of_mem_take hx)
    have := R.lt.rng
    rw [List.getD_eq_getElem?_getD]
    cases hi : (dO s)[i]? with
    | none => simp
    | some y => exact this y (List.mem_of_getElem? hi)
  · refine getD_ext (by rw [setO_len, zers_len, R.l19]) fun x hx => ?_
    rw [setO_len, zers_len] at hx
    obtain ⟨p1, p2⟩ := pos_ord x hx
    rw [setO_at _ _ _ _ _ (by omega) (zers_len _) hx, htl, ht, take_getD h4, hat _ p1, p2, zers_at]
    split
    · rfl
    · have := h4 (posO x) (by omega)
      rw [hat _ p1, p2] at this
      exact this.symm
/-! ### unpacking -/
theorem td_fit {x : Td} (h : TdOk x) : x.2.2 < 2 ^ x.2.1 := by
  unfold TdOk at h
  rcases h with ⟨_, _, h1, h2⟩ | ⟨_, h1, h2⟩ | ⟨_, h1, h2⟩ | ⟨_, h1, h2⟩
  · rw [h1, h2]; decide
  · rw [h1]; exact h2
  · rw [h1]; exact h2
  · rw [h1]; exact h2
theorem rowB_len (O : List Int) (hO : ∀ y ∈ O, y ≤ 7) : ∀ R : List Td, (∀ x ∈ R, TdOk x) → (rowB O R).length ≤ 14 * R.length
  | [], _ => Nat.le_refl _
  | x :: R, h => by
    have ih := rowB_len O hO R (fun y hy => h y (by simp [hy]))
    have hx := h x (by simp)
    have h7 : (O.getD x.1.toNat 0).toNat ≤ 7 := by
      rw [List.getD_eq_getElem?_getD]
      cases hs : O[x.1.toNat]? with
      | none => exact Nat.zero_le _
      | some y => have := hO y (List.mem_of_getElem? hs); rw [Option.getD_some]; omega
    have h72 : x.2.1 ≤ 7 := by unfold TdOk at hx; omega
    rw [rowB_cons, List.length_append, List.length_append, cbD_len, bitsOf_length, List.length_cons]
    omega
theorem dynB8_facts (s : ByteArray) (hs : s.size ≤ 1000000) : (dynB8 s).length ≤ 48 * s.size + 6000 ∧ Bin (dynB8 s) := by
  have R := row_ok s hs
  have T := told_ok s hs
  have T1 := tab1 s hs
  have T2 := tab2 s hs
  have h1 := pcsB_len (D1 := dT1 s) (D2 := dT2 s) (fun x hx => (T1.rg x hx).2) (fun x hx => (T2.rg x hx).2) (allN s) (chk_zero (allN_chk s)).1
  have h2 := allN_len s
  have h3 := rowB_len (dO s) (fun y hy => (R.lt.rng y hy).2) (dR s) R.td
  have h4 := R.len
  have h5 := T.len
  unfold dynB8
  refine ⟨?_, Bin.app8 (bitsOf_bin _ _ _) (Bin.app8 (bitsOf_bin _ _ _) (Bin.app8 (bitsOf_bin _ _ _) (Bin.app8 (bitsOf_bin _ _ _) (Bin.app8 (bitsOf_bin _ _ _) (Bin.app8 (b3_bin _) (Bin.app8 (rowB_bin _ _) (pcsB_bin _ _ _)))))))⟩
  simp only [List.length_append, bitsOf_length, b3_len]
  omega
theorem dyn_run (s t : ByteArray) (Bg : Nat) (hs : s.size ≤ 1000000) (hB : s.size ≤ Bg) : runR (dynN s ++ t) Bg = .ok () (dynB8 s).length (nB (B s)) := by
  have h := two_at (dynB8 s) (dynB8_facts s hs).2 t
  have R := row_ok s hs
  have TO := told_ok s hs
  have A := asked s
  have T1 := tab1 s hs
  have T2 := tab2 s hs
  have hl1 := T1.len
  have hl2 := T2.len
  rw [A.l1] at hl1
  rw [A.l2] at hl2
  have htl := TO.len
  obtain ⟨c1, c2⟩ := chk_zero (allN_chk s)
  have ex := allN_exp s
  have huse : ∀ x ∈ allN s, PcUse (dT1 s) (dT2 s) x := fun x hx => by
    obtain ⟨u1, u2⟩ := A.use x hx
    exact ⟨fun h => T1.pos _ (u1 h), fun h => ⟨T1.pos _ (u2 h).1, T2.pos _ (u2 h).2⟩⟩
  have hdy : dynB (dT1 s ++ dT2 s) (dT1 s).length = true := by
    unfold dynB
    rw [List.take_left, List.drop_left, T1.full A.two, Bool.true_and, Bool.and_eq_true]
    refine ⟨decide_eq_true ?_, ?_⟩
    · rw [List.getD_eq_getElem?_getD, List.getElem?_append_left (by omega), ← List.getD_eq_getElem?_getD]
      exact T1.pos 256 A.end_
    · by_cases h2 : 2 ≤ someN (cntB (allN s))
      · rw [T2.full h2]; rfl
      · rw [T2.few (by omega)]; simp
  obtain ⟨bs, hbs⟩ : ∃ bs, bitsOf false ((dT1 s).length - 257) 5 ++ (bitsOf false ((dT2 s).length - 1) 5 ++ (bitsOf false ((dTold s).length - 4) 4 ++ (b3 (dTold s) ++ (rowB (dO s) (dR s) ++ pcsB (dT1 s) (dT2 s) (allN s))))) = bs := ⟨_, rfl⟩
  have e : (dynB8 s).length = 3 + bs.length := by
    unfold dynB8
    rw [hbs]
    simp only [List.length_append, bitsOf_length]
    omega
  rw [e]
  have h : BitsAt (dynN s ++ t) 0 (dynB8 s) := h
  generalize dynN s ++ t = T at *
  unfold dynB8 at h
  rw [hbs] at h
  refine last_block (by decide) h ?_
  have hb := h.right.right
  simp only [bitsOf_length, Nat.zero_add] at hb
  have hb : BitsAt T 3 bs := hb
  rw [← hbs] at hb ⊢
  have q1 := hb.left
  have q2 := hb.right.left
  have q3 := hb.right.right.left
  have q4 := hb.right.right.right.left
  have q5 := hb.right.right.right.right.left
  have q6 := hb.right.right.right.right.right
  simp only [bitsOf_length, b3_len] at q2 q3 q4 q5 q6
  have hp5 := q5.1
  have hp6 := q6.1
  show ((tabsR T 3 []).bind fun t p out => codedR T Bg t.1 t.2 p out) = _
  have et : tabsR T 3 [] = .ok (dT1 s, dT2 s) (3 + 5 + 5 + 4 + 3 * (dTold s).length + (rowB (dO s) (dR s)).length) [] := by
    unfold tabsR
    rw [get_bits [] (by omega) q1, Rs.bind_ok, get_bits [] (by omega) q2, Rs.bind_ok, get_bits [] (by omega) q3, Rs.bind_ok, if_pos (by omega)]
    rw [show (dTold s).length - 4 + 4 = (dTold s).length by omega, own_read T (dTold s) TO.rg [] _ 0 (zers 19) _ (by omega) (by rw [List.drop_zero]; exact q4), Rs.bind_ok, TO.back, if_pos R.full]
    rw [show (dT1 s).length - 257 + 257 = (dT1 s).length by omega, show (dT2 s).length - 1 + 1 = (dT2 s).length by omega]
    rw [row_read T ⟨R.lt.bad, R.lt.kra⟩ [] _ _ 0 (dT1 s ++ dT2 s) [] _ _ (Nat.le_refl _) R.all15 R.use (fun h => by omega) (by simp) q5 (by omega), Rs.bind_ok, List.nil_append, if_pos hdy, List.take_left, List.drop_left]
    rfl
  rw [et, Rs.bind_ok]
  unfold codedR
  show codedF T Bg (dT1 s) (dT2 s) _ _ (nB []) = _
  rw [coded_pcs T Bg T1.ok T2.ok (T1.pos 256 A.end_) (allN s) [] _ _ q6 huse c1 c2 (by rw [ex, B_len]; exact hB) (by omega), ex]
  congr 1
  simp only [List.length_append, bitsOf_length, b3_len]
  omega
theorem dynN_size (s : ByteArray) : (dynN s).size = ((dynB8 s).length + 7) / 8 := by unfold dynN; rw [txt_size, packB_length]
/-! ### the shortest way -/
def shortN (a b : ByteArray) : ByteArray := if b.size < a.size then b else a
def bestN (s : ByteArray) : ByteArray := shortN (shortN (storedN s) (fixedN s)) (dynN s)
end Go.Proofs.YtnapnaaejignaaaGreat.De
