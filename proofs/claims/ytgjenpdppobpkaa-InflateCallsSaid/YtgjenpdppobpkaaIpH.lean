/-
  inflate: the document's tables walked.
-/
import Derived.Test.YtgjenpdppobpkaaIpG
import Derived.Deep.DeepCutAuto
namespace Go.Proofs.Ytgjenpdppobpkaa.If
open Go.RowKit Bt Hu

/-- the third of the objects left out -/
theorem Sep.drop3 {w0 w : World} {o a b : Ob} {L : List Ob} (h : Sep w0 w (a :: b :: o :: L)) : Sep w0 w (a :: b :: L) := by
  let f : Nat → Nat := fun i => if i ≤ 1 then i else i + 1
  have hf : ∀ i c, (a :: b :: L)[i]? = some c → (a :: b :: o :: L)[f i]? = some c := fun i c hi => by
    match i with
    | 0 => exact hi
    | 1 => exact hi
    | n + 2 =>
      have e : f (n + 2) = n + 3 := by simp only [f]; rw [if_neg (by omega)]
      rw [e]
      simpa using hi
  have fi : ∀ i j, f i = f j → i = j := fun i j e => by
    simp only [f] at e
    split at e <;> split at e <;> omega
  have hm : ∀ c, c ∈ a :: b :: L → c ∈ a :: b :: o :: L := fun c hc => by
    simp only [List.mem_cons] at hc ⊢
    rcases hc with h | h | h
    · exact .inl h
    · exact .inr (.inl h)
    · exact .inr (.inr (.inr h))
  exact ⟨h.ext, fun c hc => h.each c (hm c hc), fun c hc => h.base c (hm c hc), fun i j c d hi hj hij => h.apart (f i) (f j) c d (hf i c hi) (hf j d hj) (fun e => hij (fi i j e))⟩
section
variable {w0 w : World} {ub rb : Nat} {Fr' : List Nat} {s : ByteArray} {B : Nat} {t : St} {L : List Ob}
theorem DS.drop {o : Ob} (S : DS w0 w ub rb Fr' s B t (o :: L)) : DS w0 w ub rb Fr' s B t L := by
  obtain ⟨hp, F, S⟩ := S
  exact ⟨hp, F, Sep.drop3 S⟩
def oOrd7 (g : Nat) : Ob := Ob.one g (.cells ord19 3 (0, 0))
set_option maxRecDepth 100000 in
set_option maxHeartbeats 4000000 in
theorem dorder_new (w : World) : Calls Try.prog 55 #[] w fun e w' => ∃ g, e = .returned (.slice (some ⟨g, 0, none⟩) 19 19) ∧ Ext [] w w' ∧ w'.heap[g]? = some (.cells ord19 3 (0, 0)) ∧ w.heap.size ≤ g := by
  go_enter Try.func55, Try.ntmps55
  go_wp2_with fail
  go_ret
  exact ⟨w.heap.size, rfl, (Ext.refl _ _).alloc _, heap_alloc_at _, Nat.le_refl _⟩
theorem down_facts : ∀ (k i : Nat) (own : List Int) (t : St), Small own → Small (down s k i own t).1 ∧ (down s k i own t).1.length = own.length
  | 0, _, own, t, h => ⟨h, rfl⟩
  | k + 1, i, own, t, h => by
    rw [down]
    have := down_facts k (i + 1) (own.set (ordN.getD i 0) ((dget s 3 t).1 : Int)) (dget s 3 t).2 (fun x hx => by
      rcases List.mem_or_eq_of_mem_set hx with hx | rfl
      · exact h x hx
      · have := dget_lt2 (s := s) 3 t
        omega)
    rw [List.length_set] at this
    exact this
theorem dlen_facts {D : List Int} (hD : D.length ≤ 19) (n : Nat) {t : St} (h0 : t.e = 0) (hp : t.p ≤ 8 * s.size) (he : (dlengths s D n t).2.e = 0) : (dlengths s D n t).1.length = n ∧ Small (dlengths s D n t).1 := by
  obtain ⟨p, out, e⟩ := t
  obtain rfl : e = 0 := h0
  have hr := rl_rowF (s := s) D n (8 * s.size - p + 2) [] p out hp (by omega)
  unfold dlengths at he ⊢
  simp only at he ⊢
  cases h1 : rowF s D n (8 * s.size - p + 2) [] p out with
  | er e o =>
    rw [h1] at hr
    obtain ⟨a, b, _⟩ := hr
    rw [b] at he
    exact absurd he a
  | ok l q o =>
    rw [h1] at hr
    obtain ⟨a, _⟩ := hr
    rw [a]
    exact ⟨(rowF_ok _ _ _ _ hp (by omega) (fun x hx => by cases hx) h1).1, row_small hD _ _ _ _ (fun x hx => by cases hx) h1⟩
def PstT (w0 : World) (ub rb : Nat) (Fr' : List Nat) (s : ByteArray) (B : Nat) (L : List Ob) (R : Option (List Int × List Int) × St) (e : Ending) (w' : World) : Prop :=
  match R with
  | (none, t) => e = .returned (.tuple #[.pointer none, .pointer none]) ∧ DS w0 w' ub rb Fr' s B t L
  | (some (a, b), t) => ∃ tb1 F1 tb2 F2, e = .returned (.tuple #[.pointer (some ⟨tb1, 0, none⟩), .pointer (some ⟨tb2, 0, none⟩)]) ∧ a.length ≤ 288 ∧ b.length ≤ 288 ∧ DS w0 w' ub rb Fr' s B t (oDT tb2 F2 b :: oDT tb1 F1 a :: L)
theorem PstT.nn {R : Option (List Int × List Int) × St} {e : Ending} {w' : World} {t : St} (hR : (none, t) = R) (he : e = .returned (.tuple #[.pointer none, .pointer none])) (S : DS w0 w' ub rb Fr' s B t L) : PstT w0 ub rb Fr' s B L R e w' := by
  subst hR; exact ⟨he, S⟩
theorem PstT.sm {R : Option (List Int × List Int) × St} {e : Ending} {w' : World} {t : St} {a b : List Int} {tb1 tb2 : Nat} {F1 F2 : List Nat} (hR : (some (a, b), t) = R) (he : e = .returned (.tuple #[.pointer (some ⟨tb1, 0, none⟩), .pointer (some ⟨tb2, 0, none⟩)])) (ha : a.length ≤ 288) (hb : b.length ≤ 288) (S : DS w0 w' ub rb Fr' s B t (oDT tb2 F2 b :: oDT tb1 F1 a :: L)) : PstT w0 ub rb Fr' s B L R e w' := by
  subst hR; exact ⟨tb1, F1, tb2, F2, he, ha, hb, S⟩
set_option maxRecDepth 100000 in
set_option maxHeartbeats 64000000 in
theorem d_tables (hs : s.size ≤ 1048576) (S : DS w0 w ub rb Fr' s B t L) :
    Calls Try.prog 42 #[.pointer (some ⟨ub, 0, none⟩)] w (PstT w0 ub rb Fr' s B L (dtabs s t)) := by
  have HS := Lib.hid S
  obtain ⟨R, hR⟩ : ∃ R, dtabs s t = R := ⟨_, rfl⟩
  rw [hR]
  unfold dtabs at hR
  have HR := Lib.hid hR
  clear S hR
  go_enter Try.func42, Try.ntmps42
  go_wp2_with fail
  refine (d_get 5 (by omega) hs HS.out).mono ?_
  rintro e w1 ⟨rfl, S⟩
  have HS := Lib.hid S
  have ha := dget_lt2 (s := s) 5 t
  have hR := HR.out
  clear S HR
  generalize dget s 5 t = Y at *
  obtain ⟨a, t1⟩ := Y
  simp only at HS ha hR ⊢
  have ha : a < 32 := ha
  unfold dtabA at hR
  have HR := Lib.hid hR
  clear hR
  go_wp2_with fail
  refine (d_get 5 (by omega) hs HS.out).mono ?_
  rintro e w2 ⟨rfl, S⟩
  have HS := Lib.hid S
  have hb := dget_lt2 (s := s) 5 t1
  have hR := HR.out
  clear S HR
  generalize dget s 5 t1 = Y at *
  obtain ⟨b, t2⟩ := Y
  simp only at HS hb hR ⊢
  have hb : b < 32 := hb
  unfold dtabB at hR
  have HR := Lib.hid hR
  clear hR
  go_wp2_with fail
  refine (d_get 4 (by omega) hs HS.out).mono ?_
  rintro e w3 ⟨rfl, S⟩
  have HS := Lib.hid S
  have hc := dget_lt2 (s := s) 4 t2
  have hR := HR.out
  clear S HR
  generalize dget s 4 t2 = Y at *
  obtain ⟨c, t3⟩ := Y
  simp only at HS hc hR ⊢
  have hc : c < 16 := hc
  unfold dtabC at hR
  obtain ⟨_, _, _, _, _, c3, _⟩ := HS.out.cells
  go_upto_region 4 with fail
  obtain ⟨t4, ht4⟩ : ∃ t4, (if t3.e = 0 ∧ (286 < a + 257 ∨ 30 < b + 1) then dfail 4 t3 else t3) = t4 := ⟨_, rfl⟩
  rw [ht4] at hR
  have hab4 : t4.e = 0 → a + 257 ≤ 286 ∧ b + 1 ≤ 30 := fun h => by
    rw [← ht4] at h
    by_cases h1 : t3.e = 0 ∧ (286 < a + 257 ∨ 30 < b + 1)
    · rw [if_pos h1] at h
      unfold dfail at h
      rw [if_pos h1.1] at h
      have h : (4 : Int) = 0 := h
      omega
    · rw [if_neg h1] at h
      omega
  have HR := Lib.hid hR
  have HT4 := Lib.hid ht4
  clear hR ht4
  obtain ⟨X, hX⟩ : ∃ X, decide (t3.e = 0 ∧ (286 < a + 257 ∨ 30 < b + 1)) = X := ⟨_, rfl⟩
  have HX := Lib.hid hX
  clear hX
  go_cut [41] (fun x41 wx => x41 = .bool X ∧ w3 = wx)
  case first =>
    have hX := HX.out
    by_cases h0 : t3.e = 0
    · rw [h0] at c3 hX
      by_cases h1 : 286 < a + 257
      · have h1' : (286 : Int) < (a : Int) + 257 := by omega
        rw [decide_eq_true ⟨rfl, .inl h1⟩] at hX
        subst hX
        clear h0 hab4
        go_wp2_with fail
        go_meet
        exact ⟨rfl, rfl⟩
      · have h1' : ¬ (286 : Int) < (a : Int) + 257 := by omega
        by_cases h2 : 30 < b + 1
        · have h2' : (30 : Int) < (b : Int) + 1 := by omega
          rw [decide_eq_true ⟨rfl, .inr h2⟩] at hX
          subst hX
          clear h0 hab4
          go_wp2_with fail
          go_meet
          exact ⟨rfl, rfl⟩
        · have h2' : ¬ (30 : Int) < (b : Int) + 1 := by omega
          rw [decide_eq_false (by omega)] at hX
          subst hX
          clear h0 hab4
          go_wp2_with fail
          go_meet
          exact ⟨rfl, rfl⟩
    · have h0' : (t3.e == 0) = false := beq_eq_false_iff_ne.2 h0
      rw [decide_eq_false (fun h => h0 h.1)] at hX
      subst hX
      generalize hte : t3.e = te at c3 h0'
      clear h0 hte hab4
      go_wp2_with fail
      go_meet
      exact ⟨rfl, rfl⟩
  case rest =>
  obtain ⟨rfl, rfl⟩ := hcut
  clear c3
  go_upto_if 41 with fail
  go_cut [] (fun wx => DS w0 wx ub rb Fr' s B t4 L)
  case first =>
    have hT := HT4.out
    have hX := HX.out
    cases X with
    | true =>
      rw [if_pos (of_decide_eq_true hX)] at hT
      have HT := Lib.hid hT
      clear hT hab4 hX
      go_wp2_with fail
      refine (d_fail 4 HS.out).mono ?_
      rintro e w4 ⟨rfl, S⟩
      rw [HT.out] at S
      have HS := Lib.hid S
      clear S
      go_wp2_with fail
      go_meet
      exact HS.out
    | false =>
      rw [if_neg (of_decide_eq_false hX)] at hT
      have HT := Lib.hid hT
      clear hT hab4 hX
      go_wp2_with fail
      go_meet
      rw [← HT.out]
      exact HS.out
  case rest =>
    clear HS HT4 HX
    have HS := Lib.hid hcut
    clear hcut
    obtain ⟨W, hWW⟩ : ∃ W, wc = W := ⟨_, rfl⟩
    subst hWW
    obtain ⟨i0, hif, hz0, hz1, hz2⟩ := info_parts infoInt7
    obtain ⟨W2, hmk, hown, hgrow⟩ := run_make_full (P := Try.prog) wc 0 42 3 i0 (.int .i64 0) 1 Try.underlying42 hif hz0 hz1 .i64 .i64 19 (by rw [hz2]; omega) (by unfold maxLen; omega) (by omega)
    have hx : Ext [] wc W2 := (Ext.refl [] wc).grown hgrow (fun k hk => by cases hk)
    have S := HS.out.new (oOwn wc.heap.size (zers 19)) hx (by
      have hm : (madeCells (Value.int .i64 0).cells (19 * 1)).toList = (zers 19).map iz := by
        unfold zers
        rw [List.map_replicate, Nat.mul_one]
        exact toList_madeCells_one _ _
      show W2.ownsRow 0 3 1 (.slice (some ⟨wc.heap.size, 0, none⟩) 19 19) 19 ((zers 19).map iz)
      rw [← hm]; exact hown) (fun q hq => by simp [oOwn, oSl, Value.ownBlock] at hq; omega)
    obtain ⟨q, hq⟩ : ∃ q, wc.heap.size = q := ⟨_, rfl⟩
    rw [hq] at hmk S
    have HS := Lib.hid S
    clear hx hown hgrow S hq hif hz0 hz1 hz2 i0
    have hmk : (Instr.makeSlice 42 (.int .i64 19) (.int .i64 19)).run Try.prog wc = .ok (.slice (some ⟨q, 0, none⟩) 19 19) W2 := hmk
    go_wp2_with fail
    clear hmk
    have hdf := down_facts (s := s) (c + 4) 0 (zers 19) t4 (Small.rep 19 (by omega))
    obtain ⟨RO, hRO⟩ : ∃ RO, down s (c + 4) 0 (zers 19) t4 = RO := ⟨_, rfl⟩
    have hR := HR.out
    rw [hRO] at hR hdf
    have HRO := Lib.hid hRO
    have HRB := Lib.hid (⟨hR, hdf⟩ : _ ∧ _)
    clear hR hRO HR hdf
    have hdead4 : t4.e ≠ 0 → RO.2 = t4 := fun h => by rw [← HRO.out, down_dead h]
    have HAB := Lib.hid (show RO.2.e = 0 → a + 257 ≤ 286 ∧ b + 1 ≤ 30 from fun h => by
      by_cases h4 : t4.e = 0
      · exact hab4 h4
      · rw [hdead4 h4] at h
        exact absurd h h4)
    clear hdead4 hab4
    go_loopg [8] (c + 4) (fun g iv wr => ∃ (k : Nat) (own : List Int) (t : St), g + k = c + 4 ∧ iv = .int .i64 k ∧ own.length = 19 ∧ True ∧ down s g k own t = RO ∧ DS w0 wr ub rb Fr' s B t (oOwn q own :: L))
    case atStart => exact ⟨0, zers 19, t4, by omega, rfl, by unfold zers; simp, trivial, HRO.out, HS.out⟩
    case round =>
      clear HS HRO
      obtain ⟨k, own, t, hgk, rfl, hol, hsm, hR, S⟩ := hrel
      have HS := Lib.hid S
      clear S
      by_cases hlt : k < c + 4
      · obtain ⟨g, rfl⟩ : ∃ g, gk = g + 1 := ⟨gk - 1, by omega⟩
        rw [down] at hR
        have hx9 := ord_lt k (by omega)
        have ho19 := ord19_at k (by omega)
        obtain ⟨x, hx⟩ : ∃ x, ordN.getD k 0 = x := ⟨_, rfl⟩
        rw [hx] at hx9 hR ho19
        clear hx
        have HORD := Lib.hid ho19
        clear ho19
        have HG := Lib.hid (fun (w : World) (L : List Ob) (S : DS w0 w ub rb Fr' s B t L) => d_get 3 (by omega) hs S)
        have HSM := Lib.hid hsm
        have HOL := Lib.hid hol
        clear hsm hol
        generalize dget s 3 t = Y at *
        obtain ⟨v, t2⟩ := Y
        simp only at hR HG
        have HR := Lib.hid hR
        clear hR
        have k1 : (k : Int) < (c : Int) + 4 := by omega
        have k3 : (k : Int) < 19 := by omega
        have k4 : (0 : Int) ≤ (k : Int) := by omega
        have k5 : (x : Int) < 19 := by omega
        have k6 : (0 : Int) ≤ (x : Int) := by omega
        go_wp2_with fail
        refine wp_region_perm (C := fun w' => ∃ x : Ex w0, w' = x.w) [0, 2, 5] 8 (by kernel_rfl) (by kernel_rfl) ⟨Ex.mk _ (HS.out.ext.drew), rfl⟩ ?_
        simp only [pick, List.getElem?_toArray, List.getElem?_cons_zero, List.getElem?_cons_succ, List.drop_succ_cons, List.drop_zero]
        repeat (go_big_quiet_step (fail))
        refine wpQuiet_nil ?_
        have HS := Lib.hid (HS.out.quiet ((Ext.refl [] wr).drew))
        obtain ⟨V, hV⟩ : ∃ V, wr.drew = V := ⟨_, rfl⟩
        rw [hV] at HS ⊢
        clear hV
        refine anyC_one (f := 4) (i := 1) (by kernel_rfl) (by decide) rfl rfl (fun K hK => ?_)
        go_wp2_with fail
        refine (dorder_new V).mono ?_
        rintro e V2 ⟨g1, rfl, hx, ho, hg1⟩
        have HS := Lib.hid (HS.out.new (oOrd7 g1) hx ho (fun k hk => by rw [List.mem_singleton.1 hk]; exact hg1))
        clear hx ho hg1
        go_wp2_with fail
        refine hK _ _ ⟨Ex.mk _ HS.out.ext, rfl⟩ ?_
        clear hK K
        obtain ⟨V, hV⟩ : ∃ V, V = V2 := ⟨_, rfl⟩
        subst hV
        refine anyC_two (f := 3) (i := 3) (j := 6) (by kernel_rfl) (by decide) (by decide) rfl rfl rfl rfl (fun K hK => ?_) (fun K hK => ?_)
        · skip
          go_wp2_with fail
          refine hK _ _ ⟨Ex.mk _ HS.out.ext, rfl⟩ ?_
          clear hK K
          refine anyC_two (f := 2) (i := 4) (j := 6) (by kernel_rfl) (by decide) (by decide) rfl rfl rfl rfl (fun K hK => ?_) (fun K hK => ?_)
          · skip
            have c5 := cellOf (HS.out.obj (i := 0) rfl : V.heap[g1]? = some (.cells ord19 3 (0, 0))) k
            rw [HORD.out] at c5
            go_wp2_with fail
            refine hK _ _ ⟨Ex.mk _ HS.out.ext, rfl⟩ ?_
            clear hK K c5
            refine anyC_one (f := 1) (i := 6) (by kernel_rfl) (by decide) rfl rfl (fun K hK => ?_)
            go_wp2_with fail
            refine (HG.out _ _ HS.out).mono ?_
            clear HS
            rintro e V2 ⟨rfl, S⟩
            have HS := Lib.hid S
            clear S
            go_wp2_with fail
            refine hK _ _ ⟨Ex.mk _ HS.out.ext, rfl⟩ ?_
            clear hK K
            obtain ⟨V, hV⟩ : ∃ V, V = V2 := ⟨_, rfl⟩
            subst hV
            refine anyC_one (f := 0) (i := 7) (by kernel_rfl) (by decide) rfl rfl (fun K hK => ?_)
            go_wp2_with fail
            refine hK _ _ ⟨Ex.mk _ HS.out.ext, rfl⟩ ?_
            clear hK K
            refine anyC_end (by kernel_rfl) ?_
            have S := DS.drop HS.out
            have hrow : V.ownsRow 0 3 1 (.slice (some ⟨q, 0, none⟩) 19 19) 19 (own.map iz) := S.obj (i := 0) rfl
            have hfr := ownsRow_free hrow x
            obtain ⟨y, hy⟩ : ∃ y, own[x]? = some y := ⟨_, List.getElem?_eq_getElem (by have := HOL.out; omega)⟩
            have hcl : V.cell? ⟨q, x, none⟩ = some (iz y) := ownsRow_at hrow (by rw [List.getElem?_map, hy]; rfl)
            have hst := ownsRow_store (i := x) hrow (iz (v : Int))
            rw [← List.map_set] at hst
            have HS2 := Lib.hid (S.row (o' := oOwn q (own.set x (v : Int))) ((Ext.refl _ V).setCell ⟨q, x, none⟩ (iz (v : Int)) (.inl (by simp [oOwn, oSl, Value.ownBlock]))) (Fr.refl _ _) hst)
            clear S hrow hy hst
            go_wp2_with fail
            refine NoPanic.normal ?_
            go_wp2_with fail
            go_roundg g
            case measure => omega
            case rel => exact ⟨k + 1, own.set x (v : Int), t2, by omega, by go_num, by rw [List.length_set]; exact HOL.out, HSM.out, HR.out, HS2.out⟩
          · skip
            go_wp2_with fail
            refine (HG.out _ _ HS.out).mono ?_
            clear HS
            rintro e V2 ⟨rfl, S⟩
            have HS := Lib.hid S
            clear S
            go_wp2_with fail
            refine hK _ _ ⟨Ex.mk _ HS.out.ext, rfl⟩ ?_
            clear hK K
            obtain ⟨V, hV⟩ : ∃ V, V = V2 := ⟨_, rfl⟩
            subst hV
            refine anyC_one (f := 1) (i := 4) (by kernel_rfl) (by decide) rfl rfl (fun K hK => ?_)
            have c5 := cellOf (HS.out.obj (i := 0) rfl : V.heap[g1]? = some (.cells ord19 3 (0, 0))) k
            rw [HORD.out] at c5
            go_wp2_with fail
            refine hK _ _ ⟨Ex.mk _ HS.out.ext, rfl⟩ ?_
            clear hK K c5
            refine anyC_one (f := 0) (i := 7) (by kernel_rfl) (by decide) rfl rfl (fun K hK => ?_)
            go_wp2_with fail
            refine hK _ _ ⟨Ex.mk _ HS.out.ext, rfl⟩ ?_
            clear hK K
            refine anyC_end (by kernel_rfl) ?_
            have S := DS.drop HS.out
            have hrow : V.ownsRow 0 3 1 (.slice (some ⟨q, 0, none⟩) 19 19) 19 (own.map iz) := S.obj (i := 0) rfl
            have hfr := ownsRow_free hrow x
            obtain ⟨y, hy⟩ : ∃ y, own[x]? = some y := ⟨_, List.getElem?_eq_getElem (by have := HOL.out; omega)⟩
            have hcl : V.cell? ⟨q, x, none⟩ = some (iz y) := ownsRow_at hrow (by rw [List.getElem?_map, hy]; rfl)
            have hst := ownsRow_store (i := x) hrow (iz (v : Int))
            rw [← List.map_set] at hst
            have HS2 := Lib.hid (S.row (o' := oOwn q (own.set x (v : Int))) ((Ext.refl _ V).setCell ⟨q, x, none⟩ (iz (v : Int)) (.inl (by simp [oOwn, oSl, Value.ownBlock]))) (Fr.refl _ _) hst)
            clear S hrow hy hst
            go_wp2_with fail
            refine NoPanic.normal ?_
            go_wp2_with fail
            go_roundg g
            case measure => omega
            case rel => exact ⟨k + 1, own.set x (v : Int), t2, by omega, by go_num, by rw [List.length_set]; exact HOL.out, HSM.out, HR.out, HS2.out⟩
        · skip
          go_wp2_with fail
          refine (HG.out _ _ HS.out).mono ?_
          clear HS
          rintro e V2 ⟨rfl, S⟩
          have HS := Lib.hid S
          clear S
          go_wp2_with fail
          refine hK _ _ ⟨Ex.mk _ HS.out.ext, rfl⟩ ?_
          clear hK K
          obtain ⟨V, hV⟩ : ∃ V, V = V2 := ⟨_, rfl⟩
          subst hV
          refine anyC_one (f := 2) (i := 3) (by kernel_rfl) (by decide) rfl rfl (fun K hK => ?_)
          go_wp2_with fail
          refine hK _ _ ⟨Ex.mk _ HS.out.ext, rfl⟩ ?_
          clear hK K
          refine anyC_one (f := 1) (i := 4) (by kernel_rfl) (by decide) rfl rfl (fun K hK => ?_)
          have c5 := cellOf (HS.out.obj (i := 0) rfl : V.heap[g1]? = some (.cells ord19 3 (0, 0))) k
          rw [HORD.out] at c5
          go_wp2_with fail
          refine hK _ _ ⟨Ex.mk _ HS.out.ext, rfl⟩ ?_
          clear hK K c5
          refine anyC_one (f := 0) (i := 7) (by kernel_rfl) (by decide) rfl rfl (fun K hK => ?_)
          go_wp2_with fail
          refine hK _ _ ⟨Ex.mk _ HS.out.ext, rfl⟩ ?_
          clear hK K
          refine anyC_end (by kernel_rfl) ?_
          have S := DS.drop HS.out
          have hrow : V.ownsRow 0 3 1 (.slice (some ⟨q, 0, none⟩) 19 19) 19 (own.map iz) := S.obj (i := 0) rfl
          have hfr := ownsRow_free hrow x
          obtain ⟨y, hy⟩ : ∃ y, own[x]? = some y := ⟨_, List.getElem?_eq_getElem (by have := HOL.out; omega)⟩
          have hcl : V.cell? ⟨q, x, none⟩ = some (iz y) := ownsRow_at hrow (by rw [List.getElem?_map, hy]; rfl)
          have hst := ownsRow_store (i := x) hrow (iz (v : Int))
          rw [← List.map_set] at hst
          have HS2 := Lib.hid (S.row (o' := oOwn q (own.set x (v : Int))) ((Ext.refl _ V).setCell ⟨q, x, none⟩ (iz (v : Int)) (.inl (by simp [oOwn, oSl, Value.ownBlock]))) (Fr.refl _ _) hst)
          clear S hrow hy hst
          go_wp2_with fail
          refine NoPanic.normal ?_
          go_wp2_with fail
          go_roundg g
          case measure => omega
          case rel => exact ⟨k + 1, own.set x (v : Int), t2, by omega, by go_num, by rw [List.length_set]; exact HOL.out, HSM.out, HR.out, HS2.out⟩
      · obtain rfl : gk = 0 := by omega
        rw [down] at hR
        subst hR
        have hR := HRB.out.1
        obtain ⟨hos, hol2⟩ := HRB.out.2
        have HAB := HAB.out
        simp only at hR hos hol2 HAB
        have k1 : ¬ ((k : Int) < (c : Int) + 4) := by omega
        obtain ⟨_, _, _, _, _, c3, _⟩ := HS.out.cells
        unfold dtabO at hR
        by_cases h0 : t.e = 0
        · rw [if_neg (fun h => h h0)] at hR
          have hab := HAB h0
          rw [h0] at c3
          have hown : wr.ownsRow 0 3 1 (.slice (some ⟨q, 0, none⟩) 19 19) own.length (own.map iz) := by rw [hol]; exact HS.out.obj (i := 0) rfl
          have hA0 := IntsArg.of_own hown
          have hst := rstate_walk _ own wr hA0.1 (by omega)
          have hfl := small_full hos (by omega)
          obtain ⟨s1, hs1⟩ : ∃ s1, (stateN own).1 = s1 := ⟨_, rfl⟩
          obtain ⟨s2, hs2⟩ : ∃ s2, (stateN own).2 = s2 := ⟨_, rfl⟩
          rw [hs1] at hR hst hfl
          rw [hs2] at hst
          have hp := HS.out.1
          clear hs1 hs2 hown
          by_cases hf : s1 = 0
          · subst hf
            rw [if_neg (by simp)] at hR
            have HR := Lib.hid hR
            have HF := Lib.hid (⟨h0, hA0, (full_codes (hfl.trans (decide_eq_true rfl))).1, hst⟩ : _ ∧ _ ∧ _ ∧ _)
            clear hR hA0 hst hfl HRB
            go_wp2_with fail
            refine HF.out.2.2.2.mono ?_
            rintro e w5 ⟨rfl, rfl⟩
            go_wp2_with fail
            refine (rnew_walk _ own wr HF.out.2.1 HF.out.2.2.1).mono ?_
            rintro e w6 ⟨tb, Ft, rfl, hx, hp1, hf1⟩
            have HS := Lib.hid ((HS.out.drop).new (oDT tb Ft own) hx hp1 hf1)
            have hlf := dlen_facts (s := s) (D := own) (by omega) (a + 257 + (b + 1)) h0 hp
            have hle := d_lengths (w0 := w0) (w := w6) (L := oDT tb Ft own :: L) 0 (a + 257 + (b + 1)) (D := own) rfl (by omega) hs (by omega) HS.out
            clear hx hp1 hf1 HF
            have hR := HR.out
            clear HR
            generalize dlengths s own (a + 257 + (b + 1)) t = Y at *
            obtain ⟨l, t5⟩ := Y
            simp only at hR hlf
            have HLE := Lib.hid hle
            have HR := Lib.hid hR
            have HLF := Lib.hid hlf
            clear hle hR hlf c3 HS
            go_wp2_with fail
            refine HLE.out.mono ?_
            clear HLE
            rintro e w7 ⟨ao, cap, rfl, S⟩
            simp only at S ⊢
            have hR := HR.out
            unfold dtabL at hR
            obtain ⟨_, _, _, _, _, c3, _⟩ := S.cells
            have HS := Lib.hid S
            by_cases h5 : t5.e = 0
            · obtain ⟨hln, hlb⟩ := HLF.out h5
              rw [if_neg (fun h => h h5)] at hR
              rw [h5] at c3
              have hrow : w7.ownsRow 0 3 1 (.slice ao l.length cap) l.length (l.map iz) := S.obj (i := 0) rfl
              obtain ⟨gb, cap', hgb⟩ := own_at hrow (by omega)
              injection hgb with e1 _ e3
              subst e1 e3
              have hcap := (ownsRow_open hrow).choose_spec.2.1
              have hcap2 := (ownsRow_open hrow).choose_spec.2.2.1
              obtain ⟨hC1, hC2⟩ := ints_cut hrow (A := a + 257) (by omega)
              have hc256 : w7.cell? ⟨gb, 256, none⟩ = some (iz (l.getD 256 0)) := ownsRow_at hrow (by rw [List.getElem?_map, List.getElem?_eq_getElem (by omega : 256 < l.length), List.getD_eq_getElem?_getD, List.getElem?_eq_getElem (by omega : 256 < l.length)]; rfl)
              have hs1 := hlb.take (a + 257)
              have hs2 := hlb.drop (a + 257)
              rw [hln] at hcap hC2 ⊢
              rw [show a + 257 + (b + 1) - (a + 257) = b + 1 by omega] at hC2
              have hl1 : (l.take (a + 257)).length = a + 257 := by rw [List.length_take]; omega
              have hl2 : (l.drop (a + 257)).length = b + 1 := by rw [List.length_drop]; omega
              unfold badT at hR
              obtain ⟨l1, hL1⟩ : ∃ l1, l.take (a + 257) = l1 := ⟨_, rfl⟩
              obtain ⟨l2, hL2⟩ : ∃ l2, l.drop (a + 257) = l2 := ⟨_, rfl⟩
              obtain ⟨y, hY⟩ : ∃ y, l.getD 256 0 = y := ⟨_, rfl⟩
              rw [hL1, hL2, hY] at hR
              rw [hL1] at hC1 hl1 hs1
              rw [hL2] at hC2 hl2 hs2
              rw [hY] at hc256
              have hst1 := fun w (h : IntsAt w (.slice (some ⟨gb, 0, none⟩) (a + 257) cap) l1) => rstate_walk _ l1 w h (by omega)
              have hfl1 := small_full hs1 (by omega)
              have hfl2 := small_full hs2 (by omega)
              obtain ⟨s1, hss1⟩ : ∃ s1, (stateN l1).1 = s1 := ⟨_, rfl⟩
              obtain ⟨s2, hss2⟩ : ∃ s2, (stateN l1).2 = s2 := ⟨_, rfl⟩
              rw [hss1] at hR hst1 hfl1
              rw [hss2] at hst1
              have hcd2 : distB l2 = true → codesE l2 = 0 := fun h => by
                unfold distB at h
                rw [← hfl2, ← few_dist l2 (fun x hx => (hs2 x hx).1), Bool.or_eq_true] at h
                rcases h with h | h
                · exact (full_codes h).1
                · exact few_codes (by omega) (fun x hx => (hs2 x hx).1) h
              have HC := Lib.hid (⟨hC1, hC2, hc256⟩ : _ ∧ _ ∧ _)
              have HL := Lib.hid (⟨hl1, hl2⟩ : _ ∧ _)
              have HK := Lib.hid (⟨hst1, fun (h : s1 = 0) => (full_codes (hfl1.trans (decide_eq_true h))).1, hcd2⟩ : _ ∧ _ ∧ _)
              have HR := Lib.hid hR
              have HDI := Lib.hid (fun w (h : IntsAt w (.slice (some ⟨gb, a + 257, none⟩) (b + 1) (cap - (a + 257))) l2) => ddists_walk _ l2 w h (by omega))
              have H5 := Lib.hid h5
              clear S hrow hC1 hC2 hc256 hs1 hs2 hR hL1 hL2 hY hlb hln hl1 hl2 hst1 hfl1 hfl2 hss1 hss2 hcd2 HLF h5 h0
              unfold maxLen at hcap2
              have k2 : (0 : Int) ≤ (a : Int) + 257 := by omega
              have k3 : (a : Int) + 257 ≤ (cap : Int) := by omega
              have k4 : (a : Int) + 257 ≤ ((a + 257 + (b + 1) : Nat) : Int) := by omega
              go_wp2_with fail
              refine wp_region_ext (by kernel_rfl) (by kernel_rfl) ?_
              repeat (go_big_quiet_step (fail))
              refine wpQuiet_nil ?_
              rintro _ ⟨x8, rfl⟩
              obtain ⟨w8, hw8⟩ : ∃ w8, x8.w = w8 := ⟨_, rfl⟩
              have hx8 := x8.ext
              rw [hw8] at hx8
              rw [hw8]
              have HS := Lib.hid (HS.out.quiet hx8)
              have HD := Lib.hid (⟨HC.out.1.ext hx8, HC.out.2.1.ext hx8⟩ : _ ∧ _)
              have c256 := Ext.cell hx8 HC.out.2.2
              clear k2 k3 k4 hw8 hx8 HC c3
              have k9 : (256 : Int) < (a : Int) + 257 := by omega
              by_cases q1 : s1 = 0
              · subst q1
                by_cases q2 : y = 0
                · subst q2
                  have hR := HR.out
                  rw [if_pos (by simp)] at hR
                  have HR := Lib.hid hR
                  clear hR
                  go_wp2_with fail
                  refine (HK.out.1 w8 HD.out.1.1).mono ?_
                  rintro e w9 ⟨rfl, rfl⟩
                  go_wp2_with fail
                  refine (d_fail 4 HS.out).mono ?_
                  rintro e w10 ⟨rfl, S⟩
                  have HS := Lib.hid S
                  clear S
                  go_wp2_with fail
                  exact bodyPost_ret (results_tmp2 rfl _ _ _) rfl (PstT.nn HR.out rfl ((HS.out.drop).drop))
                · have j2 : (y == 0) = false := beq_eq_false_iff_ne.2 q2
                  have hdi := HDI.out w8 HD.out.2.1
                  have hcd := HK.out.2.2
                  have hR := HR.out
                  cases hdb : distB l2 with
                  | false =>
                    rw [hdb] at hdi hR
                    rw [if_pos (by simp)] at hR
                    have HR := Lib.hid hR
                    have HDI := Lib.hid hdi
                    clear hR hdi hdb hcd q2
                    go_wp2_with fail
                    refine (HK.out.1 w8 HD.out.1.1).mono ?_
                    rintro e w9 ⟨rfl, rfl⟩
                    go_wp2_with fail
                    refine HDI.out.mono ?_
                    rintro e w9 ⟨rfl, rfl⟩
                    go_wp2_with fail
                    refine (d_fail 4 HS.out).mono ?_
                    rintro e w10 ⟨rfl, S⟩
                    have HS := Lib.hid S
                    clear S
                    go_wp2_with fail
                    exact bodyPost_ret (results_tmp2 rfl _ _ _) rfl (PstT.nn HR.out rfl ((HS.out.drop).drop))
                  | true =>
                    rw [hdb] at hdi hR
                    rw [if_neg (by simp [q2])] at hR
                    have HR := Lib.hid hR
                    have HDI := Lib.hid hdi
                    have HCD := Lib.hid (hcd hdb)
                    clear hR hdi hdb hcd q2
                    go_wp2_with fail
                    refine (HK.out.1 w8 HD.out.1.1).mono ?_
                    rintro e w9 ⟨rfl, rfl⟩
                    go_wp2_with fail
                    refine HDI.out.mono ?_
                    rintro e w9 ⟨rfl, rfl⟩
                    go_wp2_with fail
                    refine (rnew_walk _ l1 w8 HD.out.1 (HK.out.2.1 (by first | trivial | rfl))).mono ?_
                    rintro e w9 ⟨tb1, Ft1, rfl, hx, hp1, hf1⟩
                    have HS := Lib.hid (((HS.out.drop).drop).new (oDT tb1 Ft1 l1) hx hp1 hf1)
                    have HD := Lib.hid (HD.out.2.ext hx)
                    clear hx hp1 hf1
                    go_wp2_with fail
                    refine (rnew_walk _ l2 w9 HD.out HCD.out).mono ?_
                    rintro e w10 ⟨tb2, Ft2, rfl, hx, hp1, hf1⟩
                    have HS := Lib.hid (HS.out.new (oDT tb2 Ft2 l2) hx hp1 hf1)
                    clear hx hp1 hf1
                    go_wp2_with fail
                    exact bodyPost_ret (results_tmp2 rfl _ _ _) rfl (PstT.sm HR.out rfl (by have := HL.out.1; omega) (by have := HL.out.2; omega) HS.out)
              · have j1 : (s1 != 0) = true := bne_iff_ne.2 q1
                have hR := HR.out
                rw [if_pos (by simp [q1])] at hR
                have HR := Lib.hid hR
                clear hR q1
                go_wp2_with fail
                refine (HK.out.1 w8 HD.out.1.1).mono ?_
                rintro e w9 ⟨rfl, rfl⟩
                go_wp2_with fail
                refine (d_fail 4 HS.out).mono ?_
                rintro e w10 ⟨rfl, S⟩
                have HS := Lib.hid S
                clear S
                go_wp2_with fail
                exact bodyPost_ret (results_tmp2 rfl _ _ _) rfl (PstT.nn HR.out rfl ((HS.out.drop).drop))
            · rw [if_pos h5] at hR
              have j0 : (t5.e != 0) = true := bne_iff_ne.2 h5
              have HR := Lib.hid hR
              generalize hte : t5.e = te at c3 j0
              clear hR hte h5 h0 HLF S
              go_wp2_with fail
              exact bodyPost_ret (results_tmp2 rfl _ _ _) rfl (PstT.nn HR.out rfl ((HS.out.drop).drop))
          · rw [if_pos hf] at hR
            have j1 : (s1 != 0) = true := bne_iff_ne.2 hf
            have HR := Lib.hid hR
            have HST := Lib.hid hst
            clear hR hst hf hA0 hfl h0 HRB
            go_wp2_with fail
            refine HST.out.mono ?_
            rintro e w5 ⟨rfl, rfl⟩
            go_wp2_with fail
            refine (d_fail 4 HS.out).mono ?_
            rintro e w6 ⟨rfl, S⟩
            have HS := Lib.hid S
            clear S
            go_wp2_with fail
            exact bodyPost_ret (results_tmp2 rfl _ _ _) rfl (PstT.nn HR.out rfl HS.out.drop)
        · rw [if_pos h0] at hR
          have j0 : (t.e != 0) = true := bne_iff_ne.2 h0
          have HR := Lib.hid hR
          generalize hte : t.e = te at c3 j0
          clear hR hte h0 HRB
          go_wp2_with fail
          exact bodyPost_ret (results_tmp2 rfl _ _ _) rfl (PstT.nn HR.out rfl HS.out.drop)
end
end Go.Proofs.Ytgjenpdppobpkaa.If
