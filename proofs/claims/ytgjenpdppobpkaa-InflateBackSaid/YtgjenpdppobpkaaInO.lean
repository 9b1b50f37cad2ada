/-
  inflate: dynamic walked.
-/
import Derived.Test.YtgjenpdppobpkaaInN
namespace Go.Proofs.Ytgjenpdppobpkaa.If
open Go.RowKit Bt Hu

theorem alloc_row (w : World) (Z cs : Array Value) (t : TypeId) : Ext [] w ((w.alloc (.cells Z t)).setRow w.heap.size cs) ∧ ((w.alloc (.cells Z t)).setRow w.heap.size cs).heap[w.heap.size]? = some (.cells cs t (0, 0)) :=
  ⟨((Ext.refl [] w).alloc (.cells Z t)).trans' (ext_setRow _ w.heap.size cs) (fun i hi h => by rw [List.mem_singleton.1 h] at hi; exact absurd hi (Nat.lt_irrefl _)), setRow_heap _ w.heap.size Z cs t (0, 0) (heap_alloc_at _)⟩
def oOwn (q : Nat) (own : List Int) : Ob := oSl 3 1 (.slice (some ⟨q, 0, none⟩) 19 19) 19 (own.map iz)
def oOrd (ob : Nat) : Ob := Ob.one ob (.cells ord19 120 (0, 0))
end Go.Proofs.Ytgjenpdppobpkaa.If
namespace Go.Proofs.Ytgjenpdppobpkaa
theorem Sep.sd {w0 w : World} {a b : Ob} {l : List Ob} (h : Sep w0 w (a :: b :: l)) : Sep w0 w (a :: l) := by
  refine ⟨h.ext, fun o ho => h.each o ?_, fun o ho => h.base o ?_, fun i j o o' hi hj hij => ?_⟩
  · rcases List.mem_cons.1 ho with rfl | ho
    · exact List.mem_cons_self ..
    · exact List.mem_cons_of_mem _ (List.mem_cons_of_mem _ ho)
  · rcases List.mem_cons.1 ho with rfl | ho
    · exact List.mem_cons_self ..
    · exact List.mem_cons_of_mem _ (List.mem_cons_of_mem _ ho)
  · cases i with
    | zero =>
      cases j with
      | zero => exact absurd rfl hij
      | succ j => exact h.apart 0 (j + 2) o o' (by simpa using hi) (by simpa using hj) (by omega)
    | succ i =>
      cases j with
      | zero => exact h.apart (i + 2) 0 o o' (by simpa using hi) (by simpa using hj) (by omega)
      | succ j => exact h.apart (i + 2) (j + 2) o o' (by simpa using hi) (by simpa using hj) (by omega)
end Go.Proofs.Ytgjenpdppobpkaa
namespace Go.Proofs.Ytgjenpdppobpkaa.If
open Go.RowKit Bt Hu
theorem ints_cut {w : World} {g cap A : Nat} {l : List Int} (h : w.ownsRow 0 3 1 (.slice (some ⟨g, 0, none⟩) l.length cap) l.length (l.map iz)) (hA : A ≤ l.length) :
    IntsArg w (.slice (some ⟨g, 0, none⟩) A cap) (l.take A) ∧ IntsArg w (.slice (some ⟨g, A, none⟩) (l.length - A) (cap - A)) (l.drop A) := by
  obtain ⟨cs, _, h1, h2, _, _⟩ := ownsRow_open h
  have e1 : (l.take A).length = A := by rw [List.length_take]; omega
  have e2 : (l.drop A).length = l.length - A := List.length_drop
  refine ⟨⟨⟨some ⟨g, 0, none⟩, cap, by rw [e1], fun _ => ⟨g, 0, rfl, fun i x hi => ?_⟩⟩, some ⟨g, 0, none⟩, cap, by rw [e1], by omega, h2, fun h => by cases h⟩,
    ⟨⟨some ⟨g, A, none⟩, cap - A, by rw [e2], fun _ => ⟨g, A, rfl, fun i x hi => ?_⟩⟩, some ⟨g, A, none⟩, cap - A, by rw [e2], by omega, by omega, fun h => by cases h⟩⟩
  · rw [Nat.zero_add]
    have hi' : i < A := by have := (List.getElem?_eq_some_iff.1 hi).1; omega
    rw [List.getElem?_take_of_lt hi'] at hi
    exact ownsRow_at h (by rw [List.getElem?_map, hi]; rfl)
  · rw [List.getElem?_drop] at hi
    exact ownsRow_at h (by rw [List.getElem?_map, hi]; rfl)
section
variable {w0 w : World} {L : List Ob} {j ub rb : Nat} {F : List Nat} {s : ByteArray} {B p : Nat} {out : List Nat}
set_option maxRecDepth 100000 in
set_option maxHeartbeats 1000000 in
theorem a_dyn (hj : j < L.length) (S : Sep w0 w (L.set j (oRun ub rb F s B p out))) (hs : s.size ≤ 1048576) (hp : p ≤ 8 * s.size) (hB : B ≤ 1099511627776) :
    Calls Try.prog 63 #[.pointer (some ⟨ub, 0, none⟩)] w (Pst w0 L j ub rb s B unit9 (dynR s B p out)) := by
  have HS := Lib.hid S
  obtain ⟨R, hR⟩ : ∃ R, dynR s B p out = R := ⟨_, rfl⟩
  rw [hR]
  unfold dynR at hR
  clear S
  go_enter Try.func63, Try.ntmps63
  cases h1 : getR s 5 p out with
  | er e1 o1 =>
    rw [h1, Rs.bind_er] at hR
    have HH := Lib.hid (⟨h1, hR⟩ : _ ∧ _)
    clear h1 hR
    go_wp2_with fail
    refine (a_get 5 hj HS.out hs hp (by omega)).mono ?_
    rw [HH.out.1]
    rintro e w2 ⟨rfl, F2, p', S⟩
    go_wp2_with fail
    exact ⟨rfl, Pst.er HH.out.2.symm rfl F2 S⟩
  | ok a q1 o1 =>
    obtain ⟨ha, rfl, rfl, hp1⟩ := getR_ok h1
    have ha5 : a < 2 ^ 5 := by rw [ha]; exact getv_lt s false p 5
    rw [h1, Rs.bind_ok] at hR
    have HH := Lib.hid h1
    have HR := Lib.hid hR
    clear h1 hR ha
    go_wp2_with fail
    refine (a_get 5 hj HS.out hs hp (by omega)).mono ?_
    rw [HH.out]
    rintro e v1 ⟨rfl, F1, S⟩
    rw [izN_eq]
    have HS := Lib.hid S
    have hR := HR.out
    clear S HR HH
    cases h1 : getR s 5 (p + 5) o1 with
    | er e1 o1 =>
      rw [h1, Rs.bind_er] at hR
      have HH := Lib.hid (⟨h1, hR⟩ : _ ∧ _)
      clear h1 hR
      go_wp2_with fail
      refine (a_get 5 hj HS.out hs hp1 (by omega)).mono ?_
      rw [HH.out.1]
      rintro e w2 ⟨rfl, F2, p', S⟩
      go_wp2_with fail
      exact ⟨rfl, Pst.er HH.out.2.symm rfl F2 S⟩
    | ok b q2 o2 =>
      obtain ⟨hb, rfl, rfl, hp2⟩ := getR_ok h1
      have hb5 : b < 2 ^ 5 := by rw [hb]; exact getv_lt s false (p + 5) 5
      rw [h1, Rs.bind_ok] at hR
      have HH := Lib.hid h1
      have HR := Lib.hid hR
      clear h1 hR hb
      go_wp2_with fail
      refine (a_get 5 hj HS.out hs hp1 (by omega)).mono ?_
      rw [HH.out]
      rintro e v2 ⟨rfl, F2, S⟩
      rw [izN_eq]
      have HS := Lib.hid S
      have hR := HR.out
      clear S HR HH
      cases h1 : getR s 4 (p + 5 + 5) o2 with
      | er e1 o1 =>
        rw [h1, Rs.bind_er] at hR
        have HH := Lib.hid (⟨h1, hR⟩ : _ ∧ _)
        clear h1 hR
        go_wp2_with fail
        refine (a_get 4 hj HS.out hs hp2 (by omega)).mono ?_
        rw [HH.out.1]
        rintro e w2 ⟨rfl, F2, p', S⟩
        go_wp2_with fail
        exact ⟨rfl, Pst.er HH.out.2.symm rfl F2 S⟩
      | ok c q3 o3 =>
        obtain ⟨hc, rfl, rfl, hp3⟩ := getR_ok h1
        have hc5 : c < 2 ^ 4 := by rw [hc]; exact getv_lt s false (p + 5 + 5) 4
        rw [h1, Rs.bind_ok] at hR
        have HH := Lib.hid h1
        have HR := Lib.hid hR
        clear h1 hR hc
        go_wp2_with fail
        refine (a_get 4 hj HS.out hs hp2 (by omega)).mono ?_
        rw [HH.out]
        rintro e v3 ⟨rfl, F3, S⟩
        rw [izN_eq]
        have HS := Lib.hid S
        have hR := HR.out
        clear S HR HH
        by_cases hc1 : a + 257 ≤ 286
        · have k1 : ((a : Int) + 257) ≤ 286 := by omega
          by_cases hc2 : b + 1 ≤ 30
          · rw [if_pos ⟨hc1, hc2⟩] at hR
            have HR := Lib.hid hR
            clear hR
            have k2 : ((b : Int) + 1) ≤ 30 := by omega
            go_upto_region 2 with fail
            refine (must_ok v3).mono ?_
            rintro e w4 ⟨rfl, rfl⟩
            go_wp2_with fail
            clear k1 k2
            refine (order_walk v3).mono ?_
            rintro e v4 ⟨rfl, hx⟩
            have HS4 := Lib.hid (HS.out.quiet hx)
            clear hx HS
            go_upto_region 3 with (refine wpList_store_row rfl 120 _ _ rfl _ ord19 rfl rfl 120 _ (heap_alloc_at _) (by kernel_rfl) rfl ord19_one ?_)
            obtain ⟨Z, hZ⟩ : ∃ Z : Array Value, Z = #[.int .i64 0, .int .i64 0, .int .i64 0, .int .i64 0, .int .i64 0, .int .i64 0, .int .i64 0, .int .i64 0, .int .i64 0, .int .i64 0, .int .i64 0, .int .i64 0, .int .i64 0, .int .i64 0, .int .i64 0, .int .i64 0, .int .i64 0, .int .i64 0, .int .i64 0] := ⟨_, rfl⟩
            rw [← hZ]
            clear hZ
            obtain ⟨hx, hW⟩ := alloc_row v4 Z ord19 120
            have HS5 := Lib.hid (HS4.out.new hx (oOrd v4.heap.size) hW (fun k hk => by rw [List.mem_singleton.1 hk]; exact Nat.le_refl _))
            obtain ⟨W, hWW⟩ : ∃ W, (v4.alloc (.cells Z 120)).setRow v4.heap.size ord19 = W := ⟨_, rfl⟩
            rw [hWW] at HS5 ⊢
            clear hx hW hWW HS4
            obtain ⟨ob, hob⟩ : ∃ ob, v4.heap.size = ob := ⟨_, rfl⟩
            rw [hob] at HS5 ⊢
            clear hob
            obtain ⟨i0, hif, hz0, hz1, hz2⟩ := info_parts infoInt7
            obtain ⟨W2, hmk, hown, hgrow⟩ := run_make_full (P := Try.prog) W 0 42 3 i0 (.int .i64 0) 1 Try.underlying42 hif hz0 hz1 .i64 .i64 19 (by rw [hz2]; omega) (by unfold maxLen; omega) (by omega)
            have hx : Ext [] W W2 := (Ext.refl [] W).grown hgrow (fun k hk => by cases hk)
            have S := HS5.out.new hx (oOwn W.heap.size (zers 19)) (by
              have hm : (madeCells (Value.int .i64 0).cells (19 * 1)).toList = (zers 19).map iz := by
                unfold zers
                rw [List.map_replicate, Nat.mul_one]
                exact toList_madeCells_one _ _
              show W2.ownsRow 0 3 1 (.slice (some ⟨W.heap.size, 0, none⟩) 19 19) 19 ((zers 19).map iz)
              rw [← hm]; exact hown) (fun q hq => by simp [oOwn, oSl, Value.ownBlock] at hq; omega)
            obtain ⟨q, hq⟩ : ∃ q, W.heap.size = q := ⟨_, rfl⟩
            rw [hq] at hmk S
            have HS6 := Lib.hid S
            clear hx hown hgrow S hq hif hz0 hz1 hz2 HS5
            have hmk : (Instr.makeSlice 42 (.int .i64 19) (.int .i64 19)).run Try.prog W = .ok (.slice (some ⟨q, 0, none⟩) 19 19) W2 := hmk
            have k1 : (c : Int) + 4 ≤ 19 := by omega
            have k2 : (0 : Int) ≤ (c : Int) + 4 := by omega
            go_wp2_with fail
            clear hmk k1 k2
            go_loopg [33] (c + 4) (fun g iv wr => ∃ (k : Nat) (own : List Int) (p : Nat) (F' out : List Nat), g + k = c + 4 ∧ iv = .int .i64 k ∧ own.length = 19 ∧ p ≤ 8 * s.size ∧ ((ownL s g k own p out).bind (dynK s B a b)) = R ∧ Sep w0 wr (oOwn q own :: oOrd ob :: L.set j (oRun ub rb F' s B p out)))
            case atStart => exact ⟨0, zers 19, _, _, _, by omega, rfl, by unfold zers; simp, hp3, HR.out, HS6.out⟩
            case round =>
              clear HS6 HR hp1 hp2 hp3
              obtain ⟨k, own, p, F', out, hgk, rfl, hol, hp, hR, S⟩ := hrel
              have HS := Lib.hid S
              clear S
              by_cases hlt : k < c + 4
              · obtain ⟨g, rfl⟩ : ∃ g, gk = g + 1 := ⟨gk - 1, by omega⟩
                rw [ownL, Rs.bind_assoc] at hR
                have c0 : wr.cell? ⟨ob, k, none⟩ = some (iz ((ordN.getD k 0 : Nat) : Int)) := (cell_of_row _ _ k ord19 _ (0, 0) (HS.out.get 1 rfl)).trans (ord19_at k (by omega))
                have hx9 := ord_lt k (by omega)
                obtain ⟨x, hx⟩ : ∃ x, ordN.getD k 0 = x := ⟨_, rfl⟩
                rw [hx] at c0 hx9 hR
                clear hx
                have k1 : (k : Int) < (c : Int) + 4 := by omega
                cases h1 : getR s 3 p out with
                | er e1 o1 =>
                  rw [h1, Rs.bind_er] at hR
                  have HH := Lib.hid (⟨h1, hR⟩ : _ ∧ _)
                  clear h1 hR
                  go_wp2_with fail
                  refine (a_get (L := oOwn q own :: oOrd ob :: L) (j := j + 2) 3 (by simp; omega) HS.out hs hp (by omega)).mono ?_
                  rw [HH.out.1]
                  rintro e w2 ⟨rfl, F2, p', S⟩
                  go_wp2_with fail
                  exact ⟨rfl, Pst.er HH.out.2.symm rfl F2 S.tl.tl⟩
                | ok v p1 o1 =>
                  obtain ⟨hv, rfl, rfl, hp1⟩ := getR_ok h1
                  rw [h1, Rs.bind_ok] at hR
                  have HH := Lib.hid (⟨h1, hR⟩ : _ ∧ _)
                  clear h1 hR hv
                  go_wp2_with fail
                  refine (a_get (L := oOwn q own :: oOrd ob :: L) (j := j + 2) 3 (by simp; omega) HS.out hs hp (by omega)).mono ?_
                  rw [HH.out.1]
                  rintro e w2 ⟨rfl, F3, S⟩
                  rw [izN_eq]
                  have S : Sep w0 w2 (oOwn q own :: oOrd ob :: L.set j (oRun ub rb F3 s B (p + 3) o1)) := S
                  have hrow : w2.ownsRow 0 3 1 (.slice (some ⟨q, 0, none⟩) 19 19) 19 (own.map iz) := S.get 0 rfl
                  obtain ⟨y, hy⟩ : ∃ y, own[x]? = some y := ⟨_, List.getElem?_eq_getElem (by omega)⟩
                  have hcl : w2.cell? ⟨q, x, none⟩ = some (iz y) := ownsRow_at hrow (by rw [List.getElem?_map, hy]; rfl)
                  have hfr := ownsRow_free hrow x
                  have hst := ownsRow_store (i := x) hrow (iz (v : Int))
                  rw [← List.map_set] at hst
                  have HS2 := Lib.hid (S.upd 0 (oOwn q (own.set x (v : Int))) rfl ((Ext.refl _ w2).setCell ⟨q, x, none⟩ (iz (v : Int)) (.inl (by simp [oOwn, oSl, Value.ownBlock]))) (Fr.refl _ _) hst)
                  clear S hrow hy hst c0
                  have k2 : (x : Int) < 19 := by omega
                  go_wp2_with fail
                  go_roundg g
                  case measure => omega
                  case rel => exact ⟨k + 1, own.set x (v : Int), p + 3, F3, o1, by omega, by go_num, by rw [List.length_set]; exact hol, hp1, HH.out.2, HS2.out⟩
              · obtain rfl : gk = 0 := by omega
                rw [ownL, Rs.bind_ok] at hR
                have k1 : ¬ ((k : Int) < (c : Int) + 4) := by omega
                unfold dynK at hR
                have hown : wr.ownsRow 0 3 1 (.slice (some ⟨q, 0, none⟩) 19 19) own.length (own.map iz) := by rw [hol]; exact HS.out.get 0 rfl
                have hA0 := IntsArg.of_own hown
                by_cases hf0 : fullB own = true
                · rw [if_pos hf0] at hR
                  have hfw := full_walk _ own wr hA0.1 (by omega)
                  rw [hf0] at hfw
                  have HW := Lib.hid (⟨hfw, hA0, (full_codes hf0).1⟩ : _ ∧ _ ∧ _)
                  have HR := Lib.hid hR
                  clear hown hA0 hf0 hfw hR
                  go_wp2_with fail
                  refine HW.out.1.mono ?_
                  rintro e w5 ⟨rfl, hx⟩
                  have HS := Lib.hid (HS.out.tl.tl.quiet hx)
                  have HA := Lib.hid (HW.out.2.1.ext hx)
                  clear hx
                  go_wp2_with fail
                  refine (must_ok w5).mono ?_
                  rintro e w6 ⟨rfl, rfl⟩
                  go_wp2_with fail
                  refine (table_walk _ own w5 HA.out HW.out.2.2).mono ?_
                  rintro e w6 ⟨tb, Ft, rfl, hx, hp1, hf1⟩
                  have HS := Lib.hid (HS.out.new hx (oTab tb Ft own) hp1 hf1)
                  clear hx hp1 hf1 HW HA
                  cases h1 : rowF s own (a + 257 + (b + 1)) (8 * s.size - p + 2) [] p out with
                  | er e1 o1 =>
                    have hR := HR.out
                    rw [h1, Rs.bind_er] at hR
                    have HH := Lib.hid (⟨h1, hR⟩ : _ ∧ _)
                    clear h1 hR
                    go_wp2_with fail
                    refine (a_row (L := oTab tb Ft own :: L) (j := j + 1) 0 (a + 257 + (b + 1)) (by omega) (by simp; omega) rfl HS.out (by omega) hs hp (by omega)).mono ?_
                    rw [HH.out.1]
                    rintro e w7 ⟨rfl, F2, p', S⟩
                    go_wp2_with fail
                    exact ⟨rfl, Pst.er HH.out.2.symm rfl F2 S.tl⟩
                  | ok l p1 o1 =>
                    have hR := HR.out
                    obtain ⟨hln, hlb, hp1, rfl⟩ := rowF_ok _ _ _ _ hp (by omega) (by simp) h1
                    rw [h1, Rs.bind_ok] at hR
                    unfold dynT at hR
                    have HH := Lib.hid (⟨h1, hR⟩ : _ ∧ _)
                    clear h1 hR
                    go_wp2_with fail
                    refine (a_row (L := oTab tb Ft own :: L) (j := j + 1) 0 (a + 257 + (b + 1)) (by omega) (by simp; omega) rfl HS.out (by omega) hs hp (by omega)).mono ?_
                    rw [HH.out.1]
                    rintro e w7 ⟨ao, cap, rfl, F4, S⟩
                    have S : Sep w0 w7 (oIn ao cap l :: L.set j (oRun ub rb F4 s B p1 o1)) := S.sd
                    have hrow : w7.ownsRow 0 3 1 (.slice ao l.length cap) l.length (l.map iz) := S.get 0 rfl
                    obtain ⟨gb, cap', hgb⟩ := own_at hrow (by omega)
                    injection hgb with e1 _ e3
                    subst e1 e3
                    have hcap := (ownsRow_open hrow).choose_spec.2.1
                    have hcap2 := (ownsRow_open hrow).choose_spec.2.2.1
                    obtain ⟨hC1, hC2⟩ := ints_cut hrow (A := a + 257) (by omega)
                    have hc256 : w7.cell? ⟨gb, 256, none⟩ = some (iz (l.getD 256 0)) := ownsRow_at hrow (by rw [List.getElem?_map, List.getElem?_eq_getElem (by omega : 256 < l.length), List.getD_eq_getElem?_getD, List.getElem?_eq_getElem (by omega : 256 < l.length)]; rfl)
                    rw [hln] at hcap hC2 ⊢
                    rw [show a + 257 + (b + 1) - (a + 257) = b + 1 by omega] at hC2
                    have hl1 : (l.take (a + 257)).length = a + 257 := by rw [List.length_take]; omega
                    have hl2 : (l.drop (a + 257)).length = b + 1 := by rw [List.length_drop]; omega
                    have hb2 : ∀ x ∈ l.drop (a + 257), 0 ≤ x ∧ x ≤ 1000 := fun x hx => hlb x (List.mem_of_mem_drop hx)
                    have hRR := HH.out.2
                    obtain ⟨l1, hL1⟩ : ∃ l1, l.take (a + 257) = l1 := ⟨_, rfl⟩
                    obtain ⟨l2, hL2⟩ : ∃ l2, l.drop (a + 257) = l2 := ⟨_, rfl⟩
                    obtain ⟨y, hY⟩ : ∃ y, l.getD 256 0 = y := ⟨_, rfl⟩
                    unfold dynB at hRR
                    rw [hL1, hL2, hY] at hRR
                    rw [hL1] at hC1 hl1
                    rw [hL2] at hC2 hl2 hb2
                    rw [hY] at hc256
                    have HS := Lib.hid S
                    have HC := Lib.hid (⟨hC1, hC2, hb2, hl1, hl2, hc256⟩ : _ ∧ _ ∧ _ ∧ _ ∧ _ ∧ _)
                    have HR := Lib.hid hRR
                    clear S hrow hC1 hC2 hc256 hb2 hRR hL1 hL2 hY HH hlb hln hl1 hl2
                    unfold maxLen at hcap2
                    have k2 : (0 : Int) ≤ (a : Int) + 257 := by omega
                    have k3 : (a : Int) + 257 ≤ (cap : Int) := by omega
                    have k4 : (a : Int) + 257 ≤ ((a + 257 + (b + 1) : Nat) : Int) := by omega
                    go_wp2_with fail
                    refine wp_region_ext (by kernel_rfl) (by kernel_rfl) ?_
                    repeat (go_big_quiet_step (fail))
                    refine wpQuiet_nil ?_
                    rintro _ ⟨x8, rfl⟩
                    obtain ⟨w8, hw8⟩ : ∃ w8, x8.w = w8 := ⟨_, rfl⟩
                    have hx8 := x8.ext
                    rw [hw8] at hx8
                    rw [hw8]
                    have HS := Lib.hid (HS.out.quiet hx8)
                    have HD := Lib.hid (⟨HC.out.1.ext hx8, HC.out.2.1.ext hx8, Ext.cell hx8 HC.out.2.2.2.2.2⟩ : _ ∧ _ ∧ _)
                    have HL := Lib.hid (⟨HC.out.2.2.1, HC.out.2.2.2.1, HC.out.2.2.2.2.1⟩ : _ ∧ _ ∧ _)
                    have hR := HR.out
                    clear k2 k3 k4 hw8 hx8 hmk HC HR S
                    have hfw := full_walk _ l1 w8 HD.out.1.1 (by have := HL.out.2.1; omega)
                    cases hf1 : fullB l1 with
                    | false =>
                      rw [hf1] at hR hfw
                      simp only [Bool.false_and, Bool.false_eq_true, if_false] at hR
                      have HR := Lib.hid hR
                      have HW := Lib.hid hfw
                      clear hR hfw hf1
                      go_wp2_with fail
                      refine HW.out.mono ?_
                      rintro e w9 ⟨rfl, hx⟩
                      have HS := Lib.hid (HS.out.quiet hx)
                      clear hx HW
                      go_wp2_with fail
                      refine (must_er w9).mono ?_
                      rintro e w10 ⟨rfl, rfl⟩
                      go_wp2_with fail
                      exact ⟨rfl, Pst.er HR.out.symm rfl F4 HS.out.tl⟩
                    | true =>
                      rw [hf1] at hR hfw
                      have HW := Lib.hid (⟨hfw, (full_codes hf1).1⟩ : _ ∧ _)
                      clear hfw hf1
                      by_cases hy0 : 0 < y
                      · rw [decide_eq_true hy0] at hR
                        cases hf2 : fullB l2 with
                        | true =>
                          rw [hf2] at hR
                          simp only [Bool.true_and, Bool.true_or, if_true] at hR
                          have HR := Lib.hid hR
                          have HX2 := Lib.hid (⟨hf2, (full_codes hf2).1⟩ : _ ∧ _)
                          clear hR hf2
                          go_wp2_with fail
                          refine HW.out.1.mono ?_
                          rintro e w9 ⟨rfl, hx⟩
                          have HS := Lib.hid (HS.out.quiet hx)
                          have HD1 := Lib.hid (⟨HD.out.1.ext hx, HD.out.2.1.ext hx⟩ : _ ∧ _)
                          have hc9 := Ext.cell hx HD.out.2.2
                          clear hx HD
                          go_wp2_with fail
                          have hfw := full_walk _ l2 w9 HD1.out.2.1 (by have := HL.out.2.2; omega)
                          rw [HX2.out.1] at hfw
                          refine hfw.mono ?_
                          clear hfw
                          rintro e w10 ⟨rfl, hx⟩
                          have HS := Lib.hid (HS.out.quiet hx)
                          have HD2 := Lib.hid (⟨HD1.out.1.ext hx, HD1.out.2.ext hx⟩ : _ ∧ _)
                          clear hx HD1 hc9
                          go_wp2_with fail
                          refine (must_ok w10).mono ?_
                          rintro e w11 ⟨rfl, rfl⟩
                          go_wp2_with fail
                          refine (table_walk _ l1 w10 HD2.out.1 HW.out.2).mono ?_
                          rintro e w12 ⟨t1, Ft1, rfl, hx, hp9, hf1⟩
                          have HS := Lib.hid (HS.out.new hx (oTab t1 Ft1 l1) hp9 hf1)
                          have HD3 := Lib.hid (HD2.out.2.ext hx)
                          clear hx hp9 hf1 HD2
                          go_wp2_with fail
                          refine (table_walk _ l2 w12 HD3.out HX2.out.2).mono ?_
                          rintro e w13 ⟨t2, Ft2, rfl, hx, hp9, hf1⟩
                          have HS := Lib.hid (HS.out.new hx (oTab t2 Ft2 l2) hp9 hf1)
                          clear hx hp9 hf1 HD3
                          have hcd := a_coded (L := oTab t2 Ft2 l2 :: oTab t1 Ft1 l1 :: oIn (some ⟨gb, 0, none⟩) cap l :: L) (j := j + 3) 1 0 (by omega) (by omega) (by simp; omega) rfl rfl HS.out (by have := HL.out.2.1; omega) (by have := HL.out.2.2; omega) hs hp1 hB
                          rw [HR.out] at hcd
                          have HCD := Lib.hid hcd
                          clear hcd
                          go_wp2_with fail
                          refine HCD.out.mono ?_
                          intro e w14 h
                          have h := Pst.drop (Pst.drop (Pst.drop h))
                          cases hR9 : R with
                          | er er o =>
                            rw [hR9] at h
                            obtain ⟨rfl, F', p', S⟩ := h
                            go_wp2_with fail
                            exact ⟨rfl, Pst.er rfl rfl F' S⟩
                          | ok u q9 o =>
                            rw [hR9] at h
                            obtain ⟨rfl, F', S⟩ := h
                            have HR9 := Lib.hid hR9
                            have HS := Lib.hid S
                            clear S hR9
                            go_wp2_with fail
                            go_end0
                            exact Pst.ok HR9.out rfl F' HS.out
                        | false =>
                          rw [hf2] at hR
                          cases hf3 : fewB l2 with
                          | true =>
                            rw [hf3] at hR
                            simp only [Bool.true_and, Bool.or_true, if_true] at hR
                            have HR := Lib.hid hR
                            have HX2 := Lib.hid (⟨hf3, few_codes (l := l2) (by have := HL.out.2.2; omega) (fun x hx => (HL.out.1 x hx).1) hf3, hf2⟩ : _ ∧ _ ∧ _)
                            have HX2 : Hid (fewB l2 = true ∧ codesE l2 = 0 ∧ fullB l2 = false) := HX2
                            clear hR hf2 hf3
                            go_wp2_with fail
                            refine HW.out.1.mono ?_
                            rintro e w9 ⟨rfl, hx⟩
                            have HS := Lib.hid (HS.out.quiet hx)
                            have HD1 := Lib.hid (⟨HD.out.1.ext hx, HD.out.2.1.ext hx⟩ : _ ∧ _)
                            have hc9 := Ext.cell hx HD.out.2.2
                            clear hx HD
                            go_wp2_with fail
                            have hfw := full_walk _ l2 w9 HD1.out.2.1 (by have := HL.out.2.2; omega)
                            rw [HX2.out.2.2] at hfw
                            refine hfw.mono ?_
                            clear hfw
                            rintro e w10 ⟨rfl, hx⟩
                            have HS := Lib.hid (HS.out.quiet hx)
                            have HD2 := Lib.hid (⟨HD1.out.1.ext hx, HD1.out.2.ext hx⟩ : _ ∧ _)
                            clear hx HD1 hc9
                            go_wp2_with fail
                            have hfw := few_walk _ l2 w10 HD2.out.2.1 (by have := HL.out.2.2; omega) HL.out.1
                            rw [HX2.out.1] at hfw
                            refine hfw.mono ?_
                            clear hfw
                            rintro e w11 ⟨rfl, rfl⟩
                            have HX2 := Lib.hid (⟨HX2.out.1, HX2.out.2.1⟩ : _ ∧ _)
                            go_wp2_with fail
                            refine (must_ok w10).mono ?_
                            rintro e w11 ⟨rfl, rfl⟩
                            go_wp2_with fail
                            refine (table_walk _ l1 w10 HD2.out.1 HW.out.2).mono ?_
                            rintro e w12 ⟨t1, Ft1, rfl, hx, hp9, hf1⟩
                            have HS := Lib.hid (HS.out.new hx (oTab t1 Ft1 l1) hp9 hf1)
                            have HD3 := Lib.hid (HD2.out.2.ext hx)
                            clear hx hp9 hf1 HD2
                            go_wp2_with fail
                            refine (table_walk _ l2 w12 HD3.out HX2.out.2).mono ?_
                            rintro e w13 ⟨t2, Ft2, rfl, hx, hp9, hf1⟩
                            have HS := Lib.hid (HS.out.new hx (oTab t2 Ft2 l2) hp9 hf1)
                            clear hx hp9 hf1 HD3
                            have hcd := a_coded (L := oTab t2 Ft2 l2 :: oTab t1 Ft1 l1 :: oIn (some ⟨gb, 0, none⟩) cap l :: L) (j := j + 3) 1 0 (by omega) (by omega) (by simp; omega) rfl rfl HS.out (by have := HL.out.2.1; omega) (by have := HL.out.2.2; omega) hs hp1 hB
                            rw [HR.out] at hcd
                            have HCD := Lib.hid hcd
                            clear hcd
                            go_wp2_with fail
                            refine HCD.out.mono ?_
                            intro e w14 h
                            have h := Pst.drop (Pst.drop (Pst.drop h))
                            cases hR9 : R with
                            | er er o =>
                              rw [hR9] at h
                              obtain ⟨rfl, F', p', S⟩ := h
                              go_wp2_with fail
                              exact ⟨rfl, Pst.er rfl rfl F' S⟩
                            | ok u q9 o =>
                              rw [hR9] at h
                              obtain ⟨rfl, F', S⟩ := h
                              have HR9 := Lib.hid hR9
                              have HS := Lib.hid S
                              clear S hR9
                              go_wp2_with fail
                              go_end0
                              exact Pst.ok HR9.out rfl F' HS.out
                          | false =>
                            rw [hf3] at hR
                            simp only [Bool.true_and, Bool.or_false, Bool.and_false, Bool.false_eq_true, if_false] at hR
                            have HR := Lib.hid hR
                            have HX2 := Lib.hid (⟨hf3, hf2⟩ : _ ∧ _)
                            clear hR hf2 hf3
                            go_wp2_with fail
                            refine HW.out.1.mono ?_
                            rintro e w9 ⟨rfl, hx⟩
                            have HS := Lib.hid (HS.out.quiet hx)
                            have HD1 := Lib.hid (⟨HD.out.1.ext hx, HD.out.2.1.ext hx⟩ : _ ∧ _)
                            have hc9 := Ext.cell hx HD.out.2.2
                            clear hx HD
                            go_wp2_with fail
                            have hfw := full_walk _ l2 w9 HD1.out.2.1 (by have := HL.out.2.2; omega)
                            rw [HX2.out.2] at hfw
                            refine hfw.mono ?_
                            clear hfw
                            rintro e w10 ⟨rfl, hx⟩
                            have HS := Lib.hid (HS.out.quiet hx)
                            have HD2 := Lib.hid (⟨HD1.out.1.ext hx, HD1.out.2.ext hx⟩ : _ ∧ _)
                            clear hx HD1 hc9
                            go_wp2_with fail
                            have hfw := few_walk _ l2 w10 HD2.out.2.1 (by have := HL.out.2.2; omega) HL.out.1
                            rw [HX2.out.1] at hfw
                            refine hfw.mono ?_
                            clear hfw
                            rintro e w11 ⟨rfl, rfl⟩
                            go_wp2_with fail
                            refine (must_er w10).mono ?_
                            rintro e w11 ⟨rfl, rfl⟩
                            go_wp2_with fail
                            exact ⟨rfl, Pst.er HR.out.symm rfl F4 HS.out.tl⟩
                      · rw [decide_eq_false hy0] at hR
                        simp only [Bool.and_false, Bool.false_and, Bool.false_eq_true, if_false] at hR
                        have HR := Lib.hid hR
                        have hy1 : y ≤ 0 := by omega
                        clear hR hy0
                        go_wp2_with fail
                        refine HW.out.1.mono ?_
                        rintro e w9 ⟨rfl, hx⟩
                        have HS := Lib.hid (HS.out.quiet hx)
                        have hc9 := Ext.cell hx HD.out.2.2
                        clear hx HD
                        go_wp2_with fail
                        refine (must_er w9).mono ?_
                        rintro e w10 ⟨rfl, rfl⟩
                        go_wp2_with fail
                        exact ⟨rfl, Pst.er HR.out.symm rfl F4 HS.out.tl⟩
                · rw [if_neg hf0] at hR
                  have hfw := full_walk _ own wr hA0.1 (by omega)
                  rw [Bool.eq_false_iff.2 hf0] at hfw
                  have HW := Lib.hid hfw
                  have HR := Lib.hid hR
                  clear hown hA0 hf0 hfw hR
                  go_wp2_with fail
                  refine HW.out.mono ?_
                  rintro e w5 ⟨rfl, hx⟩
                  have HS := Lib.hid (HS.out.tl.tl.quiet hx)
                  clear hx
                  go_wp2_with fail
                  refine (must_er w5).mono ?_
                  rintro e w6 ⟨rfl, rfl⟩
                  go_wp2_with fail
                  exact ⟨rfl, Pst.er HR.out.symm rfl F' HS.out⟩
          · rw [if_neg (fun h => hc2 h.2)] at hR
            have HR := Lib.hid hR
            clear hR
            have k2 : decide (((b : Int) + 1) ≤ 30) = false := decide_eq_false (by omega)
            go_wp2_with fail
            refine (must_er v3).mono ?_
            rintro e w4 ⟨rfl, rfl⟩
            go_wp2_with fail
            exact ⟨rfl, Pst.er HR.out.symm rfl F3 HS.out⟩
        · rw [if_neg (fun h => hc1 h.1)] at hR
          have HR := Lib.hid hR
          clear hR
          have k1 : decide (((a : Int) + 257) ≤ 286) = false := decide_eq_false (by omega)
          go_wp2_with fail
          refine (must_er v3).mono ?_
          rintro e w4 ⟨rfl, rfl⟩
          go_wp2_with fail
          exact ⟨rfl, Pst.er HR.out.symm rfl F3 HS.out⟩
end
end Go.Proofs.Ytgjenpdppobpkaa.If
