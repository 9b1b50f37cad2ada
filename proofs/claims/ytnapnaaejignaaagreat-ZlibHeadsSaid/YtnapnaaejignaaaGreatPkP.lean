/-
  InO, InP, InQ, InR, InT, in one text.
-/
import Derived.Test.YtnapnaaejignaaaGreatPkO
import Derived.Defers
import Derived.Recover
import Derived.Laws.Pointers
/-! InO: inflate: dynamic walked. -/
namespace Go.Proofs.YtnapnaaejignaaaGreat.If
open Go.RowKit Bt Hu

theorem alloc_row (w : World) (Z cs : Array Value) (t : TypeId) : Ext [] w ((w.alloc (.cells Z t)).setRow w.heap.size cs) ∧ ((w.alloc (.cells Z t)).setRow w.heap.size cs).heap[w.heap.size]? = some (.cells cs t (0, 0)) :=
  ⟨((Ext.refl [] w).alloc (.cells Z t)).trans' (ext_setRow _ w.heap.size cs) (fun i hi h => by rw [List.mem_singleton.1 h] at hi; exact absurd hi (Nat.lt_irrefl _)), setRow_heap _ w.heap.size Z cs t (0, 0) (heap_alloc_at _)⟩
def oOwn (q : Nat) (own : List Int) : Ob := oSl 3 1 (.slice (some ⟨q, 0, none⟩) 19 19) 19 (own.map iz)
def oOrd (ob : Nat) : Ob := Ob.one ob (.cells ord19 160 (0, 0))
end Go.Proofs.YtnapnaaejignaaaGreat.If
namespace Go.Proofs.YtnapnaaejignaaaGreat
theorem Sep.sd {w0 w : World} {a b : Ob} {l : List Ob} (h : Sep w0 w (a :: b :: l)) : Sep w0 w (a :: l) := by
  refine ⟨h.ext, fun o ho => h.each o ?_, fun o ho => h.base o ?_, fun i j o o' hi hj hij => ?_⟩
  · rcases List.mem_cons.1 ho with rfl | ho
    · exact List.mem_cons_self ..
    · exact List.mem_cons_of_mem _ (List.mem_cons_of_mem _ ho)
  · rcases List.mem_cons.1 ho with rfl | ho
    · exact List.mem_cons_self ..
    · exact List.mem_cons_of_mem _ (List.mem_cons_of_mem _ ho)
  · cases i with
    | zero =>
      cases j with
      | zero => exact absurd rfl hij
      | succ j => exact h.apart 0 (j + 2) o o' (by simpa using hi) (by simpa using hj) (by omega)
    | succ i =>
      cases j with
      | zero => exact h.apart (i + 2) 0 o o' (by simpa using hi) (by simpa using hj) (by omega)
      | succ j => exact h.apart (i + 2) (j + 2) o o' (by simpa using hi) (by simpa using hj) (by omega)
end Go.Proofs.YtnapnaaejignaaaGreat
namespace Go.Proofs.YtnapnaaejignaaaGreat.If
open Go.RowKit Bt Hu
theorem ints_cut {w : World} {g cap A : Nat} {l : List Int} (h : w.ownsRow 0 3 1 (.slice (some ⟨g, 0, none⟩) l.length cap) l.length (l.map iz)) (hA : A ≤ l.length) :
    IntsArg w (.slice (some ⟨g, 0, none⟩) A cap) (l.take A) ∧ IntsArg w (.slice (some ⟨g, A, none⟩) (l.length - A) (cap - A)) (l.drop A) := by
  obtain ⟨cs, _, h1, h2, _, _⟩ := ownsRow_open h
  have e1 : (l.take A).length = A := by rw [List.length_take]; omega
  have e2 : (l.drop A).length = l.length - A := List.length_drop
  refine ⟨⟨⟨some ⟨g, 0, none⟩, cap, by rw [e1], fun _ => ⟨g, 0, rfl, fun i x hi => ?_⟩⟩, some ⟨g, 0, none⟩, cap, by rw [e1], by omega, h2, fun h => by cases h⟩,
    ⟨⟨some ⟨g, A, none⟩, cap - A, by rw [e2], fun _ => ⟨g, A, rfl, fun i x hi => ?_⟩⟩, some ⟨g, A, none⟩, cap - A, by rw [e2], by omega, by omega, fun h => by cases h⟩⟩
  · rw [Nat.zero_add]
    have hi' : i < A := by have := (List.getElem?_eq_some_iff.1 hi).1; omega
    rw [List.getElem?_take_of_lt hi'] at hi
    exact ownsRow_at h (by rw [List.getElem?_map, hi]; rfl)
  · rw [List.getElem?_drop] at hi
    exact ownsRow_at h (by rw [List.getElem?_map, hi]; rfl)
section
variable {w0 w : World} {L : List Ob} {j ub rb : Nat} {F : List Nat} {s : ByteArray} {B p : Nat} {out : List Nat}
set_option maxRecDepth 100000 in
set_option maxHeartbeats 1000000 in
theorem a_dyn (hj : j < L.length) (S : Sep w0 w (L.set j (oRun ub rb F s B p out))) (hs : s.size ≤ 1048576) (hp : p ≤ 8 * s.size) (hB : B ≤ 1099511627776) :
    Calls Tryz.prog 70 #[.pointer (some ⟨ub, 0, none⟩)] w (Pst w0 L j ub rb s B unit9 (dynR s B p out)) := by
  have HS := Lib.hid S
  obtain ⟨R, hR⟩ : ∃ R, dynR s B p out = R := ⟨_, rfl⟩
  rw [hR]
  unfold dynR at hR
  clear S
  go_enter Tryz.func70, Tryz.ntmps70
  cases h1 : getR s 5 p out with
  | er e1 o1 =>
    rw [h1, Rs.bind_er] at hR
    have HH := Lib.hid (⟨h1, hR⟩ : _ ∧ _)
    clear h1 hR
    go_wp2_with fail
    refine (a_get 5 hj HS.out hs hp (by omega)).mono ?_
    rw [HH.out.1]
    rintro e w2 ⟨rfl, F2, p', S⟩
    go_wp2_with fail
    exact ⟨rfl, Pst.er HH.out.2.symm rfl F2 S⟩
  | ok a q1 o1 =>
    obtain ⟨ha, rfl, rfl, hp1⟩ := getR_ok h1
    have ha5 : a < 2 ^ 5 := by rw [ha]; exact getv_lt s false p 5
    rw [h1, Rs.bind_ok] at hR
    have HH := Lib.hid h1
    have HR := Lib.hid hR
    clear h1 hR ha
    go_wp2_with fail
    refine (a_get 5 hj HS.out hs hp (by omega)).mono ?_
    rw [HH.out]
    rintro e v1 ⟨rfl, F1, S⟩
    rw [izN_eq]
    have HS := Lib.hid S
    have hR := HR.out
    clear S HR HH
    cases h1 : getR s 5 (p + 5) o1 with
    | er e1 o1 =>
      rw [h1, Rs.bind_er] at hR
      have HH := Lib.hid (⟨h1, hR⟩ : _ ∧ _)
      clear h1 hR
      go_wp2_with fail
      refine (a_get 5 hj HS.out hs hp1 (by omega)).mono ?_
      rw [HH.out.1]
      rintro e w2 ⟨rfl, F2, p', S⟩
      go_wp2_with fail
      exact ⟨rfl, Pst.er HH.out.2.symm rfl F2 S⟩
    | ok b q2 o2 =>
      obtain ⟨hb, rfl, rfl, hp2⟩ := getR_ok h1
      have hb5 : b < 2 ^ 5 := by rw [hb]; exact getv_lt s false (p + 5) 5
      rw [h1, Rs.bind_ok] at hR
      have HH := Lib.hid h1
      have HR := Lib.hid hR
      clear h1 hR hb
      go_wp2_with fail
      refine (a_get 5 hj HS.out hs hp1 (by omega)).mono ?_
      rw [HH.out]
      rintro e v2 ⟨rfl, F2, S⟩
      rw [izN_eq]
      have HS := Lib.hid S
      have hR := HR.out
      clear S HR HH
      cases h1 : getR s 4 (p + 5 + 5) o2 with
      | er e1 o1 =>
        rw [h1, Rs.bind_er] at hR
        have HH := Lib.hid (⟨h1, hR⟩ : _ ∧ _)
        clear h1 hR
        go_wp2_with fail
        refine (a_get 4 hj HS.out hs hp2 (by omega)).mono ?_
        rw [HH.out.1]
        rintro e w2 ⟨rfl, F2, p', S⟩
        go_wp2_with fail
        exact ⟨rfl, Pst.er HH.out.2.symm rfl F2 S⟩
      | ok c q3 o3 =>
        obtain ⟨hc, rfl, rfl, hp3⟩ := getR_ok h1
        have hc5 : c < 2 ^ 4 := by rw [hc]; exact getv_lt s false (p + 5 + 5) 4
        rw [h1, Rs.bind_ok] at hR
        have HH := Lib.hid h1
        have HR := Lib.hid hR
        clear h1 hR hc
        go_wp2_with fail
        refine (a_get 4 hj HS.out hs hp2 (by omega)).mono ?_
        rw [HH.out]
        rintro e v3 ⟨rfl, F3, S⟩
        rw [izN_eq]
        have HS := Lib.hid S
        have hR := HR.out
        clear S HR HH
        by_cases hc1 : a + 257 ≤ 286
        · have k1 : ((a : Int) + 257) ≤ 286 := by omega
          by_cases hc2 : b + 1 ≤ 30
          · rw [if_pos ⟨hc1, hc2⟩] at hR
            have HR := Lib.hid hR
            clear hR
            have k2 : ((b : Int) + 1) ≤ 30 := by omega
            go_upto_region 2 with fail
            refine (must_ok v3).mono ?_
            rintro e w4 ⟨rfl, rfl⟩
            go_wp2_with fail
            clear k1 k2
            refine (order_walk v3).mono ?_
            rintro e v4 ⟨rfl, hx⟩
            have HS4 := Lib.hid (HS.out.quiet hx)
            clear hx HS
            go_upto_region 3 with (refine wpList_store_row rfl 160 _ _ rfl _ ord19 rfl rfl 160 _ (heap_alloc_at _) (by kernel_rfl) rfl ord19_one ?_)
            obtain ⟨Z, hZ⟩ : ∃ Z : Array Value, Z = #[.int .i64 0, .int .i64 0, .int .i64 0, .int .i64 0, .int .i64 0, .int .i64 0, .int .i64 0, .int .i64 0, .int .i64 0, .int .i64 0, .int .i64 0, .int .i64 0, .int .i64 0, .int .i64 0, .int .i64 0, .int .i64 0, .int .i64 0, .int .i64 0, .int .i64 0] := ⟨_, rfl⟩
            rw [← hZ]
            clear hZ
            obtain ⟨hx, hW⟩ := alloc_row v4 Z ord19 160
            have HS5 := Lib.hid (HS4.out.new hx (oOrd v4.heap.size) hW (fun k hk => by rw [List.mem_singleton.1 hk]; exact Nat.le_refl _))
            obtain ⟨W, hWW⟩ : ∃ W, (v4.alloc (.cells Z 160)).setRow v4.heap.size ord19 = W := ⟨_, rfl⟩
            rw [hWW] at HS5 ⊢
            clear hx hW hWW HS4
            obtain ⟨ob, hob⟩ : ∃ ob, v4.heap.size = ob := ⟨_, rfl⟩
            rw [hob] at HS5 ⊢
            clear hob
            obtain ⟨i0, hif, hz0, hz1, hz2⟩ := info_parts infoInt7
            obtain ⟨W2, hmk, hown, hgrow⟩ := run_make_full (P := Tryz.prog) W 0 58 3 i0 (.int .i64 0) 1 Tryz.underlying58 hif hz0 hz1 .i64 .i64 19 (by rw [hz2]; omega) (by unfold maxLen; omega) (by omega)
            have hx : Ext [] W W2 := (Ext.refl [] W).grown hgrow (fun k hk => by cases hk)
            have S := HS5.out.new hx (oOwn W.heap.size (zers 19)) (by
              have hm : (madeCells (Value.int .i64 0).cells (19 * 1)).toList = (zers 19).map iz := by
                unfold zers
                rw [List.map_replicate, Nat.mul_one]
                exact toList_madeCells_one _ _
              show W2.ownsRow 0 3 1 (.slice (some ⟨W.heap.size, 0, none⟩) 19 19) 19 ((zers 19).map iz)
              rw [← hm]; exact hown) (fun q hq => by simp [oOwn, oSl, Value.ownBlock] at hq; omega)
            obtain ⟨q, hq⟩ : ∃ q, W.heap.size = q := ⟨_, rfl⟩
            rw [hq] at hmk S
            have HS6 := Lib.hid S
            clear hx hown hgrow S hq hif hz0 hz1 hz2 HS5
            have hmk : (Instr.makeSlice 58 (.int .i64 19) (.int .i64 19)).run Tryz.prog W = .ok (.slice (some ⟨q, 0, none⟩) 19 19) W2 := hmk
            have k1 : (c : Int) + 4 ≤ 19 := by omega
            have k2 : (0 : Int) ≤ (c : Int) + 4 := by omega
            go_wp2_with fail
            clear hmk k1 k2
            go_loopg [33] (c + 4) (fun g iv wr => ∃ (k : Nat) (own : List Int) (p : Nat) (F' out : List Nat), g + k = c + 4 ∧ iv = .int .i64 k ∧ own.length = 19 ∧ p ≤ 8 * s.size ∧ ((ownL s g k own p out).bind (dynK s B a b)) = R ∧ Sep w0 wr (oOwn q own :: oOrd ob :: L.set j (oRun ub rb F' s B p out)))
            case atStart => exact ⟨0, zers 19, _, _, _, by omega, rfl, by unfold zers; simp, hp3, HR.out, HS6.out⟩
            case round =>
              clear HS6 HR hp1 hp2 hp3
              obtain ⟨k, own, p, F', out, hgk, rfl, hol, hp, hR, S⟩ := hrel
              have HS := Lib.hid S
              clear S
              by_cases hlt : k < c + 4
              · obtain ⟨g, rfl⟩ : ∃ g, gk = g + 1 := ⟨gk - 1, by omega⟩
                rw [ownL, Rs.bind_assoc] at hR
                have c0 : wr.cell? ⟨ob, k, none⟩ = some (iz ((ordN.getD k 0 : Nat) : Int)) := (cell_of_row _ _ k ord19 _ (0, 0) (HS.out.get 1 rfl)).trans (ord19_at k (by omega))
                have hx9 := ord_lt k (by omega)
                obtain ⟨x, hx⟩ : ∃ x, ordN.getD k 0 = x := ⟨_, rfl⟩
                rw [hx] at c0 hx9 hR
                clear hx
                have k1 : (k : Int) < (c : Int) + 4 := by omega
                cases h1 : getR s 3 p out with
                | er e1 o1 =>
                  rw [h1, Rs.bind_er] at hR
                  have HH := Lib.hid (⟨h1, hR⟩ : _ ∧ _)
                  clear h1 hR
                  go_wp2_with fail
                  refine (a_get (L := oOwn q own :: oOrd ob :: L) (j := j + 2) 3 (by simp; omega) HS.out hs hp (by omega)).mono ?_
                  rw [HH.out.1]
                  rintro e w2 ⟨rfl, F2, p', S⟩
                  go_wp2_with fail
                  exact ⟨rfl, Pst.er HH.out.2.symm rfl F2 S.tl.tl⟩
                | ok v p1 o1 =>
                  obtain ⟨hv, rfl, rfl, hp1⟩ := getR_ok h1
                  rw [h1, Rs.bind_ok] at hR
                  have HH := Lib.hid (⟨h1, hR⟩ : _ ∧ _)
                  clear h1 hR hv
                  go_wp2_with fail
                  refine (a_get (L := oOwn q own :: oOrd ob :: L) (j := j + 2) 3 (by simp; omega) HS.out hs hp (by omega)).mono ?_
                  rw [HH.out.1]
                  rintro e w2 ⟨rfl, F3, S⟩
                  rw [izN_eq]
                  have S : Sep w0 w2 (oOwn q own :: oOrd ob :: L.set j (oRun ub rb F3 s B (p + 3) o1)) := S
                  have hrow : w2.ownsRow 0 3 1 (.slice (some ⟨q, 0, none⟩) 19 19) 19 (own.map iz) := S.get 0 rfl
                  obtain ⟨y, hy⟩ : ∃ y, own[x]? = some y := ⟨_, List.getElem?_eq_getElem (by omega)⟩
                  have hcl : w2.cell? ⟨q, x, none⟩ = some (iz y) := ownsRow_at hrow (by rw [List.getElem?_map, hy]; rfl)
                  have hfr := ownsRow_free hrow x
                  have hst := ownsRow_store (i := x) hrow (iz (v : Int))
                  rw [← List.map_set] at hst
                  have HS2 := Lib.hid (S.upd 0 (oOwn q (own.set x (v : Int))) rfl ((Ext.refl _ w2).setCell ⟨q, x, none⟩ (iz (v : Int)) (.inl (by simp [oOwn, oSl, Value.ownBlock]))) (Fr.refl _ _) hst)
                  clear S hrow hy hst c0
                  have k2 : (x : Int) < 19 := by omega
                  go_wp2_with fail
                  go_roundg g
                  case measure => omega
                  case rel => exact ⟨k + 1, own.set x (v : Int), p + 3, F3, o1, by omega, by go_num, by rw [List.length_set]; exact hol, hp1, HH.out.2, HS2.out⟩
              · obtain rfl : gk = 0 := by omega
                rw [ownL, Rs.bind_ok] at hR
                have k1 : ¬ ((k : Int) < (c : Int) + 4) := by omega
                unfold dynK at hR
                have hown : wr.ownsRow 0 3 1 (.slice (some ⟨q, 0, none⟩) 19 19) own.length (own.map iz) := by rw [hol]; exact HS.out.get 0 rfl
                have hA0 := IntsArg.of_own hown
                by_cases hf0 : fullB own = true
                · rw [if_pos hf0] at hR
                  have hfw := full_walk _ own wr hA0.1 (by omega)
                  rw [hf0] at hfw
                  have HW := Lib.hid (⟨hfw, hA0, (full_codes hf0).1⟩ : _ ∧ _ ∧ _)
                  have HR := Lib.hid hR
                  clear hown hA0 hf0 hfw hR
                  go_wp2_with fail
                  refine HW.out.1.mono ?_
                  rintro e w5 ⟨rfl, hx⟩
                  have HS := Lib.hid (HS.out.tl.tl.quiet hx)
                  have HA := Lib.hid (HW.out.2.1.ext hx)
                  clear hx
                  go_wp2_with fail
                  refine (must_ok w5).mono ?_
                  rintro e w6 ⟨rfl, rfl⟩
                  go_wp2_with fail
                  refine (table_walk _ own w5 HA.out HW.out.2.2).mono ?_
                  rintro e w6 ⟨tb, Ft, rfl, hx, hp1, hf1⟩
                  have HS := Lib.hid (HS.out.new hx (oTab tb Ft own) hp1 hf1)
                  clear hx hp1 hf1 HW HA
                  cases h1 : rowF s own (a + 257 + (b + 1)) (8 * s.size - p + 2) [] p out with
                  | er e1 o1 =>
                    have hR := HR.out
                    rw [h1, Rs.bind_er] at hR
                    have HH := Lib.hid (⟨h1, hR⟩ : _ ∧ _)
                    clear h1 hR
                    go_wp2_with fail
                    refine (a_row (L := oTab tb Ft own :: L) (j := j + 1) 0 (a + 257 + (b + 1)) (by omega) (by simp; omega) rfl HS.out (by omega) hs hp (by omega)).mono ?_
                    rw [HH.out.1]
                    rintro e w7 ⟨rfl, F2, p', S⟩
                    go_wp2_with fail
                    exact ⟨rfl, Pst.er HH.out.2.symm rfl F2 S.tl⟩
                  | ok l p1 o1 =>
                    have hR := HR.out
                    obtain ⟨hln, hlb, hp1, rfl⟩ := rowF_ok _ _ _ _ hp (by omega) (by simp) h1
                    rw [h1, Rs.bind_ok] at hR
                    unfold dynT at hR
                    have HH := Lib.hid (⟨h1, hR⟩ : _ ∧ _)
                    clear h1 hR
                    go_wp2_with fail
                    refine (a_row (L := oTab tb Ft own :: L) (j := j + 1) 0 (a + 257 + (b + 1)) (by omega) (by simp; omega) rfl HS.out (by omega) hs hp (by omega)).mono ?_
                    rw [HH.out.1]
                    rintro e w7 ⟨ao, cap, rfl, F4, S⟩
                    have S : Sep w0 w7 (oIn ao cap l :: L.set j (oRun ub rb F4 s B p1 o1)) := S.sd
                    have hrow : w7.ownsRow 0 3 1 (.slice ao l.length cap) l.length (l.map iz) := S.get 0 rfl
                    obtain ⟨gb, cap', hgb⟩ := own_at hrow (by omega)
                    injection hgb with e1 _ e3
                    subst e1 e3
                    have hcap := (ownsRow_open hrow).choose_spec.2.1
                    have hcap2 := (ownsRow_open hrow).choose_spec.2.2.1
                    obtain ⟨hC1, hC2⟩ := ints_cut hrow (A := a + 257) (by omega)
                    have hc256 : w7.cell? ⟨gb, 256, none⟩ = some (iz (l.getD 256 0)) := ownsRow_at hrow (by rw [List.getElem?_map, List.getElem?_eq_getElem (by omega : 256 < l.length), List.getD_eq_getElem?_getD, List.getElem?_eq_getElem (by omega : 256 < l.length)]; rfl)
                    rw [hln] at hcap hC2 ⊢
                    rw [show a + 257 + (b + 1) - (a + 257) = b + 1 by omega] at hC2
                    have hl1 : (l.take (a + 257)).length = a + 257 := by rw [List.length_take]; omega
                    have hl2 : (l.drop (a + 257)).length = b + 1 := by rw [List.length_drop]; omega
                    have hb2 : ∀ x ∈ l.drop (a + 257), 0 ≤ x ∧ x ≤ 1000 := fun x hx => hlb x (List.mem_of_mem_drop hx)
                    have hRR := HH.out.2
                    obtain ⟨l1, hL1⟩ : ∃ l1, l.take (a + 257) = l1 := ⟨_, rfl⟩
                    obtain ⟨l2, hL2⟩ : ∃ l2, l.drop (a + 257) = l2 := ⟨_, rfl⟩
                    obtain ⟨y, hY⟩ : ∃ y, l.getD 256 0 = y := ⟨_, rfl⟩
                    unfold dynB at hRR
                    rw [hL1, hL2, hY] at hRR
                    rw [hL1] at hC1 hl1
                    rw [hL2] at hC2 hl2 hb2
                    rw [hY] at hc256
                    have HS := Lib.hid S
                    have HC := Lib.hid (⟨hC1, hC2, hb2, hl1, hl2, hc256⟩ : _ ∧ _ ∧ _ ∧ _ ∧ _ ∧ _)
                    have HR := Lib.hid hRR
                    clear S hrow hC1 hC2 hc256 hb2 hRR hL1 hL2 hY HH hlb hln hl1 hl2
                    unfold maxLen at hcap2
                    have k2 : (0 : Int) ≤ (a : Int) + 257 := by omega
                    have k3 : (a : Int) + 257 ≤ (cap : Int) := by omega
                    have k4 : (a : Int) + 257 ≤ ((a + 257 + (b + 1) : Nat) : Int) := by omega
                    go_wp2_with fail
                    refine wp_region_ext (by kernel_rfl) (by kernel_rfl) ?_
                    repeat (go_big_quiet_step (fail))
                    refine wpQuiet_nil ?_
                    rintro _ ⟨x8, rfl⟩
                    obtain ⟨w8, hw8⟩ : ∃ w8, x8.w = w8 := ⟨_, rfl⟩
                    have hx8 := x8.ext
                    rw [hw8] at hx8
                    rw [hw8]
                    have HS := Lib.hid (HS.out.quiet hx8)
                    have HD := Lib.hid (⟨HC.out.1.ext hx8, HC.out.2.1.ext hx8, Ext.cell hx8 HC.out.2.2.2.2.2⟩ : _ ∧ _ ∧ _)
                    have HL := Lib.hid (⟨HC.out.2.2.1, HC.out.2.2.2.1, HC.out.2.2.2.2.1⟩ : _ ∧ _ ∧ _)
                    have hR := HR.out
                    clear k2 k3 k4 hw8 hx8 hmk HC HR S
                    have hfw := full_walk _ l1 w8 HD.out.1.1 (by have := HL.out.2.1; omega)
                    cases hf1 : fullB l1 with
                    | false =>
                      rw [hf1] at hR hfw
                      simp only [Bool.false_and, Bool.false_eq_true, if_false] at hR
                      have HR := Lib.hid hR
                      have HW := Lib.hid hfw
                      clear hR hfw hf1
                      go_wp2_with fail
                      refine HW.out.mono ?_
                      rintro e w9 ⟨rfl, hx⟩
                      have HS := Lib.hid (HS.out.quiet hx)
                      clear hx HW
                      go_wp2_with fail
                      refine (must_er w9).mono ?_
                      rintro e w10 ⟨rfl, rfl⟩
                      go_wp2_with fail
                      exact ⟨rfl, Pst.er HR.out.symm rfl F4 HS.out.tl⟩
                    | true =>
                      rw [hf1] at hR hfw
                      have HW := Lib.hid (⟨hfw, (full_codes hf1).1⟩ : _ ∧ _)
                      clear hfw hf1
                      by_cases hy0 : 0 < y
                      · rw [decide_eq_true hy0] at hR
                        cases hf2 : fullB l2 with
                        | true =>
                          rw [hf2] at hR
                          simp only [Bool.true_and, Bool.true_or, if_true] at hR
                          have HR := Lib.hid hR
                          have HX2 := Lib.hid (⟨hf2, (full_codes hf2).1⟩ : _ ∧ _)
                          clear hR hf2
                          go_wp2_with fail
                          refine HW.out.1.mono ?_
                          rintro e w9 ⟨rfl, hx⟩
                          have HS := Lib.hid (HS.out.quiet hx)
                          have HD1 := Lib.hid (⟨HD.out.1.ext hx, HD.out.2.1.ext hx⟩ : _ ∧ _)
                          have hc9 := Ext.cell hx HD.out.2.2
                          clear hx HD
                          go_wp2_with fail
                          have hfw := full_walk _ l2 w9 HD1.out.2.1 (by have := HL.out.2.2; omega)
                          rw [HX2.out.1] at hfw
                          refine hfw.mono ?_
                          clear hfw
                          rintro e w10 ⟨rfl, hx⟩
                          have HS := Lib.hid (HS.out.quiet hx)
                          have HD2 := Lib.hid (⟨HD1.out.1.ext hx, HD1.out.2.ext hx⟩ : _ ∧ _)
                          clear hx HD1 hc9
                          go_wp2_with fail
                          refine (must_ok w10).mono ?_
                          rintro e w11 ⟨rfl, rfl⟩
                          go_wp2_with fail
                          refine (table_walk _ l1 w10 HD2.out.1 HW.out.2).mono ?_
                          rintro e w12 ⟨t1, Ft1, rfl, hx, hp9, hf1⟩
                          have HS := Lib.hid (HS.out.new hx (oTab t1 Ft1 l1) hp9 hf1)
                          have HD3 := Lib.hid (HD2.out.2.ext hx)
                          clear hx hp9 hf1 HD2
                          go_wp2_with fail
                          refine (table_walk _ l2 w12 HD3.out HX2.out.2).mono ?_
                          rintro e w13 ⟨t2, Ft2, rfl, hx, hp9, hf1⟩
                          have HS := Lib.hid (HS.out.new hx (oTab t2 Ft2 l2) hp9 hf1)
                          clear hx hp9 hf1 HD3
                          have hcd := a_coded (L := oTab t2 Ft2 l2 :: oTab t1 Ft1 l1 :: oIn (some ⟨gb, 0, none⟩) cap l :: L) (j := j + 3) 1 0 (by omega) (by omega) (by simp; omega) rfl rfl HS.out (by have := HL.out.2.1; omega) (by have := HL.out.2.2; omega) hs hp1 hB
                          rw [HR.out] at hcd
                          have HCD := Lib.hid hcd
                          clear hcd
                          go_wp2_with fail
                          refine HCD.out.mono ?_
                          intro e w14 h
                          have h := Pst.drop (Pst.drop (Pst.drop h))
                          cases hR9 : R with
                          | er er o =>
                            rw [hR9] at h
                            obtain ⟨rfl, F', p', S⟩ := h
                            go_wp2_with fail
                            exact ⟨rfl, Pst.er rfl rfl F' S⟩
                          | ok u q9 o =>
                            rw [hR9] at h
                            obtain ⟨rfl, F', S⟩ := h
                            have HR9 := Lib.hid hR9
                            have HS := Lib.hid S
                            clear S hR9
                            go_wp2_with fail
                            go_end0
                            exact Pst.ok HR9.out rfl F' HS.out
                        | false =>
                          rw [hf2] at hR
                          cases hf3 : fewB l2 with
                          | true =>
                            rw [hf3] at hR
                            simp only [Bool.true_and, Bool.or_true, if_true] at hR
                            have HR := Lib.hid hR
                            have HX2 := Lib.hid (⟨hf3, few_codes (l := l2) (by have := HL.out.2.2; omega) (fun x hx => (HL.out.1 x hx).1) hf3, hf2⟩ : _ ∧ _ ∧ _)
                            have HX2 : Hid (fewB l2 = true ∧ codesE l2 = 0 ∧ fullB l2 = false) := HX2
                            clear hR hf2 hf3
                            go_wp2_with fail
                            refine HW.out.1.mono ?_
                            rintro e w9 ⟨rfl, hx⟩
                            have HS := Lib.hid (HS.out.quiet hx)
                            have HD1 := Lib.hid (⟨HD.out.1.ext hx, HD.out.2.1.ext hx⟩ : _ ∧ _)
                            have hc9 := Ext.cell hx HD.out.2.2
                            clear hx HD
                            go_wp2_with fail
                            have hfw := full_walk _ l2 w9 HD1.out.2.1 (by have := HL.out.2.2; omega)
                            rw [HX2.out.2.2] at hfw
                            refine hfw.mono ?_
                            clear hfw
                            rintro e w10 ⟨rfl, hx⟩
                            have HS := Lib.hid (HS.out.quiet hx)
                            have HD2 := Lib.hid (⟨HD1.out.1.ext hx, HD1.out.2.ext hx⟩ : _ ∧ _)
                            clear hx HD1 hc9
                            go_wp2_with fail
                            have hfw := few_walk _ l2 w10 HD2.out.2.1 (by have := HL.out.2.2; omega) HL.out.1
                            rw [HX2.out.1] at hfw
                            refine hfw.mono ?_
                            clear hfw
                            rintro e w11 ⟨rfl, rfl⟩
                            have HX2 := Lib.hid (⟨HX2.out.1, HX2.out.2.1⟩ : _ ∧ _)
                            go_wp2_with fail
                            refine (must_ok w10).mono ?_
                            rintro e w11 ⟨rfl, rfl⟩
                            go_wp2_with fail
                            refine (table_walk _ l1 w10 HD2.out.1 HW.out.2).mono ?_
                            rintro e w12 ⟨t1, Ft1, rfl, hx, hp9, hf1⟩
                            have HS := Lib.hid (HS.out.new hx (oTab t1 Ft1 l1) hp9 hf1)
                            have HD3 := Lib.hid (HD2.out.2.ext hx)
                            clear hx hp9 hf1 HD2
                            go_wp2_with fail
                            refine (table_walk _ l2 w12 HD3.out HX2.out.2).mono ?_
                            rintro e w13 ⟨t2, Ft2, rfl, hx, hp9, hf1⟩
                            have HS := Lib.hid (HS.out.new hx (oTab t2 Ft2 l2) hp9 hf1)
                            clear hx hp9 hf1 HD3
                            have hcd := a_coded (L := oTab t2 Ft2 l2 :: oTab t1 Ft1 l1 :: oIn (some ⟨gb, 0, none⟩) cap l :: L) (j := j + 3) 1 0 (by omega) (by omega) (by simp; omega) rfl rfl HS.out (by have := HL.out.2.1; omega) (by have := HL.out.2.2; omega) hs hp1 hB
                            rw [HR.out] at hcd
                            have HCD := Lib.hid hcd
                            clear hcd
                            go_wp2_with fail
                            refine HCD.out.mono ?_
                            intro e w14 h
                            have h := Pst.drop (Pst.drop (Pst.drop h))
                            cases hR9 : R with
                            | er er o =>
                              rw [hR9] at h
                              obtain ⟨rfl, F', p', S⟩ := h
                              go_wp2_with fail
                              exact ⟨rfl, Pst.er rfl rfl F' S⟩
                            | ok u q9 o =>
                              rw [hR9] at h
                              obtain ⟨rfl, F', S⟩ := h
                              have HR9 := Lib.hid hR9
                              have HS := Lib.hid S
                              clear S hR9
                              go_wp2_with fail
                              go_end0
                              exact Pst.ok HR9.out rfl F' HS.out
                          | false =>
                            rw [hf3] at hR
                            simp only [Bool.true_and, Bool.or_false, Bool.and_false, Bool.false_eq_true, if_false] at hR
                            have HR := Lib.hid hR
                            have HX2 := Lib.hid (⟨hf3, hf2⟩ : _ ∧ _)
                            clear hR hf2 hf3
                            go_wp2_with fail
                            refine HW.out.1.mono ?_
                            rintro e w9 ⟨rfl, hx⟩
                            have HS := Lib.hid (HS.out.quiet hx)
                            have HD1 := Lib.hid (⟨HD.out.1.ext hx, HD.out.2.1.ext hx⟩ : _ ∧ _)
                            have hc9 := Ext.cell hx HD.out.2.2
                            clear hx HD
                            go_wp2_with fail
                            have hfw := full_walk _ l2 w9 HD1.out.2.1 (by have := HL.out.2.2; omega)
                            rw [HX2.out.2] at hfw
                            refine hfw.mono ?_
                            clear hfw
                            rintro e w10 ⟨rfl, hx⟩
                            have HS := Lib.hid (HS.out.quiet hx)
                            have HD2 := Lib.hid (⟨HD1.out.1.ext hx, HD1.out.2.ext hx⟩ : _ ∧ _)
                            clear hx HD1 hc9
                            go_wp2_with fail
                            have hfw := few_walk _ l2 w10 HD2.out.2.1 (by have := HL.out.2.2; omega) HL.out.1
                            rw [HX2.out.1] at hfw
                            refine hfw.mono ?_
                            clear hfw
                            rintro e w11 ⟨rfl, rfl⟩
                            go_wp2_with fail
                            refine (must_er w10).mono ?_
                            rintro e w11 ⟨rfl, rfl⟩
                            go_wp2_with fail
                            exact ⟨rfl, Pst.er HR.out.symm rfl F4 HS.out.tl⟩
                      · rw [decide_eq_false hy0] at hR
                        simp only [Bool.and_false, Bool.false_and, Bool.false_eq_true, if_false] at hR
                        have HR := Lib.hid hR
                        have hy1 : y ≤ 0 := by omega
                        clear hR hy0
                        go_wp2_with fail
                        refine HW.out.1.mono ?_
                        rintro e w9 ⟨rfl, hx⟩
                        have HS := Lib.hid (HS.out.quiet hx)
                        have hc9 := Ext.cell hx HD.out.2.2
                        clear hx HD
                        go_wp2_with fail
                        refine (must_er w9).mono ?_
                        rintro e w10 ⟨rfl, rfl⟩
                        go_wp2_with fail
                        exact ⟨rfl, Pst.er HR.out.symm rfl F4 HS.out.tl⟩
                · rw [if_neg hf0] at hR
                  have hfw := full_walk _ own wr hA0.1 (by omega)
                  rw [Bool.eq_false_iff.2 hf0] at hfw
                  have HW := Lib.hid hfw
                  have HR := Lib.hid hR
                  clear hown hA0 hf0 hfw hR
                  go_wp2_with fail
                  refine HW.out.mono ?_
                  rintro e w5 ⟨rfl, hx⟩
                  have HS := Lib.hid (HS.out.tl.tl.quiet hx)
                  clear hx
                  go_wp2_with fail
                  refine (must_er w5).mono ?_
                  rintro e w6 ⟨rfl, rfl⟩
                  go_wp2_with fail
                  exact ⟨rfl, Pst.er HR.out.symm rfl F' HS.out⟩
          · rw [if_neg (fun h => hc2 h.2)] at hR
            have HR := Lib.hid hR
            clear hR
            have k2 : decide (((b : Int) + 1) ≤ 30) = false := decide_eq_false (by omega)
            go_wp2_with fail
            refine (must_er v3).mono ?_
            rintro e w4 ⟨rfl, rfl⟩
            go_wp2_with fail
            exact ⟨rfl, Pst.er HR.out.symm rfl F3 HS.out⟩
        · rw [if_neg (fun h => hc1 h.1)] at hR
          have HR := Lib.hid hR
          clear hR
          have k1 : decide (((a : Int) + 257) ≤ 286) = false := decide_eq_false (by omega)
          go_wp2_with fail
          refine (must_er v3).mono ?_
          rintro e w4 ⟨rfl, rfl⟩
          go_wp2_with fail
          exact ⟨rfl, Pst.er HR.out.symm rfl F3 HS.out⟩
end
end Go.Proofs.YtnapnaaejignaaaGreat.If

/-! InP: inflate: blocks, all walked. -/
namespace Go.Proofs.YtnapnaaejignaaaGreat.If
open Go.RowKit Bt Hu

set_option maxRecDepth 100000 in
set_option maxHeartbeats 4000000 in
theorem bad_walk (a : Value) (w : World) : Calls Tryz.prog 71 #[a] w fun e w' => e = .panicked [giveV 4] ∧ w = w' := by
  go_enter Tryz.func71, Tryz.ntmps71
  go_wp2_with fail
  refine (must_er w).mono ?_
  rintro e w' ⟨rfl, rfl⟩
  go_wp2_with fail
  exact ⟨rfl, rfl, rfl⟩
def fn4 : Array Value := #[.func (.func 68) #[] #[], .func (.func 69) #[] #[], .func (.func 70) #[] #[], .func (.func 71) #[] #[]]
theorem fn4_one : fn4.all (·.oneCell') = true := by simp [fn4, Value.oneCell']
set_option maxRecDepth 100000 in
set_option maxHeartbeats 4000000 in
theorem blocks_walk (w : World) : Calls Tryz.prog 44 #[] w fun e w' => e = .returned (.agg fn4) ∧ Ext [] w w' := by
  go_enter Tryz.func44, Tryz.ntmps44
  go_upto_region 1 with fail
  apply wp_region_lit
  refine wpList_build rfl 90 _ rfl (by kernel_rfl) ?_
  refine wpList_at9 (a' := { tmps := #[.pointer (some ⟨w.heap.size, 0, none⟩), .agg fn4], defers := [] }) (by kernel_rfl) ?_
  refine wpList_store_row rfl 90 _ _ rfl w.heap.size fn4 rfl rfl 90 _ (heap_alloc_at _) (by kernel_rfl) rfl fn4_one ?_
  apply wpList_nil
  obtain ⟨hX, hW⟩ := alloc_row w #[.nilFunc, .nilFunc, .nilFunc, .nilFunc] fn4 90
  obtain ⟨W, hWW⟩ : ∃ W, (w.alloc (.cells #[.nilFunc, .nilFunc, .nilFunc, .nilFunc] 90)).setRow w.heap.size fn4 = W := ⟨_, rfl⟩
  rw [hWW] at hW hX ⊢
  clear hWW
  go_wp2_with fail
  refine bodyPost_ret (results_cell_row rfl _ _ w.heap.size 90 fn4 (0, 0) _ rfl hW Tryz.underlying90 rfl (by kernel_rfl)) rfl ?_
  exact ⟨rfl, hX⟩
section
variable {s : ByteArray} {B : Nat}
theorem storeL_ok : ∀ (n p : Nat) (out : List Nat) {a : Unit} {q : Nat} {o : List Nat}, p ≤ 8 * s.size → storeL s B n p out = .ok a q o → p ≤ q ∧ q ≤ 8 * s.size
  | 0, p, out, a, q, o, hp, h => by rw [storeL] at h; injection h with _ h2 _; omega
  | n + 1, p, out, a, q, o, hp, h => by
    rw [storeL] at h
    cases h1 : getR s 8 p out with
    | er e o1 => rw [h1, Rs.bind_er] at h; cases h
    | ok b p1 o1 =>
      obtain ⟨_, rfl, rfl, hp1⟩ := getR_ok h1
      rw [h1, Rs.bind_ok] at h
      cases h2 : putR B b (p + 8) o1 with
      | er e o2 => rw [h2, Rs.bind_er] at h; cases h
      | ok u p2 o2 =>
        obtain ⟨rfl, _, _⟩ := putR_ok h2
        rw [h2, Rs.bind_ok] at h
        have := storeL_ok n _ _ hp1 h
        omega
theorem storedR_ok {p : Nat} {out : List Nat} {a : Unit} {q : Nat} {o : List Nat} (h : storedR s B p out = .ok a q o) : p ≤ q ∧ q ≤ 8 * s.size := by
  unfold storedR at h
  cases h1 : getR s 16 (p + gap p) out with
  | er e o1 => rw [h1, Rs.bind_er] at h; cases h
  | ok n p1 o1 =>
    obtain ⟨_, rfl, rfl, hp1⟩ := getR_ok h1
    rw [h1, Rs.bind_ok] at h
    cases h2 : getR s 16 (p + gap p + 16) o1 with
    | er e o2 => rw [h2, Rs.bind_er] at h; cases h
    | ok m p2 o2 =>
      obtain ⟨_, rfl, rfl, hp2⟩ := getR_ok h2
      rw [h2, Rs.bind_ok] at h
      split at h
      · have := storeL_ok _ _ _ hp2 h
        omega
      · cases h
theorem codedF_ok {D1 D2 : List Int} : ∀ (g p : Nat) (out : List Nat) {a : Unit} {q : Nat} {o : List Nat}, codedF s B D1 D2 g p out = .ok a q o → p ≤ q ∧ q ≤ 8 * s.size
  | 0, p, out, a, q, o, h => by rw [codedF] at h; cases h
  | g + 1, p, out, a, q, o, h => by
    rw [codedF] at h
    cases h1 : symR s D1 p out with
    | er e o1 => rw [h1, Rs.bind_er] at h; cases h
    | ok x p1 o1 =>
      obtain ⟨hp0, hp1, _, rfl⟩ := symR_ok h1
      rw [h1, Rs.bind_ok] at h
      split at h
      · cases h2 : putR B x p1 o1 with
        | er e o2 => rw [h2, Rs.bind_er] at h; cases h
        | ok u p2 o2 =>
          obtain ⟨rfl, _, _⟩ := putR_ok h2
          rw [h2, Rs.bind_ok] at h
          have := codedF_ok g _ _ h
          omega
      · split at h
        · injection h with _ h2 _
          omega
        · split at h
          · cases h2 : againR s B x D2 p1 o1 with
            | er e o2 => rw [h2, Rs.bind_er] at h; cases h
            | ok u p2 o2 =>
              have := againR_ok h2
              rw [h2, Rs.bind_ok] at h
              have := codedF_ok g _ _ h
              omega
          · cases h
theorem ownL_ok : ∀ (k i : Nat) (own : List Int) (p : Nat) (out : List Nat) {a : List Int} {q : Nat} {o : List Nat}, ownL s k i own p out = .ok a q o → p ≤ q
  | 0, i, own, p, out, a, q, o, h => by rw [ownL] at h; injection h with _ h2 _; omega
  | k + 1, i, own, p, out, a, q, o, h => by
    rw [ownL] at h
    cases h1 : getR s 3 p out with
    | er e o1 => rw [h1, Rs.bind_er] at h; cases h
    | ok b p1 o1 =>
      obtain ⟨_, rfl, rfl, hp1⟩ := getR_ok h1
      rw [h1, Rs.bind_ok] at h
      have := ownL_ok k _ _ _ _ h
      omega
theorem rowF_le {D : List Int} {n : Nat} : ∀ (g : Nat) (l : List Int) (p : Nat) (out : List Nat) {a : List Int} {q : Nat} {o : List Nat}, rowF s D n g l p out = .ok a q o → p ≤ q
  | 0, l, p, out, a, q, o, h => by rw [rowF] at h; cases h
  | g + 1, l, p, out, a, q, o, h => by
    have fwd : ∀ (k p1 : Nat) (o1 : List Nat) (f : Nat → List Int), p ≤ p1 → ((getR s k p1 o1).bind fun k p out => rowF s D n g (f k) p out) = .ok a q o → p ≤ q := fun k p1 o1 f hp h => by
      cases h2 : getR s k p1 o1 with
      | er e o => rw [h2, Rs.bind_er] at h; cases h
      | ok k p2 o2 =>
        obtain ⟨_, rfl, rfl, _⟩ := getR_ok h2
        rw [h2, Rs.bind_ok] at h
        have := rowF_le g _ _ _ h
        omega
    rw [rowF] at h
    split at h
    · cases h1 : symR s D p out with
      | er e o => rw [h1, Rs.bind_er] at h; cases h
      | ok x p1 o1 =>
        obtain ⟨hp0, _, _, rfl⟩ := symR_ok h1
        rw [h1, Rs.bind_ok] at h
        split at h
        · split at h
          · cases h
          · exact fwd 2 p1 o1 _ (by omega) h
        · split at h
          · exact fwd 3 p1 o1 _ (by omega) h
          · split at h
            · exact fwd 7 p1 o1 _ (by omega) h
            · have := rowF_le g _ _ _ h
              omega
    · split at h
      · injection h with _ h2 _
        omega
      · cases h
theorem dynR_ok {p : Nat} {out : List Nat} {a : Unit} {q : Nat} {o : List Nat} (h : dynR s B p out = .ok a q o) : p ≤ q ∧ q ≤ 8 * s.size := by
  unfold dynR at h
  cases h1 : getR s 5 p out with
  | er e o1 => rw [h1, Rs.bind_er] at h; cases h
  | ok a1 p1 o1 =>
    obtain ⟨_, rfl, rfl, hp1⟩ := getR_ok h1
    rw [h1, Rs.bind_ok] at h
    cases h2 : getR s 5 (p + 5) o1 with
    | er e o1 => rw [h2, Rs.bind_er] at h; cases h
    | ok b1 p1 o1 =>
      obtain ⟨_, rfl, rfl, hp2⟩ := getR_ok h2
      rw [h2, Rs.bind_ok] at h
      cases h3 : getR s 4 (p + 5 + 5) o1 with
      | er e o1 => rw [h3, Rs.bind_er] at h; cases h
      | ok c1 p1 o1 =>
        obtain ⟨_, rfl, rfl, hp3⟩ := getR_ok h3
        rw [h3, Rs.bind_ok] at h
        split at h
        · cases h4 : ownL s (c1 + 4) 0 (zers 19) (p + 5 + 5 + 4) o1 with
          | er e o1 => rw [h4, Rs.bind_er] at h; cases h
          | ok own p1 o1 =>
            have := ownL_ok _ _ _ _ _ h4
            rw [h4, Rs.bind_ok] at h
            unfold dynK at h
            split at h
            · cases h5 : rowF s own (a1 + 257 + (b1 + 1)) (8 * s.size - p1 + 2) [] p1 o1 with
              | er e o1 => rw [h5, Rs.bind_er] at h; cases h
              | ok l p2 o2 =>
                have := rowF_le _ _ _ _ h5
                rw [h5, Rs.bind_ok] at h
                unfold dynT at h
                split at h
                · have := codedF_ok _ _ _ h
                  omega
                · cases h
            · cases h
        · cases h
theorem blockR_ok {k p : Nat} {out : List Nat} {a : Unit} {q : Nat} {o : List Nat} (h : blockR s B k p out = .ok a q o) : p ≤ q ∧ q ≤ 8 * s.size := by
  unfold blockR at h
  split at h
  · exact storedR_ok h
  · split at h
    · exact codedF_ok _ _ _ h
    · split at h
      · rw [dyn_eq] at h
        exact dynR_ok h
      · cases h
theorem block2 (p : Nat) (out : List Nat) : blockR s B 2 p out = dynR s B p out := by rw [← dyn_eq]; rfl
end
theorem idx_0 (w : World) : (Instr.index 90 (.agg #[.func (.func 68) #[] #[], .func (.func 69) #[] #[], .func (.func 70) #[] #[], .func (.func 71) #[] #[]]) (.int .i64 0)).run Tryz.prog w = .ok (.func (.func 68) #[] #[]) w := by kernel_rfl
theorem idx_1 (w : World) : (Instr.index 90 (.agg #[.func (.func 68) #[] #[], .func (.func 69) #[] #[], .func (.func 70) #[] #[], .func (.func 71) #[] #[]]) (.int .i64 1)).run Tryz.prog w = .ok (.func (.func 69) #[] #[]) w := by kernel_rfl
theorem idx_2 (w : World) : (Instr.index 90 (.agg #[.func (.func 68) #[] #[], .func (.func 69) #[] #[], .func (.func 70) #[] #[], .func (.func 71) #[] #[]]) (.int .i64 2)).run Tryz.prog w = .ok (.func (.func 70) #[] #[]) w := by kernel_rfl
theorem idx_3 (w : World) : (Instr.index 90 (.agg #[.func (.func 68) #[] #[], .func (.func 69) #[] #[], .func (.func 70) #[] #[], .func (.func 71) #[] #[]]) (.int .i64 3)).run Tryz.prog w = .ok (.func (.func 71) #[] #[]) w := by kernel_rfl
section
variable {w0 w : World} {L : List Ob} {j ub rb : Nat} {F : List Nat} {s : ByteArray} {B p : Nat} {out : List Nat}
theorem last_if {g p n : Nat} {out : List Nat} {R : Rs Unit} (h : (if n = 0 then allF s B g p out else .ok () p out) = R) : if ((n : Int) == 0) = true then allF s B g p out = R else R = .ok () p out := by
  by_cases hn : n = 0
  · subst hn; exact h
  · rw [if_neg hn] at h
    rw [if_neg (by simp; omega)]
    exact h.symm
set_option maxRecDepth 100000 in
set_option maxHeartbeats 8000000 in
theorem a_all (hj : j < L.length) (S : Sep w0 w (L.set j (oRun ub rb F s B p out))) (hs : s.size ≤ 1048576) (hp : p ≤ 8 * s.size) (hB : B ≤ 1099511627776) :
    Calls Tryz.prog 26 #[.pointer (some ⟨ub, 0, none⟩)] w (Pst w0 L j ub rb s B unit9 (allF s B (8 * s.size - p + 1) p out)) := by
  have HS := Lib.hid S
  obtain ⟨R, hR⟩ : ∃ R, allF s B (8 * s.size - p + 1) p out = R := ⟨_, rfl⟩
  rw [hR]
  have HR := Lib.hid hR
  clear S hR
  go_enter Tryz.func26, Tryz.ntmps26
  go_wp2_with fail
  go_loopg [2] (8 * s.size - p + 1) (fun g mv wr => ∃ (m : Bool) (p : Nat) (F' out : List Nat), mv = .bool m ∧ p ≤ 8 * s.size ∧ 8 * s.size - p < g ∧ (if m = true then allF s B g p out = R else R = .ok () p out) ∧ Sep w0 wr (L.set j (oRun ub rb F' s B p out)))
  case atStart => exact ⟨true, p, F, out, rfl, hp, by omega, HR.out, HS.out⟩
  case round =>
    clear HS HR hp
    obtain ⟨m, p, F', out, rfl, hp, hpg, hR, S⟩ := hrel
    have HS := Lib.hid S
    clear S
    cases m with
    | false =>
      have HR := Lib.hid (show R = .ok () p out from hR)
      clear hR
      go_wp2_with fail
      go_end0
      exact Pst.ok HR.out rfl F' HS.out
    | true =>
      have hR : allF s B gk p out = R := hR
      obtain ⟨g, rfl⟩ : ∃ g, gk = g + 1 := ⟨gk - 1, by omega⟩
      rw [allF] at hR
      cases h1 : getR s 1 p out with
      | er e1 o1 =>
        rw [h1, Rs.bind_er] at hR
        have HH := Lib.hid (⟨h1, hR⟩ : _ ∧ _)
        clear h1 hR
        go_wp2_with fail
        refine (a_get 1 hj HS.out hs hp (by omega)).mono ?_
        rw [HH.out.1]
        rintro e w2 ⟨rfl, F2, p', S⟩
        go_wp2_with fail
        exact ⟨rfl, Pst.er HH.out.2.symm rfl F2 S⟩
      | ok n q1 o1 =>
        obtain ⟨hn, rfl, rfl, hp1⟩ := getR_ok h1
        rw [h1, Rs.bind_ok] at hR
        have HH := Lib.hid h1
        have HR := Lib.hid hR
        clear h1 hR hn
        go_wp2_with fail
        refine (a_get 1 hj HS.out hs hp (by omega)).mono ?_
        rw [HH.out]
        rintro e v1 ⟨rfl, F1, S⟩
        rw [izN_eq]
        have HS := Lib.hid S
        have hR := HR.out
        clear S HR HH
        go_wp2_with fail
        refine (blocks_walk v1).mono ?_
        rintro e v9 ⟨rfl, hx⟩
        unfold fn4
        have HS := Lib.hid (HS.out.quiet hx)
        clear hx
        cases h1 : getR s 2 (p + 1) o1 with
        | er e1 o2 =>
          rw [h1, Rs.bind_er] at hR
          have HH := Lib.hid (⟨h1, hR⟩ : _ ∧ _)
          clear h1 hR
          go_wp2_with fail
          refine (a_get 2 hj HS.out hs hp1 (by omega)).mono ?_
          rw [HH.out.1]
          rintro e w2 ⟨rfl, F2, p', S⟩
          go_wp2_with fail
          exact ⟨rfl, Pst.er HH.out.2.symm rfl F2 S⟩
        | ok k q2 o2 =>
          obtain ⟨hk, rfl, rfl, hp2⟩ := getR_ok h1
          have hk5 : k < 2 ^ 2 := by rw [hk]; exact getv_lt s false (p + 1) 2
          rw [h1, Rs.bind_ok] at hR
          have HH := Lib.hid h1
          have HR := Lib.hid hR
          clear h1 hR hk
          go_wp2_with fail
          refine (a_get 2 hj HS.out hs hp1 (by omega)).mono ?_
          rw [HH.out]
          rintro e v2 ⟨rfl, F2, S⟩
          rw [izN_eq]
          have HS := Lib.hid S
          have hR := HR.out
          clear S HR HH
          obtain rfl | rfl | rfl | rfl : k = 0 ∨ k = 1 ∨ k = 2 ∨ k = 3 := by omega
          · have hcall : Calls Tryz.prog 68 #[.pointer (some ⟨ub, 0, none⟩)] v2 (Pst w0 L j ub rb s B unit9 (blockR s B 0 (p + 1 + 2) o2)) := a_stored hj HS.out hs hp2 hB
            have HCL := Lib.hid hcall
            have hix := idx_0
            clear hcall
            cases h3 : blockR s B 0 (p + 1 + 2) o2 with
            | er e1 o3 =>
              rw [h3, Rs.bind_er] at hR
              have H3 := Lib.hid (⟨h3, hR⟩ : _ ∧ _)
              clear h3 hR
              go_wp2_with fail
              refine HCL.out.mono ?_
              rw [H3.out.1]
              rintro e w4 ⟨rfl, F4, p', S⟩
              go_wp2_with fail
              exact ⟨rfl, Pst.er H3.out.2.symm rfl F4 S⟩
            | ok u p3 o3 =>
              have hq := blockR_ok h3
              rw [h3, Rs.bind_ok] at hR
              have H3 := Lib.hid (⟨h3, hR⟩ : _ ∧ _)
              clear h3 hR
              go_wp2_with fail
              refine HCL.out.mono ?_
              rw [H3.out.1]
              rintro e w4 ⟨rfl, F4, S⟩
              go_wp2_with fail
              go_roundg g
              case measure => omega
              case rel => exact ⟨_, p3, F4, o3, rfl, hq.2, by omega, last_if H3.out.2, S⟩
          · have hcall : Calls Tryz.prog 69 #[.pointer (some ⟨ub, 0, none⟩)] v2 (Pst w0 L j ub rb s B unit9 (blockR s B 1 (p + 1 + 2) o2)) := a_fixed hj HS.out hs hp2 hB
            have HCL := Lib.hid hcall
            have hix := idx_1
            clear hcall
            cases h3 : blockR s B 1 (p + 1 + 2) o2 with
            | er e1 o3 =>
              rw [h3, Rs.bind_er] at hR
              have H3 := Lib.hid (⟨h3, hR⟩ : _ ∧ _)
              clear h3 hR
              go_wp2_with fail
              refine HCL.out.mono ?_
              rw [H3.out.1]
              rintro e w4 ⟨rfl, F4, p', S⟩
              go_wp2_with fail
              exact ⟨rfl, Pst.er H3.out.2.symm rfl F4 S⟩
            | ok u p3 o3 =>
              have hq := blockR_ok h3
              rw [h3, Rs.bind_ok] at hR
              have H3 := Lib.hid (⟨h3, hR⟩ : _ ∧ _)
              clear h3 hR
              go_wp2_with fail
              refine HCL.out.mono ?_
              rw [H3.out.1]
              rintro e w4 ⟨rfl, F4, S⟩
              go_wp2_with fail
              go_roundg g
              case measure => omega
              case rel => exact ⟨_, p3, F4, o3, rfl, hq.2, by omega, last_if H3.out.2, S⟩
          · have hcall : Calls Tryz.prog 70 #[.pointer (some ⟨ub, 0, none⟩)] v2 (Pst w0 L j ub rb s B unit9 (blockR s B 2 (p + 1 + 2) o2)) := by rw [block2]; exact a_dyn hj HS.out hs hp2 hB
            have HCL := Lib.hid hcall
            have hix := idx_2
            clear hcall
            cases h3 : blockR s B 2 (p + 1 + 2) o2 with
            | er e1 o3 =>
              rw [h3, Rs.bind_er] at hR
              have H3 := Lib.hid (⟨h3, hR⟩ : _ ∧ _)
              clear h3 hR
              go_wp2_with fail
              refine HCL.out.mono ?_
              rw [H3.out.1]
              rintro e w4 ⟨rfl, F4, p', S⟩
              go_wp2_with fail
              exact ⟨rfl, Pst.er H3.out.2.symm rfl F4 S⟩
            | ok u p3 o3 =>
              have hq := blockR_ok h3
              rw [h3, Rs.bind_ok] at hR
              have H3 := Lib.hid (⟨h3, hR⟩ : _ ∧ _)
              clear h3 hR
              go_wp2_with fail
              refine HCL.out.mono ?_
              rw [H3.out.1]
              rintro e w4 ⟨rfl, F4, S⟩
              go_wp2_with fail
              go_roundg g
              case measure => omega
              case rel => exact ⟨_, p3, F4, o3, rfl, hq.2, by omega, last_if H3.out.2, S⟩
          · have hcall : Calls Tryz.prog 71 #[.pointer (some ⟨ub, 0, none⟩)] v2 (Pst w0 L j ub rb s B unit9 (blockR s B 3 (p + 1 + 2) o2)) := (bad_walk _ v2).mono (fun e w' h => by obtain ⟨h1, rfl⟩ := h; exact ⟨h1, F2, _, HS.out⟩)
            have HCL := Lib.hid hcall
            have hix := idx_3
            clear hcall
            cases h3 : blockR s B 3 (p + 1 + 2) o2 with
            | er e1 o3 =>
              rw [h3, Rs.bind_er] at hR
              have H3 := Lib.hid (⟨h3, hR⟩ : _ ∧ _)
              clear h3 hR
              go_wp2_with fail
              refine HCL.out.mono ?_
              rw [H3.out.1]
              rintro e w4 ⟨rfl, F4, p', S⟩
              go_wp2_with fail
              exact ⟨rfl, Pst.er H3.out.2.symm rfl F4 S⟩
            | ok u p3 o3 =>
              have hq := blockR_ok h3
              rw [h3, Rs.bind_ok] at hR
              have H3 := Lib.hid (⟨h3, hR⟩ : _ ∧ _)
              clear h3 hR
              go_wp2_with fail
              refine HCL.out.mono ?_
              rw [H3.out.1]
              rintro e w4 ⟨rfl, F4, S⟩
              go_wp2_with fail
              go_roundg g
              case measure => omega
              case rel => exact ⟨_, p3, F4, o3, rfl, hq.2, by omega, last_if H3.out.2, S⟩
end
end Go.Proofs.YtnapnaaejignaaaGreat.If

/-! InQ: inflate: Run walked. -/
namespace Go.Proofs.YtnapnaaejignaaaGreat.If
open Go.RowKit Bt Hu

theorem assert_up (er : Int) (w : World) : (Instr.typeAssert (.iface 53 (.agg #[.int .i64 er])) 20 53 false).run Tryz.prog w = .ok (.agg #[.int .i64 er]) w := by kernel_rfl
theorem field_up (er : Int) (w : World) : (Instr.field 53 (.agg #[.int .i64 er]) 0).run Tryz.prog w = .ok (.int .i64 er) w := by kernel_rfl
set_option maxRecDepth 100000 in
set_option maxHeartbeats 2000000 in
theorem catch_pan (cb ob nb eb ub : Nat) (er : Int) (v : Value) (t : ByteArray) (older : List PanicEntry) (w : World) (x0 : ByteArray) (x1 x2 : Int)
    (c0 : w.cell? ⟨cb, 0, none⟩ = some (.pointer (some ⟨ub, 0, none⟩))) (c1 : w.cell? ⟨ub, 1, none⟩ = some v) (ht : (convert 28 9 v).run Tryz.prog w = .ok (.string t) w)
    (o0 : w.cell? ⟨ob, 0, none⟩ = some (.string x0)) (of : w.frozen? ⟨ob, 0, none⟩ = false) (n0 : w.cell? ⟨nb, 0, none⟩ = some (.int .i64 x1)) (nf : w.frozen? ⟨nb, 0, none⟩ = false) (e0 : w.cell? ⟨eb, 0, none⟩ = some (.int .i64 x2)) (ef : w.frozen? ⟨eb, 0, none⟩ = false)
    (hne : ob ≠ nb ∧ ob ≠ eb ∧ nb ≠ eb) :
    CallsD Tryz.prog 25 #[.pointer (some ⟨cb, 0, none⟩), .pointer (some ⟨ob, 0, none⟩), .pointer (some ⟨nb, 0, none⟩), .pointer (some ⟨eb, 0, none⟩)] (.panicking (giveV er :: older)) w fun e u' w' =>
      e = .returned (.tuple #[]) ∧ u' = .panicking ({ v := (giveV er).v, recovered := true } :: older) ∧ w'.cell? ⟨ob, 0, none⟩ = some (.string t) ∧ w'.cell? ⟨nb, 0, none⟩ = some (.int .i64 0) ∧ w'.cell? ⟨eb, 0, none⟩ = some (.int .i64 er) ∧ Ext [ob, nb, eb] w w' := by
  refine callsD_of_wpS Tryz.func25 rfl fun c₀ cs hu => ?_
  simp only [Tryz.ntmps25]
  rw [show (#[.pointer (some ⟨cb, 0, none⟩), .pointer (some ⟨ob, 0, none⟩), .pointer (some ⟨nb, 0, none⟩), .pointer (some ⟨eb, 0, none⟩)] ++ Array.replicate (16 - (#[Value.pointer (some ⟨cb, 0, none⟩), .pointer (some ⟨ob, 0, none⟩), .pointer (some ⟨nb, 0, none⟩), .pointer (some ⟨eb, 0, none⟩)] : Array Value).size) undef : Array Value) = #[.pointer (some ⟨cb, 0, none⟩), .pointer (some ⟨ob, 0, none⟩), .pointer (some ⟨nb, 0, none⟩), .pointer (some ⟨eb, 0, none⟩), undef, undef, undef, undef, undef, undef, undef, undef, undef, undef, undef, undef] from rfl]
  apply wpS_seq
  refine wpS_of_wp ?_
  go_wp2_with fail
  show Code.wpS _ _ _ _ _ _
  apply wpS_seq
  apply wpS_region
  simp [wpOpsS, go_sem, recoverD, hu, giveV, Exit.thenS]
  apply wpS_seq
  refine wpS_of_wp ?_
  go_wp2_with fail
  show Code.wpS _ _ _ _ _ _
  refine wpS_cond (t := true) (by rfl) ?_
  simp only [if_true]
  refine wpS_of_wp ?_
  obtain ⟨W, hW⟩ : ∃ W, w.setCell ⟨ob, 0, none⟩ (.string t) = W := ⟨_, rfl⟩
  have n1 : W.cell? ⟨nb, 0, none⟩ = some (.int .i64 x1) := by rw [← hW]; simp [go_sem, n0]
  have nf1 : W.frozen? ⟨nb, 0, none⟩ = false := by rw [← hW]; simp [go_sem, nf]
  have e1 : W.cell? ⟨eb, 0, none⟩ = some (.int .i64 x2) := by rw [← hW]; simp [go_sem, e0]
  have ef1 : W.frozen? ⟨eb, 0, none⟩ = false := by rw [← hW]; simp [go_sem, ef]
  have o1 : W.cell? ⟨ob, 0, none⟩ = some (.string t) := by rw [← hW]; simp [go_sem, o0]
  have hx1 : Ext [ob, nb, eb] w W := by rw [← hW]; exact (Ext.refl _ w).setCell _ _ (.inl (by simp))
  rw [hW]
  clear hW c0 c1 ht o0 of n0 nf e0 ef
  have hta := assert_up er
  have htf := field_up er
  go_region
  refine ⟨rfl, _, rfl, .tuple #[], by simp [results, Tryz.results25], rfl, rfl, ?_, ?_, ?_, ?_⟩
  · simp [go_sem, o1]
  · simp [go_sem, n1]
  · simp [go_sem, e1]
  · exact ((hx1.setCell _ _ (.inl (by simp))).setCell _ _ (.inl (by simp))).drew
set_option maxRecDepth 100000 in
set_option maxHeartbeats 2000000 in
theorem catch_not (cb ob nb eb ub : Nat) (v : Value) (t : ByteArray) (w : World) (x0 : ByteArray)
    (c0 : w.cell? ⟨cb, 0, none⟩ = some (.pointer (some ⟨ub, 0, none⟩))) (c1 : w.cell? ⟨ub, 1, none⟩ = some v) (ht : (convert 28 9 v).run Tryz.prog w = .ok (.string t) w)
    (o0 : w.cell? ⟨ob, 0, none⟩ = some (.string x0)) (of : w.frozen? ⟨ob, 0, none⟩ = false) :
    CallsD Tryz.prog 25 #[.pointer (some ⟨cb, 0, none⟩), .pointer (some ⟨ob, 0, none⟩), .pointer (some ⟨nb, 0, none⟩), .pointer (some ⟨eb, 0, none⟩)] .returning w fun e u' w' =>
      e = .returned (.tuple #[]) ∧ u' = .returning ∧ w' = w.setCell ⟨ob, 0, none⟩ (.string t) := by
  refine callsD_of_wpS Tryz.func25 rfl fun c₀ cs hu => ?_
  simp only [Tryz.ntmps25]
  rw [show (#[.pointer (some ⟨cb, 0, none⟩), .pointer (some ⟨ob, 0, none⟩), .pointer (some ⟨nb, 0, none⟩), .pointer (some ⟨eb, 0, none⟩)] ++ Array.replicate (16 - (#[Value.pointer (some ⟨cb, 0, none⟩), .pointer (some ⟨ob, 0, none⟩), .pointer (some ⟨nb, 0, none⟩), .pointer (some ⟨eb, 0, none⟩)] : Array Value).size) undef : Array Value) = #[.pointer (some ⟨cb, 0, none⟩), .pointer (some ⟨ob, 0, none⟩), .pointer (some ⟨nb, 0, none⟩), .pointer (some ⟨eb, 0, none⟩), undef, undef, undef, undef, undef, undef, undef, undef, undef, undef, undef, undef] from rfl]
  apply wpS_seq
  refine wpS_of_wp ?_
  go_wp2_with fail
  show Code.wpS _ _ _ _ _ _
  apply wpS_seq
  apply wpS_region
  simp [wpOpsS, go_sem, recoverD, hu, Exit.thenS]
  apply wpS_seq
  refine wpS_of_wp ?_
  go_wp2_with fail
  show Code.wpS _ _ _ _ _ _
  refine wpS_cond (t := false) (by rfl) ?_
  simp only [Bool.false_eq_true, if_false]
  refine wpS_of_wp (wp_skip ?_)
  obtain ⟨_, _, _, _, mode, _, _⟩ := c₀
  simp only at hu
  subst hu
  exact ⟨rfl, .returning, rfl, .tuple #[], by simp [results, Tryz.results25], rfl, rfl, rfl⟩
def runV (s : ByteArray) (B : Nat) : Value :=
  match runR s B with
  | .ok _ p out => .tuple #[.string (txt out), .int .i64 (((p + 7) / 8 : Nat) : Int), .int .i64 0]
  | .er er out => .tuple #[.string (txt out), .int .i64 0, .int .i64 er]
theorem allF_le {s : ByteArray} {B : Nat} : ∀ (g p : Nat) (out : List Nat) {a : Unit} {q : Nat} {o : List Nat}, allF s B g p out = .ok a q o → q ≤ 8 * s.size
  | 0, p, out, a, q, o, h => by rw [allF] at h; cases h
  | g + 1, p, out, a, q, o, h => by
    rw [allF] at h
    cases h1 : getR s 1 p out with
    | er e o1 => rw [h1, Rs.bind_er] at h; cases h
    | ok n p1 o1 =>
      rw [h1, Rs.bind_ok] at h
      cases h2 : getR s 2 p1 o1 with
      | er e o1 => rw [h2, Rs.bind_er] at h; cases h
      | ok k p2 o2 =>
        rw [h2, Rs.bind_ok] at h
        cases h3 : blockR s B k p2 o2 with
        | er e o1 => rw [h3, Rs.bind_er] at h; cases h
        | ok u p3 o3 =>
          rw [h3, Rs.bind_ok] at h
          split at h
          · exact allF_le g _ _ h
          · injection h with _ h4 _
            rw [← h4]
            exact (blockR_ok h3).2
theorem runR_le {s : ByteArray} {B : Nat} {a : Unit} {q : Nat} {o : List Nat} (h : runR s B = .ok a q o) : q ≤ 8 * s.size := allF_le _ _ _ h
theorem alloc_new9 {w : World} {o : Obj} {k : Nat} (hk : k = w.heap.size) : (w.alloc o).heap[k]? = some o := by subst hk; exact heap_alloc_at _
theorem run_res (w : World) (tmps : Array Value) (ob nb eb : Nat) (x : ByteArray) (y z : Int) (h4 : tmps.getD 4 undef = .pointer (some ⟨ob, 0, none⟩)) (h5 : tmps.getD 5 undef = .pointer (some ⟨nb, 0, none⟩)) (h6 : tmps.getD 6 undef = .pointer (some ⟨eb, 0, none⟩))
    (c4 : w.cell? ⟨ob, 0, none⟩ = some (.string x)) (c5 : w.cell? ⟨nb, 0, none⟩ = some (.int .i64 y)) (c6 : w.cell? ⟨eb, 0, none⟩ = some (.int .i64 z)) :
    (results Tryz.f19 tmps).run Tryz.prog w = .ok (.tuple #[.string x, .int .i64 y, .int .i64 z]) w := by
  simp only [Array.getD_eq_getD_getElem?] at h4 h5 h6
  simp [results, Tryz.results19, h4, h5, h6, go_sem, c4, c5, c6, asAddr]
set_option maxRecDepth 100000 in
set_option maxHeartbeats 2000000 in
theorem run_neg (s : ByteArray) (B : Int) (w : World) (hB : B < 0) :
    Calls Tryz.prog 19 #[.string s, .int .i64 B] w fun e w' => e = .returned (.tuple #[.string ⟨#[]⟩, .int .i64 0, .int .i64 2]) ∧ Ext [] w w' := by
  have hmf : ∀ (fn : Fn) (first cap : Array Value) (w : World), (Instr.makeFunc fn first cap).run Tryz.prog w = .ok (.func fn first cap) w := fun _ _ _ _ => rfl
  go_enter_defers Tryz.func19, Tryz.ntmps19
  go_wp2_with fail
  refine ⟨_, run_res _ _ w.heap.size (w.heap.size + 1) (w.heap.size + 1 + 1) ⟨#[]⟩ 0 2 rfl rfl rfl ?_ ?_ ?_, rfl, (((Ext.refl [] w).alloc _).alloc _).alloc _⟩
  · simp [go_sem]
  · simp [go_sem]
  · simp [go_sem]
set_option maxRecDepth 100000 in
set_option maxHeartbeats 2000000 in
theorem run_walk (s : ByteArray) (B : Nat) (w : World) (hs : s.size ≤ 1048576) (hB : B ≤ 1099511627776) :
    Calls Tryz.prog 19 #[.string s, .int .i64 (B : Int)] w fun e w' => e = .returned (runV s B) ∧ Ext [] w w' := by
  have hmf : ∀ (fn : Fn) (first cap : Array Value) (w : World), (Instr.makeFunc fn first cap).run Tryz.prog w = .ok (.func fn first cap) w := fun _ _ _ _ => rfl
  have S3 := (((Sep.start w).new ((Ext.refl _ w).alloc (.cells #[.string ⟨#[]⟩] 9)) (Ob.one w.heap.size (.cells #[.string ⟨#[]⟩] 9 (0, 0))) (heap_alloc_at _) (fun k hk => by rw [List.mem_singleton.1 hk]; exact Nat.le_refl _)).new ((Ext.refl _ _).alloc (.cells #[.int .i64 0] 3)) (Ob.one (w.heap.size + 1) (.cells #[.int .i64 0] 3 (0, 0))) (alloc_new9 (by simp)) (fun k hk => by rw [List.mem_singleton.1 hk]; simp)).new ((Ext.refl _ _).alloc (.cells #[.int .i64 0] 25)) (Ob.one (w.heap.size + 1 + 1) (.cells #[.int .i64 0] 25 (0, 0))) (alloc_new9 (by simp)) (fun k hk => by rw [List.mem_singleton.1 hk]; simp)
  have HS := Lib.hid S3
  clear S3
  obtain ⟨V, hV⟩ : ∃ V, runV s B = V := ⟨_, rfl⟩
  rw [hV]
  unfold runV at hV
  have HV := Lib.hid hV
  clear hV
  go_enter_defers Tryz.func19, Tryz.ntmps19
  go_wp2_with fail
  refine (sRnew s false HS.out).mono ?_
  rintro e w4 ⟨rb, rfl, S⟩
  clear HS
  have HS := Lib.hid S
  clear S
  have hrb : w4.heap[rb]? = some (rdr s 0 false) := HS.out.get 0 rfl
  have hne : w4.heap.size ≠ rb := fun h => by have := lt_of_block hrb; omega
  have S5 := HS.out.new ((Ext.refl _ w4).alloc (runC rb (.slice none 0 0) B)) (oRest w4.heap.size rb (.slice none 0 0) B []) ⟨heap_alloc_at _, World.ownsRow_nil _ _ _ _⟩ (fun k hk => by
    rcases List.mem_cons.1 hk with rfl | hk
    · exact Nat.le_refl _
    · cases hk)
  have hr5 : (w4.alloc (runC rb (.slice none 0 0) B)).heap[rb]? = some (rdr s 0 false) := S5.get 1 rfl
  have S5 := Sep.glue S5 (j := 0) rfl (oRun w4.heap.size rb [w4.heap.size, rb] s B 0 []) (fun k hk => by
    rcases List.mem_cons.1 hk with rfl | hk
    · exact .inl (List.mem_cons_self ..)
    · exact .inr hk) ⟨⟨.slice none 0 0, heap_alloc_at _, World.ownsRow_nil _ _ _ _, rfl, by simp [Value.ownBlock], by simp [Value.ownBlock]⟩, hr5, hne⟩
  have S6 := S5.new ((Ext.refl _ _).alloc (.cells #[.pointer (some ⟨w4.heap.size, 0, none⟩)] 47)) (Ob.one (w4.heap.size + 1) (.cells #[.pointer (some ⟨w4.heap.size, 0, none⟩)] 47 (0, 0))) (alloc_new9 (by simp)) (fun k hk => by rw [List.mem_singleton.1 hk]; simp)
  have hall := a_all (L := [Ob.one (w4.heap.size + 1) (.cells #[.pointer (some ⟨w4.heap.size, 0, none⟩)] 47 (0, 0)), oRun w4.heap.size rb [w4.heap.size, rb] s B 0 [], Ob.one (w.heap.size + 1 + 1) (.cells #[.int .i64 0] 25 (0, 0)), Ob.one (w.heap.size + 1) (.cells #[.int .i64 0] 3 (0, 0)), Ob.one w.heap.size (.cells #[.string ⟨#[]⟩] 9 (0, 0))]) (j := 1) (by simp) S6 hs (Nat.zero_le _) hB
  have hall : Calls Tryz.prog 26 #[.pointer (some ⟨w4.heap.size, 0, none⟩)] _ (Pst _ _ _ _ _ s B unit9 (runR s B)) := hall
  have HALL := Lib.hid hall
  clear hrb hne S5 hr5 S6 hall HS
  go_wp2_with fail
  refine HALL.out.mono ?_
  obtain ⟨ub, hub⟩ : ∃ ub, w4.heap.size = ub := ⟨_, rfl⟩
  obtain ⟨ob, hob⟩ : ∃ ob, w.heap.size = ob := ⟨_, rfl⟩
  rw [hub, hob]
  clear HALL hub
  have HOB := Lib.hid hob
  clear hob
  intro e w6 h
  have hV := HV.out
  clear HV
  cases hR : runR s B with
  | er er out =>
    rw [hR] at h hV
    simp only at hV
    have HV := Lib.hid hV
    clear hV hR
    obtain ⟨rfl, F', p', S⟩ := h
    have S : Sep w w6 [Ob.one (ub + 1) (.cells #[.pointer (some ⟨ub, 0, none⟩)] 47 (0, 0)), oRun ub rb F' s B p' out, Ob.one (ob + 1 + 1) (.cells #[.int .i64 0] 25 (0, 0)), Ob.one (ob + 1) (.cells #[.int .i64 0] 3 (0, 0)), Ob.one ob (.cells #[.string ⟨#[]⟩] 9 (0, 0))] := S
    have hc := S.get 0 rfl
    have hr : RunO w6 ub rb F' s B p' out := S.get 1 rfl
    have he := S.get 2 rfl
    have hn := S.get 3 rfl
    have ho := S.get 4 rfl
    obtain ⟨ao, cap, _, r1, _, _, hown⟩ := hr.cells
    have hcp := catch_pan (ub + 1) ob (ob + 1) (ob + 1 + 1) ub er _ (txt out) [] w6 ⟨#[]⟩ 0 0 (cellOf hc 0) r1 (run_row_text hown) (cellOf ho 0) (freeOf ho 0) (cellOf hn 0) (freeOf hn 0) (cellOf he 0) (freeOf he 0) (by omega)
    have HX := Lib.hid S.ext
    have HCP := Lib.hid hcp
    clear S hc hr he hn ho r1 hown hcp
    go_wp2_with fail
    refine leaves_cons (f := 25) (args := #[.pointer (some ⟨ub + 1, 0, none⟩), .pointer (some ⟨ob, 0, none⟩), .pointer (some ⟨ob + 1, 0, none⟩), .pointer (some ⟨ob + 1 + 1, 0, none⟩)]) (by simp) (by simp [go_sem]) ?_
    refine HCP.out.mono ?_
    rintro e u' w7 ⟨rfl, rfl, h1, h2, h3, hx⟩
    refine ⟨_, run_res w7 _ ob (ob + 1) (ob + 1 + 1) (txt out) 0 er rfl rfl rfl h1 h2 h3, by rw [HV.out], ?_⟩
    refine HX.out.trans' hx (fun i hi hm => ?_)
    have := HOB.out
    simp at hm
    omega
  | ok u p out =>
    rw [hR] at h hV
    simp only at hV
    have HV := Lib.hid hV
    clear hV
    obtain ⟨rfl, F', S⟩ := h
    have S : Sep w w6 [Ob.one (ub + 1) (.cells #[.pointer (some ⟨ub, 0, none⟩)] 47 (0, 0)), oRun ub rb F' s B p out, Ob.one (ob + 1 + 1) (.cells #[.int .i64 0] 25 (0, 0)), Ob.one (ob + 1) (.cells #[.int .i64 0] 3 (0, 0)), Ob.one ob (.cells #[.string ⟨#[]⟩] 9 (0, 0))] := S
    have c0 : w6.cell? ⟨ub + 1, 0, none⟩ = some (.pointer (some ⟨ub, 0, none⟩)) := cellOf (S.get 0 rfl) 0
    have hr : RunO w6 ub rb F' s B p out := S.get 1 rfl
    obtain ⟨ao, cap, r0, _, _, _, _⟩ := hr.cells
    have hrd := hr.rd
    have HS := Lib.hid S
    clear S hr
    have hp8 : p ≤ 8 * s.size := runR_le hR
    clear hR
    go_wp2_with fail
    refine (at_any rb s p false w6 hrd).mono ?_
    rintro e w7 ⟨rfl, hx⟩
    have S := HS.out.quiet hx
    clear hx HS c0 r0 hrd
    have e0 : w7.cell? ⟨ob + 1 + 1, 0, none⟩ = some (.int .i64 0) := cellOf (S.get 2 rfl) 0
    have ef : w7.frozen? ⟨ob + 1 + 1, 0, none⟩ = false := freeOf (S.get 2 rfl) 0
    have n0 : w7.cell? ⟨ob + 1, 0, none⟩ = some (.int .i64 0) := cellOf (S.get 3 rfl) 0
    have nf : w7.frozen? ⟨ob + 1, 0, none⟩ = false := freeOf (S.get 3 rfl) 0
    have o0 : w7.cell? ⟨ob, 0, none⟩ = some (.string ⟨#[]⟩) := cellOf (S.get 4 rfl) 0
    have of : w7.frozen? ⟨ob, 0, none⟩ = false := freeOf (S.get 4 rfl) 0
    have HS := Lib.hid S
    clear S
    go_wp2_with fail
    have hq : (((p + 7) / 8 : Nat) : Int) = ((p : Int) + 7) / 8 := by omega
    have HQ := Lib.hid hq
    clear hq
    obtain ⟨q, hq⟩ : ∃ q, ((p : Int) + 7) / 8 = q := ⟨_, rfl⟩
    rw [hq] at HQ ⊢
    clear hq e0 ef n0 nf o0 of
    have S1 := HS.out.upd 4 (Ob.one ob (.cells #[.string ⟨#[]⟩] 9 (0, 0))) rfl ((Ext.refl _ w7).setCell ⟨ob, 0, none⟩ (.string ⟨#[]⟩) (.inl (by simp [Ob.one]))) (Fr.refl _ _) (heap_setCell_same (HS.out.get 4 rfl : w7.heap[ob]? = some (.cells #[.string ⟨#[]⟩] 9 (0, 0))) _)
    have S2 := S1.upd 3 (Ob.one (ob + 1) (.cells #[.int .i64 q] 3 (0, 0))) rfl ((Ext.refl _ _).setCell ⟨ob + 1, 0, none⟩ (.int .i64 q) (.inl (by simp [Ob.one]))) (Fr.refl _ _) (heap_setCell_same (S1.get 3 rfl : (w7.setCell ⟨ob, 0, none⟩ (.string ⟨#[]⟩)).heap[ob + 1]? = some (.cells #[.int .i64 0] 3 (0, 0))) _)
    have S3 := S2.upd 2 (Ob.one (ob + 1 + 1) (.cells #[.int .i64 0] 25 (0, 0))) rfl ((Ext.refl _ _).setCell ⟨ob + 1 + 1, 0, none⟩ (.int .i64 0) (.inl (by simp [Ob.one]))) (Fr.refl _ _) (heap_setCell_same (S2.get 2 rfl : ((w7.setCell ⟨ob, 0, none⟩ (.string ⟨#[]⟩)).setCell ⟨ob + 1, 0, none⟩ (.int .i64 q)).heap[ob + 1 + 1]? = some (.cells #[.int .i64 0] 25 (0, 0))) _)
    obtain ⟨W8, hW8⟩ : ∃ W8, ((w7.setCell ⟨ob, 0, none⟩ (.string ⟨#[]⟩)).setCell ⟨ob + 1, 0, none⟩ (.int .i64 q)).setCell ⟨ob + 1 + 1, 0, none⟩ (.int .i64 0) = W8 := ⟨_, rfl⟩
    rw [hW8] at S3 ⊢
    clear hW8 S1 S2 HS
    have hr : RunO W8 ub rb F' s B p out := S3.get 1 rfl
    obtain ⟨ao, cap, _, r1, _, _, hown⟩ := hr.cells
    have ho : W8.heap[ob]? = some (.cells #[.string ⟨#[]⟩] 9 (0, 0)) := S3.get 4 rfl
    have hn : W8.cell? ⟨ob + 1, 0, none⟩ = some (.int .i64 q) := cellOf (S3.get 3 rfl) 0
    have he : W8.cell? ⟨ob + 1 + 1, 0, none⟩ = some (.int .i64 0) := cellOf (S3.get 2 rfl) 0
    have o0 := cellOf ho 0
    refine leaves_cons (f := 25) (args := #[.pointer (some ⟨ub + 1, 0, none⟩), .pointer (some ⟨ob, 0, none⟩), .pointer (some ⟨ob + 1, 0, none⟩), .pointer (some ⟨ob + 1 + 1, 0, none⟩)]) (by simp) (by simp [go_sem]) ?_
    refine (catch_not (ub + 1) ob (ob + 1) (ob + 1 + 1) ub _ (txt out) W8 ⟨#[]⟩ (cellOf (S3.get 0 rfl) 0) r1 (run_row_text hown) o0 (freeOf ho 0)).mono ?_
    rintro e u' w9 ⟨rfl, rfl, rfl⟩
    refine ⟨_, run_res _ _ ob (ob + 1) (ob + 1 + 1) (txt out) q 0 rfl rfl rfl (by simp [go_sem, o0]) (by simp [go_sem, hn]) (by simp [go_sem, he]), by rw [← HV.out, HQ.out], ?_⟩
    refine S3.ext.trans' ((Ext.refl [ob] W8).setCell ⟨ob, 0, none⟩ (.string (txt out)) (.inl (by simp))) (fun i hi hm => ?_)
    have := HOB.out
    simp at hm
    omega
end Go.Proofs.YtnapnaaejignaaaGreat.If

/-! InR: inflate: LengthOf, DistanceOf, lives walked; examples. -/
namespace Go.Proofs.YtnapnaaejignaaaGreat.If
open Go.RowKit Bt Hu

def lastF (f : Nat → Nat) (n lo : Nat) : Nat → Nat
  | 0 => lo
  | k + 1 => if f (lo + (k + 1)) ≤ n then lo + (k + 1) else lastF f n lo k
set_option maxRecDepth 100000 in
set_option maxHeartbeats 4000000 in
theorem last_len (n : Nat) (w : World) : Calls Tryz.prog 74 #[.int .i64 257, .int .i64 285, .int .i64 n, .func (.func 49) #[] #[]] w fun e w' => e = .returned (.int .i64 (lastF lenB n 257 28)) ∧ w = w' := by
  obtain ⟨R, hR⟩ : ∃ R, lastF lenB n 257 28 = R := ⟨_, rfl⟩
  rw [hR]
  have HR := Lib.hid hR
  clear hR
  go_enter Tryz.func74, Tryz.ntmps74
  go_wp2_with fail
  go_loopg [9] 29 (fun g sv wr => ∃ k : Nat, g = k + 1 ∧ k ≤ 28 ∧ sv = .int .i64 ((257 + k : Nat) : Int) ∧ lastF lenB n 257 k = R ∧ w = wr)
  case atStart => exact ⟨28, rfl, by omega, rfl, HR.out, rfl⟩
  case round =>
    clear HR
    obtain ⟨k, rfl, hk, rfl, hR, rfl⟩ := hrel
    cases k with
    | zero =>
      rw [lastF] at hR
      subst hR
      go_wp2_with fail
      go_ret
      exact ⟨rfl, rfl⟩
    | succ k =>
      rw [lastF] at hR
      have hlw := length_walk ((257 + (k + 1) : Nat) : Int) w
      rw [(lenBZ_at (257 + (k + 1)) (by omega) (by omega)).1, (lenBZ_at (257 + (k + 1)) (by omega) (by omega)).2] at hlw
      have ht := len_table (257 + (k + 1)) (by omega)
      obtain ⟨P, hP⟩ : ∃ P, lenB (257 + (k + 1)) = P := ⟨_, rfl⟩
      obtain ⟨X, hX⟩ : ∃ X, lenX (257 + (k + 1)) = X := ⟨_, rfl⟩
      rw [hP] at hR
      rw [hP, hX] at hlw ht
      obtain ⟨q, hq⟩ : ∃ q, 257 + (k + 1) = q := ⟨_, rfl⟩
      rw [hq] at hlw hR ⊢
      have HLW := Lib.hid hlw
      have hq1 : (257 : Int) < (q : Int) := by omega
      have HQ := Lib.hid hq
      clear hlw hP hX hq
      have hqb : (q : Int) ≤ 285 := by have := HQ.out; omega
      by_cases hle : P ≤ n
      · rw [if_pos hle] at hR
        have hle' : (P : Int) ≤ (n : Int) := by omega
        have HR := Lib.hid hR
        clear hR
        go_wp2_with fail
        refine HLW.out.mono ?_
        clear HLW
        rintro e w1 ⟨rfl, rfl⟩
        go_wp2_with fail
        go_ret
        exact ⟨by rw [HR.out]; rfl, rfl⟩
      · rw [if_neg hle] at hR
        have hle' : ¬ (P : Int) ≤ (n : Int) := by omega
        have HR := Lib.hid hR
        clear hR
        go_wp2_with fail
        refine HLW.out.mono ?_
        clear HLW
        rintro e w1 ⟨rfl, rfl⟩
        go_wp2_with fail
        go_roundg (k + 1)
        case measure => omega
        case rel => exact ⟨k, rfl, by omega, by have := HQ.out; congr 1; omega, HR.out, rfl⟩
set_option maxRecDepth 100000 in
set_option maxHeartbeats 4000000 in
theorem last_dst (n : Nat) (w : World) : Calls Tryz.prog 74 #[.int .i64 0, .int .i64 29, .int .i64 n, .func (.func 51) #[] #[]] w fun e w' => e = .returned (.int .i64 (lastF dstB n 0 29)) ∧ w = w' := by
  obtain ⟨R, hR⟩ : ∃ R, lastF dstB n 0 29 = R := ⟨_, rfl⟩
  rw [hR]
  have HR := Lib.hid hR
  clear hR
  go_enter Tryz.func74, Tryz.ntmps74
  go_wp2_with fail
  go_loopg [9] 30 (fun g sv wr => ∃ k : Nat, g = k + 1 ∧ k ≤ 29 ∧ sv = .int .i64 ((0 + k : Nat) : Int) ∧ lastF dstB n 0 k = R ∧ w = wr)
  case atStart => exact ⟨29, rfl, by omega, rfl, HR.out, rfl⟩
  case round =>
    clear HR
    obtain ⟨k, rfl, hk, rfl, hR, rfl⟩ := hrel
    cases k with
    | zero =>
      rw [lastF] at hR
      subst hR
      go_wp2_with fail
      go_ret
      exact ⟨rfl, rfl⟩
    | succ k =>
      rw [lastF] at hR
      have hlw := distance_walk ((0 + (k + 1) : Nat) : Int) w
      rw [(dstBZ_at (0 + (k + 1)) (by omega)).1, (dstBZ_at (0 + (k + 1)) (by omega)).2] at hlw
      have ht := dst_table (0 + (k + 1)) (by omega)
      obtain ⟨P, hP⟩ : ∃ P, dstB (0 + (k + 1)) = P := ⟨_, rfl⟩
      obtain ⟨X, hX⟩ : ∃ X, dstX (0 + (k + 1)) = X := ⟨_, rfl⟩
      rw [hP] at hR
      rw [hP, hX] at hlw ht
      obtain ⟨q, hq⟩ : ∃ q, 0 + (k + 1) = q := ⟨_, rfl⟩
      rw [hq] at hlw hR ⊢
      have HLW := Lib.hid hlw
      have hq1 : (0 : Int) < (q : Int) := by omega
      have HQ := Lib.hid hq
      clear hlw hP hX hq
      have hqb : (q : Int) ≤ 29 := by have := HQ.out; omega
      by_cases hle : P ≤ n
      · rw [if_pos hle] at hR
        have hle' : (P : Int) ≤ (n : Int) := by omega
        have HR := Lib.hid hR
        clear hR
        go_wp2_with fail
        refine HLW.out.mono ?_
        clear HLW
        rintro e w1 ⟨rfl, rfl⟩
        go_wp2_with fail
        go_ret
        exact ⟨by rw [HR.out]; rfl, rfl⟩
      · rw [if_neg hle] at hR
        have hle' : ¬ (P : Int) ≤ (n : Int) := by omega
        have HR := Lib.hid hR
        clear hR
        go_wp2_with fail
        refine HLW.out.mono ?_
        clear HLW
        rintro e w1 ⟨rfl, rfl⟩
        go_wp2_with fail
        go_roundg (k + 1)
        case measure => omega
        case rel => exact ⟨k, rfl, by omega, by have := HQ.out; congr 1; omega, HR.out, rfl⟩
def lenOfZ (n : Int) : Int := if n < 3 ∨ 258 < n then -1 else (lastF lenB n.toNat 257 28 : Nat)
def dstOfZ (n : Int) : Int := if n < 1 ∨ 32768 < n then -1 else (lastF dstB n.toNat 0 29 : Nat)
set_option maxRecDepth 100000 in
set_option maxHeartbeats 4000000 in
theorem lenof_walk (n : Int) (w : World) : Calls Tryz.prog 48 #[.int .i64 n] w fun e w' => e = .returned (.int .i64 (lenOfZ n)) ∧ w = w' := by
  by_cases h1 : n < 3
  · have e1 : lenOfZ n = -1 := by unfold lenOfZ; rw [if_pos (.inl h1)]
    rw [e1]
    clear e1
    go_enter Tryz.func48, Tryz.ntmps48
    go_wp2_with fail
    go_ret
    exact ⟨rfl, rfl⟩
  by_cases h2 : 258 < n
  · have e1 : lenOfZ n = -1 := by unfold lenOfZ; rw [if_pos (.inr h2)]
    rw [e1]
    clear e1
    go_enter Tryz.func48, Tryz.ntmps48
    go_wp2_with fail
    go_ret
    exact ⟨rfl, rfl⟩
  obtain ⟨m, rfl⟩ : ∃ m : Nat, n = m := ⟨n.toNat, by omega⟩
  have e1 : lenOfZ (m : Int) = (lastF lenB m 257 28 : Nat) := by unfold lenOfZ; rw [if_neg (by omega), Int.toNat_natCast]
  rw [e1]
  have HL := Lib.hid (last_len m w)
  clear e1
  generalize lastF lenB m 257 28 = R at *
  go_enter Tryz.func48, Tryz.ntmps48
  go_wp2_with fail
  refine HL.out.mono ?_
  rintro e w1 ⟨rfl, rfl⟩
  go_wp2_with fail
  go_ret
  exact ⟨rfl, rfl⟩
set_option maxRecDepth 100000 in
set_option maxHeartbeats 4000000 in
theorem dstof_walk (n : Int) (w : World) : Calls Tryz.prog 50 #[.int .i64 n] w fun e w' => e = .returned (.int .i64 (dstOfZ n)) ∧ w = w' := by
  by_cases h1 : n < 1
  · have e1 : dstOfZ n = -1 := by unfold dstOfZ; rw [if_pos (.inl h1)]
    rw [e1]
    clear e1
    go_enter Tryz.func50, Tryz.ntmps50
    go_wp2_with fail
    go_ret
    exact ⟨rfl, rfl⟩
  by_cases h2 : 32768 < n
  · have e1 : dstOfZ n = -1 := by unfold dstOfZ; rw [if_pos (.inr h2)]
    rw [e1]
    clear e1
    go_enter Tryz.func50, Tryz.ntmps50
    go_wp2_with fail
    go_ret
    exact ⟨rfl, rfl⟩
  obtain ⟨m, rfl⟩ : ∃ m : Nat, n = m := ⟨n.toNat, by omega⟩
  have e1 : dstOfZ (m : Int) = (lastF dstB m 0 29 : Nat) := by unfold dstOfZ; rw [if_neg (by omega), Int.toNat_natCast]
  rw [e1]
  have HL := Lib.hid (last_dst m w)
  clear e1
  generalize lastF dstB m 0 29 = R at *
  go_enter Tryz.func50, Tryz.ntmps50
  go_wp2_with fail
  refine HL.out.mono ?_
  rintro e w1 ⟨rfl, rfl⟩
  go_wp2_with fail
  go_ret
  exact ⟨rfl, rfl⟩
theorem ex8_1 : runV ⟨#[1, 2, 0, 253, 255, 97, 98]⟩ 9 = .tuple #[.string ⟨#[97, 98]⟩, .int .i64 7, .int .i64 0] := by kernel_rfl
theorem ex8_2 : runV ⟨#[75, 4, 0]⟩ 9 = .tuple #[.string ⟨#[97]⟩, .int .i64 3, .int .i64 0] := by kernel_rfl
end Go.Proofs.YtnapnaaejignaaaGreat.If

/-! InT: The law InflateSymbols walked. -/
namespace Go.Proofs.YtnapnaaejignaaaGreat.If
open Go.RowKit Bt Hu

theorem lastF_at (f : Nat → Nat) (n lo : Nat) : ∀ k, f lo ≤ n → f (lastF f n lo k) ≤ n ∧ lo ≤ lastF f n lo k ∧ lastF f n lo k ≤ lo + k ∧ (lastF f n lo k < lo + k → n < f (lastF f n lo k + 1))
  | 0, h => ⟨h, Nat.le_refl _, Nat.le_refl _, fun h => by rw [lastF] at h; omega⟩
  | k + 1, h => by
    rw [lastF]
    split
    · exact ⟨‹_›, by omega, by omega, fun h => by omega⟩
    · obtain ⟨h1, h2, h3, h4⟩ := lastF_at f n lo k h
      refine ⟨h1, h2, by omega, fun h5 => ?_⟩
      by_cases h6 : lastF f n lo k < lo + k
      · exact h4 h6
      · have e : lastF f n lo k + 1 = lo + (k + 1) := by omega
        rw [e]
        omega
theorem dst_next : ∀ d, d < 29 → dstB (d + 1) = dstB d + 2 ^ dstX d := by decide +kernel
theorem dst_end : dstB 29 + 2 ^ dstX 29 = 32769 := by decide +kernel
theorem len_next : ∀ n, n < 259 → 3 ≤ n → 257 ≤ lastF lenB n 257 28 ∧ lastF lenB n 257 28 ≤ 285 ∧ lenB (lastF lenB n 257 28) ≤ n ∧ n < lenB (lastF lenB n 257 28) + 2 ^ lenX (lastF lenB n 257 28) ∧ lenX (lastF lenB n 257 28) ≤ 5 ∧ (n = 258 → lastF lenB n 257 28 = 285) := by decide +kernel
theorem dst_of (n : Nat) (h1 : 1 ≤ n) (h2 : n ≤ 32768) : lastF dstB n 0 29 ≤ 29 ∧ dstB (lastF dstB n 0 29) ≤ n ∧ n < dstB (lastF dstB n 0 29) + 2 ^ dstX (lastF dstB n 0 29) ∧ dstX (lastF dstB n 0 29) ≤ 13 := by
  obtain ⟨a1, _, a3, a4⟩ := lastF_at dstB n 0 29 (show dstB 0 ≤ n from h1)
  refine ⟨by omega, a1, ?_, (dst_table _ (by omega)).1⟩
  by_cases h : lastF dstB n 0 29 < 29
  · have := a4 (by omega)
    rw [dst_next _ h] at this
    exact this
  · have e : lastF dstB n 0 29 = 29 := by omega
    rw [e, dst_end]
    omega
end Go.Proofs.YtnapnaaejignaaaGreat.If
