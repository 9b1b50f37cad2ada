/-
  tree: dict, Set, Drop walked, of any number of entries.
-/
import Derived.Test.YtkjcjklnclahdaaGreatDoorTtL
namespace Go.Proofs.YtkjcjklnclahdaaGreatDoor.Tr
open Go.RowKit

theorem rises_strict {l : List Nd} : ∀ (L : List Int) (pr : Option ByteArray), risesN l pr L = true → strictF pr (pairsN l L) = true
  | [], _, _ => rfl
  | [_], _, _ => rfl
  | k :: m :: r, pr, h => by
    rw [risesN, Bool.and_eq_true, Bool.and_eq_true] at h
    rw [pairsN, strictF, h.1.2, rises_strict r _ h.2]
    rfl
theorem pairs_up {l : List Nd} (his : isN l 8 = true) : Up (pairsN l (ndAt l 0).kids) := by
  obtain ⟨hc, hk8⟩ := is_facts his
  obtain ⟨h0, hn, E, D, hsh, -, hall⟩ := check_zero hc
  have e := ndAt_nat l 0 h0
  rw [show ((0 : Nat) : Int) = 0 from rfl] at e
  have hr : risesN l none (ndAt l 0).kids = true := by
    have := List.all_eq_true.1 hall _ (List.getElem_mem h0)
    rw [← e, nodeOk, hk8] at this
    simp at this
    exact this.2.2
  exact (strict_up _ none (rises_strict _ none hr)).1
theorem ents_nodup {l : List Nd} (his : isN l 8 = true) (s : ByteArray) : ((entsN l s).map (·.1)).Nodup :=
  ((List.filter_sublist (l := pairsN l (ndAt l 0).kids)).map (·.1)).nodup (up_nodup (pairs_up his))
theorem ents_add {l : List Nd} (his : isN l 8 = true) (s : ByteArray) (t : List Nd) : ((entsN l s ++ [(s, t)]).map (·.1)).Nodup :=
  add_nodup (ents_nodup his s) (fun p hp => by
    have := (List.mem_filter.1 hp).2
    simpa [tl_inj] using this)
set_option maxRecDepth 100000 in
set_option maxHeartbeats 8000000 in
theorem dict2_walk (w0 w : World) (L : List Ob) (jj : Nat) (v : Value) (P : List (Et × List Nd)) (S : Sep w0 w L) (hj : L[jj]? = some (oEt v (P.map (·.1)))) (hq : P.length ≤ 20 ∨ P.length ≤ 1000 ∧ ndE (P.map (·.1)))
    (hV : ∀ (W : World) (o : Ob), Sep w0 W (L.set jj o) → ∀ p ∈ P, NodesAt W (slC p.1.2) p.2) (hs : ∀ p ∈ P, p.1.1.size ≤ 1000000 ∧ nameN p.1.1 = 0 ∧ checkN p.2 = 0 ∧ ∀ x ∈ p.2, x.s.size ≤ 1000000) :
    Calls Tryz.prog 42 #[v] w fun e w' => ∃ v2, e = .returned (.tuple #[v2, .int .i64 (dictN (P.map fun p => (p.1.1, p.2))).2]) ∧ Sep w0 w' (L.set jj (oEt v (sortN (P.map (·.1))))) ∧ NodesAt w' v2 (dictN (P.map fun p => (p.1.1, p.2))).1 := by
  obtain ⟨j0, hjf, hy0, hy1, hy2⟩ := info_parts infoNodes
  have hl : P.length ≤ 1000 := by omega
  have HI := Lib.hid (sort2_walk w0 w L jj v _ S hj (by rw [List.length_map]; exact hq))
  clear hq
  have hjl : jj < L.length := (List.getElem?_eq_some_iff.1 hj).1
  have hown : w.ownsRow 0 62 2 v (P.map (·.1)).length (etC (P.map (·.1))) := S.get jj hj
  obtain ⟨ao, cap, rfl⟩ := row_slice hown
  clear hown S hj
  obtain ⟨SP, hSP⟩ : ∃ SP, sortG (fun p : Et × List Nd => p.1.1) P = SP := ⟨_, rfl⟩
  have hE1 : sortN (P.map (·.1)) = SP.map (·.1) := by rw [sortN_G, sortG_map, hSP]
  have hE2 : sortG (fun p : Ent => p.1) (P.map fun p => (p.1.1, p.2)) = SP.map (fun p => (p.1.1, p.2)) := by rw [sortG_map, hSP]
  obtain ⟨n, hn⟩ : ∃ n, P.length = n := ⟨_, rfl⟩
  have hSl : SP.length = n := by rw [← hSP, sortG_len, hn]
  have hmem : ∀ p, p ∈ SP → p ∈ P := fun p hp => (sortG_mem _ _ _).1 (by rw [hSP]; exact hp)
  obtain ⟨R, hR⟩ : ∃ R, dictN (P.map fun p => (p.1.1, p.2)) = R := ⟨_, rfl⟩
  rw [hR]
  rw [dictN, hE2] at hR
  rw [hE1] at HI ⊢
  have hL2 : (P.map (·.1)).length = n := by rw [List.length_map, hn]
  rw [hL2] at HI ⊢
  have HH := Lib.hid (⟨hR, hSl, fun p hp => hs p (hmem p hp), fun W o hW p hp => hV W o hW p (hmem p hp)⟩ : _ ∧ _ ∧ (∀ p ∈ SP, p.1.1.size ≤ 1000000 ∧ nameN p.1.1 = 0 ∧ checkN p.2 = 0 ∧ ∀ x ∈ p.2, x.s.size ≤ 1000000) ∧ (∀ (W : World) (o : Ob), Sep w0 W (L.set jj o) → ∀ p ∈ SP, NodesAt W (slC p.1.2) p.2))
  rw [hn] at hl
  clear hR hSl hs hV hmem hE1 hE2 hSP hn hL2
  go_enter Tryz.func42, Tryz.ntmps42
  go_wp2_with fail
  refine HI.out.mono ?_
  rintro e w1 ⟨rfl, S⟩
  have S := S.new (Ext.refl _ _) (oNm []) (fun p hp => by cases hp) (fun k hk => by cases hk)
  have S := S.new (Ext.refl _ _) (oSl 22 1 (.slice none 0 0) 0 []) (World.ownsRow_nil _ _ _ _) (fun q hq => by simp [oSl, Value.ownBlock] at hq)
  have HS := Lib.hid S
  clear S HI
  go_wp2_with fail
  go_loopg [2, 3, 4, 5, 6, 11] n (fun g v2 v3 ov v5 v6 iv wr => ∃ (i : Nat) (G : List (Nat × ByteArray)) (p : Option ByteArray), g + i = n ∧ iv = .int .i64 i ∧ G.length = i ∧ G.map (·.2) = (SP.take i).map (·.1.1) ∧ twiceF p ((SP.drop i).map fun p => (p.1.1, p.2)) = twiceF none (SP.map fun p => (p.1.1, p.2)) ∧ ((i = 0 ∧ p = none) ∨ ∃ q, 0 < i ∧ SP[i - 1]? = some q ∧ p = some q.1.1) ∧
    Sep w0 wr (oSl 22 1 ov (2 * i) (allC G ((SP.take i).map (·.1))) :: oNm G :: L.set jj (oEt (.slice ao n cap) (SP.map (·.1)))))
  case atStart => exact ⟨0, [], none, by omega, rfl, rfl, rfl, rfl, .inl ⟨rfl, rfl⟩, HS.out⟩
  case round =>
    clear HS
    obtain ⟨i, G, p, hgi, rfl, hG, hGm, htw, hp, S⟩ := hrel
    have hr0 : wr.ownsRow 0 22 1 u4 (2 * i) (allC G ((SP.take i).map (·.1))) := S.get 0 rfl
    obtain ⟨ao4, cap4, rfl⟩ := row_slice hr0
    by_cases hlt : i < n
    · obtain ⟨g, rfl⟩ : ∃ g, gk = g + 1 := ⟨gk - 1, by omega⟩
      have hltz : (i : Int) < (n : Int) := by omega
      have hil : i < SP.length := by rw [HH.out.2.1]; exact hlt
      have hrow : wr.ownsRow 0 62 2 (.slice ao n cap) n (etC (SP.map (·.1))) := by
        have h1 := S.get (jj + 2) (List.getElem?_set_self hjl)
        have h2 : wr.ownsRow 0 62 2 (.slice ao n cap) (SP.map (·.1)).length (etC (SP.map (·.1))) := h1
        rw [List.length_map, HH.out.2.1] at h2
        exact h2
      obtain ⟨g1, c1, he⟩ := row_form hrow (by omega)
      cases he
      have hat : ∀ k (hk : k < SP.length), wr.cell? ⟨g1, k * 2, none⟩ = some (.string (SP[k]'hk).1.1) ∧ wr.cell? ⟨g1, k * 2 + 1, none⟩ = some (slC (SP[k]'hk).1.2) := fun k hk => by
        have hsp : SP.map (·.1) = (SP.take k).map (·.1) ++ (SP[k]'hk).1 :: (SP.drop (k + 1)).map (·.1) := by
          rw [← List.map_cons (f := fun p : Et × List Nd => p.1), ← drop_at SP k hk, ← List.map_append, List.take_append_drop]
        have h3 := hrow
        rw [hsp] at h3
        obtain ⟨q1, q2, _⟩ := et_cells h3 k (by rw [List.length_map, List.length_take]; omega)
        exact ⟨q1, q2⟩
      have HAT := Lib.hid hat
      obtain ⟨e1, e2⟩ := hat i hil
      have hdr : (SP.drop i).map (fun p : Et × List Nd => (p.1.1, p.2)) = ((SP[i]'hil).1.1, (SP[i]'hil).2) :: (SP.drop (i + 1)).map (fun p => (p.1.1, p.2)) := by rw [drop_at SP i hil, List.map_cons]
      have htk : SP.take (i + 1) = SP.take i ++ [SP[i]'hil] := by rw [List.take_succ_eq_append_getElem hil]
      have hget : SP[i]? = some (SP[i]'hil) := List.getElem?_eq_getElem hil
      generalize SP[i]'hil = x at *
      rw [hdr, twiceF] at htw
      obtain ⟨⟨nm, xa, xn, xc⟩, xt⟩ := x
      simp only [slC] at e1 e2 htw
      have HX := Lib.hid (⟨S, hG, hGm, htw, hp, htk, hget, hr0⟩ : _ ∧ _ ∧ _ ∧ _ ∧ _ ∧ _ ∧ _ ∧ _)
      clear S hG hGm htw hp htk hget hr0 hat hrow hdr
      go_upto_region 6 with (fail)
      obtain ⟨W, hW⟩ : ∃ W, wr.alloc (Obj.cells #[.string nm, .slice xa xn xc] 62) = W := ⟨_, rfl⟩
      have hx9 : Ext [] wr W := by rw [← hW]; exact (Ext.refl [] wr).alloc _
      have hb9 : W.heap[wr.heap.size]? = some (.cells #[.string nm, .slice xa xn xc] 62 (0, 0)) := by rw [← hW]; exact heap_alloc_at _
      obtain ⟨q, hq⟩ : ∃ q, wr.heap.size = q := ⟨_, rfl⟩
      rw [hq] at hb9 ⊢
      rw [hW]
      have q0 : W.cell? ⟨q, 0, none⟩ = some (.string nm) := cellOf hb9 0
      have q1 : W.cell? ⟨q, 1, none⟩ = some (.slice xa xn xc) := cellOf hb9 1
      have HX9 := Lib.hid hx9
      clear hb9 hq hW hx9 e1 e2
      have htw := HX.out.2.2.2.1
      rcases HX.out.2.2.2.2.1 with ⟨hi0, hp0⟩ | ⟨q5, hi0, hq5, hp0⟩
      · rw [hp0, likeN, Bool.false_or] at htw
        have HTW := Lib.hid htw
        have hd : decide ((0 : Int) < (i : Int)) = false := decide_eq_false (by omega)
        have hd2 : decide (0 < i) = false := decide_eq_false (by omega)
        clear htw hp0 hi0
        go_quiet (fail)
        go_upto_region 8 with (fail)
        obtain ⟨W2, hW2⟩ : ∃ W2, W.drewN nq = W2 := ⟨_, rfl⟩
        rw [hW2]
        have hx2 : Ext [] wr W2 := by rw [← hW2]; exact HX9.out.drewN _
        have b0 : W2.cell? ⟨q, 0, none⟩ = some (.string nm) := by rw [← hW2]; exact q0
        have b1 : W2.cell? ⟨q, 1, none⟩ = some (.slice xa xn xc) := by rw [← hW2]; exact q1
        have b2 : (W2.alloc (.cells #[.int .i64 6, .int .i64 0, .int .i64 0, .string nm, .slice none 0 0] 25)).cell? ⟨q, 1, none⟩ = some (.slice xa xn xc) := ((Ext.refl [] W2).alloc _).cell b1
        have HR := Lib.hid (⟨ownsRow_ext HX.out.2.2.2.2.2.2.2 hx2 (by simp), hx2⟩ : _ ∧ _)
        clear hW2 q0 q1 hx2 hd hd2
        go_wp2_with (first | (at_builtin; refine wpList_append_lies _ rfl _ _ 35 rfl 0 22 j0 _ 1 24 Tryz.underlying35 hjf hy0 hy1 hy2 rfl (by decide) (.slice ao4 (2 * i) cap4) (2 * i) _ rfl (World.ownsRow.alloc (World.ownsRow.alloc HR.out.1 _) _) ⟨W2.heap.size + 1, 0, none⟩ 2 2 [.slice (some ⟨W2.heap.size, 0, none⟩) 1 1, .slice xa xn xc] rfl rfl (cells_two2 _ _ _ _ _) (by simp [Value.oneCell']) (by decide) (by unfold maxLen; omega) (by omega) (by omega) (W2.heap.size + 2) (by simp) ?_; intro g6 cap2 w6 hown1 hgrow hat6 hlt6))
        have hsz : (W2.alloc (nmObj nm)).heap.size = W2.heap.size + 1 := by simp
        have Pl := push_local (w := W2.alloc (nmObj nm)) (cap := cap2) (n := 2 * i + 2) hgrow (by rcases hat6 with q1 | q1; exact .inl q1; exact .inr (by rw [hsz]; omega))
        have S1 := (HX.out.1.quiet HR.out.2).upd 1 (oNm (G ++ [(W2.heap.size, nm)])) rfl (((Ext.refl [] W2).alloc (nmObj nm)).weak) (fun k hk => by
          obtain ⟨p9, hp9, rfl⟩ := List.mem_map.1 hk
          rcases List.mem_append.1 hp9 with h9 | h9
          · exact .inl (List.mem_map_of_mem h9)
          · obtain rfl : p9 = (W2.heap.size, nm) := by simpa using h9
            exact .inr (Nat.le_refl _)) (fun p9 hp9 => by
          rcases List.mem_append.1 hp9 with h9 | h9
          · exact heap_alloc_old _ ((HX.out.1.quiet HR.out.2).get 1 rfl p9 h9)
          · obtain rfl : p9 = (W2.heap.size, nm) := by simpa using h9
            exact heap_alloc_at _)
        have S2 := S1.upd 0 (oSl 22 1 (.slice (some ⟨g6, 0, none⟩) (2 * (i + 1)) cap2) (2 * (i + 1)) (allC (G ++ [(W2.heap.size, nm)]) ((SP.take (i + 1)).map (·.1)))) rfl Pl.1 Pl.2 (by
          show World.ownsRow _ 0 22 1 _ _ _
          rw [HX.out.2.2.2.2.2.1, List.map_append, List.map_cons, List.map_nil, allC_push _ _ _ _ (by rw [HX.out.2.1, List.length_map, List.length_take]; omega)]
          exact hown1)
        go_roundg g
        case measure => omega
        case rel =>
          refine ⟨i + 1, G ++ [(W2.heap.size, nm)], some nm, by omega, by go_num, by rw [List.length_append, HX.out.2.1]; rfl, by rw [List.map_append, HX.out.2.2.1, HX.out.2.2.2.2.2.1, List.map_append]; rfl, HTW.out, .inr ⟨_, by omega, by rw [Nat.add_sub_cancel]; exact HX.out.2.2.2.2.2.2.1, rfl⟩, S2⟩
      · have hd : decide ((0 : Int) < (i : Int)) = true := decide_eq_true (by omega)
        have hd2 : decide (0 < i) = true := decide_eq_true (by omega)
        obtain ⟨i5, hi5⟩ : ∃ i5, i - 1 = i5 := ⟨_, rfl⟩
        rw [hi5] at hq5
        obtain ⟨h5a, h5b⟩ := List.getElem?_eq_some_iff.1 hq5
        obtain ⟨c5, -⟩ := HAT.out i5 h5a
        rw [h5b] at c5
        have c5 := HX9.out.cell c5
        have hi5z : (i : Int) - 1 = (i5 : Int) := by omega
        have hi5n : (i5 : Int) < (n : Int) := by omega
        obtain ⟨s5, hs5⟩ : ∃ s5, q5.1.1 = s5 := ⟨_, rfl⟩
        rw [hs5] at c5 hp0
        rw [hp0, likeN] at htw
        have hi1 : (1 : Int) ≤ (i : Int) := by omega
        clear hp0 hq5 h5b hs5 hi5 h5a hi0
        cases hlk : (s5.toList == nm.toList) with
        | true =>
          rw [hlk, Bool.true_or] at htw
          have hR := HH.out.1
          rw [← htw, if_pos rfl] at hR
          subst hR
          clear htw
          go_quiet (fail)
          go_wp2_with fail
          go_ret2
          have S9 := (HX.out.1.quiet (HX9.out.drewN nq))
          exact ⟨_, rfl, Sep.tail (Sep.tail S9), none, 0, rfl, by simp, fun k hk => by cases hk⟩
        | false =>
          rw [hlk, Bool.false_or] at htw
          have HTW := Lib.hid htw
          clear htw
          go_quiet (fail)
          go_upto_region 8 with (fail)
          obtain ⟨W2, hW2⟩ : ∃ W2, W.drewN nq = W2 := ⟨_, rfl⟩
          rw [hW2]
          have hx2 : Ext [] wr W2 := by rw [← hW2]; exact HX9.out.drewN _
          have b0 : W2.cell? ⟨q, 0, none⟩ = some (.string nm) := by rw [← hW2]; exact q0
          have b1 : W2.cell? ⟨q, 1, none⟩ = some (.slice xa xn xc) := by rw [← hW2]; exact q1
          have b2 : (W2.alloc (.cells #[.int .i64 6, .int .i64 0, .int .i64 0, .string nm, .slice none 0 0] 25)).cell? ⟨q, 1, none⟩ = some (.slice xa xn xc) := ((Ext.refl [] W2).alloc _).cell b1
          have HR := Lib.hid (⟨ownsRow_ext HX.out.2.2.2.2.2.2.2 hx2 (by simp), hx2⟩ : _ ∧ _)
          clear hW2 q0 q1 hx2 hd hd2 c5 hi5z hlk
          go_wp2_with (first | (at_builtin; refine wpList_append_lies _ rfl _ _ 35 rfl 0 22 j0 _ 1 24 Tryz.underlying35 hjf hy0 hy1 hy2 rfl (by decide) (.slice ao4 (2 * i) cap4) (2 * i) _ rfl (World.ownsRow.alloc (World.ownsRow.alloc HR.out.1 _) _) ⟨W2.heap.size + 1, 0, none⟩ 2 2 [.slice (some ⟨W2.heap.size, 0, none⟩) 1 1, .slice xa xn xc] rfl rfl (cells_two2 _ _ _ _ _) (by simp [Value.oneCell']) (by decide) (by unfold maxLen; omega) (by omega) (by omega) (W2.heap.size + 2) (by simp) ?_; intro g6 cap2 w6 hown1 hgrow hat6 hlt6))
          have hsz : (W2.alloc (nmObj nm)).heap.size = W2.heap.size + 1 := by simp
          have Pl := push_local (w := W2.alloc (nmObj nm)) (cap := cap2) (n := 2 * i + 2) hgrow (by rcases hat6 with q1 | q1; exact .inl q1; exact .inr (by rw [hsz]; omega))
          have S1 := (HX.out.1.quiet HR.out.2).upd 1 (oNm (G ++ [(W2.heap.size, nm)])) rfl (((Ext.refl [] W2).alloc (nmObj nm)).weak) (fun k hk => by
            obtain ⟨p9, hp9, rfl⟩ := List.mem_map.1 hk
            rcases List.mem_append.1 hp9 with h9 | h9
            · exact .inl (List.mem_map_of_mem h9)
            · obtain rfl : p9 = (W2.heap.size, nm) := by simpa using h9
              exact .inr (Nat.le_refl _)) (fun p9 hp9 => by
            rcases List.mem_append.1 hp9 with h9 | h9
            · exact heap_alloc_old _ ((HX.out.1.quiet HR.out.2).get 1 rfl p9 h9)
            · obtain rfl : p9 = (W2.heap.size, nm) := by simpa using h9
              exact heap_alloc_at _)
          have S2 := S1.upd 0 (oSl 22 1 (.slice (some ⟨g6, 0, none⟩) (2 * (i + 1)) cap2) (2 * (i + 1)) (allC (G ++ [(W2.heap.size, nm)]) ((SP.take (i + 1)).map (·.1)))) rfl Pl.1 Pl.2 (by
            show World.ownsRow _ 0 22 1 _ _ _
            rw [HX.out.2.2.2.2.2.1, List.map_append, List.map_cons, List.map_nil, allC_push _ _ _ _ (by rw [HX.out.2.1, List.length_map, List.length_take]; omega)]
            exact hown1)
          go_roundg g
          case measure => omega
          case rel =>
            refine ⟨i + 1, G ++ [(W2.heap.size, nm)], some nm, by omega, by go_num, by rw [List.length_append, HX.out.2.1]; rfl, by rw [List.map_append, HX.out.2.2.1, HX.out.2.2.2.2.2.1, List.map_append]; rfl, HTW.out, .inr ⟨_, by omega, by rw [Nat.add_sub_cancel]; exact HX.out.2.2.2.2.2.2.1, rfl⟩, S2⟩
    · obtain rfl : gk = 0 := by omega
      obtain rfl : i = n := by omega
      have htake : SP.take i = SP := by rw [← HH.out.2.1, List.take_length]
      have hf : twiceF p [] = false := by cases p <;> rfl
      rw [List.drop_eq_nil_of_le (by rw [HH.out.2.1]; omega), List.map_nil, hf] at htw
      have hR := HH.out.1
      rw [← htw, if_neg (by simp)] at hR
      rw [htake] at hGm hr0
      have hS2 := Sep.tail (Sep.tail S)
      have hT : TreesAt wr (.slice ao4 (2 * i) cap4) (allN (SP.map fun p => (p.1.1, p.2))) := by
        refine trees_of (G := G) ?_ hGm (S.get 1 rfl) (fun p hp => ⟨HH.out.2.2.2 wr _ hS2 p hp, by have := (HH.out.2.2.1 p hp).1; omega⟩)
        rw [HH.out.2.1]
        exact hr0
      have hU := under_walk 8 _ _ wr hT (by rw [allN_len, List.length_map, HH.out.2.1]; omega) (fun l hl x hx => by
        obtain ⟨p9, hp9, h9⟩ := List.mem_flatMap.1 hl
        obtain ⟨p8, hp8, rfl⟩ := List.mem_map.1 hp9
        have hp7 := HH.out.2.2.1 p8 hp8
        simp only [List.mem_cons, List.not_mem_nil, or_false] at h9
        rcases h9 with rfl | rfl
        · obtain rfl : x = nameNd p8.1.1 := by simpa using hx
          exact hp7.1
        · exact hp7.2.2.2 x hx) (fun l hl => by
        obtain ⟨p9, hp9, h9⟩ := List.mem_flatMap.1 hl
        obtain ⟨p8, hp8, rfl⟩ := List.mem_map.1 hp9
        have hp7 := HH.out.2.2.1 p8 hp8
        simp only [List.mem_cons, List.not_mem_nil, or_false] at h9
        rcases h9 with rfl | rfl
        · exact name_ok hp7.2.1
        · exact hp7.2.2.1)
      rw [hR] at hU
      have HU := Lib.hid hU
      have HS2 := Lib.hid hS2
      clear hU hR hT hS2 S hG hGm htw hp hr0 htake hf
      go_wp2_with fail
      refine HU.out.mono ?_
      rintro e w2 ⟨v2, rfl, hx2, hN⟩
      have HF := Lib.hid (⟨HS2.out.quiet hx2, hN⟩ : _ ∧ _)
      clear hx2 hN HU HS2
      go_wp2_with fail
      go_ret2
      exact ⟨_, rfl, HF.out.1, HF.out.2⟩

set_option maxRecDepth 100000 in
set_option maxHeartbeats 2000000 in
theorem set2_walk (u v : Value) (l t : List Nd) (key : ByteArray) (w : World) (hu : NodesAt w u l) (hv : NodesAt w v t) (hl : Lt l) (ht : Lt t) (hks : key.size ≤ 1000000) (hsm : (entsN l key).length ≤ 999) :
    Calls Tryz.prog 10 #[u, .string key, v] w fun e w' => ∃ v2, e = .returned (.tuple #[v2, .int .i64 (setN l key t).2]) ∧ Ext [] w w' ∧ NodesAt w' v2 (setN l key t).1 := by
  obtain ⟨i0, hif, hz0, hz1, hz2⟩ := info_parts infoEntry
  have HF := Lib.hid (fun (x : Value) (W : World) (hT : TreesAt W x [l, t]) => first_walk x [l, t] W hT (by simp) (fun q hq => by
    simp only [List.mem_cons, List.not_mem_nil, or_false] at hq
    rcases hq with rfl | rfl
    · exact ⟨hl.len, hl.s⟩
    · exact ⟨ht.len, ht.s⟩))
  obtain ⟨R, hR⟩ : ∃ R, setN l key t = R := ⟨_, rfl⟩
  rw [hR]
  rw [setN] at hR
  obtain ⟨f, hf⟩ : ∃ f, firstN [l, t] = f := ⟨_, rfl⟩
  rw [hf] at hR HF
  have hu' := hu
  have hv' := hv
  obtain ⟨ub, uc, rfl, -, hN⟩ := hu'
  obtain ⟨vb, vc, rfl, -, -⟩ := hv'
  obtain ⟨n, hn⟩ : ∃ n, l.length = n := ⟨_, rfl⟩
  obtain ⟨m, hm⟩ : ∃ m, t.length = m := ⟨_, rfl⟩
  rw [hn] at hu ⊢
  rw [hm] at hv ⊢
  have HU := Lib.hid (⟨hu, hv⟩ : _ ∧ _)
  by_cases f0 : f = 0
  case neg =>
    rw [if_pos f0] at hR
    subst hR
    have hfb : (f != 0) = true := bne_iff_ne.2 f0
    clear hf hu hv hN f0 hn hm
    go_enter Tryz.func10, Tryz.ntmps10
    go_wp2_with fail
    have hx1 : Ext [] w (w.alloc (.cells #[.slice ub n uc, .slice vb m vc] 22)) := (Ext.refl [] w).alloc _
    have hT := trees2g (heap_alloc_at (w := w) (.cells #[.slice ub n uc, .slice vb m vc] 22)) (HU.out.1.ext hx1) (HU.out.2.ext hx1)
    have HF2 := Lib.hid (HF.out _ _ hT)
    have HX := Lib.hid hx1
    clear hx1 hT
    refine HF2.out.mono ?_
    rintro e w2 ⟨rfl, hx2⟩
    have HX2 := Lib.hid (HX.out.trans hx2)
    clear hx2 HF2
    go_wp2_with fail
    go_ret2
    exact ⟨_, rfl, HX2.out, none, 0, rfl, by simp, fun k hk => by cases hk⟩
  case pos =>
  subst f0
  rw [if_neg (by simp)] at hR
  have hcl := firstN_zero hf l (by simp)
  have hct := firstN_zero hf t (by simp)
  obtain ⟨h0, hn9, E, D, hsh, -⟩ := check_zero hcl
  obtain ⟨b, o, rfl, n1, -⟩ := node_in hN 0 h0
  rw [Nat.zero_mul, Nat.add_zero, show ((0 : Nat) : Int) = 0 from rfl] at n1
  have h0z : (0 : Int) < (n : Int) := by omega
  have HNm := Lib.hid (fun W => name_walk key W)
  obtain ⟨z, hz⟩ : ∃ z, nameN key = z := ⟨_, rfl⟩
  simp only [hz] at HNm hR
  obtain ⟨kd, hkd⟩ : ∃ kd, (ndAt l 0).kind = kd := ⟨_, rfl⟩
  rw [hkd] at n1 hR
  have HN1 := Lib.hid n1
  by_cases k8 : kd = 8
  case neg =>
    rw [if_pos (.inl k8)] at hR
    subst hR
    have hkb : (kd != 8) = true := bne_iff_ne.2 k8
    clear hf hu hv hN n1 hkd hz k8 hcl hct hsh hn9 h0 hn hm
    go_enter Tryz.func10, Tryz.ntmps10
    go_wp2_with fail
    have hx1 : Ext [] w (w.alloc (.cells #[.slice (some ⟨b, o, none⟩) n uc, .slice vb m vc] 22)) := (Ext.refl [] w).alloc _
    have hT := trees2g (heap_alloc_at (w := w) (.cells #[.slice (some ⟨b, o, none⟩) n uc, .slice vb m vc] 22)) (HU.out.1.ext hx1) (HU.out.2.ext hx1)
    have HF2 := Lib.hid (HF.out _ _ hT)
    have HX := Lib.hid hx1
    clear hx1 hT
    refine HF2.out.mono ?_
    rintro e w2 ⟨rfl, hx2⟩
    have n2 := (HX.out.trans hx2).cell HN1.out
    have HX2 := Lib.hid (HX.out.trans hx2)
    clear hx2 HF2
    go_wp2_with fail
    go_ret2
    exact ⟨_, rfl, HX2.out, none, 0, rfl, by simp, fun k hk => by cases hk⟩
  case pos =>
  subst k8
  have his : isN l 8 = true := by rw [isN]; simp [hcl, hkd]
  by_cases z0 : z = 0
  case neg =>
    rw [if_pos (.inr z0)] at hR
    subst hR
    have hzb : (z != 0) = true := bne_iff_ne.2 z0
    clear hf hu hv hN n1 hkd hz z0 hcl hct hsh hn9 h0 hn hm his
    go_enter Tryz.func10, Tryz.ntmps10
    go_wp2_with fail
    have hx1 : Ext [] w (w.alloc (.cells #[.slice (some ⟨b, o, none⟩) n uc, .slice vb m vc] 22)) := (Ext.refl [] w).alloc _
    have hT := trees2g (heap_alloc_at (w := w) (.cells #[.slice (some ⟨b, o, none⟩) n uc, .slice vb m vc] 22)) (HU.out.1.ext hx1) (HU.out.2.ext hx1)
    have HF2 := Lib.hid (HF.out _ _ hT)
    have HX := Lib.hid hx1
    clear hx1 hT
    refine HF2.out.mono ?_
    rintro e w2 ⟨rfl, hx2⟩
    have n2 := (HX.out.trans hx2).cell HN1.out
    have HX2 := Lib.hid (HX.out.trans hx2)
    clear hx2 HF2
    go_wp2_with fail
    refine (HNm.out _).mono ?_
    rintro e w3 ⟨rfl, hx3⟩
    have HX3 := Lib.hid (HX2.out.trans hx3)
    clear hx3 n2
    go_wp2_with fail
    go_ret2
    exact ⟨_, rfl, HX3.out, none, 0, rfl, by simp, fun k hk => by cases hk⟩
  case pos =>
  subst z0
  rw [if_neg (by simp)] at hR
  have HE := Lib.hid (fun W (hx : Ext [] w W) => ents_walk (.slice (some ⟨b, o, none⟩) n uc) l key W (hu.ext hx) his)
  have HP := Lib.hid (fun P hP => ents_P (l := l) (but := key) (P := P) hP his hl)
  have hnd := ents_add his key t
  have HD := Lib.hid (⟨hR, hsm, hz, hct, ht.s, hks⟩ : _ ∧ _ ∧ _ ∧ _ ∧ _ ∧ _)
  have HND := Lib.hid hnd
  clear hnd
  clear hf hu hv hN n1 hkd hz hcl hct hsh hn9 h0 hn hm his hR hsm
  go_enter Tryz.func10, Tryz.ntmps10
  go_wp2_with fail
  have hx1 : Ext [] w (w.alloc (.cells #[.slice (some ⟨b, o, none⟩) n uc, .slice vb m vc] 22)) := (Ext.refl [] w).alloc _
  have hT := trees2g (heap_alloc_at (w := w) (.cells #[.slice (some ⟨b, o, none⟩) n uc, .slice vb m vc] 22)) (HU.out.1.ext hx1) (HU.out.2.ext hx1)
  have HF2 := Lib.hid (HF.out _ _ hT)
  have HX := Lib.hid hx1
  clear hx1 hT HF
  refine HF2.out.mono ?_
  rintro e w2 ⟨rfl, hx2⟩
  have n2 := (HX.out.trans hx2).cell HN1.out
  have HX2 := Lib.hid (HX.out.trans hx2)
  clear hx2 HF2 HX
  go_wp2_with fail
  refine (HNm.out _).mono ?_
  rintro e w3 ⟨rfl, hx3⟩
  have HX3 := Lib.hid (HX2.out.trans hx3)
  clear hx3 n2 HX2 HNm
  go_wp2_with fail
  refine (HE.out _ HX3.out).mono ?_
  rintro e w4 ⟨ov, P, F, rfl, S, hP⟩
  have hPl : P.length ≤ 999 := by have := congrArg List.length hP; rw [List.length_map] at this; have := HD.out.2.1; omega
  have hr0 : w4.ownsRow 0 62 2 ov (P.map (·.1)).length (etC (P.map (·.1))) := S.get 0 rfl
  rw [List.length_map] at hr0
  obtain ⟨ao3, c3, rfl⟩ := row_slice hr0
  obtain ⟨q, hq⟩ : ∃ q, P.length = q := ⟨_, rfl⟩
  rw [hq] at hr0 S hPl ⊢
  have HS := Lib.hid (⟨S, hr0, hP, hq⟩ : _ ∧ _ ∧ _ ∧ _)
  clear S hr0 hP hq HE
  go_wp2_with (first | (at_builtin; refine wpList_append_lies _ rfl _ _ 59 rfl 0 62 i0 _ 2 40 Tryz.underlying59 hif hz0 hz1 hz2 rfl (by decide) (.slice ao3 q c3) q _ rfl (World.ownsRow.alloc HS.out.2.1 _) ⟨w4.heap.size, 0, none⟩ 1 1 [.string key, .slice vb m vc] rfl rfl (cells_two _ _ _ _) (by simp [Value.oneCell']) (by decide) (by unfold maxLen; omega) (by omega) (by omega) (w4.heap.size + 1) (by simp) ?_; intro g6 cap2 w6 hown1 hgrow hat6 hlt6))
  have Pl := push_local (cap := cap2) (n := q + 1) hgrow hat6
  have S2 := HS.out.1.upd 0 (oEt (.slice (some ⟨g6, 0, none⟩) (q + 1) cap2) ((P ++ [((key, vb, m, vc), t)]).map (·.1))) rfl Pl.1 Pl.2 (by
    show World.ownsRow _ 0 62 2 _ _ _
    rw [List.length_map, List.length_append, HS.out.2.2.2, List.map_append, etC_append]
    exact hown1)
  have hdw := dict2_walk w3 w6 _ 0 _ (P ++ [((key, vb, m, vc), t)]) S2 rfl (.inr ⟨by rw [List.length_append, HS.out.2.2.2]; simp; omega, by have := HND.out; rw [← HS.out.2.2.1] at this; simpa [ndE, Function.comp_def] using this⟩) (fun W o hS p hp => by
    rcases List.mem_append.1 hp with hp | hp
    · exact (hS.get 1 rfl).2 W (fun _ _ => rfl) p hp
    · obtain rfl : p = ((key, vb, m, vc), t) := by simpa using hp
      exact HU.out.2.ext (HX3.out.trans hS.ext)) (fun p hp => by
    rcases List.mem_append.1 hp with hp | hp
    · exact HP.out P HS.out.2.2.1 p hp
    · obtain rfl : p = ((key, vb, m, vc), t) := by simpa using hp
      exact ⟨HD.out.2.2.2.2.2, HD.out.2.2.1, HD.out.2.2.2.1, HD.out.2.2.2.2.1⟩)
  rw [List.map_append, HS.out.2.2.1] at hdw
  simp only [List.map_cons, List.map_nil] at hdw
  rw [HD.out.1] at hdw
  have HW := Lib.hid hdw
  clear hdw S2 Pl hown1 hgrow hat6 hlt6 hPl
  refine HW.out.mono ?_
  rintro e w7 ⟨v7, rfl, S7, hN7⟩
  have HFin := Lib.hid (⟨HX3.out.trans S7.ext, hN7⟩ : _ ∧ _)
  clear S7 hN7 HW
  go_wp2_with fail
  go_ret2
  exact ⟨_, rfl, HFin.out.1, HFin.out.2⟩

set_option maxRecDepth 100000 in
set_option maxHeartbeats 2000000 in
theorem drop2_walk (v : Value) (l : List Nd) (s : ByteArray) (w : World) (h : NodesAt w v l) (hl : Lt l) (hsm : (entsN l s).length ≤ 999) :
    Calls Tryz.prog 27 #[v, .string s] w fun e w' => ∃ v2, e = .returned v2 ∧ Ext [] w w' ∧ NodesAt w' v2 (dropN l s) := by
  have HC := Lib.hid (check_walk v l w h hl.len hl.s)
  obtain ⟨c, hc⟩ : ∃ c, checkN l = c := ⟨_, rfl⟩
  rw [hc] at HC
  by_cases c0 : c = 0
  case neg =>
    have hR : dropN l s = [] := by rw [dropN, if_pos (by rw [hc]; exact c0)]
    rw [hR]
    obtain ⟨base, cap, rfl, -, -⟩ := h
    have hcb : (c != 0) = true := bne_iff_ne.2 c0
    clear hR hc
    go_enter Tryz.func27, Tryz.ntmps27
    go_wp2_with fail
    refine HC.out.mono ?_
    rintro e w1 ⟨rfl, hx⟩
    have HX := Lib.hid hx
    clear hx HC
    go_wp2_with fail
    go_ret
    exact ⟨_, rfl, HX.out, none, 0, rfl, by simp, fun k hk => by cases hk⟩
  case pos =>
  subst c0
  obtain ⟨h0, hn, E, D, hsh, -⟩ := check_zero hc
  have h' := h
  obtain ⟨base, cap, rfl, -, hN⟩ := h'
  obtain ⟨b, o, rfl, n1, -⟩ := node_in hN 0 h0
  rw [Nat.zero_mul, Nat.add_zero, show ((0 : Nat) : Int) = 0 from rfl] at n1
  have h0z : (0 : Int) < (l.length : Int) := by omega
  by_cases hk8 : (ndAt l 0).kind = 8
  case neg =>
    have hR : dropN l s = subN l 0 := by rw [dropN, if_neg (by rw [hc]; simp), if_pos hk8]
    rw [hR]
    have HS := Lib.hid (fun W (hx : Ext [] w W) => sub_walk _ l W (h.ext hx) 0 h0 hn (by rw [hsh]; simp))
    obtain ⟨k, hk⟩ : ∃ k, (ndAt l 0).kind = k := ⟨_, rfl⟩
    rw [hk] at n1 hk8
    have hkb : (k != 8) = true := bne_iff_ne.2 hk8
    have HN1 := Lib.hid n1
    clear hR hc hsh hN h hk hk8 n1
    go_enter Tryz.func27, Tryz.ntmps27
    go_wp2_with fail
    refine HC.out.mono ?_
    rintro e w1 ⟨rfl, hx⟩
    have n2 := hx.cell HN1.out
    have HX := Lib.hid hx
    clear hx HC
    go_wp2_with fail
    refine (HS.out _ HX.out).mono ?_
    rintro e w2 ⟨v2, rfl, hx2, hN2⟩
    have HX2 := Lib.hid (⟨HX.out.trans hx2, hN2⟩ : _ ∧ _)
    clear hx2 hN2 HX HS n2
    go_wp2_with fail
    go_ret
    exact ⟨_, rfl, HX2.out.1, HX2.out.2⟩
  case pos =>
  have his : isN l 8 = true := by rw [isN]; simp [hc, hk8]
  have hR : dropN l s = (dictN (entsN l s)).1 := by rw [dropN, if_neg (by rw [hc]; simp), if_neg (by simp [hk8])]
  rw [hR]
  obtain ⟨DD, hDD⟩ : ∃ DD, dictN (entsN l s) = DD := ⟨_, rfl⟩
  have HE := Lib.hid (fun W (hx : Ext [] w W) => ents_walk _ l s W (h.ext hx) his)
  have HP := Lib.hid (fun P hP => ents_P (l := l) (but := s) (P := P) hP his hl)
  rw [hk8] at n1
  rw [hDD]
  have HD := Lib.hid (⟨hDD, hsm⟩ : _ ∧ _)
  have HND := Lib.hid (ents_nodup his s)
  have HN1 := Lib.hid n1
  clear hR hc hsh hN h hk8 n1 his hDD hsm
  go_enter Tryz.func27, Tryz.ntmps27
  go_wp2_with fail
  refine HC.out.mono ?_
  rintro e w1 ⟨rfl, hx⟩
  have n2 := hx.cell HN1.out
  have HX := Lib.hid hx
  clear hx HC
  go_wp2_with fail
  refine (HE.out _ HX.out).mono ?_
  rintro e w2 ⟨ov, P, F, rfl, S, hP⟩
  have hPl : P.length ≤ 999 := by have := congrArg List.length hP; rw [List.length_map] at this; have := HD.out.2; omega
  have hdw := dict2_walk w1 w2 _ 0 ov P S rfl (.inr ⟨by omega, by have := HND.out; rw [← hP] at this; simpa [ndE, Function.comp_def] using this⟩) (fun W o hS p hp => (hS.get 1 rfl).2 W (fun _ _ => rfl) p hp) (HP.out P hP)
  rw [hP, HD.out.1] at hdw
  have HW := Lib.hid hdw
  clear hdw S hPl n2
  go_wp2_with fail
  refine HW.out.mono ?_
  rintro e w3 ⟨v3, rfl, S3, hN3⟩
  have HF := Lib.hid (⟨HX.out.trans S3.ext, hN3⟩ : _ ∧ _)
  clear S3 hN3 HW HX
  go_wp2_with fail
  go_ret
  exact ⟨_, rfl, HF.out.1, HF.out.2⟩
end Go.Proofs.YtkjcjklnclahdaaGreatDoor.Tr
