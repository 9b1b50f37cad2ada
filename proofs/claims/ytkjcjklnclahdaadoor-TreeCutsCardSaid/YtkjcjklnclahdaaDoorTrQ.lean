/-
  tree: dict walked.
-/
import Derived.Test.YtkjcjklnclahdaaDoorTrP
namespace Go.Proofs.YtkjcjklnclahdaaDoor.Tr
open Go.RowKit

theorem cells_two2 (w : World) (O : Obj) (x y : Value) (t : TypeId) (f : Nat × Nat := (0, 0)) : ∀ j u, [x, y][j]? = some u → ((w.alloc O).alloc (.cells #[x, y] t f)).cell? ((⟨w.heap.size + 1, 0, none⟩ : Addr).add j) = some u := by
  have h := cells_two (w.alloc O) x y t f
  rw [show (w.alloc O).heap.size = w.heap.size + 1 by simp] at h
  exact h
set_option maxRecDepth 100000 in
set_option maxHeartbeats 8000000 in
theorem dict_walk (w0 w : World) (L : List Ob) (jj : Nat) (v : Value) (P : List (Et × List Nd)) (S : Sep w0 w L) (hj : L[jj]? = some (oEt v (P.map (·.1)))) (hl : P.length ≤ 20)
    (hV : ∀ (W : World) (o : Ob), Sep w0 W (L.set jj o) → ∀ p ∈ P, NodesAt W (slC p.1.2) p.2) (hs : ∀ p ∈ P, p.1.1.size ≤ 1000000 ∧ nameN p.1.1 = 0 ∧ checkN p.2 = 0 ∧ ∀ x ∈ p.2, x.s.size ≤ 1000000) :
    Calls Tryd.prog 42 #[v] w fun e w' => ∃ v2, e = .returned (.tuple #[v2, .int .i64 (dictN (P.map fun p => (p.1.1, p.2))).2]) ∧ Sep w0 w' (L.set jj (oEt v (sortN (P.map (·.1))))) ∧ NodesAt w' v2 (dictN (P.map fun p => (p.1.1, p.2))).1 := by
  obtain ⟨j0, hjf, hy0, hy1, hy2⟩ := info_parts infoNodes
  have HI := Lib.hid (sort_walk w0 w L jj v _ S hj (by rw [List.length_map]; exact hl))
  have hjl : jj < L.length := (List.getElem?_eq_some_iff.1 hj).1
  have hown : w.ownsRow 0 67 2 v (P.map (·.1)).length (etC (P.map (·.1))) := S.get jj hj
  obtain ⟨ao, cap, rfl⟩ := row_slice hown
  clear hown S hj
  obtain ⟨SP, hSP⟩ : ∃ SP, sortG (fun p : Et × List Nd => p.1.1) P = SP := ⟨_, rfl⟩
  have hE1 : sortN (P.map (·.1)) = SP.map (·.1) := by rw [sortN_G, sortG_map, hSP]
  have hE2 : sortG (fun p : Ent => p.1) (P.map fun p => (p.1.1, p.2)) = SP.map (fun p => (p.1.1, p.2)) := by rw [sortG_map, hSP]
  obtain ⟨n, hn⟩ : ∃ n, P.length = n := ⟨_, rfl⟩
  have hSl : SP.length = n := by rw [← hSP, sortG_len, hn]
  have hmem : ∀ p, p ∈ SP → p ∈ P := fun p hp => (sortG_mem _ _ _).1 (by rw [hSP]; exact hp)
  obtain ⟨R, hR⟩ : ∃ R, dictN (P.map fun p => (p.1.1, p.2)) = R := ⟨_, rfl⟩
  rw [hR]
  rw [dictN, hE2] at hR
  rw [hE1] at HI ⊢
  have hL2 : (P.map (·.1)).length = n := by rw [List.length_map, hn]
  rw [hL2] at HI ⊢
  have HH := Lib.hid (⟨hR, hSl, fun p hp => hs p (hmem p hp), fun W o hW p hp => hV W o hW p (hmem p hp)⟩ : _ ∧ _ ∧ (∀ p ∈ SP, p.1.1.size ≤ 1000000 ∧ nameN p.1.1 = 0 ∧ checkN p.2 = 0 ∧ ∀ x ∈ p.2, x.s.size ≤ 1000000) ∧ (∀ (W : World) (o : Ob), Sep w0 W (L.set jj o) → ∀ p ∈ SP, NodesAt W (slC p.1.2) p.2))
  rw [hn] at hl
  clear hR hSl hs hV hmem hE1 hE2 hSP hn hL2
  go_enter Tryd.func42, Tryd.ntmps42
  go_wp2_with fail
  refine HI.out.mono ?_
  rintro e w1 ⟨rfl, S⟩
  have S := S.new (Ext.refl _ _) (oNm []) (fun p hp => by cases hp) (fun k hk => by cases hk)
  have S := S.new (Ext.refl _ _) (oSl 26 1 (.slice none 0 0) 0 []) (World.ownsRow_nil _ _ _ _) (fun q hq => by simp [oSl, Value.ownBlock] at hq)
  have HS := Lib.hid S
  clear S HI
  go_wp2_with fail
  go_loopg [2, 3, 4, 5, 6, 11] n (fun g v2 v3 ov v5 v6 iv wr => ∃ (i : Nat) (G : List (Nat × ByteArray)) (p : Option ByteArray), g + i = n ∧ iv = .int .i64 i ∧ G.length = i ∧ G.map (·.2) = (SP.take i).map (·.1.1) ∧ twiceF p ((SP.drop i).map fun p => (p.1.1, p.2)) = twiceF none (SP.map fun p => (p.1.1, p.2)) ∧ ((i = 0 ∧ p = none) ∨ ∃ q, 0 < i ∧ SP[i - 1]? = some q ∧ p = some q.1.1) ∧
    Sep w0 wr (oSl 26 1 ov (2 * i) (allC G ((SP.take i).map (·.1))) :: oNm G :: L.set jj (oEt (.slice ao n cap) (SP.map (·.1)))))
  case atStart => exact ⟨0, [], none, by omega, rfl, rfl, rfl, rfl, .inl ⟨rfl, rfl⟩, HS.out⟩
  case round =>
    clear HS
    obtain ⟨i, G, p, hgi, rfl, hG, hGm, htw, hp, S⟩ := hrel
    have hr0 : wr.ownsRow 0 26 1 u4 (2 * i) (allC G ((SP.take i).map (·.1))) := S.get 0 rfl
    obtain ⟨ao4, cap4, rfl⟩ := row_slice hr0
    by_cases hlt : i < n
    · obtain ⟨g, rfl⟩ : ∃ g, gk = g + 1 := ⟨gk - 1, by omega⟩
      have hltz : (i : Int) < (n : Int) := by omega
      have hil : i < SP.length := by rw [HH.out.2.1]; exact hlt
      have hrow : wr.ownsRow 0 67 2 (.slice ao n cap) n (etC (SP.map (·.1))) := by
        have h1 := S.get (jj + 2) (List.getElem?_set_self hjl)
        have h2 : wr.ownsRow 0 67 2 (.slice ao n cap) (SP.map (·.1)).length (etC (SP.map (·.1))) := h1
        rw [List.length_map, HH.out.2.1] at h2
        exact h2
      obtain ⟨g1, c1, he⟩ := row_form hrow (by omega)
      cases he
      have hat : ∀ k (hk : k < SP.length), wr.cell? ⟨g1, k * 2, none⟩ = some (.string (SP[k]'hk).1.1) ∧ wr.cell? ⟨g1, k * 2 + 1, none⟩ = some (slC (SP[k]'hk).1.2) := fun k hk => by
        have hsp : SP.map (·.1) = (SP.take k).map (·.1) ++ (SP[k]'hk).1 :: (SP.drop (k + 1)).map (·.1) := by
          rw [← List.map_cons (f := fun p : Et × List Nd => p.1), ← drop_at SP k hk, ← List.map_append, List.take_append_drop]
        have h3 := hrow
        rw [hsp] at h3
        obtain ⟨q1, q2, _⟩ := et_cells h3 k (by rw [List.length_map, List.length_take]; omega)
        exact ⟨q1, q2⟩
      have HAT := Lib.hid hat
      obtain ⟨e1, e2⟩ := hat i hil
      have hdr : (SP.drop i).map (fun p : Et × List Nd => (p.1.1, p.2)) = ((SP[i]'hil).1.1, (SP[i]'hil).2) :: (SP.drop (i + 1)).map (fun p => (p.1.1, p.2)) := by rw [drop_at SP i hil, List.map_cons]
      have htk : SP.take (i + 1) = SP.take i ++ [SP[i]'hil] := by rw [List.take_succ_eq_append_getElem hil]
      have hget : SP[i]? = some (SP[i]'hil) := List.getElem?_eq_getElem hil
      generalize SP[i]'hil = x at *
      rw [hdr, twiceF] at htw
      obtain ⟨⟨nm, xa, xn, xc⟩, xt⟩ := x
      simp only [slC] at e1 e2 htw
      have HX := Lib.hid (⟨S, hG, hGm, htw, hp, htk, hget, hr0⟩ : _ ∧ _ ∧ _ ∧ _ ∧ _ ∧ _ ∧ _ ∧ _)
      clear S hG hGm htw hp htk hget hr0 hat hrow hdr
      go_upto_region 6 with (fail)
      obtain ⟨W, hW⟩ : ∃ W, wr.alloc (Obj.cells #[.string nm, .slice xa xn xc] 67) = W := ⟨_, rfl⟩
      have hx9 : Ext [] wr W := by rw [← hW]; exact (Ext.refl [] wr).alloc _
      have hb9 : W.heap[wr.heap.size]? = some (.cells #[.string nm, .slice xa xn xc] 67 (0, 0)) := by rw [← hW]; exact heap_alloc_at _
      obtain ⟨q, hq⟩ : ∃ q, wr.heap.size = q := ⟨_, rfl⟩
      rw [hq] at hb9 ⊢
      rw [hW]
      have q0 : W.cell? ⟨q, 0, none⟩ = some (.string nm) := cellOf hb9 0
      have q1 : W.cell? ⟨q, 1, none⟩ = some (.slice xa xn xc) := cellOf hb9 1
      have HX9 := Lib.hid hx9
      clear hb9 hq hW hx9 e1 e2
      have htw := HX.out.2.2.2.1
      rcases HX.out.2.2.2.2.1 with ⟨hi0, hp0⟩ | ⟨q5, hi0, hq5, hp0⟩
      · rw [hp0, likeN, Bool.false_or] at htw
        have HTW := Lib.hid htw
        have hd : decide ((0 : Int) < (i : Int)) = false := decide_eq_false (by omega)
        have hd2 : decide (0 < i) = false := decide_eq_false (by omega)
        clear htw hp0 hi0
        go_quiet (fail)
        go_upto_region 8 with (fail)
        obtain ⟨W2, hW2⟩ : ∃ W2, W.drewN nq = W2 := ⟨_, rfl⟩
        rw [hW2]
        have hx2 : Ext [] wr W2 := by rw [← hW2]; exact HX9.out.drewN _
        have b0 : W2.cell? ⟨q, 0, none⟩ = some (.string nm) := by rw [← hW2]; exact q0
        have b1 : W2.cell? ⟨q, 1, none⟩ = some (.slice xa xn xc) := by rw [← hW2]; exact q1
        have b2 : (W2.alloc (.cells #[.int .i64 6, .int .i64 0, .int .i64 0, .string nm, .slice none 0 0] 37)).cell? ⟨q, 1, none⟩ = some (.slice xa xn xc) := ((Ext.refl [] W2).alloc _).cell b1
        have HR := Lib.hid (⟨ownsRow_ext HX.out.2.2.2.2.2.2.2 hx2 (by simp), hx2⟩ : _ ∧ _)
        clear hW2 q0 q1 hx2 hd hd2
        go_wp2_with (first | (at_builtin; refine wpList_append_lies _ rfl _ _ 23 rfl 0 26 j0 _ 1 24 Tryd.underlying23 hjf hy0 hy1 hy2 rfl (by decide) (.slice ao4 (2 * i) cap4) (2 * i) _ rfl (World.ownsRow.alloc (World.ownsRow.alloc HR.out.1 _) _) ⟨W2.heap.size + 1, 0, none⟩ 2 2 [.slice (some ⟨W2.heap.size, 0, none⟩) 1 1, .slice xa xn xc] rfl rfl (cells_two2 _ _ _ _ _) (by simp [Value.oneCell']) (by decide) (by unfold maxLen; omega) (by omega) (by omega) (W2.heap.size + 2) (by simp) ?_; intro g6 cap2 w6 hown1 hgrow hat6 hlt6))
        have hsz : (W2.alloc (nmObj nm)).heap.size = W2.heap.size + 1 := by simp
        have Pl := push_local (w := W2.alloc (nmObj nm)) (cap := cap2) (n := 2 * i + 2) hgrow (by rcases hat6 with q1 | q1; exact .inl q1; exact .inr (by rw [hsz]; omega))
        have S1 := (HX.out.1.quiet HR.out.2).upd 1 (oNm (G ++ [(W2.heap.size, nm)])) rfl (((Ext.refl [] W2).alloc (nmObj nm)).weak) (fun k hk => by
          obtain ⟨p9, hp9, rfl⟩ := List.mem_map.1 hk
          rcases List.mem_append.1 hp9 with h9 | h9
          · exact .inl (List.mem_map_of_mem h9)
          · obtain rfl : p9 = (W2.heap.size, nm) := by simpa using h9
            exact .inr (Nat.le_refl _)) (fun p9 hp9 => by
          rcases List.mem_append.1 hp9 with h9 | h9
          · exact heap_alloc_old _ ((HX.out.1.quiet HR.out.2).get 1 rfl p9 h9)
          · obtain rfl : p9 = (W2.heap.size, nm) := by simpa using h9
            exact heap_alloc_at _)
        have S2 := S1.upd 0 (oSl 26 1 (.slice (some ⟨g6, 0, none⟩) (2 * (i + 1)) cap2) (2 * (i + 1)) (allC (G ++ [(W2.heap.size, nm)]) ((SP.take (i + 1)).map (·.1)))) rfl Pl.1 Pl.2 (by
          show World.ownsRow _ 0 26 1 _ _ _
          rw [HX.out.2.2.2.2.2.1, List.map_append, List.map_cons, List.map_nil, allC_push _ _ _ _ (by rw [HX.out.2.1, List.length_map, List.length_take]; omega)]
          exact hown1)
        go_roundg g
        case measure => omega
        case rel =>
          refine ⟨i + 1, G ++ [(W2.heap.size, nm)], some nm, by omega, by go_num, by rw [List.length_append, HX.out.2.1]; rfl, by rw [List.map_append, HX.out.2.2.1, HX.out.2.2.2.2.2.1, List.map_append]; rfl, HTW.out, .inr ⟨_, by omega, by rw [Nat.add_sub_cancel]; exact HX.out.2.2.2.2.2.2.1, rfl⟩, S2⟩
      · have hd : decide ((0 : Int) < (i : Int)) = true := decide_eq_true (by omega)
        have hd2 : decide (0 < i) = true := decide_eq_true (by omega)
        obtain ⟨i5, hi5⟩ : ∃ i5, i - 1 = i5 := ⟨_, rfl⟩
        rw [hi5] at hq5
        obtain ⟨h5a, h5b⟩ := List.getElem?_eq_some_iff.1 hq5
        obtain ⟨c5, -⟩ := HAT.out i5 h5a
        rw [h5b] at c5
        have c5 := HX9.out.cell c5
        have hi5z : (i : Int) - 1 = (i5 : Int) := by omega
        have hi5n : (i5 : Int) < (n : Int) := by omega
        obtain ⟨s5, hs5⟩ : ∃ s5, q5.1.1 = s5 := ⟨_, rfl⟩
        rw [hs5] at c5 hp0
        rw [hp0, likeN] at htw
        have hi1 : (1 : Int) ≤ (i : Int) := by omega
        clear hp0 hq5 h5b hs5 hi5 h5a hi0
        cases hlk : (s5.toList == nm.toList) with
        | true =>
          rw [hlk, Bool.true_or] at htw
          have hR := HH.out.1
          rw [← htw, if_pos rfl] at hR
          subst hR
          clear htw
          go_quiet (fail)
          go_wp2_with fail
          go_ret2
          have S9 := (HX.out.1.quiet (HX9.out.drewN nq))
          exact ⟨_, rfl, Sep.tail (Sep.tail S9), none, 0, rfl, by simp, fun k hk => by cases hk⟩
        | false =>
          rw [hlk, Bool.false_or] at htw
          have HTW := Lib.hid htw
          clear htw
          go_quiet (fail)
          go_upto_region 8 with (fail)
          obtain ⟨W2, hW2⟩ : ∃ W2, W.drewN nq = W2 := ⟨_, rfl⟩
          rw [hW2]
          have hx2 : Ext [] wr W2 := by rw [← hW2]; exact HX9.out.drewN _
          have b0 : W2.cell? ⟨q, 0, none⟩ = some (.string nm) := by rw [← hW2]; exact q0
          have b1 : W2.cell? ⟨q, 1, none⟩ = some (.slice xa xn xc) := by rw [← hW2]; exact q1
          have b2 : (W2.alloc (.cells #[.int .i64 6, .int .i64 0, .int .i64 0, .string nm, .slice none 0 0] 37)).cell? ⟨q, 1, none⟩ = some (.slice xa xn xc) := ((Ext.refl [] W2).alloc _).cell b1
          have HR := Lib.hid (⟨ownsRow_ext HX.out.2.2.2.2.2.2.2 hx2 (by simp), hx2⟩ : _ ∧ _)
          clear hW2 q0 q1 hx2 hd hd2 c5 hi5z hlk
          go_wp2_with (first | (at_builtin; refine wpList_append_lies _ rfl _ _ 23 rfl 0 26 j0 _ 1 24 Tryd.underlying23 hjf hy0 hy1 hy2 rfl (by decide) (.slice ao4 (2 * i) cap4) (2 * i) _ rfl (World.ownsRow.alloc (World.ownsRow.alloc HR.out.1 _) _) ⟨W2.heap.size + 1, 0, none⟩ 2 2 [.slice (some ⟨W2.heap.size, 0, none⟩) 1 1, .slice xa xn xc] rfl rfl (cells_two2 _ _ _ _ _) (by simp [Value.oneCell']) (by decide) (by unfold maxLen; omega) (by omega) (by omega) (W2.heap.size + 2) (by simp) ?_; intro g6 cap2 w6 hown1 hgrow hat6 hlt6))
          have hsz : (W2.alloc (nmObj nm)).heap.size = W2.heap.size + 1 := by simp
          have Pl := push_local (w := W2.alloc (nmObj nm)) (cap := cap2) (n := 2 * i + 2) hgrow (by rcases hat6 with q1 | q1; exact .inl q1; exact .inr (by rw [hsz]; omega))
          have S1 := (HX.out.1.quiet HR.out.2).upd 1 (oNm (G ++ [(W2.heap.size, nm)])) rfl (((Ext.refl [] W2).alloc (nmObj nm)).weak) (fun k hk => by
            obtain ⟨p9, hp9, rfl⟩ := List.mem_map.1 hk
            rcases List.mem_append.1 hp9 with h9 | h9
            · exact .inl (List.mem_map_of_mem h9)
            · obtain rfl : p9 = (W2.heap.size, nm) := by simpa using h9
              exact .inr (Nat.le_refl _)) (fun p9 hp9 => by
            rcases List.mem_append.1 hp9 with h9 | h9
            · exact heap_alloc_old _ ((HX.out.1.quiet HR.out.2).get 1 rfl p9 h9)
            · obtain rfl : p9 = (W2.heap.size, nm) := by simpa using h9
              exact heap_alloc_at _)
          have S2 := S1.upd 0 (oSl 26 1 (.slice (some ⟨g6, 0, none⟩) (2 * (i + 1)) cap2) (2 * (i + 1)) (allC (G ++ [(W2.heap.size, nm)]) ((SP.take (i + 1)).map (·.1)))) rfl Pl.1 Pl.2 (by
            show World.ownsRow _ 0 26 1 _ _ _
            rw [HX.out.2.2.2.2.2.1, List.map_append, List.map_cons, List.map_nil, allC_push _ _ _ _ (by rw [HX.out.2.1, List.length_map, List.length_take]; omega)]
            exact hown1)
          go_roundg g
          case measure => omega
          case rel =>
            refine ⟨i + 1, G ++ [(W2.heap.size, nm)], some nm, by omega, by go_num, by rw [List.length_append, HX.out.2.1]; rfl, by rw [List.map_append, HX.out.2.2.1, HX.out.2.2.2.2.2.1, List.map_append]; rfl, HTW.out, .inr ⟨_, by omega, by rw [Nat.add_sub_cancel]; exact HX.out.2.2.2.2.2.2.1, rfl⟩, S2⟩
    · obtain rfl : gk = 0 := by omega
      obtain rfl : i = n := by omega
      have htake : SP.take i = SP := by rw [← HH.out.2.1, List.take_length]
      have hf : twiceF p [] = false := by cases p <;> rfl
      rw [List.drop_eq_nil_of_le (by rw [HH.out.2.1]; omega), List.map_nil, hf] at htw
      have hR := HH.out.1
      rw [← htw, if_neg (by simp)] at hR
      rw [htake] at hGm hr0
      have hS2 := Sep.tail (Sep.tail S)
      have hT : TreesAt wr (.slice ao4 (2 * i) cap4) (allN (SP.map fun p => (p.1.1, p.2))) := by
        refine trees_of (G := G) ?_ hGm (S.get 1 rfl) (fun p hp => ⟨HH.out.2.2.2 wr _ hS2 p hp, by have := (HH.out.2.2.1 p hp).1; omega⟩)
        rw [HH.out.2.1]
        exact hr0
      have hU := under_walk 8 _ _ wr hT (by rw [allN_len, List.length_map, HH.out.2.1]; omega) (fun l hl x hx => by
        obtain ⟨p9, hp9, h9⟩ := List.mem_flatMap.1 hl
        obtain ⟨p8, hp8, rfl⟩ := List.mem_map.1 hp9
        have hp7 := HH.out.2.2.1 p8 hp8
        simp only [List.mem_cons, List.not_mem_nil, or_false] at h9
        rcases h9 with rfl | rfl
        · obtain rfl : x = nameNd p8.1.1 := by simpa using hx
          exact hp7.1
        · exact hp7.2.2.2 x hx) (fun l hl => by
        obtain ⟨p9, hp9, h9⟩ := List.mem_flatMap.1 hl
        obtain ⟨p8, hp8, rfl⟩ := List.mem_map.1 hp9
        have hp7 := HH.out.2.2.1 p8 hp8
        simp only [List.mem_cons, List.not_mem_nil, or_false] at h9
        rcases h9 with rfl | rfl
        · exact name_ok hp7.2.1
        · exact hp7.2.2.1)
      rw [hR] at hU
      have HU := Lib.hid hU
      have HS2 := Lib.hid hS2
      clear hU hR hT hS2 S hG hGm htw hp hr0 htake hf
      go_wp2_with fail
      refine HU.out.mono ?_
      rintro e w2 ⟨v2, rfl, hx2, hN⟩
      have HF := Lib.hid (⟨HS2.out.quiet hx2, hN⟩ : _ ∧ _)
      clear hx2 hN HU HS2
      go_wp2_with fail
      go_ret2
      exact ⟨_, rfl, HF.out.1, HF.out.2⟩
end Go.Proofs.YtkjcjklnclahdaaDoor.Tr
