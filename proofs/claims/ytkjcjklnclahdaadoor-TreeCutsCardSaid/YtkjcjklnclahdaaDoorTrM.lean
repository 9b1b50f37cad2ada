/-
  tree: under, Array walked.
-/
import Derived.Test.YtkjcjklnclahdaaDoorTrL
namespace Go.Proofs.YtkjcjklnclahdaaDoor.Tr
open Go.RowKit

theorem checked_kids {l : List Nd} (h : checkN l = 0) : l.length ≤ 65536 ∧ ∀ x ∈ l, x.kids.length ≤ 131072 ∧ ∀ k ∈ x.kids, 0 ≤ k ∧ k ≤ 131072 := by
  obtain ⟨h0, h1, E, D, hs, _⟩ := check_zero h
  exact ⟨h1, shape_kids hs h1⟩
set_option maxRecDepth 100000 in
set_option maxHeartbeats 8000000 in
theorem under_walk (kind : Int) (v : Value) (ls : List (List Nd)) (w : World) (h : TreesAt w v ls) (hn : ls.length ≤ 65536) (hls : ∀ l ∈ ls, ∀ x ∈ l, x.s.size ≤ 1000000) (hck : ∀ l ∈ ls, checkN l = 0) :
    Calls Tryd.prog 36 #[.int .i64 kind, v] w fun e w' => ∃ v2, e = .returned (.tuple #[v2, .int .i64 (underN kind ls).2]) ∧ Ext [] w w' ∧ NodesAt w' v2 (underN kind ls).1 := by
  obtain ⟨i0, hif, hz0, hz1, hz2⟩ := info_parts infoInt
  obtain ⟨base, cap, rfl, -, hT⟩ := h
  obtain ⟨n, hln⟩ : ∃ n, ls.length = n := ⟨_, rfl⟩
  obtain ⟨R, hR⟩ : ∃ R, underN kind ls = R := ⟨_, rfl⟩
  obtain ⟨R1, R2⟩ := R
  have HH := Lib.hid (⟨hT, hls, hck, hln, hR⟩ : _ ∧ _ ∧ _ ∧ _ ∧ _)
  rw [hR]
  rw [hln] at hn ⊢
  clear hT hls hck hln hR
  go_enter Tryd.func36, Tryd.ntmps36
  go_wp2_with fail
  obtain ⟨W1, hW1⟩ : ∃ W1, w.alloc (Obj.cells #[.int .i64 kind, .int .i64 0, .int .i64 0, .string ⟨#[]⟩, .slice none 0 0] 37) = W1 := ⟨_, rfl⟩
  have hx1 : Ext [] w W1 := by rw [← hW1]; exact (Ext.refl [] w).alloc _
  have hb1 : W1.heap[w.heap.size]? = some (.cells #[.int .i64 kind, .int .i64 0, .int .i64 0, .string ⟨#[]⟩, .slice none 0 0] 37 (0, 0)) := by rw [← hW1]; exact heap_alloc_at _
  have hs1 : W1.heap.size = w.heap.size + 1 := by rw [← hW1]; simp
  rw [hW1]
  obtain ⟨g0, hg0⟩ : ∃ g0, w.heap.size = g0 := ⟨_, rfl⟩
  obtain ⟨W2, hW2⟩ : ∃ W2, W1.alloc (Obj.cells #[.slice (some ⟨g0, 0, none⟩) 1 1] 80) = W2 := ⟨_, rfl⟩
  have hx2 : Ext [] W1 W2 := by rw [← hW2]; exact (Ext.refl [] W1).alloc _
  have hb2 : W2.heap[W1.heap.size]? = some (.cells #[.slice (some ⟨g0, 0, none⟩) 1 1] 80 (0, 0)) := by rw [← hW2]; exact heap_alloc_at _
  rw [hg0] at hb1 hs1 ⊢
  rw [hW2]
  rw [hs1] at hb2
  obtain ⟨b, hb⟩ : ∃ b, g0 + 1 = b := ⟨_, rfl⟩
  rw [hb] at hb2 ⊢
  have S := (Sep.start w).new (hx1.trans hx2) (oBd b (.slice (some ⟨g0, 0, none⟩) 1 1) [(rootN kind [], .slice none 0 0)])
    ⟨hb2, ⟨rfl, .inr ⟨g0, 1, #[.int .i64 kind, .int .i64 0, .int .i64 0, .string ⟨#[]⟩, .slice none 0 0], rfl, Nat.zero_le _, hx2.keep hb1 (by simp), Nat.le_refl _, by decide, rfl, rfl⟩⟩, fun p hp => by
      obtain rfl : p = (rootN kind [], .slice none 0 0) := by simpa using hp
      exact World.ownsRow_nil _ _ _ _, by simp [bdF, Value.ownBlock]; omega, fun p hp => by
      obtain rfl : p = (rootN kind [], .slice none 0 0) := by simpa using hp
      exact ⟨⟨by show (-9223372036854775808 : Int) ≤ 0; omega, by show (0 : Int) ≤ 9223372036854775807; omega⟩, by show (0 : Nat) ≤ _; omega, by show (0 : Nat) ≤ _; omega, fun k hk => by cases hk⟩⟩
    (fun k hk => by simp [oBd, bdF, Value.ownBlock] at hk; omega)
  have HS := Lib.hid S
  clear S hb2 hb1 hs1 hx1 hx2 hW1 hW2 hb hg0
  go_loopg [4, 5, 8, 16] n (fun g v4 v5 v8 iv wr => ∃ (i : Nat) (vv kv : Value) (K : List Int) (Z2 : List Zd), g + i = n ∧ iv = .int .i64 i ∧ K.length = i ∧ Z2.length ≤ 65535 ∧ (∀ p ∈ Z2, p.1.s.size ≤ 1000000) ∧ underF kind (ls.drop i) K (Z2.map (·.1)) = (R1, R2) ∧ Sep w wr [oBd b vv ((rootN kind K, kv) :: Z2)])
  case atStart => exact ⟨0, _, _, [], [], by omega, rfl, rfl, by simp, by simp, HH.out.2.2.2.2, HS.out⟩
  case round =>
    clear HS
    obtain ⟨i, vv, kv, K, Z2, hgi, rfl, hK, hZ, hsz, hR, S⟩ := hrel
    have hP : BdP wr b vv ((rootN kind K, kv) :: Z2) := S.get 0 rfl
    obtain ⟨g5, c5, rfl⟩ := row_form hP.row (by simp)
    have c0 : wr.cell? ⟨b, 0, none⟩ = some (.slice (some ⟨g5, 0, none⟩) (Z2.length + 1) c5) := cellOf hP.here 0
    obtain ⟨m, hm⟩ : ∃ m, Z2.length = m := ⟨_, rfl⟩
    rw [hm] at c0 hZ
    by_cases hlt : i < n
    · obtain ⟨g, rfl⟩ : ∃ g, gk = g + 1 := ⟨gk - 1, by omega⟩
      have hltz : (i : Int) < (n : Int) := by omega
      have hil : i < ls.length := by rw [HH.out.2.2.2.1]; exact hlt
      rw [drop_at ls i hil, underF, List.length_map, hm] at hR
      obtain ⟨b7, o7, vk, rfl, hc, hN⟩ := HH.out.1 i hil
      have hc := S.ext.cell hc
      have hx0 := HH.out.2.2.1 _ (List.getElem_mem hil)
      have hxs := HH.out.2.1 _ (List.getElem_mem hil)
      generalize ls[i]'hil = x at *
      obtain ⟨hxl, hxk⟩ := checked_kids hx0
      have HN := Lib.hid hN
      obtain ⟨xb, xc, rfl, -, -⟩ := hN
      obtain ⟨X, hX⟩ : ∃ X, x.length = X := ⟨_, rfl⟩
      rw [hX] at hR hc hxl HN
      have HW := Lib.hid (⟨hP, S, hR, hK, hsz, hm, hX, hxs, hxk⟩ : _ ∧ _ ∧ _ ∧ _ ∧ _ ∧ _ ∧ _ ∧ _ ∧ _)
      clear hP S hR hsz hm hX hxs hxk hx0
      by_cases hbig : 65536 < 1 + m + X
      · have hbz : (65536 : Int) < (m : Int) + 1 + (X : Int) := by omega
        have hRv := HW.out.2.2.1
        rw [if_pos hbig] at hRv
        injection hRv with r1 r2
        subst r1 r2
        go_wp2_with fail
        go_ret2
        exact ⟨_, rfl, HW.out.2.1.ext, none, 0, rfl, by simp, fun k hk => by cases hk⟩
      · have hbz : ¬ (65536 : Int) < (m : Int) + 1 + (X : Int) := by omega
        have hRv := HW.out.2.2.1
        rw [if_neg hbig] at hRv
        have HRV := Lib.hid hRv
        clear hRv
        have hkv : wr.ownsRow 0 3 1 kv i (K.map iz) := by
          have h0 := HW.out.1.kids (rootN kind K, kv) (by simp)
          rw [show (rootN kind K).kids.length = i from hK] at h0
          exact h0
        obtain ⟨ao, c6, rfl⟩ := row_slice hkv
        have hP : BdP wr b (.slice (some ⟨g5, 0, none⟩) (Z2.length + 1) c5) ((rootN kind K, .slice ao i c6) :: Z2) := HW.out.1
        have hd := hP.dup
        unfold bdF at hd
        have hkb : (Value.slice ao i c6).ownBlock ≠ some b := fun e => (List.nodup_cons.1 hd).1 (List.mem_append_right _ (mem_kidF (p := (rootN kind K, .slice ao i c6)) (by simp) e))
        have hk5 : (Value.slice ao i c6).ownBlock ≠ some g5 := fun e => (List.nodup_append.1 (List.nodup_cons.1 hd).2).2.2 g5 (by simp [Value.ownBlock]) g5 (mem_kidF (p := (rootN kind K, .slice ao i c6)) (by simp) e) rfl
        have k4 : ∀ V : World, V.heap[g5]? = wr.heap[g5]? → V.cell? ⟨g5, 4, none⟩ = some (.slice ao i c6) ∧ V.frozen? ⟨g5, 4, none⟩ = false := fun V hV => by
          obtain ⟨cur, hg, _, _, _, ht⟩ := row_open hP.row
          rw [← hV] at hg
          refine ⟨?_, freeOf hg 4⟩
          rw [cellOf hg]
          have h4 : (rowN ((rootN kind K, Value.slice ao i c6) :: Z2))[4]? = some (.slice ao i c6) := rfl
          rw [← ht, List.getElem?_take] at h4
          split at h4
          · simpa using h4
          · cases h4
        have hg5 : ∃ ob, wr.heap[g5]? = some ob := by
          obtain ⟨cur, hg, _⟩ := row_open hP.row
          exact ⟨_, hg⟩
        obtain ⟨ob, hob⟩ := hg5
        have HK := Lib.hid (⟨hkv, hP, hkb, hk5, k4, hob⟩ : _ ∧ _ ∧ _ ∧ _ ∧ _ ∧ _)
        have e0 : ∀ y : ExS (Value.slice ao i c6).ownBlock.toList wr, y.w.cell? ⟨b, 0, none⟩ = some (.slice (some ⟨g5, 0, none⟩) (m + 1) c5) := fun y => (World.cell?_of_block (y.ext.block b (lt_of_block hP.here) (by simpa using hkb))).trans c0
        have e4 : ∀ y : ExS (Value.slice ao i c6).ownBlock.toList wr, y.w.cell? ⟨g5, 4, none⟩ = some (.slice ao i c6) := fun y => (k4 y.w (y.ext.block g5 (lt_of_block hob) (by simpa using hk5))).1
        clear hkv hP hd hkb hk5 k4 hob
        go_upto_region 7 with (fail)
        refine wp_region_mid (C := fun w' => ∃ y : ExS (Value.slice ao i c6).ownBlock.toList wr, w' = y.w) 10 2 (by kernel_rfl) (by kernel_rfl) ⟨ExS.mk _ ((Ext.refl _ wr).drew), rfl⟩ ?_
        simp only [List.take_succ_cons, List.take_zero, List.drop_succ_cons, List.drop_zero]
        repeat (go_big_quiet_step (fail))
        refine wpQuiet_nil ?_
        refine midW_step rfl (fun K9 hK9 => ?_)
        go_wp2_with fail
        refine ⟨⟨ExS.mk _ ((Ext.refl _ wr).drew.alloc _), rfl⟩, ?_⟩
        refine midW_step rfl (fun K9 hK9 => ?_)
        refine wp_append_lies _ _ _ 35 rfl 0 3 i0 _ 1 8 Tryd.underlying35 hif hz0 hz1 hz2 rfl (by decide) (.slice ao i c6) i _ rfl ((HK.out.1.alloc _).drew) ⟨wr.heap.size, 0, none⟩ 1 1 [.int .i64 ((m : Int) + 1)] rfl rfl (cell_one_new _ _ _) (by simp [Value.oneCell']) (by decide) (by unfold maxLen; omega) (by omega) (by omega) (wr.heap.size + 1) (by simp) ?_
        intro g6 cap2 w6 hown1 hgrow hat hlt6
        have hgrow := grown_drew hgrow
        have hxg : Ext (Value.slice ao i c6).ownBlock.toList wr w6 := ((Ext.refl _ wr).alloc _).grown hgrow (fun k hk => .inl (by simp [hk]))
        obtain ⟨h4, f4⟩ := HK.out.2.2.2.2.1 w6 (hxg.block g5 (lt_of_block HK.out.2.2.2.2.2) (by simpa using HK.out.2.2.2.1))
        have hkid := BdP.kid (x := rootN kind K) (c := (m : Int) + 1) HK.out.2.1 (by rw [show (rootN kind K).kids.length = i from hK]; exact hown1) hgrow hat (by omega) (by rw [show (rootN kind K).kids.length = i from hK]; omega)
        rw [show (rootN kind K).kids.length = i from hK] at hkid
        refine hK9 _ _ ⟨⟨ExS.mk w6 hxg, rfl⟩, ?_⟩
        have HKID := Lib.hid hkid
        clear hK9 K9 e0 e4 hgrow hat hlt6 hown1 hkid hxg
        refine midW_nil ?_
        go_wp2_with fail
        refine NoPanic.normal ?_
        clear h4 f4
        have S2 : Sep w (w6.setCell ⟨g5, 4, none⟩ (.slice (some ⟨g6, 0, none⟩) (i + 1) cap2)) [oBd b (.slice (some ⟨g5, 0, none⟩) (Z2.length + 1) c5) ((rootN kind (K ++ [(m : Int) + 1]), .slice (some ⟨g6, 0, none⟩) (i + 1) cap2) :: Z2)] := HW.out.2.1.upd 0 (oBd b (.slice (some ⟨g5, 0, none⟩) (Z2.length + 1) c5) ((rootN kind (K ++ [(m : Int) + 1]), .slice (some ⟨g6, 0, none⟩) (i + 1) cap2) :: Z2)) rfl HKID.out.2.1 HKID.out.2.2 HKID.out.1
        obtain ⟨W7, hW7⟩ : ∃ W7, w6.setCell ⟨g5, 4, none⟩ (.slice (some ⟨g6, 0, none⟩) (i + 1) cap2) = W7 := ⟨_, rfl⟩
        rw [hW7] at S2 ⊢
        have hXl := HW.out.2.2.2.2.2.2.1
        have hml := HW.out.2.2.2.2.2.1
        have hXn : NodesAt w (.slice xb X xc) x := HN.out
        have HA := Lib.hid (add_walk w W7 _ 0 b _ _ _ x 0 S2 rfl hXn (by rw [List.length_cons, hml, hXl]; omega) (by omega) HW.out.2.2.2.2.2.2.2.2)
        clear hW7 HKID S2 hXl hml hXn
        go_wp2_with fail
        refine HA.out.mono ?_
        rintro ee w8 ⟨rfl, v8, Z3, hZ3, S3⟩
        have HS3 := Lib.hid (⟨hZ3, S3⟩ : _ ∧ _)
        clear hZ3 S3 HA
        go_wp2_with fail
        go_roundg g
        case measure => omega
        case rel =>
          obtain ⟨hZ3, S3⟩ := HS3.out
          rw [List.length_cons, HW.out.2.2.2.2.2.1, show ((m + 1 : Nat) : Int) - ((0 : Nat) : Int) = ((1 + m : Nat) : Int) by omega] at hZ3
          have hl3 : Z3.length = X := by have := congrArg List.length hZ3; rw [List.length_map, List.length_map, HW.out.2.2.2.2.2.2.1] at this; exact this
          have hR2 := HRV.out
          rw [← hZ3, ← List.map_append, show ((1 + m : Nat) : Int) = (m : Int) + 1 by omega] at hR2
          refine ⟨i + 1, v8, _, K ++ [(m : Int) + 1], Z2 ++ Z3, by omega, by go_num, by rw [List.length_append, hK]; rfl, by rw [List.length_append, HW.out.2.2.2.2.2.1, hl3]; omega, fun p hp => ?_, hR2, S3⟩
          rcases List.mem_append.1 hp with hp | hp
          · exact HW.out.2.2.2.2.1 p hp
          · have : p.1 ∈ x.map (moveN ((1 + m : Nat) : Int)) := by rw [← hZ3]; exact List.mem_map_of_mem hp
            obtain ⟨y, hy, he⟩ := List.mem_map.1 this
            rw [← he]
            exact HW.out.2.2.2.2.2.2.2.1 y hy
    · obtain rfl : gk = 0 := by omega
      rw [List.drop_eq_nil_of_le (by rw [HH.out.2.2.2.1]; omega), underF] at hR
      have HC := Lib.hid (check_walk _ _ wr hP.nodes (by rw [List.length_map, List.length_cons, hm]; omega) (fun x hx => by
        obtain ⟨p, hp, rfl⟩ := List.mem_map.1 hx
        rcases List.mem_cons.1 hp with rfl | hp
        · show (0 : Nat) ≤ _; omega
        · exact hsz p hp))
      have HN := Lib.hid (⟨hP.nodes, S.ext, hR⟩ : _ ∧ _ ∧ _)
      rw [List.map_cons] at HC HN
      rw [List.length_cons, hm] at HC HN
      obtain ⟨Tr, hTr⟩ : ∃ Tr, rootN kind K :: Z2.map (·.1) = Tr := ⟨_, rfl⟩
      simp only [hTr] at HC HN
      clear hP S hR hm hsz hK hTr
      obtain ⟨e, he⟩ : ∃ e, checkN Tr = e := ⟨_, rfl⟩
      rw [he] at HC HN
      have hlt' : ¬ (i : Int) < (n : Int) := by omega
      clear he
      go_wp2_with fail
      refine HC.out.mono ?_
      rintro ee w3 ⟨rfl, hx3⟩
      have c1 := hx3.cell c0
      have HX3 := Lib.hid hx3
      clear hx3 HC c0
      by_cases he : e = 0
      · subst he
        have hRv := HN.out.2.2
        rw [if_pos rfl] at hRv
        injection hRv with r1 r2
        subst r1 r2
        go_wp2_with fail
        go_ret2
        exact ⟨_, rfl, HN.out.2.1.trans HX3.out, HN.out.1.ext HX3.out⟩
      · have heb : (e != 0) = true := bne_iff_ne.2 he
        have hRv := HN.out.2.2
        rw [if_neg he] at hRv
        injection hRv with r1 r2
        subst r1 r2
        go_wp2_with fail
        go_ret2
        exact ⟨_, rfl, HN.out.2.1.trans HX3.out, none, 0, rfl, by simp, fun k hk => by cases hk⟩
/-- Array -/
def arrayN (ls : List (List Nd)) : List Nd × Int := if firstN ls = 0 then underN 7 ls else ([], firstN ls)
set_option maxRecDepth 100000 in
set_option maxHeartbeats 8000000 in
theorem array_walk (v : Value) (ls : List (List Nd)) (w : World) (h : TreesAt w v ls) (hn : ls.length ≤ 65536) (hls : light6 ls) :
    Calls Tryd.prog 10 #[v] w fun e w' => ∃ v2, e = .returned (.tuple #[v2, .int .i64 (arrayN ls).2]) ∧ Ext [] w w' ∧ NodesAt w' v2 (arrayN ls).1 := by
  have HF := Lib.hid (first_walk v ls w h (by omega) hls)
  have HU := Lib.hid (fun w1 (hx : Ext [] w w1) (h0 : firstN ls = 0) => under_walk 7 v ls w1 (h.ext hx) hn (fun l hl => (hls l hl).2) (firstN_zero h0))
  obtain ⟨R, hR⟩ : ∃ R, arrayN ls = R := ⟨_, rfl⟩
  have HR := Lib.hid hR
  rw [hR]
  clear hR h
  obtain ⟨f, hf⟩ : ∃ f, firstN ls = f := ⟨_, rfl⟩
  have HE := Lib.hid hf
  rw [hf] at HF
  clear hf
  go_enter Tryd.func10, Tryd.ntmps10
  go_wp2_with fail
  refine HF.out.mono ?_
  rintro ee w1 ⟨rfl, hx1⟩
  by_cases h0 : f = 0
  · have hR2 := HR.out
    rw [arrayN, if_pos (by rw [HE.out, h0])] at hR2
    have HU2 := Lib.hid (HU.out w1 hx1 (by rw [HE.out, h0]))
    rw [hR2] at HU2
    have HX := Lib.hid hx1
    subst h0
    clear hx1 hR2 HU HR HE HF
    go_wp2_with fail
    refine HU2.out.mono ?_
    rintro ee w2 ⟨v2, rfl, hx2, hN⟩
    have HX2 := Lib.hid (⟨HX.out.trans hx2, hN⟩ : _ ∧ _)
    clear hx2 hN HU2 HX
    go_wp2_with fail
    go_ret2
    exact ⟨_, rfl, HX2.out.1, HX2.out.2⟩
  · have hR2 := HR.out
    rw [arrayN, if_neg (by rw [HE.out]; exact h0), HE.out] at hR2
    subst hR2
    have heb : (f != 0) = true := bne_iff_ne.2 h0
    have HX := Lib.hid hx1
    clear hx1 HU HR HE HF h0
    go_wp2_with fail
    go_ret2
    exact ⟨_, rfl, HX.out, none, 0, rfl, by simp, fun k hk => by cases hk⟩
end Go.Proofs.YtkjcjklnclahdaaDoor.Tr
