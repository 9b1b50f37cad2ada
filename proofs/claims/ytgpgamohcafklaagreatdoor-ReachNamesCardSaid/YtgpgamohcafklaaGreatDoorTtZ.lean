/-
  The document's put walked.
-/
import Derived.Test.YtgpgamohcafklaaGreatDoorTtY
namespace Go.Proofs.YtgpgamohcafklaaGreatDoor.Tr
open Go.RowKit

theorem push_plain17 {w w1 : World} {g cap n : Nat} {v : Value} (hgrow : w.grownBy w1 v.ownBlock) (hat : v.ownBlock = some g ∨ g = w.heap.size) :
    Ext v.ownBlock.toList w w1 ∧ Fr w v.ownBlock.toList (Value.slice (some ⟨g, 0, none⟩) n cap).ownBlock.toList := by
  refine ⟨(Ext.refl _ w).grown hgrow (fun k hk => .inl (by simp [hk])), fun q hq => ?_⟩
  obtain rfl : q = g := by simpa [Value.ownBlock] using hq
  rcases hat with h | h
  · exact .inl (by simp [h])
  · exact .inr (by omega)
theorem addr_add (g j : Nat) : (⟨g, 0, none⟩ : Addr).add j = ⟨g, j, none⟩ := by unfold Addr.add; split <;> simp_all
theorem src_zs {w : World} {u : Value} {Z : List Zd} (h : ZsP w u Z) (hZ : 0 < Z.length) : Src Tryz.prog 5 30 u Z.length (rowN Z) w := by
  obtain ⟨g, cap, rfl⟩ := row_form h.row hZ
  refine Src.ofSlice w Tryz.underlying30 _ _ cap (rowN Z) (rowN_len Z) (fun j v hj => ?_) (fun v hv => ?_)
  · rw [addr_add]
    exact row_cell h.row hj
  · obtain ⟨p, hp, hv⟩ := List.mem_flatMap.1 hv
    obtain ⟨ao, c, hkv⟩ := row_slice (h.kids p hp)
    unfold cellsN at hv
    rw [hkv] at hv
    simp only [List.mem_cons, List.not_mem_nil, or_false] at hv
    rcases hv with rfl | rfl | rfl | rfl | rfl <;> rfl
/-- two rows of nodes -/
def oZz (v : Value) (Z : List Zd) (u : Value) (Y : List Zd) : Ob where
  F := zsF v Z ++ zsF u Y
  P := fun w => ZsP w v Z ∧ ZsP w u Y ∧ ∀ k ∈ zsF u Y, k ∉ zsF v Z
  ok := fun h hx hS => ⟨h.1.ext hx (fun k hk => hS k (List.mem_append_left _ hk)), h.2.1.ext hx (fun k hk => hS k (List.mem_append_right _ hk)), h.2.2⟩
  lt := fun h k hk => by
    rcases List.mem_append.1 hk with hk | hk
    · exact h.1.lt k hk
    · exact h.2.1.lt k hk
set_option maxRecDepth 100000 in
set_option maxHeartbeats 4000000 in
theorem put17_walk (kind : Int) (v : Value) (ls : List (List Nd)) (w : World) (h : TreesAt w v ls) (hn : ls.length ≤ 65536) (hls : ∀ l ∈ ls, ∀ x ∈ l, x.s.size ≤ 1000000) (hck : ∀ l ∈ ls, checkN l = 0) :
    Calls Tryz.prog 26 #[.int .i64 kind, v] w fun e w' => ∃ v2, e = .returned (.tuple #[v2, .int .i64 (underN kind ls).2]) ∧ Ext [] w w' ∧ NodesAt w' v2 (underN kind ls).1 := by
  obtain ⟨i0, hif, hz0, hz1, hz2⟩ := info_parts infoInt
  obtain ⟨j0, hjf, hy0, hy1, hy2⟩ := info_parts infoNode
  obtain ⟨base, cap, rfl, -, hT⟩ := h
  obtain ⟨n, hln⟩ : ∃ n, ls.length = n := ⟨_, rfl⟩
  obtain ⟨R, hR⟩ : ∃ R, underN kind ls = R := ⟨_, rfl⟩
  obtain ⟨R1, R2⟩ := R
  have HH := Lib.hid (⟨hT, hls, hck, hln, hR⟩ : _ ∧ _ ∧ _ ∧ _ ∧ _)
  rw [hR]
  rw [hln] at hn ⊢
  clear hT hls hck hln hR
  go_enter Tryz.func26, Tryz.ntmps26
  go_wp2_with fail
  obtain ⟨W1, hW1⟩ : ∃ W1, w.alloc (Obj.cells #[.int .i64 kind, .int .i64 0, .int .i64 0, .string ⟨#[]⟩, .slice none 0 0] 47) = W1 := ⟨_, rfl⟩
  have hx1 : Ext [] w W1 := by rw [← hW1]; exact (Ext.refl [] w).alloc _
  have hb1 : W1.heap[w.heap.size]? = some (.cells #[.int .i64 kind, .int .i64 0, .int .i64 0, .string ⟨#[]⟩, .slice none 0 0] 47 (0, 0)) := by rw [← hW1]; exact heap_alloc_at _
  rw [hW1]
  obtain ⟨g0, hg0⟩ : ∃ g0, w.heap.size = g0 := ⟨_, rfl⟩
  rw [hg0] at hb1 ⊢
  have S := (Sep.start w).new hx1 (oZs (.slice (some ⟨g0, 0, none⟩) 1 1) [(rootN kind [], .slice none 0 0)])
    ⟨⟨rfl, .inr ⟨g0, 1, #[.int .i64 kind, .int .i64 0, .int .i64 0, .string ⟨#[]⟩, .slice none 0 0], rfl, Nat.zero_le _, hb1, Nat.le_refl _, by decide, rfl, rfl⟩⟩, fun p hp => by
      obtain rfl : p = (rootN kind [], .slice none 0 0) := by simpa using hp
      exact World.ownsRow_nil _ _ _ _, by simp [zsF, kF, Value.ownBlock], fun p hp => by
      obtain rfl : p = (rootN kind [], .slice none 0 0) := by simpa using hp
      exact ⟨⟨by show (-9223372036854775808 : Int) ≤ 0; omega, by show (0 : Int) ≤ 9223372036854775807; omega⟩, by show (0 : Nat) ≤ _; omega, by show (0 : Nat) ≤ _; omega, fun k hk => by cases hk⟩⟩
    (fun k hk => by simp [oZs, zsF, kF, Value.ownBlock] at hk; omega)
  have HS := Lib.hid S
  clear S hb1 hx1 hW1 hg0
  go_loopg [6, 7] n (fun g ov iv wr => ∃ (i : Nat) (kv : Value) (K : List Int) (Z2 : List Zd), g + i = n ∧ iv = .int .i64 i ∧ K.length = i ∧ Z2.length ≤ 65535 ∧ (∀ p ∈ Z2, p.1.s.size ≤ 1000000) ∧ underF kind (ls.drop i) K (Z2.map (·.1)) = (R1, R2) ∧ Sep w wr [oZs ov ((rootN kind K, kv) :: Z2)])
  case atStart => exact ⟨0, _, [], [], by omega, rfl, rfl, by simp, by simp, HH.out.2.2.2.2, HS.out⟩
  case round =>
    clear HS
    obtain ⟨i, kv, K, Z2, hgi, rfl, hK, hZ, hsz, hR, S⟩ := hrel
    have hP : ZsP wr u6 ((rootN kind K, kv) :: Z2) := S.get 0 rfl
    obtain ⟨g5, c5, rfl⟩ := row_form hP.row (by simp)
    obtain ⟨m, hm⟩ : ∃ m, Z2.length = m := ⟨_, rfl⟩
    rw [List.length_cons] at S hP ⊢
    rw [hm] at hZ
    by_cases hlt : i < n
    · obtain ⟨g, rfl⟩ : ∃ g, gk = g + 1 := ⟨gk - 1, by omega⟩
      have hltz : (i : Int) < (n : Int) := by omega
      have hil : i < ls.length := by rw [HH.out.2.2.2.1]; exact hlt
      rw [drop_at ls i hil, underF, List.length_map, hm] at hR
      obtain ⟨b7, o7, vk, rfl, hc0, hN⟩ := HH.out.1 i hil
      have hc := S.ext.cell hc0
      have hx0 := HH.out.2.2.1 _ (List.getElem_mem hil)
      have hxs := HH.out.2.1 _ (List.getElem_mem hil)
      generalize ls[i]'hil = x at *
      obtain ⟨hxl, hxk⟩ := checked_kids hx0
      have hxp := (check_zero hx0).1
      have HN := Lib.hid hN
      obtain ⟨xb, xc, rfl, -, -⟩ := hN
      obtain ⟨X, hX⟩ : ∃ X, x.length = X := ⟨_, rfl⟩
      rw [hX] at hR hc hc0 hxl HN hxp
      have HW := Lib.hid (⟨hP, S, hR, hK, hsz, hm, hX, hxs, hxk⟩ : _ ∧ _ ∧ _ ∧ _ ∧ _ ∧ _ ∧ _ ∧ _ ∧ _)
      rw [hm]
      clear hP S hR hsz hm hX hxs hxk hx0
      by_cases hbig : 65536 < 1 + m + X
      · have hbz : (65536 : Int) < (m : Int) + 1 + (X : Int) := by omega
        have hRv := HW.out.2.2.1
        rw [if_pos hbig] at hRv
        injection hRv with r1 r2
        subst r1 r2
        go_wp2_with fail
        go_ret2
        exact ⟨_, rfl, HW.out.2.1.ext, none, 0, rfl, by simp, fun k hk => by cases hk⟩
      · have hbz : ¬ (65536 : Int) < (m : Int) + 1 + (X : Int) := by omega
        have hRv := HW.out.2.2.1
        rw [if_neg hbig] at hRv
        have HRV := Lib.hid hRv
        clear hRv
        have hkv : wr.ownsRow 0 3 1 kv i (K.map iz) := by
          have h0 := HW.out.1.kids (rootN kind K, kv) (by simp)
          rw [show (rootN kind K).kids.length = i from hK] at h0
          exact h0
        obtain ⟨ao, c6, rfl⟩ := row_slice hkv
        have hP : ZsP wr (.slice (some ⟨g5, 0, none⟩) (Z2.length + 1) c5) ((rootN kind K, .slice ao i c6) :: Z2) := HW.out.1
        have hk5 : (Value.slice ao i c6).ownBlock ≠ some g5 := fun e => by
          have hd := hP.dup
          unfold zsF at hd
          exact (List.nodup_append.1 hd).2.2 g5 (by simp [Value.ownBlock]) g5 (kF_mem (p := (rootN kind K, .slice ao i c6)) (by simp) e) rfl
        obtain ⟨cur, hob, -, -, -, ht⟩ := row_open hP.row
        have k4 : cur[4]? = some (.slice ao i c6) := by
          have h4 : (rowN ((rootN kind K, Value.slice ao i c6) :: Z2))[4]? = some (.slice ao i c6) := rfl
          rw [← ht, List.getElem?_take] at h4
          split at h4
          · simpa using h4
          · cases h4
        have e4 : wr.cell? ⟨g5, 4, none⟩ = some (.slice ao i c6) := by rw [cellOf hob, k4]
        have HK := Lib.hid (⟨hkv, hP, hk5, k4, hob⟩ : _ ∧ _ ∧ _ ∧ _ ∧ _)
        clear hkv hP hk5 ht k4 hob
        go_upto_region 8 with (at_builtin; refine wpList_append_lies _ rfl _ _ 45 rfl 0 3 i0 _ 1 8 Tryz.underlying45 hif hz0 hz1 hz2 rfl (by decide) (.slice ao i c6) i _ rfl (World.ownsRow.alloc HK.out.1 _) ⟨wr.heap.size, 0, none⟩ 1 1 [.int .i64 ((m : Int) + 1)] rfl rfl (cell_one_new _ _ _) (by simp [Value.oneCell']) (by decide) (by unfold maxLen; omega) (by omega) (by omega) (wr.heap.size + 1) (by simp) ?_; intro g6 cap2 w6 hown1 hgrow hat hlt6; have hb6 : w6.heap[g5]? = some (.cells cur 47 (0, 0)) := grown_keep hgrow (heap_alloc_old _ HK.out.2.2.2.2) HK.out.2.2.1; have f4 := freeOf hb6 4; have d4 : w6.cell? ⟨g5, 4, none⟩ = some (.slice ao i c6) := (by rw [cellOf hb6, HK.out.2.2.2.1]); have HG := Lib.hid (⟨hown1, hgrow, hat⟩ : _ ∧ _ ∧ _); clear hown1 hgrow hat hlt6 hb6)
        have hkid := ZsP.kid (x := rootN kind K) (c := (m : Int) + 1) HK.out.2.1 (by rw [show (rootN kind K).kids.length = i from hK]; exact HG.out.1) HG.out.2.1 HG.out.2.2 (by omega) (by rw [show (rootN kind K).kids.length = i from hK]; omega)
        rw [show (rootN kind K).kids.length = i from hK] at hkid
        have HKID := Lib.hid hkid
        clear d4 f4 hkid e4 hc
        have S2 : Sep w (w6.setCell ⟨g5, 4, none⟩ (.slice (some ⟨g6, 0, none⟩) (i + 1) cap2)) [oZs (.slice (some ⟨g5, 0, none⟩) (Z2.length + 1) c5) ((rootN kind (K ++ [(m : Int) + 1]), .slice (some ⟨g6, 0, none⟩) (i + 1) cap2) :: Z2)] := HW.out.2.1.upd 0 (oZs (.slice (some ⟨g5, 0, none⟩) (Z2.length + 1) c5) ((rootN kind (K ++ [(m : Int) + 1]), .slice (some ⟨g6, 0, none⟩) (i + 1) cap2) :: Z2)) rfl HKID.out.2.1 HKID.out.2.2 HKID.out.1
        obtain ⟨W7, hW7⟩ : ∃ W7, w6.setCell ⟨g5, 4, none⟩ (.slice (some ⟨g6, 0, none⟩) (i + 1) cap2) = W7 := ⟨_, rfl⟩
        rw [hW7] at S2 ⊢
        obtain ⟨Zr, hZr⟩ : ∃ Zr, (rootN kind (K ++ [(m : Int) + 1]), Value.slice (some ⟨g6, 0, none⟩) (i + 1) cap2) :: Z2 = Zr := ⟨_, rfl⟩
        rw [hZr] at S2
        have hZrl : Zr.length = m + 1 := by rw [← hZr, List.length_cons, HW.out.2.2.2.2.2.1]
        have hml := HW.out.2.2.2.2.2.1
        rw [hml] at S2
        have hc := S2.ext.cell hc0
        have hXl := HW.out.2.2.2.2.2.2.1
        have hXn : NodesAt w (.slice xb X xc) x := HN.out
        have HA := Lib.hid (moved_walk w W7 _ _ x ((m : Int) + 1) S2 hXn (by rw [hXl]; omega) (fun y hy => by
          obtain ⟨q1, q2⟩ := HW.out.2.2.2.2.2.2.2.2 y hy
          exact ⟨q1, fun k hk => by have := q2 k hk; omega⟩))
        have HZ := Lib.hid (⟨hZr, hZrl⟩ : _ ∧ _)
        clear hW7 HKID S2 hXl hml hXn hZr hZrl HG
        go_wp2_with fail
        refine HA.out.mono ?_
        rintro ee w8 ⟨v8, Z3, rfl, hZ3, S3⟩
        have hl3 : Z3.length = X := by have := congrArg List.length hZ3; rw [List.length_map, List.length_map, HW.out.2.2.2.2.2.2.1] at this; exact this
        have h8 : ZsP w8 v8 Z3 := S3.get 0 rfl
        have h9 : ZsP w8 (.slice (some ⟨g5, 0, none⟩) (m + 1) c5) Zr := S3.get 1 rfl
        have hsrc := src_zs h8 (by omega)
        rw [hl3] at hsrc
        have hown := h9.row
        rw [HZ.out.2] at hown
        have HS3 := Lib.hid (⟨hZ3, S3, hl3, h8, h9, hsrc, hown⟩ : _ ∧ _ ∧ _ ∧ _ ∧ _ ∧ _ ∧ _)
        clear hZ3 S3 HA hl3 h8 h9 hsrc hown hc
        go_wp2_with (at_builtin; refine wpList_append_src _ rfl _ _ 30 30 rfl 0 47 j0 _ 5 64 Tryz.underlying30 hjf hy0 hy1 hy2 rfl (by decide) (.slice (some ⟨g5, 0, none⟩) (m + 1) c5) (m + 1) _ rfl HS3.out.2.2.2.2.2.2 v8 X _ rfl HS3.out.2.2.2.2.2.1 hxp (by unfold maxLen; omega) (by omega) (by omega) ?_; intro g9 cap9 w9 hown1 hgrow1 hat1 hlt1; have P1 := push_plain17 (cap := cap9) (n := m + 1 + X) hgrow1 hat1; have HG := Lib.hid (⟨hown1, P1, hat1⟩ : _ ∧ _ ∧ _); clear hown1 hgrow1 hat1 hlt1 P1)
        go_roundg g
        case measure => omega
        case rel =>
          obtain ⟨hZ3, S3, hl3, h8, h9, -, -⟩ := HS3.out
          obtain ⟨hown1, P, hat1⟩ := HG.out
          have hdj : ∀ k ∈ zsF v8 Z3, k ∉ zsF (.slice (some ⟨g5, 0, none⟩) (m + 1) c5) Zr := fun k hk hk2 => S3.apart 0 1 _ _ rfl rfl (by omega) k hk hk2
          have S4 : Sep w w8 [oZz (.slice (some ⟨g5, 0, none⟩) (m + 1) c5) Zr v8 Z3] :=
            Sep.glue S3 (j := 0) (b := oZs (.slice (some ⟨g5, 0, none⟩) (m + 1) c5) Zr) rfl (oZz (.slice (some ⟨g5, 0, none⟩) (m + 1) c5) Zr v8 Z3) (fun k hk => by
              rcases List.mem_append.1 hk with hk | hk
              · exact .inr hk
              · exact .inl hk) ⟨h9, h8, hdj⟩
          have hg9 : (Value.slice (some ⟨g5, 0, none⟩) (m + 1) c5).ownBlock = some g9 ∨ w8.heap.size ≤ g9 := by
            rcases hat1 with h | h
            · exact .inl h
            · exact .inr (by omega)
          have hdu : (kF Z3).Nodup := by
            have := h8.dup
            unfold zsF at this
            exact (List.nodup_append.1 this).2.1
          have hmore := ZsP.more (m := m + 1 + X) h9 h8.kids hdu (fun k hk => hdj k (List.mem_append_right _ hk)) h8.wf P.1 (by rw [HZ.out.2, hl3]) hown1 hg9
          have S5 := S4.upd 0 (oZs (.slice (some ⟨g9, 0, none⟩) (m + 1 + X) cap9) (Zr ++ Z3)) rfl (P.1.mono (fun k _ hk => List.mem_append_left _ (List.mem_append_left _ hk))) (fun k hk => by
            show k ∈ zsF _ Zr ++ zsF v8 Z3 ∨ _
            rcases List.mem_append.1 hk with hk | hk
            · rcases P.2 k hk with h | h
              · exact .inl (List.mem_append_left _ (List.mem_append_left _ h))
              · exact .inr h
            · rw [kF_append] at hk
              rcases List.mem_append.1 hk with hk | hk
              · exact .inl (List.mem_append_left _ (List.mem_append_right _ hk))
              · exact .inl (List.mem_append_right _ (List.mem_append_right _ hk))) hmore
          have hR2 := HRV.out
          rw [show ((1 + m : Nat) : Int) = (m : Int) + 1 by omega, ← hZ3, ← List.map_append] at hR2
          rw [← HZ.out.1, List.cons_append] at S5
          refine ⟨i + 1, _, K ++ [(m : Int) + 1], Z2 ++ Z3, by omega, by go_num, by rw [List.length_append, hK]; rfl, by rw [List.length_append, HW.out.2.2.2.2.2.1, hl3]; omega, fun p hp => ?_, hR2, S5⟩
          rcases List.mem_append.1 hp with hp | hp
          · exact HW.out.2.2.2.2.1 p hp
          · have : p.1 ∈ x.map (moveN ((m : Int) + 1)) := by rw [← hZ3]; exact List.mem_map_of_mem hp
            obtain ⟨y, hy, he⟩ := List.mem_map.1 this
            rw [← he]
            exact HW.out.2.2.2.2.2.2.2.1 y hy
    · obtain rfl : gk = 0 := by omega
      rw [List.drop_eq_nil_of_le (by rw [HH.out.2.2.2.1]; omega), underF] at hR
      have HC := Lib.hid (check17_walk _ _ wr hP.nodes (by rw [List.length_map, List.length_cons, hm]; omega) (fun x hx => by
        obtain ⟨p, hp, rfl⟩ := List.mem_map.1 hx
        rcases List.mem_cons.1 hp with rfl | hp
        · show (0 : Nat) ≤ _; omega
        · exact hsz p hp))
      have HN := Lib.hid (⟨hP.nodes, S.ext, hR⟩ : _ ∧ _ ∧ _)
      rw [List.map_cons] at HC HN
      rw [hm] at HC HN
      rw [hm]
      obtain ⟨Tr, hTr⟩ : ∃ Tr, rootN kind K :: Z2.map (·.1) = Tr := ⟨_, rfl⟩
      simp only [hTr] at HC HN
      clear hP S hR hm hsz hK hTr
      obtain ⟨e, he⟩ : ∃ e, checkN Tr = e := ⟨_, rfl⟩
      rw [he] at HC HN
      have hlt' : ¬ (i : Int) < (n : Int) := by omega
      clear he
      go_wp2_with fail
      refine HC.out.mono ?_
      rintro ee w3 ⟨rfl, hx3⟩
      have HX3 := Lib.hid hx3
      clear hx3 HC
      by_cases he : e = 0
      · subst he
        have hRv := HN.out.2.2
        rw [if_pos rfl] at hRv
        injection hRv with r1 r2
        subst r1 r2
        go_wp2_with fail
        go_ret2
        exact ⟨_, rfl, HN.out.2.1.trans HX3.out, HN.out.1.ext HX3.out⟩
      · have heb : (e != 0) = true := bne_iff_ne.2 he
        have hRv := HN.out.2.2
        rw [if_neg he] at hRv
        injection hRv with r1 r2
        subst r1 r2
        go_wp2_with fail
        go_ret2
        exact ⟨_, rfl, HN.out.2.1.trans HX3.out, none, 0, rfl, by simp, fun k hk => by cases hk⟩
end Go.Proofs.YtgpgamohcafklaaGreatDoor.Tr
