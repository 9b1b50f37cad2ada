/-
  tree.under, tree.Array walked, with what is theirs; rows of nodes of a call's own.
-/
import Derived.Test.YtkaimeogebgofaaGreatDoorXtA
namespace Go.Proofs.YtkaimeogebgofaaGreatDoor.Xs
open Go.RowKit
open Go.Proofs.YtkaimeogebgofaaGreatDoor.Tr

set_option maxRecDepth 100000 in
set_option maxHeartbeats 8000000 in
theorem under_own (kind : Int) (v : Value) (ls : List (List Nd)) (w : World) (h : TreesAt w v ls) (hn : ls.length ≤ 65536) (hls : ∀ l ∈ ls, ∀ x ∈ l, x.s.size ≤ 1000000) (hck : ∀ l ∈ ls, checkN l = 0) (hok : (underN kind ls).2 = 0) :
    Calls Tryz.prog 39 #[.int .i64 kind, v] w fun e w' => ∃ b v2 Z, e = .returned (.tuple #[v2, .int .i64 0]) ∧ Sep w w' [oBd b v2 Z] ∧ Z.map (·.1) = (underN kind ls).1 := by
  obtain ⟨i0, hif, hz0, hz1, hz2⟩ := info_parts infoInt
  obtain ⟨base, cap, rfl, -, hT⟩ := h
  obtain ⟨n, hln⟩ : ∃ n, ls.length = n := ⟨_, rfl⟩
  obtain ⟨R, hR⟩ : ∃ R, underN kind ls = R := ⟨_, rfl⟩
  obtain ⟨R1, R2⟩ := R
  have HH := Lib.hid (⟨hT, hls, hck, hln, hR⟩ : _ ∧ _ ∧ _ ∧ _ ∧ _)
  rw [hR] at hok ⊢
  have hok : R2 = 0 := hok
  rw [hln] at hn ⊢
  clear hT hls hck hln hR
  go_enter Tryz.func39, Tryz.ntmps39
  go_wp2_with fail
  obtain ⟨W1, hW1⟩ : ∃ W1, w.alloc (Obj.cells #[.int .i64 kind, .int .i64 0, .int .i64 0, .string ⟨#[]⟩, .slice none 0 0] 47) = W1 := ⟨_, rfl⟩
  have hx1 : Ext [] w W1 := by rw [← hW1]; exact (Ext.refl [] w).alloc _
  have hb1 : W1.heap[w.heap.size]? = some (.cells #[.int .i64 kind, .int .i64 0, .int .i64 0, .string ⟨#[]⟩, .slice none 0 0] 47 (0, 0)) := by rw [← hW1]; exact heap_alloc_at _
  have hs1 : W1.heap.size = w.heap.size + 1 := by rw [← hW1]; simp
  rw [hW1]
  obtain ⟨g0, hg0⟩ : ∃ g0, w.heap.size = g0 := ⟨_, rfl⟩
  obtain ⟨W2, hW2⟩ : ∃ W2, W1.alloc (Obj.cells #[.slice (some ⟨g0, 0, none⟩) 1 1] 87) = W2 := ⟨_, rfl⟩
  have hx2 : Ext [] W1 W2 := by rw [← hW2]; exact (Ext.refl [] W1).alloc _
  have hb2 : W2.heap[W1.heap.size]? = some (.cells #[.slice (some ⟨g0, 0, none⟩) 1 1] 87 (0, 0)) := by rw [← hW2]; exact heap_alloc_at _
  rw [hg0] at hb1 hs1 ⊢
  rw [hW2]
  rw [hs1] at hb2
  obtain ⟨b, hb⟩ : ∃ b, g0 + 1 = b := ⟨_, rfl⟩
  rw [hb] at hb2 ⊢
  have S := (Sep.start w).new (hx1.trans hx2) (oBd b (.slice (some ⟨g0, 0, none⟩) 1 1) [(rootN kind [], .slice none 0 0)])
    ⟨hb2, ⟨rfl, .inr ⟨g0, 1, #[.int .i64 kind, .int .i64 0, .int .i64 0, .string ⟨#[]⟩, .slice none 0 0], rfl, Nat.zero_le _, hx2.keep hb1 (by simp), Nat.le_refl _, by decide, rfl, rfl⟩⟩, fun p hp => by
      obtain rfl : p = (rootN kind [], .slice none 0 0) := by simpa using hp
      exact World.ownsRow_nil _ _ _ _, by simp [bdF, Value.ownBlock]; omega, fun p hp => by
      obtain rfl : p = (rootN kind [], .slice none 0 0) := by simpa using hp
      exact ⟨⟨by show (-9223372036854775808 : Int) ≤ 0; omega, by show (0 : Int) ≤ 9223372036854775807; omega⟩, by show (0 : Nat) ≤ _; omega, by show (0 : Nat) ≤ _; omega, fun k hk => by cases hk⟩⟩
    (fun k hk => by simp [oBd, bdF, Value.ownBlock] at hk; omega)
  have HS := Lib.hid S
  clear S hb2 hb1 hs1 hx1 hx2 hW1 hW2 hb hg0
  go_loopg [4, 5, 8, 16] n (fun g v4 v5 v8 iv wr => ∃ (i : Nat) (vv kv : Value) (K : List Int) (Z2 : List Zd), g + i = n ∧ iv = .int .i64 i ∧ K.length = i ∧ Z2.length ≤ 65535 ∧ (∀ p ∈ Z2, p.1.s.size ≤ 1000000) ∧ underF kind (ls.drop i) K (Z2.map (·.1)) = (R1, R2) ∧ Sep w wr [oBd b vv ((rootN kind K, kv) :: Z2)])
  case atStart => exact ⟨0, _, _, [], [], by omega, rfl, rfl, by simp, by simp, HH.out.2.2.2.2, HS.out⟩
  case round =>
    clear HS
    obtain ⟨i, vv, kv, K, Z2, hgi, rfl, hK, hZ, hsz, hR, S⟩ := hrel
    have hP : BdP wr b vv ((rootN kind K, kv) :: Z2) := S.get 0 rfl
    obtain ⟨g5, c5, rfl⟩ := row_form hP.row (by simp)
    have c0 : wr.cell? ⟨b, 0, none⟩ = some (.slice (some ⟨g5, 0, none⟩) (Z2.length + 1) c5) := cellOf hP.here 0
    obtain ⟨m, hm⟩ : ∃ m, Z2.length = m := ⟨_, rfl⟩
    rw [hm] at c0 hZ
    by_cases hlt : i < n
    · obtain ⟨g, rfl⟩ : ∃ g, gk = g + 1 := ⟨gk - 1, by omega⟩
      have hltz : (i : Int) < (n : Int) := by omega
      have hil : i < ls.length := by rw [HH.out.2.2.2.1]; exact hlt
      rw [drop_at ls i hil, underF, List.length_map, hm] at hR
      obtain ⟨b7, o7, vk, rfl, hc, hN⟩ := HH.out.1 i hil
      have hc := S.ext.cell hc
      have hx0 := HH.out.2.2.1 _ (List.getElem_mem hil)
      have hxs := HH.out.2.1 _ (List.getElem_mem hil)
      generalize ls[i]'hil = x at *
      obtain ⟨hxl, hxk⟩ := checked_kids hx0
      have HN := Lib.hid hN
      obtain ⟨xb, xc, rfl, -, -⟩ := hN
      obtain ⟨X, hX⟩ : ∃ X, x.length = X := ⟨_, rfl⟩
      rw [hX] at hR hc hxl HN
      have HW := Lib.hid (⟨hP, S, hR, hK, hsz, hm, hX, hxs, hxk⟩ : _ ∧ _ ∧ _ ∧ _ ∧ _ ∧ _ ∧ _ ∧ _ ∧ _)
      clear hP S hR hsz hm hX hxs hxk hx0
      by_cases hbig : 65536 < 1 + m + X
      · have hbz : (65536 : Int) < (m : Int) + 1 + (X : Int) := by omega
        have hRv := HW.out.2.2.1
        rw [if_pos hbig] at hRv
        injection hRv with r1 r2
        omega
      · have hbz : ¬ (65536 : Int) < (m : Int) + 1 + (X : Int) := by omega
        have hRv := HW.out.2.2.1
        rw [if_neg hbig] at hRv
        have HRV := Lib.hid hRv
        clear hRv
        have hkv : wr.ownsRow 0 3 1 kv i (K.map iz) := by
          have h0 := HW.out.1.kids (rootN kind K, kv) (by simp)
          rw [show (rootN kind K).kids.length = i from hK] at h0
          exact h0
        obtain ⟨ao, c6, rfl⟩ := row_slice hkv
        have hP : BdP wr b (.slice (some ⟨g5, 0, none⟩) (Z2.length + 1) c5) ((rootN kind K, .slice ao i c6) :: Z2) := HW.out.1
        have hd := hP.dup
        unfold bdF at hd
        have hkb : (Value.slice ao i c6).ownBlock ≠ some b := fun e => (List.nodup_cons.1 hd).1 (List.mem_append_right _ (mem_kidF (p := (rootN kind K, .slice ao i c6)) (by simp) e))
        have hk5 : (Value.slice ao i c6).ownBlock ≠ some g5 := fun e => (List.nodup_append.1 (List.nodup_cons.1 hd).2).2.2 g5 (by simp [Value.ownBlock]) g5 (mem_kidF (p := (rootN kind K, .slice ao i c6)) (by simp) e) rfl
        have k4 : ∀ V : World, V.heap[g5]? = wr.heap[g5]? → V.cell? ⟨g5, 4, none⟩ = some (.slice ao i c6) ∧ V.frozen? ⟨g5, 4, none⟩ = false := fun V hV => by
          obtain ⟨cur, hg, _, _, _, ht⟩ := row_open hP.row
          rw [← hV] at hg
          refine ⟨?_, freeOf hg 4⟩
          rw [cellOf hg]
          have h4 : (rowN ((rootN kind K, Value.slice ao i c6) :: Z2))[4]? = some (.slice ao i c6) := rfl
          rw [← ht, List.getElem?_take] at h4
          split at h4
          · simpa using h4
          · cases h4
        have hg5 : ∃ ob, wr.heap[g5]? = some ob := by
          obtain ⟨cur, hg, _⟩ := row_open hP.row
          exact ⟨_, hg⟩
        obtain ⟨ob, hob⟩ := hg5
        have HK := Lib.hid (⟨hkv, hP, hkb, hk5, k4, hob⟩ : _ ∧ _ ∧ _ ∧ _ ∧ _ ∧ _)
        have e0 : ∀ y : ExS (Value.slice ao i c6).ownBlock.toList wr, y.w.cell? ⟨b, 0, none⟩ = some (.slice (some ⟨g5, 0, none⟩) (m + 1) c5) := fun y => (World.cell?_of_block (y.ext.block b (lt_of_block hP.here) (by simpa using hkb))).trans c0
        have e4 : ∀ y : ExS (Value.slice ao i c6).ownBlock.toList wr, y.w.cell? ⟨g5, 4, none⟩ = some (.slice ao i c6) := fun y => (k4 y.w (y.ext.block g5 (lt_of_block hob) (by simpa using hk5))).1
        clear hkv hP hd hkb hk5 k4 hob
        go_upto_region 7 with (fail)
        refine wp_region_mid (C := fun w' => ∃ y : ExS (Value.slice ao i c6).ownBlock.toList wr, w' = y.w) 10 2 (by kernel_rfl) (by kernel_rfl) ⟨ExS.mk _ ((Ext.refl _ wr).drew), rfl⟩ ?_
        simp only [List.take_succ_cons, List.take_zero, List.drop_succ_cons, List.drop_zero]
        repeat (go_big_quiet_step (fail))
        refine wpQuiet_nil ?_
        refine midW_step rfl (fun K9 hK9 => ?_)
        go_wp2_with fail
        refine ⟨⟨ExS.mk _ ((Ext.refl _ wr).drew.alloc _), rfl⟩, ?_⟩
        refine midW_step rfl (fun K9 hK9 => ?_)
        refine wp_append_lies _ _ _ 45 rfl 0 3 i0 _ 1 8 Tryz.underlying45 hif hz0 hz1 hz2 rfl (by decide) (.slice ao i c6) i _ rfl ((HK.out.1.alloc _).drew) ⟨wr.heap.size, 0, none⟩ 1 1 [.int .i64 ((m : Int) + 1)] rfl rfl (cell_one_new _ _ _) (by simp [Value.oneCell']) (by decide) (by unfold maxLen; omega) (by omega) (by omega) (wr.heap.size + 1) (by simp) ?_
        intro g6 cap2 w6 hown1 hgrow hat hlt6
        have hgrow := grown_drew hgrow
        have hxg : Ext (Value.slice ao i c6).ownBlock.toList wr w6 := ((Ext.refl _ wr).alloc _).grown hgrow (fun k hk => .inl (by simp [hk]))
        obtain ⟨h4, f4⟩ := HK.out.2.2.2.2.1 w6 (hxg.block g5 (lt_of_block HK.out.2.2.2.2.2) (by simpa using HK.out.2.2.2.1))
        have hkid := BdP.kid (x := rootN kind K) (c := (m : Int) + 1) HK.out.2.1 (by rw [show (rootN kind K).kids.length = i from hK]; exact hown1) hgrow hat (by omega) (by rw [show (rootN kind K).kids.length = i from hK]; omega)
        rw [show (rootN kind K).kids.length = i from hK] at hkid
        refine hK9 _ _ ⟨⟨ExS.mk w6 hxg, rfl⟩, ?_⟩
        have HKID := Lib.hid hkid
        clear hK9 K9 e0 e4 hgrow hat hlt6 hown1 hkid hxg
        refine midW_nil ?_
        go_wp2_with fail
        refine NoPanic.normal ?_
        clear h4 f4
        have S2 : Sep w (w6.setCell ⟨g5, 4, none⟩ (.slice (some ⟨g6, 0, none⟩) (i + 1) cap2)) [oBd b (.slice (some ⟨g5, 0, none⟩) (Z2.length + 1) c5) ((rootN kind (K ++ [(m : Int) + 1]), .slice (some ⟨g6, 0, none⟩) (i + 1) cap2) :: Z2)] := HW.out.2.1.upd 0 (oBd b (.slice (some ⟨g5, 0, none⟩) (Z2.length + 1) c5) ((rootN kind (K ++ [(m : Int) + 1]), .slice (some ⟨g6, 0, none⟩) (i + 1) cap2) :: Z2)) rfl HKID.out.2.1 HKID.out.2.2 HKID.out.1
        obtain ⟨W7, hW7⟩ : ∃ W7, w6.setCell ⟨g5, 4, none⟩ (.slice (some ⟨g6, 0, none⟩) (i + 1) cap2) = W7 := ⟨_, rfl⟩
        rw [hW7] at S2 ⊢
        have hXl := HW.out.2.2.2.2.2.2.1
        have hml := HW.out.2.2.2.2.2.1
        have hXn : NodesAt w (.slice xb X xc) x := HN.out
        have HA := Lib.hid (add_walk w W7 _ 0 b _ _ _ x 0 S2 rfl hXn (by rw [List.length_cons, hml, hXl]; omega) (by omega) HW.out.2.2.2.2.2.2.2.2)
        clear hW7 HKID S2 hXl hml hXn
        go_wp2_with fail
        refine HA.out.mono ?_
        rintro ee w8 ⟨rfl, v8, Z3, hZ3, S3⟩
        have HS3 := Lib.hid (⟨hZ3, S3⟩ : _ ∧ _)
        clear hZ3 S3 HA
        go_wp2_with fail
        go_roundg g
        case measure => omega
        case rel =>
          obtain ⟨hZ3, S3⟩ := HS3.out
          rw [List.length_cons, HW.out.2.2.2.2.2.1, show ((m + 1 : Nat) : Int) - ((0 : Nat) : Int) = ((1 + m : Nat) : Int) by omega] at hZ3
          have hl3 : Z3.length = X := by have := congrArg List.length hZ3; rw [List.length_map, List.length_map, HW.out.2.2.2.2.2.2.1] at this; exact this
          have hR2 := HRV.out
          rw [← hZ3, ← List.map_append, show ((1 + m : Nat) : Int) = (m : Int) + 1 by omega] at hR2
          refine ⟨i + 1, v8, _, K ++ [(m : Int) + 1], Z2 ++ Z3, by omega, by go_num, by rw [List.length_append, hK]; rfl, by rw [List.length_append, HW.out.2.2.2.2.2.1, hl3]; omega, fun p hp => ?_, hR2, S3⟩
          rcases List.mem_append.1 hp with hp | hp
          · exact HW.out.2.2.2.2.1 p hp
          · have : p.1 ∈ x.map (moveN ((1 + m : Nat) : Int)) := by rw [← hZ3]; exact List.mem_map_of_mem hp
            obtain ⟨y, hy, he⟩ := List.mem_map.1 this
            rw [← he]
            exact HW.out.2.2.2.2.2.2.2.1 y hy
    · obtain rfl : gk = 0 := by omega
      rw [List.drop_eq_nil_of_le (by rw [HH.out.2.2.2.1]; omega), underF] at hR
      have HC := Lib.hid (check_walk _ _ wr hP.nodes (by rw [List.length_map, List.length_cons, hm]; omega) (fun x hx => by
        obtain ⟨p, hp, rfl⟩ := List.mem_map.1 hx
        rcases List.mem_cons.1 hp with rfl | hp
        · show (0 : Nat) ≤ _; omega
        · exact hsz p hp))
      have HN := Lib.hid (⟨hP.nodes, S.ext, hR⟩ : _ ∧ _ ∧ _)
      have HSS := Lib.hid (⟨S, hm⟩ : _ ∧ _)
      rw [List.map_cons] at HC HN
      rw [List.length_cons, hm] at HC HN
      obtain ⟨Tr, hTr⟩ : ∃ Tr, rootN kind K :: Z2.map (·.1) = Tr := ⟨_, rfl⟩
      simp only [hTr] at HC HN
      have HTr := Lib.hid hTr
      clear hP S hR hm hsz hK hTr
      obtain ⟨e, he⟩ : ∃ e, checkN Tr = e := ⟨_, rfl⟩
      rw [he] at HC HN
      have hlt' : ¬ (i : Int) < (n : Int) := by omega
      clear he
      go_wp2_with fail
      refine HC.out.mono ?_
      rintro ee w3 ⟨rfl, hx3⟩
      have c1 := hx3.cell c0
      have HX3 := Lib.hid hx3
      clear hx3 HC c0
      by_cases he : e = 0
      · subst he
        have hRv := HN.out.2.2
        rw [if_pos rfl] at hRv
        injection hRv with r1 r2
        subst r1 r2
        go_wp2_with fail
        go_ret2
        obtain ⟨S9, hm9⟩ := HSS.out
        rw [List.length_cons, hm9] at S9
        exact ⟨_, _, _, rfl, S9.quiet HX3.out, HTr.out⟩
      · have hRv := HN.out.2.2
        rw [if_neg he] at hRv
        injection hRv with r1 r2
        omega
theorem Sep.pre {w w0 w1 : World} {L : List Ob} (h : Sep w0 w1 L) (hx : Ext [] w w0) : Sep w w1 L :=
  ⟨hx.trans h.ext, h.each, fun o ho k hk => Nat.le_trans hx.size (h.base o ho k hk), h.apart⟩
set_option maxRecDepth 100000 in
set_option maxHeartbeats 8000000 in
theorem array_own (v : Value) (ls : List (List Nd)) (w : World) (h : TreesAt w v ls) (hn : ls.length ≤ 65536) (hls : light6 ls) (hok : (arrayN ls).2 = 0) :
    Calls Tryz.prog 20 #[v] w fun e w' => ∃ b v2 Z, e = .returned (.tuple #[v2, .int .i64 0]) ∧ Sep w w' [oBd b v2 Z] ∧ Z.map (·.1) = (arrayN ls).1 := by
  have h0 : firstN ls = 0 := by
    rw [arrayN] at hok
    split at hok
    · assumption
    · exact hok
  have hA : arrayN ls = underN 7 ls := by rw [arrayN, if_pos h0]
  rw [hA] at hok ⊢
  have HF := Lib.hid (first_walk v ls w h (by omega) hls)
  rw [h0] at HF
  have HU := Lib.hid (fun w1 (hx : Ext [] w w1) => under_own 7 v ls w1 (h.ext hx) hn (fun l hl => (hls l hl).2) (firstN_zero h0) hok)
  clear h hA hok
  obtain ⟨R, hR⟩ : ∃ R, (underN 7 ls).1 = R := ⟨_, rfl⟩
  rw [hR] at HU ⊢
  clear hR h0
  go_enter Tryz.func20, Tryz.ntmps20
  go_wp2_with fail
  refine HF.out.mono ?_
  rintro ee w1 ⟨rfl, hx1⟩
  have HX := Lib.hid hx1
  have HU2 := Lib.hid (HU.out w1 hx1)
  clear hx1 HU HF
  go_wp2_with fail
  refine HU2.out.mono ?_
  rintro ee w2 ⟨b, v2, Z, rfl, S, hZ⟩
  have HS := Lib.hid (⟨S, hZ⟩ : _ ∧ _)
  clear S hZ HU2
  go_wp2_with fail
  go_ret2
  exact ⟨_, _, _, rfl, Sep.pre HS.out.1 HX.out, HS.out.2⟩
def kG (Z : List Zd) : List Nat := Z.flatMap fun p => p.2.ownBlock.toList
theorem kG_append (Z U : List Zd) : kG (Z ++ U) = kG Z ++ kG U := by unfold kG; rw [List.flatMap_append]
theorem kG_mem {Z : List Zd} {p : Zd} (hp : p ∈ Z) {k : Nat} (hk : p.2.ownBlock = some k) : k ∈ kG Z := mem_kidF hp hk
def zwF (v : Value) (Z : List Zd) : List Nat := v.ownBlock.toList ++ kG Z
structure ZwP (w : World) (v : Value) (Z : List Zd) : Prop where
  row : w.ownsRow 0 47 5 v Z.length (rowN Z)
  kids : ∀ p ∈ Z, w.ownsRow 0 3 1 p.2 p.1.kids.length (p.1.kids.map iz)
  dup : (zwF v Z).Nodup
  wf : ∀ p ∈ Z, NdWf p.1
theorem ZwP.ext {S : List Nat} {w w' : World} {v : Value} {Z : List Zd} (h : ZwP w v Z) (hx : Ext S w w') (hS : ∀ k ∈ zwF v Z, k ∉ S) : ZwP w' v Z :=
  ⟨ownsRow_ext h.row hx (fun g hg => hS g (by simp [zwF, hg])), fun p hp => ownsRow_ext (h.kids p hp) hx (fun g hg => hS g (List.mem_append_right _ (kG_mem hp hg))), h.dup, h.wf⟩
theorem ZwP.lt {w : World} {v : Value} {Z : List Zd} (h : ZwP w v Z) : ∀ k ∈ zwF v Z, k < w.heap.size := fun k hk => by
  rcases List.mem_append.1 hk with hk | hk
  · exact (h.row.lt k (by simpa using hk)).2
  · obtain ⟨p, hp, hk⟩ := List.mem_flatMap.1 hk
    exact ((h.kids p hp).lt k (by simpa using hk)).2
def oZw (v : Value) (Z : List Zd) : Ob where
  F := zwF v Z
  P := fun w => ZwP w v Z
  ok := fun h hx hS => h.ext hx hS
  lt := fun h => h.lt
theorem ZwP.nodes {w : World} {v : Value} {Z : List Zd} (h : ZwP w v Z) : NodesAt w v (Z.map (·.1)) := rows_nodes h.row h.kids h.wf
theorem zw_nil (w : World) : ZwP w (.slice none 0 0) [] := ⟨World.ownsRow_nil _ _ _ _, fun p hp => (by cases hp), by simp [zwF, kG, Value.ownBlock], fun p hp => (by cases hp)⟩
/-- nodes more -/
theorem ZwP.more {w w' : World} {g cap m : Nat} {v : Value} {Z Z2 : List Zd} (h : ZwP w v Z) (hk : ∀ p ∈ Z2, w.ownsRow 0 3 1 p.2 p.1.kids.length (p.1.kids.map iz)) (hdu : (kG Z2).Nodup) (hd : ∀ k ∈ kG Z2, k ∉ zwF v Z) (hw : ∀ p ∈ Z2, NdWf p.1)
    (hx : Ext v.ownBlock.toList w w') (hm : m = Z.length + Z2.length) (hr : w'.ownsRow 0 47 5 (.slice (some ⟨g, 0, none⟩) m cap) m (rowN Z ++ rowN Z2)) (hg : v.ownBlock = some g ∨ w.heap.size ≤ g) :
    ZwP w' (.slice (some ⟨g, 0, none⟩) m cap) (Z ++ Z2) := by
  subst hm
  have lt := h.lt
  have hdup := h.dup
  unfold zwF at hdup
  rw [List.nodup_append] at hdup
  obtain ⟨d1, d2, d3⟩ := hdup
  refine ⟨by rw [List.length_append, rowN_append]; exact hr, fun p hp => ?_, ?_, fun p hp => ?_⟩
  · rcases List.mem_append.1 hp with hp | hp
    · exact ownsRow_ext (h.kids p hp) hx (fun k hk2 hm => d3 k hm k (kG_mem hp hk2) rfl)
    · exact ownsRow_ext (hk p hp) hx (fun k hk2 hm => hd k (kG_mem hp hk2) (List.mem_append_left _ hm))
  · unfold zwF
    rw [kG_append, List.nodup_append, List.nodup_append]
    refine ⟨by simp [Value.ownBlock], ⟨d2, hdu, fun k hk1 m hm e => ?_⟩, fun k hk1 m hm e => ?_⟩
    · subst e
      exact hd k hm (List.mem_append_right _ hk1)
    · subst e
      obtain rfl : k = g := by simpa [Value.ownBlock] using hk1
      rcases List.mem_append.1 hm with hm | hm
      · rcases hg with q | q
        · exact d3 k (by simp [q]) k hm rfl
        · have := lt k (List.mem_append_right _ hm); omega
      · rcases hg with q | q
        · exact hd k hm (List.mem_append_left _ (by simp [q]))
        · obtain ⟨p, hp, hk3⟩ := List.mem_flatMap.1 hm
          have := ((hk p hp).lt k (by simpa using hk3)).2
          omega
  · rcases List.mem_append.1 hp with hp | hp
    · exact h.wf p hp
    · exact hw p hp
/-- the first node has a kid more -/
theorem ZwP.kid {w w1 : World} {g5 c5 g6 cap2 : Nat} {x : Nd} {kv : Value} {Z : List Zd} {c : Int} {O : Obj} (h : ZwP w (.slice (some ⟨g5, 0, none⟩) (Z.length + 1) c5) ((x, kv) :: Z))
    (hown : w1.ownsRow 0 3 1 (.slice (some ⟨g6, 0, none⟩) (x.kids.length + 1) cap2) (x.kids.length + 1) (x.kids.map iz ++ [.int .i64 c])) (hgrow : (w.alloc O).grownBy w1 kv.ownBlock) (hat : kv.ownBlock = some g6 ∨ g6 = w.heap.size + 1)
    (hc : -9223372036854775808 ≤ c ∧ c ≤ 9223372036854775807) (hkl : x.kids.length + 1 ≤ 9223372036854775807) :
    ZwP (w1.setCell ⟨g5, 4, none⟩ (.slice (some ⟨g6, 0, none⟩) (x.kids.length + 1) cap2)) (.slice (some ⟨g5, 0, none⟩) (Z.length + 1) c5) (({ x with kids := x.kids ++ [c] }, .slice (some ⟨g6, 0, none⟩) (x.kids.length + 1) cap2) :: Z) ∧
    Ext (zwF (.slice (some ⟨g5, 0, none⟩) (Z.length + 1) c5) ((x, kv) :: Z)) w (w1.setCell ⟨g5, 4, none⟩ (.slice (some ⟨g6, 0, none⟩) (x.kids.length + 1) cap2)) ∧
    Fr w (zwF (.slice (some ⟨g5, 0, none⟩) (Z.length + 1) c5) ((x, kv) :: Z)) (zwF (.slice (some ⟨g5, 0, none⟩) (Z.length + 1) c5) (({ x with kids := x.kids ++ [c] }, .slice (some ⟨g6, 0, none⟩) (x.kids.length + 1) cap2) :: Z)) := by
  have lt := h.lt
  have hd := h.dup
  have hF : zwF (.slice (some ⟨g5, 0, none⟩) (Z.length + 1) c5) ((x, kv) :: Z) = g5 :: (kv.ownBlock.toList ++ kG Z) := by simp [zwF, kG, Value.ownBlock]
  have hF2 : zwF (.slice (some ⟨g5, 0, none⟩) (Z.length + 1) c5) (({ x with kids := x.kids ++ [c] }, .slice (some ⟨g6, 0, none⟩) (x.kids.length + 1) cap2) :: Z) = g5 :: g6 :: kG Z := by simp [zwF, kG, Value.ownBlock]
  have ltF : ∀ k ∈ g5 :: (kv.ownBlock.toList ++ kG Z), k < w.heap.size := fun k hk => lt k (by rw [hF]; exact hk)
  rw [hF] at hd ⊢
  rw [hF2]
  rw [List.nodup_cons, List.nodup_append] at hd
  obtain ⟨d2, d3, d4, d5⟩ := hd
  have g6n : ∀ k, k < w.heap.size → kv.ownBlock ≠ some k → g6 ≠ k := fun k hk hne e => by
    subst e
    rcases hat with q | q
    · exact hne q
    · omega
  have k5 : kv.ownBlock ≠ some g5 := fun e => d2 (List.mem_append_left _ (by simp [e]))
  have h65 : g6 ≠ g5 := g6n g5 (ltF g5 (by simp)) k5
  have hx : Ext kv.ownBlock.toList w w1 := ((Ext.refl _ w).alloc _).grown hgrow (fun k hk => .inl (by simp [hk]))
  have hrow : w1.ownsRow 0 47 5 (.slice (some ⟨g5, 0, none⟩) (Z.length + 1) c5) (Z.length + 1) (rowN ((x, kv) :: Z)) := ownsRow_ext h.row hx (fun g hg hm => by
    obtain rfl : g5 = g := by simpa [Value.ownBlock] using hg
    exact k5 (by simpa using hm))
  refine ⟨⟨?_, fun p hp => ?_, ?_, fun p hp => ?_⟩, ?_, fun k hk => ?_⟩
  · have h2 := row_put (i := 4) hrow (.slice (some ⟨g6, 0, none⟩) (x.kids.length + 1) cap2)
    exact h2
  · rcases List.mem_cons.1 hp with rfl | hp
    · have h2 := ownsRow_setCell_other hown (a := ⟨g5, 4, none⟩) (fun e => h65 (by simpa [Value.ownBlock] using e)) (.slice (some ⟨g6, 0, none⟩) (x.kids.length + 1) cap2)
      show (w1.setCell _ _).ownsRow 0 3 1 _ (x.kids ++ [c]).length ((x.kids ++ [c]).map iz)
      rw [List.length_append, List.map_append]
      exact h2
    · have hk0 := h.kids p (List.mem_cons_of_mem _ hp)
      have h1 := ownsRow_ext hk0 hx (fun g hg hm => d5 g (by simpa using hm) g (kG_mem hp hg) rfl)
      refine ownsRow_setCell_other h1 (fun e => ?_) _
      exact d2 (List.mem_append_right _ (kG_mem hp e))
  · rw [hF2, List.nodup_cons, List.nodup_cons]
    refine ⟨?_, ?_, d4⟩
    · intro hm
      rcases List.mem_cons.1 hm with e | hm
      · exact h65 e.symm
      · exact d2 (List.mem_append_right _ hm)
    · intro hm
      rcases hat with q | q
      · exact d5 g6 (by simp [q]) g6 hm rfl
      · have := ltF g6 (List.mem_cons_of_mem _ (List.mem_append_right _ hm)); omega
  · rcases List.mem_cons.1 hp with rfl | hp
    · have hw := h.wf (x, kv) (by simp)
      refine ⟨hw.n, hw.s, by show (x.kids ++ [c]).length ≤ _; rw [List.length_append]; exact hkl, fun k hk => ?_⟩
      rcases List.mem_append.1 hk with hk | hk
      · exact hw.kids k hk
      · obtain rfl : k = c := by simpa using hk
        exact hc
    · exact h.wf p (List.mem_cons_of_mem _ hp)
  · refine (hx.mono (fun k _ hk => ?_)).setCell _ _ (.inl (by simp))
    exact List.mem_cons_of_mem _ (List.mem_append_left _ hk)
  · rcases List.mem_cons.1 hk with rfl | hk
    · exact .inl (by simp)
    · rcases List.mem_cons.1 hk with rfl | hk
      · rcases hat with q | q
        · exact .inl (by simp [q])
        · exact .inr (by omega)
      · exact .inl (List.mem_cons_of_mem _ (List.mem_append_right _ hk))
theorem push_plain21 {w w1 : World} {g cap n : Nat} {v : Value} (hgrow : w.grownBy w1 v.ownBlock) (hat : v.ownBlock = some g ∨ g = w.heap.size) :
    Ext v.ownBlock.toList w w1 ∧ Fr w v.ownBlock.toList (Value.slice (some ⟨g, 0, none⟩) n cap).ownBlock.toList := by
  refine ⟨(Ext.refl _ w).grown hgrow (fun k hk => .inl (by simp [hk])), fun q hq => ?_⟩
  obtain rfl : q = g := by simpa [Value.ownBlock] using hq
  rcases hat with h | h
  · exact .inl (by simp [h])
  · exact .inr (by omega)
theorem addr_add21 (g j : Nat) : (⟨g, 0, none⟩ : Addr).add j = ⟨g, j, none⟩ := by unfold Addr.add; split <;> simp_all
theorem src_zw {w : World} {u : Value} {Z : List Zd} (h : ZwP w u Z) (hZ : 0 < Z.length) : Src Tryz.prog 5 28 u Z.length (rowN Z) w := by
  obtain ⟨g, cap, rfl⟩ := row_form h.row hZ
  refine Src.ofSlice w Tryz.underlying28 _ _ cap (rowN Z) (rowN_len Z) (fun j v hj => ?_) (fun v hv => ?_)
  · rw [addr_add21]
    exact row_cell h.row hj
  · obtain ⟨p, hp, hv⟩ := List.mem_flatMap.1 hv
    obtain ⟨ao, c, hkv⟩ := row_slice (h.kids p hp)
    unfold cellsN at hv
    rw [hkv] at hv
    simp only [List.mem_cons, List.not_mem_nil, or_false] at hv
    rcases hv with rfl | rfl | rfl | rfl | rfl <;> rfl
/-- two rows of nodes -/
def oZv (v : Value) (Z : List Zd) (u : Value) (Y : List Zd) : Ob where
  F := zwF v Z ++ zwF u Y
  P := fun w => ZwP w v Z ∧ ZwP w u Y ∧ ∀ k ∈ zwF u Y, k ∉ zwF v Z
  ok := fun h hx hS => ⟨h.1.ext hx (fun k hk => hS k (List.mem_append_left _ hk)), h.2.1.ext hx (fun k hk => hS k (List.mem_append_right _ hk)), h.2.2⟩
  lt := fun h k hk => by
    rcases List.mem_append.1 hk with hk | hk
    · exact h.1.lt k hk
    · exact h.2.1.lt k hk
/-- a kid of the first node turned -/
theorem ZwP.set {w : World} {v : Value} {x : Nd} {g6 n c6 i : Nat} {Z : List Zd} {c : Int} (h : ZwP w v ((x, .slice (some ⟨g6, 0, none⟩) n c6) :: Z)) (hn : x.kids.length = n) (hc : -9223372036854775808 ≤ c ∧ c ≤ 9223372036854775807) :
    ZwP (w.setCell ⟨g6, i, none⟩ (.int .i64 c)) v (({ x with kids := x.kids.set i c }, .slice (some ⟨g6, 0, none⟩) n c6) :: Z) ∧ Ext (zwF v ((x, .slice (some ⟨g6, 0, none⟩) n c6) :: Z)) w (w.setCell ⟨g6, i, none⟩ (.int .i64 c)) := by
  have hd := h.dup
  have hF : zwF v ((x, .slice (some ⟨g6, 0, none⟩) n c6) :: Z) = v.ownBlock.toList ++ (g6 :: kG Z) := by simp [zwF, kG, Value.ownBlock]
  rw [hF, List.nodup_append, List.nodup_cons] at hd
  obtain ⟨d1, ⟨d2, d3⟩, d4⟩ := hd
  refine ⟨⟨?_, fun p hp => ?_, ?_, fun p hp => ?_⟩, ?_⟩
  · have h2 := ownsRow_setCell_other h.row (a := ⟨g6, i, none⟩) (fun e => d4 g6 (by simp [e]) g6 (by simp) rfl) (.int .i64 c)
    exact h2
  · rcases List.mem_cons.1 hp with rfl | hp
    · have h2 := h.kids _ (List.mem_cons_self ..)
      subst hn
      have h3 := row_put (i := i) h2 (.int .i64 c)
      show (w.setCell _ _).ownsRow 0 3 1 _ (x.kids.set i c).length ((x.kids.set i c).map iz)
      rw [List.length_set, List.map_set]
      exact h3
    · have hk0 := h.kids p (List.mem_cons_of_mem _ hp)
      exact ownsRow_setCell_other hk0 (fun e => d2 (kG_mem hp e)) _
  · have : zwF v (({ x with kids := x.kids.set i c }, .slice (some ⟨g6, 0, none⟩) n c6) :: Z) = zwF v ((x, .slice (some ⟨g6, 0, none⟩) n c6) :: Z) := by simp [zwF, kG]
    rw [this]
    exact h.dup
  · rcases List.mem_cons.1 hp with rfl | hp
    · have hw := h.wf (x, .slice (some ⟨g6, 0, none⟩) n c6) (by simp)
      refine ⟨hw.n, hw.s, by show (x.kids.set i c).length ≤ _; rw [List.length_set]; exact hw.len, fun k hk => ?_⟩
      rcases List.mem_or_eq_of_mem_set hk with hk | hk
      · exact hw.kids k hk
      · rw [hk]; exact hc
    · exact h.wf p (List.mem_cons_of_mem _ hp)
  · exact (Ext.refl _ w).setCell _ _ (.inl (by rw [hF]; simp))
theorem zw_of_bd {w : World} {b : Nat} {v : Value} {Z : List Zd} (h : BdP w b v Z) : ZwP w v Z := ⟨h.row, h.kids, by have := h.dup; unfold bdF at this; exact (List.nodup_cons.1 this).2, h.wf⟩
theorem sep_zw {w0 w : World} {b : Nat} {v : Value} {Z : List Zd} (S : Sep w0 w [oBd b v Z]) : Sep w0 w [oZw v Z] :=
  S.upd 0 (oZw v Z) rfl (Ext.refl _ _) (fun _ hk => .inl (List.mem_cons_of_mem _ hk)) (zw_of_bd (S.get 0 rfl))
end Go.Proofs.YtkaimeogebgofaaGreatDoor.Xs
