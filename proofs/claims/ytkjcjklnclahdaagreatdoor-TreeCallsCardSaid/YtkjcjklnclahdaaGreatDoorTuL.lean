/-
  kit.OwnTree walked.
-/
import Derived.Test.YtkjcjklnclahdaaGreatDoorTuK
import Derived.Test.YtkjcjklnclahdaaGreatDoorTtB
namespace Go.Proofs.YtkjcjklnclahdaaGreatDoor.Tr
open Go.RowKit

theorem ints_vals {w : World} {base : Option Addr} {L : List Int} (h : IntsAt w base L) : ValsAt w base (L.map iz) := fun i u hi => by
  rw [List.getElem?_map] at hi
  obtain ⟨c, hc, rfl⟩ := Option.map_eq_some_iff.1 hi
  obtain ⟨hl, he⟩ := List.getElem?_eq_some_iff.1 hc
  obtain ⟨b, o, h1, h2⟩ := h i hl
  rw [he] at h2
  exact ⟨b, o, h1, h2⟩
set_option maxRecDepth 100000 in
set_option maxHeartbeats 4000000 in
theorem ownT_walk (v : Value) (l : List Nd) (w : World) (h : NodesAt w v l) (hl : l.length ≤ 131072) (hk : ∀ x ∈ l, x.kids.length ≤ 131072) :
    Calls Tryz.prog 11 #[v] w fun e w' => ∃ v2, e = .returned v2 ∧ Ext [] w w' ∧ NodesAt w' v2 l := by
  obtain ⟨i0, hif, hz0, hz1, hz2⟩ := info_parts infoInt
  obtain ⟨j0, hjf, hy0, hy1, hy2⟩ := info_parts infoNode
  obtain ⟨base, cap, rfl, -, hN⟩ := h
  obtain ⟨n, hn⟩ : ∃ n, l.length = n := ⟨_, rfl⟩
  have HS := Lib.hid (⟨hN, hk, hn, (Sep.start w).new (Ext.refl _ _) (oZs (.slice none 0 0) []) (zs_nil w) (fun k hk => by simp [oZs, zsF, kF, Value.ownBlock] at hk)⟩ : _ ∧ _ ∧ _ ∧ _)
  rw [hn] at hl ⊢
  clear hN hk hn
  go_enter Tryz.func11, Tryz.ntmps11
  go_wp2_with fail
  go_loopg [3, 4] n (fun g ov iv wr => ∃ (i : Nat) (Z2 : List Zd), g + i = n ∧ iv = .int .i64 i ∧ Z2.length = i ∧ Z2.map (·.1) = l.take i ∧ Sep w wr [oZs ov Z2])
  case atStart => exact ⟨0, [], by omega, rfl, rfl, rfl, HS.out.2.2.2⟩
  case round =>
    obtain ⟨i, Z2, hgi, rfl, hZ2, hM, S⟩ := hrel
    have HW := Lib.hid (⟨hZ2, hM, S⟩ : _ ∧ _ ∧ _)
    clear hZ2 hM S
    by_cases hlt : i < n
    case neg =>
      obtain rfl : i = n := by omega
      have hfin : NodesAt wr u3 l := by
        have := (HW.out.2.2.get 0 rfl : ZsP wr u3 Z2).nodes
        rw [HW.out.2.1, ← HS.out.2.2.1, List.take_length] at this
        exact this
      have HF := Lib.hid hfin
      clear hfin
      go_wp2_with fail
      go_ret
      exact ⟨_, rfl, HW.out.2.2.ext, HF.out⟩
    case pos =>
    obtain ⟨g, rfl⟩ : ∃ g, gk = g + 1 := ⟨gk - 1, by omega⟩
    have hltz : (i : Int) < (n : Int) := by omega
    have hil : i < l.length := by rw [HS.out.2.2.1]; exact hlt
    obtain ⟨bb, o, rfl, m1, m2, m3, m4, nw, bk, ck, m5, n6⟩ := HS.out.1 i hil
    have hk1 := HS.out.2.1 _ (List.getElem_mem hil)
    have htk : l.take (i + 1) = l.take i ++ [l[i]'hil] := by rw [List.take_succ_eq_append_getElem hil]
    generalize l[i]'hil = x at *
    have hx := HW.out.2.2.ext
    have n1 := hx.cell m1
    have n2 := hx.cell m2
    have n3 := hx.cell m3
    have n4 := hx.cell m4
    have n5 := hx.cell m5
    obtain ⟨K, hK⟩ : ∃ K, x.kids.length = K := ⟨_, rfl⟩
    rw [hK] at n5 m5 hk1
    have HX := Lib.hid (⟨nw, n6, htk, hK⟩ : _ ∧ _ ∧ _ ∧ _)
    clear nw n6 htk hx m1 m2 m3 m4 m5 hK
    go_upto_region 6 with (fail)
    obtain ⟨W, hW⟩ : ∃ W, wr.alloc (nbox x (.slice bk K ck)) = W := ⟨_, rfl⟩
    have hx4 : Ext [] wr W := by rw [← hW]; exact (Ext.refl [] wr).alloc _
    have hb4 : W.heap[wr.heap.size]? = some (nbox x (.slice bk K ck)) := by rw [← hW]; exact heap_alloc_at _
    obtain ⟨q, hq⟩ : ∃ q, wr.heap.size = q := ⟨_, rfl⟩
    rw [hq] at hb4
    rw [hq, hW]
    have S := HW.out.2.2.new hx4 (Ob.one q (nbox x (.slice bk K ck))) hb4 (fun k hk => by simp [Ob.one] at hk; omega)
    have hxe : Ext [] W (W.alloc (.cells #[] 3)) := (Ext.refl [] W).alloc _
    have S1 := S.new hxe (oSl 3 1 (.slice (some ⟨W.heap.size, 0, none⟩) 0 0) 0 []) empty_row (fun k hk => by simp [oSl, Value.ownBlock] at hk; omega)
    have hown : (W.alloc (.cells #[] 3)).ownsRow 0 3 1 (.slice (some ⟨W.heap.size, 0, none⟩) 0 0) 0 [] := S1.get 0 rfl
    have hI : IntsAt (W.alloc (.cells #[] 3)) bk x.kids := HX.out.2.1.ext ((HW.out.2.2.ext.trans hx4).trans hxe)
    have hsl : (x.kids.map iz).length = K := by rw [List.length_map]; exact HX.out.2.2.2
    have hA := app_vals (P := Tryz.prog) (t := 23) Tryz.underlying23 hif hz0 hz1 hz2 rfl (by decide) hown (base := bk) (cap := ck) (ys := x.kids.map iz) (ints_vals hI) (fun u hu => by obtain ⟨s, _, rfl⟩ := List.mem_map.1 hu; rfl) (by rw [hsl]; omega) 23
    rw [hsl, Nat.zero_add] at hA
    obtain ⟨ao', cap', w6, hr, h1, h2, h3⟩ := hA
    have S2 := S1.upd 0 (oSl 3 1 (.slice ao' K cap') K (x.kids.map iz)) rfl h2 h3 h1
    have hb5 : (W.alloc (.cells #[] 3)).heap[q]? = some (nbox x (.slice bk K ck)) := heap_alloc_old _ hb4
    have q4 : (W.alloc (.cells #[] 3)).cell? ⟨q, 4, none⟩ = some (.slice bk K ck) := cellOf hb5 4
    have hb6 : w6.heap[q]? = some (nbox x (.slice bk K ck)) := S2.get 1 rfl
    have r4 : w6.cell? ⟨q, 4, none⟩ = some (.slice bk K ck) := cellOf hb6 4
    have f4 : w6.frozen? ⟨q, 4, none⟩ = false := freeOf hb6 4
    have S3 : Sep w (w6.setCell ⟨q, 4, none⟩ (.slice ao' K cap')) [oSl 3 1 (.slice ao' K cap') K (x.kids.map iz), Ob.one q (nbox x (.slice ao' K cap')), oZs u3 Z2] :=
      S2.upd 1 (Ob.one q (nbox x (.slice ao' K cap'))) rfl ((Ext.refl _ _).setCell _ _ (.inl (by simp [Ob.one]))) (Fr.refl _ _) (heap_setCell_same hb6 (i := 4) _)
    have HS3 := Lib.hid S3
    clear S S1 S2 S3 hx4 hxe hown hI hsl h1 h2 h3 hb4 hb5 hb6 hq hW n1 n2 n3 n4 n5
    go_upto_region 7 with (at_builtin; refine Lib.wpList_append_run _ rfl _ _ _ _ rfl _ _ rfl rfl _ _ hr ?_)
    clear q4 r4 f4 hr
    obtain ⟨V, hV⟩ : ∃ V, w6.setCell ⟨q, 4, none⟩ (.slice ao' K cap') = V := ⟨_, rfl⟩
    rw [hV] at HS3 ⊢
    have hb : V.heap[q]? = some (nbox x (.slice ao' K cap')) := HS3.out.get 1 rfl
    have hz : ZsP V u3 Z2 := HS3.out.get 2 rfl
    have hrow := hz.row
    obtain ⟨ao5, c5, rfl⟩ := row_slice hrow
    rw [HW.out.1] at hrow
    have q0 := cellOf hb 0
    have q1 := cellOf hb 1
    have q2 := cellOf hb 2
    have q3 := cellOf hb 3
    have q4 := cellOf hb 4
    have HZ := Lib.hid (⟨hz, hrow⟩ : _ ∧ _)
    rw [HW.out.1]
    clear hz hrow hb
    go_wp2_with (at_builtin; refine wpList_append_lies _ rfl _ _ 22 rfl 0 25 j0 _ 5 64 Tryz.underlying22 hjf hy0 hy1 hy2 rfl (by decide) (.slice ao5 i c5) i _ rfl (World.ownsRow.alloc HZ.out.2 _) ⟨V.heap.size, 0, none⟩ 1 1 (rowN [(x, .slice ao' K cap')]) rfl rfl (cells_nd _ x (.slice ao' K cap') _) (by simp [rowN, cellsN, Value.oneCell']) (by decide) (by unfold maxLen; omega) (by omega) (by omega) (V.heap.size + 1) (by simp) ?_; intro g6 cap2 w7 hown1 hgrow hat hlt6)
    have P := push_local (cap := cap2) (n := i + 1) hgrow hat
    have hg6 : (Value.slice ao5 i c5).ownBlock = some g6 ∨ V.heap.size ≤ g6 := by
      rcases hat with h | h
      · exact .inl h
      · exact .inr (by omega)
    have HP := Lib.hid (⟨P, hown1, hg6⟩ : _ ∧ _ ∧ _)
    clear P hown1 hgrow hat hlt6 hg6 q0 q1 q2 q3 q4
    go_roundg g
    case measure => omega
    case rel =>
      have S := HS3.out
      obtain ⟨hz, hrow⟩ := HZ.out
      have hown : V.ownsRow 0 3 1 (.slice ao' K cap') K (x.kids.map iz) := S.get 0 rfl
      rw [HW.out.1] at S hz
      obtain ⟨P, hown1, hg6⟩ := HP.out
      have hkd : ∀ k ∈ (Value.slice ao' K cap').ownBlock.toList, k ∉ zsF (.slice ao5 i c5) Z2 := fun k hk hk2 => S.apart 0 2 _ _ rfl rfl (by omega) k hk hk2
      have S7 : Sep w V [Ob.one q (nbox x (.slice ao' K cap')), oZk (.slice ao5 i c5) Z2 (.slice ao' K cap') K x.kids] :=
        Sep.glue S (j := 1) (b := oZs (.slice ao5 i c5) Z2) rfl (oZk (.slice ao5 i c5) Z2 (.slice ao' K cap') K x.kids) (fun k hk => by
          rcases List.mem_append.1 hk with hk | hk
          · exact .inr hk
          · exact .inl hk) ⟨hz, hown, hkd⟩
      have S7 := Sep.tail S7
      have hkf : kF [(x, Value.slice ao' K cap')] = (Value.slice ao' K cap').ownBlock.toList := by simp [kF]
      have hmore := ZsP.more (Z2 := [(x, Value.slice ao' K cap')]) (m := i + 1) hz (fun p hp => by
        obtain rfl : p = (x, Value.slice ao' K cap') := by simpa using hp
        show V.ownsRow 0 3 1 _ x.kids.length _
        rw [HX.out.2.2.2]
        exact hown) (by rw [hkf]; cases (Value.slice ao' K cap').ownBlock <;> simp) (fun k hk => hkd k (by rw [hkf] at hk; exact hk)) (fun p hp => by
        obtain rfl : p = (x, Value.slice ao' K cap') := by simpa using hp
        exact HX.out.1) P.1 (by rw [HW.out.1]; rfl) (by rw [rowN_one]; rw [rowN_one] at hown1; exact hown1) hg6
      have S8 := S7.upd 0 (oZs (.slice (some ⟨g6, 0, none⟩) (i + 1) cap2) (Z2 ++ [(x, Value.slice ao' K cap')])) rfl (P.1.mono (fun k _ hk => List.mem_append_left _ (List.mem_append_left _ hk))) (fun k hk => by
        show k ∈ zsF (.slice ao5 i c5) Z2 ++ _ ∨ _
        rcases List.mem_append.1 hk with hk | hk
        · rcases P.2 k hk with h | h
          · exact .inl (List.mem_append_left _ (List.mem_append_left _ h))
          · exact .inr h
        · rw [kF_append, hkf] at hk
          rcases List.mem_append.1 hk with hk | hk
          · exact .inl (List.mem_append_left _ (List.mem_append_right _ hk))
          · exact .inl (List.mem_append_right _ hk)) hmore
      exact ⟨i + 1, Z2 ++ [(x, Value.slice ao' K cap')], by omega, by go_num, by rw [List.length_append, HW.out.1]; rfl, by rw [List.map_append, HW.out.2.1, HX.out.2.2.1]; rfl, S8⟩
end Go.Proofs.YtkjcjklnclahdaaGreatDoor.Tr
