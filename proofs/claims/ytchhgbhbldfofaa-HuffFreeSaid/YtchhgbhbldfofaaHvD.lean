/-
  The document's 'deep' (chapter 7) walked.
-/
import Derived.Test.YtchhgbhbldfofaaHvCb
import Derived.Deep.CutBlock
import Derived.Deep.DeepCutAuto
namespace Go.Proofs.Ytchhgbhbldfofaa.Hu
open Go.RowKit

theorem syms_leaf (c : Int) (s : Nat) : syms (.leaf c s) = [s] := rfl
theorem cells4_at {w W : World} {x y z u : Value} {t : TypeId} {b : Nat} (hW : w.alloc (.cells #[x, y, z, u] t) = W) (hb : w.heap.size = b) : ∀ j v, ([x, y, z, u] : List Value)[j]? = some v → W.cell? ((⟨b, 0, none⟩ : Addr).add j) = some v := fun j v hv => by
  subst hW hb
  rw [Addr.add_mid, Nat.zero_add]
  have h : (w.alloc (.cells #[x, y, z, u] t)).heap[w.heap.size]? = some (.cells #[x, y, z, u] t (0, 0)) := heap_alloc_at _
  rw [cellOf h, ← Array.getElem?_toList]
  exact hv
theorem cells4_new (w : World) (x : Value) (y : Value) (z : Value) (u : Value) (t : TypeId) : ∀ j v, ([x, y, z, u] : List Value)[j]? = some v → (w.alloc (.cells #[x, y, z, u] t)).cell? ((⟨w.heap.size, 0, none⟩ : Addr).add j) = some v := fun j v hv => by
  rw [Addr.add_mid, Nat.zero_add]
  have h : (w.alloc (.cells #[x, y, z, u] t)).heap[w.heap.size]? = some (.cells #[x, y, z, u] t (0, 0)) := heap_alloc_at _
  rw [cellOf h, ← Array.getElem?_toList]
  exact hv
set_option maxRecDepth 100000 in
set_option maxHeartbeats 2000000 in
theorem rdeep_walk (v : Value) (l : List Int) (w : World) (hv : IntsAt w v l) (hl : l.length ≤ 1000) (hc : ∀ c ∈ l, c ≤ 1099511627776) :
    Calls Try.prog 42 #[v] w (NewInts w (deepN l)) := by
  obtain ⟨i0, hif, hz0, hz1, hz2⟩ := info_parts infoInt7
  obtain ⟨j0, hjf, hy0, hy1, hy2⟩ := info_parts infoRNode
  obtain ⟨R, hR⟩ : ∃ R, leavesF l 0 = R := ⟨_, rfl⟩
  have HR := Lib.hid hR
  have HR0 := Lib.hid hR
  have HV := Lib.hid hv
  obtain ⟨ao, cap, rfl, hcl⟩ := hv
  have HC := Lib.hid hcl
  have HCC := Lib.hid hc
  obtain ⟨wm, hmk, hown, hgrow⟩ := run_make_full (P := Try.prog) w 0 22 3 i0 (.int .i64 0) 1 Try.underlying22 hif hz0 hz1 .i64 .i64 l.length (by rw [hz2]; omega) (by unfold maxLen; omega) (by omega)
  have hx4 : Ext [] w wm := (Ext.refl [] w).grown hgrow (fun k hk => by cases hk)
  have S := (Sep.start w).new hx4 (oSl 3 1 (.slice (some ⟨w.heap.size, 0, none⟩) l.length l.length) l.length ((zers l.length).map iz)) (by
    have hm : (madeCells (Value.int .i64 0).cells (l.length * 1)).toList = (zers l.length).map iz := by
      rw [zers, List.map_replicate, Nat.mul_one]
      exact toList_madeCells_one _ _
    rw [← hm]; exact hown) (fun q hq => by simp [oSl, Value.ownBlock] at hq; omega)
  obtain ⟨q, hq⟩ : ∃ q, w.heap.size = q := ⟨_, rfl⟩
  rw [hq] at hmk S
  have S := S.new (Ext.refl [] wm) (oRL (.slice none 0 0) [] [] []) ⟨World.ownsRow_nil _ _ _ _, by simp, by simp [Value.ownBlock], by simp⟩ (fun k hk => by simp [oRL, Value.ownBlock] at hk)
  have HS := Lib.hid S
  clear hx4 hown hgrow S hq hR hcl hc
  go_enter Try.func42, Try.ntmps42
  go_wp2_with fail
  clear hmk
  go_loopg [4, 5] l.length (fun g lv iv wr => ∃ (i : Nat) (N : List Nat) (Z : List Zn) (ao4 : Option Addr) (cap4 : Nat), g + i = l.length ∧ iv = .int .i64 i ∧ lv = .slice ao4 Z.length cap4 ∧ Z.length ≤ i ∧ Z.map (·.1) ++ leavesF (l.drop i) i = R ∧ Sep w wr [oRL (.slice ao4 Z.length cap4) N Z [], oSl 3 1 (.slice (some ⟨q, 0, none⟩) l.length l.length) l.length ((zers l.length).map iz)])
  case atStart => exact ⟨0, [], [], none, 0, by omega, rfl, rfl, by simp, by rw [List.drop_zero]; exact HR.out, HS.out⟩
  case round =>
    clear HS HR
    obtain ⟨i, N, Z, ao4, cap4, hi, rfl, rfl, hZ, hR, S⟩ := hrel
    by_cases hil : i < l.length
    · obtain ⟨b, off, rfl, hcell⟩ := HC.out (by omega)
      obtain ⟨x, hck⟩ : ∃ x, l[i]? = some x := ⟨_, List.getElem?_eq_getElem hil⟩
      have d0 := Ext.cell S.ext (hcell i x hck)
      have hxr := HCC.out x (List.mem_of_getElem? hck)
      have hdr : l.drop i = x :: l.drop (i + 1) := by
        obtain ⟨h1, h2⟩ := List.getElem?_eq_some_iff.1 hck
        rw [List.drop_eq_getElem_cons h1, h2]
      rw [hdr, leavesF] at hR
      clear hdr hcell hck
      by_cases h0 : 0 < x
      · rw [if_pos h0] at hR
        have hrl : RL wr (.slice ao4 Z.length cap4) N Z [] := S.get 0 rfl
        have hrow := hrl.row
        have HF := Lib.hid (⟨hR, hrl, S⟩ : _ ∧ _ ∧ _)
        clear hR hrl S
        go_wp2_with (first | (at_builtin; refine wpList_append_lies _ rfl _ _ 100 rfl 0 102 j0 _ 4 48 Try.underlying100 hjf hy0 hy1 hy2 rfl (by decide) (.slice ao4 Z.length cap4) Z.length _ rfl ((hrow.alloc _).alloc _) ⟨wr.heap.size + 1, 0, none⟩ 1 1 [iz x, .bool false, iz (i : Int), .slice (some ⟨wr.heap.size, 0, none⟩) 1 1] rfl rfl (cells4_at rfl (by simp)) (by simp [Value.oneCell']) (by decide) (by unfold maxLen; omega) (by omega) (by omega) (wr.heap.size + 2) (by simp) ?_; intro g cap2 w1 hown1 hgrow hat hlt))
        have hP : PartIn (wr.alloc (.cells #[iz (i : Int)] 3)) (wr.heap.size :: N) (.leaf x i, .slice (some ⟨wr.heap.size, 0, none⟩) 1 1) := by
          refine ⟨wr.heap.size, 1, rfl, by simp, fun j s hj => ?_⟩
          rw [syms_leaf] at hj
          have hb : (wr.alloc (.cells #[iz (i : Int)] 3)).heap[wr.heap.size]? = some (.cells #[iz (i : Int)] 3 (0, 0)) := heap_alloc_at _
          rw [cellOf hb]
          cases j with
          | zero => simp at hj; subst hj; rfl
          | succ j => simp at hj
        have hsz : (wr.alloc (.cells #[iz (i : Int)] 3)).heap.size = wr.heap.size + 1 := by simp
        obtain ⟨r1, r2, r3⟩ := RL.push (N' := wr.heap.size :: N) HF.out.2.1 ((Ext.refl [] wr).alloc (.cells #[iz (i : Int)] 3)) hP (fun k hk => by simp [hk]) (fun k hk => by
          rcases List.mem_cons.1 hk with rfl | hk
          · exact .inr ⟨Nat.le_refl _, by omega⟩
          · exact .inl hk) hown1 hgrow (by rw [hsz]; exact hat)
        obtain ⟨Y, hY⟩ : ∃ Y : List Zn, Z ++ [(Nd.leaf x i, Value.slice (some ⟨wr.heap.size, 0, none⟩) 1 1)] = Y := ⟨_, rfl⟩
        rw [hY] at r1 r3
        have hYl : Y.length = Z.length + 1 := by rw [← hY]; simp
        have hYm : Y.map (·.1) ++ leavesF (l.drop (i + 1)) (i + 1) = R := by rw [← hY, ← HF.out.1]; simp
        have HR3 := Lib.hid (⟨r1, r2, r3, hYm⟩ : _ ∧ _ ∧ _ ∧ _)
        clear r1 r2 r3 hown1 hgrow hat hlt hP hsz hrow hYm
        rw [← hYl]
        go_roundg (l.length - (i + 1))
        case measure => omega
        case rel => exact ⟨i + 1, wr.heap.size :: N, Y, some ⟨g, 0, none⟩, cap2, by omega, by go_num, rfl, by omega, HR3.out.2.2.2, HF.out.2.2.upd 0 (oRL (.slice (some ⟨g, 0, none⟩) Y.length cap2) (wr.heap.size :: N) Y []) rfl HR3.out.2.1 HR3.out.2.2.1 HR3.out.1⟩
      · rw [if_neg h0] at hR
        have HF := Lib.hid (⟨hR, S⟩ : _ ∧ _)
        clear hR S
        go_wp2_with fail
        go_roundg (l.length - (i + 1))
        case measure => omega
        case rel => exact ⟨i + 1, N, Z, ao4, cap4, by omega, by go_num, rfl, by omega, HF.out.1, HF.out.2⟩
    · obtain rfl : i = l.length := by omega
      rw [List.drop_length, leavesF, List.append_nil] at hR
      have HR := Lib.hid hR
      have HS := Lib.hid S
      clear hR S HC
      by_cases h1 : Z.length = 1
      · have h1' : ((Z.length : Int) == 1) = true := by simp [h1]
        obtain ⟨p, rfl⟩ : ∃ p, Z = [p] := by
          match Z, h1 with
          | [p], _ => exact ⟨p, rfl⟩
        have hleaf : leavesF l 0 = [p.1] := by rw [HR0.out]; exact HR.out.symm
        obtain ⟨c, s, hps, _, hsl, _⟩ := leavesF_mem l 0 p.1 (by rw [hleaf]; simp)
        rw [Nat.zero_add] at hsl
        have hdeep : deepN l = (zers l.length).set s 1 := by rw [deepN_one hleaf, hps]; rfl
        have hrl : RL wr (.slice ao4 1 cap4) N [p] [] := HS.out.get 0 rfl
        obtain ⟨g, cap5, hg5⟩ : ∃ g cap5, Value.slice ao4 1 cap4 = .slice (some ⟨g, 0, none⟩) 1 cap5 := by
          rcases hrl.row.2 with ⟨_, h⟩ | ⟨g, cap5, cur, he, _⟩
          · simp at h
          · exact ⟨g, cap5, he⟩
        injection hg5 with hg6 _ hg7
        subst hg6 hg7
        obtain ⟨pb, pcap, hp2, hpN, hpc⟩ := hrl.parts p (by simp)
        rw [hps, syms_leaf] at hp2 hpc
        have c3 : wr.cell? ⟨g, 3, none⟩ = some (.slice (some ⟨pb, 0, none⟩) 1 pcap) := by
          have h := hrl.row.cells (g := g) rfl 3 p.2 (by simp [rowC])
          rw [hp2] at h
          simpa [Addr.add_lit] using h
        have c4 : wr.cell? ⟨pb, 0, none⟩ = some (iz (s : Nat)) := hpc 0 s rfl
        have hout : wr.ownsRow 0 3 1 (.slice (some ⟨q, 0, none⟩) l.length l.length) l.length ((zers l.length).map iz) := HS.out.get 1 rfl
        have o0 : wr.cell? ⟨q, s, none⟩ = some (iz 0) := ownsRow_at hout (by rw [List.getElem?_map, zers, List.getElem?_replicate, if_pos hsl]; rfl)
        have o1 := ownsRow_free hout s
        have hst := ownsRow_store (i := s) hout (iz 1)
        rw [← List.map_set, ← hdeep] at hst
        have S2 := HS.out.upd 1 (oSl 3 1 (.slice (some ⟨q, 0, none⟩) l.length l.length) l.length ((deepN l).map iz)) rfl ((Ext.refl _ wr).setCell ⟨q, s, none⟩ (iz 1) (.inl (by simp [oSl, Value.ownBlock]))) (Fr.refl _ _) hst
        have HS2 := Lib.hid S2
        clear S2 hst hout hdeep hleaf hrl hpc hpN hps hp2
        have hs0 : (0 : Int) ≤ (s : Int) := by omega
        go_wp2_with fail
        go_loopg [4, 6] 0 (fun _ lv _ wr2 => lv = .slice (some ⟨g, 0, none⟩) 1 cap4 ∧ wr2 = wr.setCell ⟨q, s, none⟩ (iz 1))
        case atStart => exact ⟨rfl, rfl⟩
        case round =>
          obtain ⟨rfl, rfl⟩ := hrel
          go_wp2_with fail
          go_ret
          exact ⟨.slice (some ⟨q, 0, none⟩) l.length l.length, rfl, HS2.out.ext, by rw [deepN_len]; exact HS2.out.get 1 rfl, HS2.out.base _ (List.mem_cons_of_mem _ (List.mem_cons_self ..))⟩
      · have h1' : ((Z.length : Int) == 1) = false := beq_eq_false_iff_ne.2 (by omega)
        go_wp2_with fail
        obtain ⟨T, hT⟩ : ∃ T, mrgF (leavesF l 0).length 0 (srtS (leavesF l 0)) = T := ⟨_, rfl⟩
        have hZl : Z.length = (leavesF l 0).length := by rw [HR0.out, ← HR.out]; simp
        have HT := Lib.hid hT
        have hdm := DepM.start l
        have hinv := inv_start l
        have hnd := leaves_nodup l
        have hsrt := srtS_srt _ (leavesF_tri l 0)
        have hper : (Z.map (·.1)).Perm (srtS (leavesF l 0)) := by rw [HR.out, ← HR0.out]; exact (srtS_perm _).symm
        have hdeep : deepN l = topD l.length T := by rw [deepN_more (by rw [← hZl]; exact h1), hT]
        have hsum : sumC (leavesF l 0) ≤ 1099511627776000 := by have := sumC_leaves l 0 HCC.out; omega
        obtain ⟨tot, htot⟩ : ∃ tot, sumC (leavesF l 0) = tot := ⟨_, rfl⟩
        rw [htot] at hinv hsum
        have hz0 : ∀ y ∈ zers l.length, 0 ≤ y ∧ y ≤ 2000 * ((0 : Nat) : Int) := fun y hy => by rw [List.eq_of_mem_replicate hy]; omega
        rw [show leavesF l 0 = Z.map (·.1) by rw [HR0.out]; exact HR.out.symm] at hdm hnd
        have HI := Lib.hid (⟨hdm, hinv, hnd, hsrt, hper, hT, hZl, hz0⟩ : _ ∧ _ ∧ _ ∧ _ ∧ _ ∧ _ ∧ _ ∧ _)
        have HD := Lib.hid (⟨hdeep, hsum⟩ : _ ∧ _)
        clear hdm hinv hnd hsrt hper hT hdeep hsum htot hz0 hZl h1 h1'
        go_loopg [4, 6] (leavesF l 0).length (fun g lv gv wr => ∃ (age : Nat) (N : List Nat) (Z : List Zn) (S : List Nd) (M : List Int) (ao4 : Option Addr) (cap4 : Nat), age + g = (leavesF l 0).length ∧ gv = .int .i64 age ∧ lv = .slice ao4 Z.length cap4 ∧ Z.length ≤ g ∧ mrgF g age S = T ∧ DepM l.length (Z.map (·.1)) M ∧ Inv l.length age tot S ∧ ((Z.map (·.1)).flatMap syms).Nodup ∧ Srt S ∧ (Z.map (·.1)).Perm S ∧ (∀ y ∈ M, 0 ≤ y ∧ y ≤ 2000 * (age : Int)) ∧ Sep w wr [oRL (.slice ao4 Z.length cap4) N Z [], oSl 3 1 (.slice (some ⟨q, 0, none⟩) l.length l.length) l.length (M.map iz)])
        case atStart =>
          obtain ⟨hdm, hinv, hnd, hsrt, hper, hT, hZl, hz0⟩ := HI.out
          exact ⟨0, N, Z, srtS (leavesF l 0), zers l.length, ao4, cap4, by omega, rfl, rfl, by omega, hT, hdm, hinv, hnd, hsrt, hper, hz0, HS.out⟩
        case round =>
          clear HI HS HT HR HR0
          obtain ⟨age, N, Z, S, M, ao4, cap4, hag, rfl, rfl, hZg, hT, hdm, hinv, hnd, hsrt, hper, hM, SS⟩ := hrel
          have HS := Lib.hid SS
          have HI := Lib.hid (⟨hT, hdm, hinv, hnd, hsrt, hper, hM⟩ : _ ∧ _ ∧ _ ∧ _ ∧ _ ∧ _ ∧ _)
          clear SS hT hdm hinv hnd hsrt hper hM
          by_cases h2 : 2 ≤ Z.length
          · have h2' : (1 : Int) < (Z.length : Int) := by omega
            obtain ⟨gk', rfl⟩ : ∃ gk', gk = gk' + 1 := ⟨gk - 1, by omega⟩
            have hag2 : age ≤ 1000 := by have := leaves_le l 0; omega
            have hrl : RL wr (.slice ao4 Z.length cap4) N Z [] := HS.out.get 0 rfl
            obtain ⟨a, b, S2, rfl⟩ : ∃ a b S2, S = a :: b :: S2 := by
              have hSl : S.length = Z.length := by rw [← HI.out.2.2.2.2.2.1.length_eq]; simp
              match S, hSl with
              | [], h => simp at h; omega
              | [_], h => simp at h; omega
              | a :: b :: S2, _ => exact ⟨a, b, S2, rfl⟩
            obtain ⟨pa, pb, Z1, Z2, t1, t2, t3, t4, t5, t6, t7, t8⟩ := two_least HI.out.2.2.2.2.2.1 HI.out.2.2.2.2.1
            obtain ⟨ba, ca, rfl, hbaN, hpa⟩ := hrl.part (t6.mem_iff.2 (by simp) : (a, pa) ∈ Z)
            obtain ⟨bb, cb, rfl, hbbN, hpb⟩ := hrl.part (t6.mem_iff.2 (by simp) : (b, pb) ∈ Z)
            have hsl : ∀ p ∈ Z, isSl p.2 := fun p hp => (hrl.parts p (by simp [hp])).sl
            have hsl1 : ∀ p ∈ Z1, isSl p.2 := fun p hp => hsl p (by rw [← t2] at hp; exact List.mem_of_mem_eraseIdx hp)
            have hsl2 : ∀ p ∈ Z2, isSl p.2 := fun p hp => hsl1 p (by rw [← t4] at hp; exact List.mem_of_mem_eraseIdx hp)
            have hzl1000 : Z.length ≤ 1000 := by have := leaves_le l 0; omega
            have HT6 := Lib.hid (⟨t5, t6, hrl, hpa, hpb⟩ : _ ∧ _ ∧ _ ∧ _ ∧ _)
            have HT1 := Lib.hid (⟨t1, t2, hsl⟩ : _ ∧ _ ∧ _)
            have HT3 := Lib.hid (⟨t3, t4, hsl1, hsl2⟩ : _ ∧ _ ∧ _ ∧ _)
            have HT7 := Lib.hid (⟨t7, t8⟩ : _ ∧ _)
            clear t1 t2 t3 t4 t5 t6 t7 t8 hrl hpa hpb hsl hsl1 hsl2
            go_wp2_with fail
            obtain ⟨W2, hW2⟩ : ∃ W2, (wr.alloc (.cells #[.int .i64 0, .bool false, .int .i64 0, .slice none 0 0] 102)).alloc (.cells #[.int .i64 0, .bool false, .int .i64 0, .slice none 0 0] 102) = W2 := ⟨_, rfl⟩
            have hx2 : Ext [] wr W2 := by rw [← hW2]; exact ((Ext.refl [] wr).alloc _).alloc _
            have hb7 : W2.heap[wr.heap.size]? = some (.cells #[.int .i64 0, .bool false, .int .i64 0, .slice none 0 0] 102 (0, 0)) := by rw [← hW2]; exact heap_alloc_old _ (heap_alloc_at _)
            have hb8 : W2.heap[wr.heap.size + 1]? = some (.cells #[.int .i64 0, .bool false, .int .i64 0, .slice none 0 0] 102 (0, 0)) := by
              have h : (wr.alloc (.cells #[.int .i64 0, .bool false, .int .i64 0, .slice none 0 0] 102)).heap.size = wr.heap.size + 1 := by simp
              rw [← hW2, ← h]; exact heap_alloc_at _
            rw [hW2]
            have HX2 := Lib.hid (⟨hx2, hb7, hb8⟩ : _ ∧ _ ∧ _)
            clear hx2 hb7 hb8 hW2
            refine (take_at _ Z Z1 a _ W2 (row_keep HX2.out.1 HT6.out.2.2.1.row) HT1.out.2.2 (by omega) hzl1000 HT1.out.1 HT1.out.2.1).mono ?_
            rintro e w1 ⟨g1, c1, rfl, hx1, hr1, hf1⟩
            have hb7 := hx1.keep HX2.out.2.1 (by simp)
            have hb8 := hx1.keep HX2.out.2.2 (by simp)
            have HX1 := Lib.hid (⟨HX2.out.1.trans hx1, hb7, hb8, hr1, hf1, lt_of_block HX2.out.2.2⟩ : _ ∧ _ ∧ _ ∧ _ ∧ _ ∧ _)
            clear hx1 hb7 hb8 hr1 hf1 HX2
            go_wp2_with (first | (refine wpList_store_row rfl 102 _ _ rfl wr.heap.size #[iz a.cnt, .bool a.mk, iz a.age, .slice (some ⟨ba, 0, none⟩) (syms a).length ca] rfl rfl 102 _ HX1.out.2.1 (by exact info4) rfl (by simp [Value.oneCell']) ?_))
            obtain ⟨W3, hW3⟩ : ∃ W3, w1.setRow wr.heap.size #[iz a.cnt, .bool a.mk, iz a.age, .slice (some ⟨ba, 0, none⟩) (syms a).length ca] = W3 := ⟨_, rfl⟩
            have hx3 : Ext [] wr W3 := by rw [← hW3]; exact ext_setRow HX1.out.1 _ _ (.inr (Nat.le_refl _))
            have hx31 : Ext [wr.heap.size] w1 W3 := by rw [← hW3]; exact ext_setRow (Ext.refl _ _) _ _ (.inl (by simp))
            have hb7 : W3.heap[wr.heap.size]? = some (.cells #[iz a.cnt, .bool a.mk, iz a.age, .slice (some ⟨ba, 0, none⟩) (syms a).length ca] 102 (0, 0)) := by rw [← hW3]; exact setRow_heap9 HX1.out.2.1
            have hb8 := hx31.keep HX1.out.2.2.1 (by simp)
            have hr1 := ownsRow_ext HX1.out.2.2.2.1 hx31 (fun g hg h => by have h1 := HX1.out.2.2.2.2.1 g (by simp [hg]); have h2 := HX1.out.2.2.2.2.2; simp at h; omega)
            rw [hW3]
            have HX3 := Lib.hid (⟨hx3, hb7, hb8, hr1⟩ : _ ∧ _ ∧ _ ∧ _)
            clear hx3 hx31 hb7 hb8 hr1 HX1 hW3
            refine (take_at _ Z1 Z2 b _ W3 HX3.out.2.2.2 HT3.out.2.2.1 (by have := HT7.out; omega) (by have := HT7.out; omega) HT3.out.1 HT3.out.2.1).mono ?_
            rintro e w2 ⟨g2, c2, rfl, hx2, hr2, hf2⟩
            have HX4 := Lib.hid (⟨HX3.out.1.trans hx2, hx2.keep HX3.out.2.1 (by simp), hx2.keep HX3.out.2.2.1 (by simp), hr2, hf2, lt_of_block HX3.out.2.2.1⟩ : _ ∧ _ ∧ _ ∧ _ ∧ _ ∧ _)
            clear hx2 hr2 hf2 HX3
            go_wp2_with (first | (refine wpList_store_row rfl 102 _ _ rfl (wr.heap.size + 1) #[iz b.cnt, .bool b.mk, iz b.age, .slice (some ⟨bb, 0, none⟩) (syms b).length cb] rfl rfl 102 _ HX4.out.2.2.1 (by exact info4) rfl (by simp [Value.oneCell']) ?_))
            obtain ⟨W5, hW5⟩ : ∃ W5, w2.setRow (wr.heap.size + 1) #[iz b.cnt, .bool b.mk, iz b.age, .slice (some ⟨bb, 0, none⟩) (syms b).length cb] = W5 := ⟨_, rfl⟩
            have hx5 : Ext [] wr W5 := by rw [← hW5]; exact ext_setRow HX4.out.1 _ _ (.inr (Nat.le_succ _))
            have hx51 : Ext [wr.heap.size + 1] w2 W5 := by rw [← hW5]; exact ext_setRow (Ext.refl _ _) _ _ (.inl (by simp))
            have hb8 : W5.heap[wr.heap.size + 1]? = some (.cells #[iz b.cnt, .bool b.mk, iz b.age, .slice (some ⟨bb, 0, none⟩) (syms b).length cb] 102 (0, 0)) := by rw [← hW5]; exact setRow_heap9 HX4.out.2.2.1
            have hb7 := hx51.keep HX4.out.2.1 (by simp)
            have hr2 := ownsRow_ext HX4.out.2.2.2.1 hx51 (fun g hg h => by have h1 := HX4.out.2.2.2.2.1 g (by simp [hg]); have h2 := HX4.out.2.2.2.2.2; simp at h; omega)
            have hf2 : ∀ k ∈ (Value.slice g2 Z2.length c2).ownBlock.toList, wr.heap.size ≤ k := fun k hk => by have h1 := HX4.out.2.2.2.2.1 k hk; have h2 := HX4.out.2.2.2.2.2; omega
            have q0 : ∀ z : Ex W5, z.w.cell? ⟨wr.heap.size, 0, none⟩ = some (iz a.cnt) := fun z => cellOf (z.heap hb7) 0
            have q3 : ∀ z : Ex W5, z.w.cell? ⟨wr.heap.size, 3, none⟩ = some (.slice (some ⟨ba, 0, none⟩) (syms a).length ca) := fun z => cellOf (z.heap hb7) 3
            have r0 : ∀ z : Ex W5, z.w.cell? ⟨wr.heap.size + 1, 0, none⟩ = some (iz b.cnt) := fun z => cellOf (z.heap hb8) 0
            have r3 : ∀ z : Ex W5, z.w.cell? ⟨wr.heap.size + 1, 3, none⟩ = some (.slice (some ⟨bb, 0, none⟩) (syms b).length cb) := fun z => cellOf (z.heap hb8) 3
            obtain ⟨s1, s2, s3⟩ := HI.out.2.2.1.two
            have s4 := HD.out.2
            have s5 : 0 ≤ a.cnt + b.cnt := by omega
            have s6 : a.cnt + b.cnt ≤ 1099511627776000 := by omega
            rw [hW5]
            have HX5 := Lib.hid (⟨hx5, hr2, hf2⟩ : _ ∧ _ ∧ _)
            clear hx5 hx51 hb7 hb8 hr2 hf2 HX4 hW5 s4 s3
            have HPC := Lib.hid (⟨fun i s hi => Ext.cell HX5.out.1 (HT6.out.2.2.2.1 i s hi), fun i s hi => Ext.cell HX5.out.1 (HT6.out.2.2.2.2 i s hi)⟩ : (∀ i s, (syms a)[i]? = some s → W5.cell? ⟨ba, i, none⟩ = some (iz (s : Nat))) ∧ ∀ i s, (syms b)[i]? = some s → W5.cell? ⟨bb, i, none⟩ = some (iz (s : Nat)))
            have hsabn : (syms a ++ syms b).Nodup := by
              have h1 := ((HT6.out.2.1.map (·.1)).flatMap_right syms).nodup_iff.1 HI.out.2.2.2.1
              simp only [List.map_cons, List.flatMap_cons] at h1
              rw [← List.append_assoc] at h1
              exact (List.nodup_append.1 h1).1
            have hsabl : ∀ s ∈ syms a ++ syms b, s < l.length := fun s hs => by
              rcases List.mem_append.1 hs with hs | hs
              · exact syms_lt _ a (HI.out.2.2.1.sz a (by simp)).1 s hs
              · exact syms_lt _ b (HI.out.2.2.1.sz b (by simp)).1 s hs
            have hsab : (syms a).length + (syms b).length ≤ 4000 := by
              have := nodup_le _ _ hsabn hsabl
              rw [List.length_append] at this
              omega
            have HSAB := Lib.hid (⟨hsabn, hsabl⟩ : _ ∧ _)
            clear hsabn hsabl
            obtain ⟨XS, hXS⟩ : ∃ XS, syms a ++ syms b = XS := ⟨_, rfl⟩
            have hXl : XS.length ≤ 4000 := by rw [← hXS, List.length_append]; exact hsab
            have HXS := Lib.hid hXS
            clear hXS
            go_cut [9] (fun x9 wx => JoinAt W5 (a.cnt + b.cnt) age XS x9 wx)
            case first =>
              refine wp_region_perm (C := fun w' => ∃ x : Ex W5, w' = x.w) [0, 1, 2, 3, 4, 5, 7, 8, 10, 11] 15 (by kernel_rfl) (by decide +kernel) ⟨Ex.mk _ ((Ext.refl [] W5).drew), rfl⟩ ?_
              simp only [pick, List.getElem?_toArray, List.getElem?_cons_zero, List.getElem?_cons_succ, List.drop_succ_cons, List.drop_zero]
              repeat (go_big_quiet_step (fail))
              refine wpQuiet_nil ?_
              clear q0 q3 r0 r3
              have F := Fl.start ((Ext.refl [] W5).drew)
              obtain ⟨V, hV⟩ : ∃ V, W5.drew = V := ⟨_, rfl⟩
              rw [hV] at F ⊢
              clear hV
-- BEGIN region
              refine anyC_two (f := 4) (i := 6) (j := 14) (by kernel_rfl) (by decide) (by decide) rfl rfl rfl rfl (fun K hK => ?_) (fun K hK => ?_)
              · skip
                skip
                go_wp2_with fail
                refine hK _ _ ⟨Ex.mk _ F.build.ext, rfl⟩ ?_
                clear hK K
                replace F := F.build
                obtain ⟨e0, he0⟩ : ∃ e0, V.heap.size = e0 := ⟨_, rfl⟩
                rw [he0] at F
                obtain ⟨V2, hV2⟩ : ∃ V2, V.alloc (.cells #[] 3) = V2 := ⟨_, rfl⟩
                rw [hV2] at F
                simp only [he0, hV2]
                clear he0 hV2 V
                obtain ⟨V, hV⟩ : ∃ V, V = V2 := ⟨_, rfl⟩
                subst hV
                refine anyC_two (f := 3) (i := 9) (j := 14) (by kernel_rfl) (by decide) (by decide) rfl rfl rfl rfl (fun K hK => ?_) (fun K hK => ?_)
                · skip
                  skip
                  obtain ⟨v1, V1, a1, F1⟩ := F.app ba ca (syms a) HPC.out.1 (by simp only [List.length_nil]; omega)
                  refine wp_append_run _ _ _ _ rfl rfl rfl (a1 22) ?_
                  refine hK _ _ ⟨Ex.mk _ F1.ext, rfl⟩ ?_
                  clear hK K a1 F
                  have F := F1
                  clear F1
                  clear V
                  obtain ⟨V, hV⟩ : ∃ V, V = V1 := ⟨_, rfl⟩
                  subst hV
                  refine anyC_two (f := 2) (i := 12) (j := 14) (by kernel_rfl) (by decide) (by decide) rfl rfl rfl rfl (fun K hK => ?_) (fun K hK => ?_)
                  · skip
                    skip
                    obtain ⟨v2, V2, a2, F2⟩ := F.app bb cb (syms b) HPC.out.2 (by simp only [List.nil_append]; omega)
                    rw [List.nil_append, HXS.out] at F2
                    obtain ⟨nb, cap7, rfl⟩ := F2.sl (by rw [← HXS.out]; have := syms_ne a; simp only [List.length_append]; omega)
                    refine wp_append_run _ _ _ _ rfl rfl rfl (a2 22) ?_
                    refine hK _ _ ⟨Ex.mk _ F2.ext, rfl⟩ ?_
                    clear hK K a2 F
                    have F := F2
                    clear F2
                    clear V
                    obtain ⟨V, hV⟩ : ∃ V, V = V2 := ⟨_, rfl⟩
                    subst hV
                    refine anyC_two (f := 1) (i := 13) (j := 14) (by kernel_rfl) (by decide) (by decide) rfl rfl rfl rfl (fun K hK => ?_) (fun K hK => ?_)
                    · skip
                      skip
                      go_wp2_with fail
                      refine hK _ _ ⟨Ex.mk _ F.ext, rfl⟩ ?_
                      clear hK K
                      refine anyC_one (f := 0) (i := 14) (by kernel_rfl) (by decide) rfl rfl (fun K hK => ?_)
                      go_wp2_with fail
                      refine hK _ _ ⟨Ex.mk _ F.flt.ext, rfl⟩ ?_
                      clear hK K
                      replace F := F.flt
                      obtain ⟨b9, hb9⟩ : ∃ b9, V.heap.size = b9 := ⟨_, rfl⟩
                      rw [hb9] at F
                      obtain ⟨V2, hV2⟩ : ∃ V2, V.alloc (.cells #[.int .i64 0, .bool false, .int .i64 0, .slice none 0 0] 102) = V2 := ⟨_, rfl⟩
                      rw [hV2] at F
                      simp only [hb9, hV2]
                      clear hb9 hV2 V
                      obtain ⟨V, hV⟩ : ∃ V, V = V2 := ⟨_, rfl⟩
                      subst hV
                      refine anyC_end (by kernel_rfl) ?_
                      obtain ⟨f1, f2, f3⟩ := F.fl _ rfl
                      go_wp2_with (first | (refine wpList_store_row rfl 102 _ _ rfl b9 #[iz (a.cnt + b.cnt), .bool true, iz (age : Int), .slice (some ⟨nb, 0, none⟩) XS.length cap7] rfl rfl 102 _ f1 (by exact info4) rfl (by simp [Value.oneCell']) ?_))
                      refine NoPanic.normal ?_
                      go_wp2_with fail
                      go_meet
                      exact F.done
                    · skip
                      go_wp2_with fail
                      refine hK _ _ ⟨Ex.mk _ F.flt.ext, rfl⟩ ?_
                      clear hK K
                      replace F := F.flt
                      obtain ⟨b9, hb9⟩ : ∃ b9, V.heap.size = b9 := ⟨_, rfl⟩
                      rw [hb9] at F
                      obtain ⟨V2, hV2⟩ : ∃ V2, V.alloc (.cells #[.int .i64 0, .bool false, .int .i64 0, .slice none 0 0] 102) = V2 := ⟨_, rfl⟩
                      rw [hV2] at F
                      simp only [hb9, hV2]
                      clear hb9 hV2 V
                      obtain ⟨V, hV⟩ : ∃ V, V = V2 := ⟨_, rfl⟩
                      subst hV
                      refine anyC_one (f := 0) (i := 13) (by kernel_rfl) (by decide) rfl rfl (fun K hK => ?_)
                      skip
                      go_wp2_with fail
                      refine hK _ _ ⟨Ex.mk _ F.ext, rfl⟩ ?_
                      clear hK K
                      refine anyC_end (by kernel_rfl) ?_
                      obtain ⟨f1, f2, f3⟩ := F.fl _ rfl
                      go_wp2_with (first | (refine wpList_store_row rfl 102 _ _ rfl b9 #[iz (a.cnt + b.cnt), .bool true, iz (age : Int), .slice (some ⟨nb, 0, none⟩) XS.length cap7] rfl rfl 102 _ f1 (by exact info4) rfl (by simp [Value.oneCell']) ?_))
                      refine NoPanic.normal ?_
                      go_wp2_with fail
                      go_meet
                      exact F.done
                  · skip
                    go_wp2_with fail
                    refine hK _ _ ⟨Ex.mk _ F.flt.ext, rfl⟩ ?_
                    clear hK K
                    replace F := F.flt
                    obtain ⟨b9, hb9⟩ : ∃ b9, V.heap.size = b9 := ⟨_, rfl⟩
                    rw [hb9] at F
                    obtain ⟨V2, hV2⟩ : ∃ V2, V.alloc (.cells #[.int .i64 0, .bool false, .int .i64 0, .slice none 0 0] 102) = V2 := ⟨_, rfl⟩
                    rw [hV2] at F
                    simp only [hb9, hV2]
                    clear hb9 hV2 V
                    obtain ⟨V, hV⟩ : ∃ V, V = V2 := ⟨_, rfl⟩
                    subst hV
                    refine anyC_one (f := 1) (i := 12) (by kernel_rfl) (by decide) rfl rfl (fun K hK => ?_)
                    skip
                    obtain ⟨v2, V2, a2, F2⟩ := F.app bb cb (syms b) HPC.out.2 (by simp only [List.nil_append]; omega)
                    rw [List.nil_append, HXS.out] at F2
                    obtain ⟨nb, cap7, rfl⟩ := F2.sl (by rw [← HXS.out]; have := syms_ne a; simp only [List.length_append]; omega)
                    refine wp_append_run _ _ _ _ rfl rfl rfl (a2 22) ?_
                    refine hK _ _ ⟨Ex.mk _ F2.ext, rfl⟩ ?_
                    clear hK K a2 F
                    have F := F2
                    clear F2
                    clear V
                    obtain ⟨V, hV⟩ : ∃ V, V = V2 := ⟨_, rfl⟩
                    subst hV
                    refine anyC_one (f := 0) (i := 13) (by kernel_rfl) (by decide) rfl rfl (fun K hK => ?_)
                    skip
                    go_wp2_with fail
                    refine hK _ _ ⟨Ex.mk _ F.ext, rfl⟩ ?_
                    clear hK K
                    refine anyC_end (by kernel_rfl) ?_
                    obtain ⟨f1, f2, f3⟩ := F.fl _ rfl
                    go_wp2_with (first | (refine wpList_store_row rfl 102 _ _ rfl b9 #[iz (a.cnt + b.cnt), .bool true, iz (age : Int), .slice (some ⟨nb, 0, none⟩) XS.length cap7] rfl rfl 102 _ f1 (by exact info4) rfl (by simp [Value.oneCell']) ?_))
                    refine NoPanic.normal ?_
                    go_wp2_with fail
                    go_meet
                    exact F.done
                · skip
                  go_wp2_with fail
                  refine hK _ _ ⟨Ex.mk _ F.flt.ext, rfl⟩ ?_
                  clear hK K
                  replace F := F.flt
                  obtain ⟨b9, hb9⟩ : ∃ b9, V.heap.size = b9 := ⟨_, rfl⟩
                  rw [hb9] at F
                  obtain ⟨V2, hV2⟩ : ∃ V2, V.alloc (.cells #[.int .i64 0, .bool false, .int .i64 0, .slice none 0 0] 102) = V2 := ⟨_, rfl⟩
                  rw [hV2] at F
                  simp only [hb9, hV2]
                  clear hb9 hV2 V
                  obtain ⟨V, hV⟩ : ∃ V, V = V2 := ⟨_, rfl⟩
                  subst hV
                  refine anyC_one (f := 2) (i := 9) (by kernel_rfl) (by decide) rfl rfl (fun K hK => ?_)
                  skip
                  obtain ⟨v1, V1, a1, F1⟩ := F.app ba ca (syms a) HPC.out.1 (by simp only [List.length_nil]; omega)
                  refine wp_append_run _ _ _ _ rfl rfl rfl (a1 22) ?_
                  refine hK _ _ ⟨Ex.mk _ F1.ext, rfl⟩ ?_
                  clear hK K a1 F
                  have F := F1
                  clear F1
                  clear V
                  obtain ⟨V, hV⟩ : ∃ V, V = V1 := ⟨_, rfl⟩
                  subst hV
                  refine anyC_one (f := 1) (i := 12) (by kernel_rfl) (by decide) rfl rfl (fun K hK => ?_)
                  skip
                  obtain ⟨v2, V2, a2, F2⟩ := F.app bb cb (syms b) HPC.out.2 (by simp only [List.nil_append]; omega)
                  rw [List.nil_append, HXS.out] at F2
                  obtain ⟨nb, cap7, rfl⟩ := F2.sl (by rw [← HXS.out]; have := syms_ne a; simp only [List.length_append]; omega)
                  refine wp_append_run _ _ _ _ rfl rfl rfl (a2 22) ?_
                  refine hK _ _ ⟨Ex.mk _ F2.ext, rfl⟩ ?_
                  clear hK K a2 F
                  have F := F2
                  clear F2
                  clear V
                  obtain ⟨V, hV⟩ : ∃ V, V = V2 := ⟨_, rfl⟩
                  subst hV
                  refine anyC_one (f := 0) (i := 13) (by kernel_rfl) (by decide) rfl rfl (fun K hK => ?_)
                  skip
                  go_wp2_with fail
                  refine hK _ _ ⟨Ex.mk _ F.ext, rfl⟩ ?_
                  clear hK K
                  refine anyC_end (by kernel_rfl) ?_
                  obtain ⟨f1, f2, f3⟩ := F.fl _ rfl
                  go_wp2_with (first | (refine wpList_store_row rfl 102 _ _ rfl b9 #[iz (a.cnt + b.cnt), .bool true, iz (age : Int), .slice (some ⟨nb, 0, none⟩) XS.length cap7] rfl rfl 102 _ f1 (by exact info4) rfl (by simp [Value.oneCell']) ?_))
                  refine NoPanic.normal ?_
                  go_wp2_with fail
                  go_meet
                  exact F.done
              · skip
                go_wp2_with fail
                refine hK _ _ ⟨Ex.mk _ F.flt.ext, rfl⟩ ?_
                clear hK K
                replace F := F.flt
                obtain ⟨b9, hb9⟩ : ∃ b9, V.heap.size = b9 := ⟨_, rfl⟩
                rw [hb9] at F
                obtain ⟨V2, hV2⟩ : ∃ V2, V.alloc (.cells #[.int .i64 0, .bool false, .int .i64 0, .slice none 0 0] 102) = V2 := ⟨_, rfl⟩
                rw [hV2] at F
                simp only [hb9, hV2]
                clear hb9 hV2 V
                obtain ⟨V, hV⟩ : ∃ V, V = V2 := ⟨_, rfl⟩
                subst hV
                refine anyC_one (f := 3) (i := 6) (by kernel_rfl) (by decide) rfl rfl (fun K hK => ?_)
                skip
                go_wp2_with fail
                refine hK _ _ ⟨Ex.mk _ F.build.ext, rfl⟩ ?_
                clear hK K
                replace F := F.build
                obtain ⟨e0, he0⟩ : ∃ e0, V.heap.size = e0 := ⟨_, rfl⟩
                rw [he0] at F
                obtain ⟨V2, hV2⟩ : ∃ V2, V.alloc (.cells #[] 3) = V2 := ⟨_, rfl⟩
                rw [hV2] at F
                simp only [he0, hV2]
                clear he0 hV2 V
                obtain ⟨V, hV⟩ : ∃ V, V = V2 := ⟨_, rfl⟩
                subst hV
                refine anyC_one (f := 2) (i := 9) (by kernel_rfl) (by decide) rfl rfl (fun K hK => ?_)
                skip
                obtain ⟨v1, V1, a1, F1⟩ := F.app ba ca (syms a) HPC.out.1 (by simp only [List.length_nil]; omega)
                refine wp_append_run _ _ _ _ rfl rfl rfl (a1 22) ?_
                refine hK _ _ ⟨Ex.mk _ F1.ext, rfl⟩ ?_
                clear hK K a1 F
                have F := F1
                clear F1
                clear V
                obtain ⟨V, hV⟩ : ∃ V, V = V1 := ⟨_, rfl⟩
                subst hV
                refine anyC_one (f := 1) (i := 12) (by kernel_rfl) (by decide) rfl rfl (fun K hK => ?_)
                skip
                obtain ⟨v2, V2, a2, F2⟩ := F.app bb cb (syms b) HPC.out.2 (by simp only [List.nil_append]; omega)
                rw [List.nil_append, HXS.out] at F2
                obtain ⟨nb, cap7, rfl⟩ := F2.sl (by rw [← HXS.out]; have := syms_ne a; simp only [List.length_append]; omega)
                refine wp_append_run _ _ _ _ rfl rfl rfl (a2 22) ?_
                refine hK _ _ ⟨Ex.mk _ F2.ext, rfl⟩ ?_
                clear hK K a2 F
                have F := F2
                clear F2
                clear V
                obtain ⟨V, hV⟩ : ∃ V, V = V2 := ⟨_, rfl⟩
                subst hV
                refine anyC_one (f := 0) (i := 13) (by kernel_rfl) (by decide) rfl rfl (fun K hK => ?_)
                skip
                go_wp2_with fail
                refine hK _ _ ⟨Ex.mk _ F.ext, rfl⟩ ?_
                clear hK K
                refine anyC_end (by kernel_rfl) ?_
                obtain ⟨f1, f2, f3⟩ := F.fl _ rfl
                go_wp2_with (first | (refine wpList_store_row rfl 102 _ _ rfl b9 #[iz (a.cnt + b.cnt), .bool true, iz (age : Int), .slice (some ⟨nb, 0, none⟩) XS.length cap7] rfl rfl 102 _ f1 (by exact info4) rfl (by simp [Value.oneCell']) ?_))
                refine NoPanic.normal ?_
                go_wp2_with fail
                go_meet
                exact F.done
                -- END region
            case rest =>
              clear q0 q3 r0 r3
              obtain ⟨nb, cap7, b9, rfl, hx7, hb9, ho7, hn1, hn2, hn3⟩ := hcut
              obtain ⟨J, hJ⟩ : ∃ J, Nd.join (a.cnt + b.cnt) age a b = J := ⟨_, rfl⟩
              have hJs : syms J = XS := by rw [← hJ, syms_join]; exact HXS.out
              rw [← hJs] at hb9 ho7
              obtain ⟨j1, j2⟩ := HT6.out.2.2.1.joined (J := J) (fun p hp => HT6.out.2.1.mem_iff.2 (by simp [hp])) HX5.out.1 HX5.out.2.1 HX5.out.2.2 hx7 ho7 hn1
              have hxwc : Ext [] wr wc := HX5.out.1.trans hx7
              have S1 := HS.out.upd 0 (oRL (.slice g2 Z2.length c2) (nb :: N) Z2 [(J, .slice (some ⟨nb, 0, none⟩) (syms J).length cap7)]) rfl (hxwc.mono (by simp)) j2 j1
              rw [hJs] at hb9 ho7 S1
              have hq9 : q ≠ b9 := fun e => by
                have h1 := (oSl 3 1 (.slice (some ⟨q, 0, none⟩) l.length l.length) l.length (M.map iz)).lt (HS.out.get 1 rfl) q (by simp [oSl, Value.ownBlock])
                have h2 := HX5.out.1.size
                omega
              have HJ := Lib.hid (⟨hJ, hJs⟩ : _ ∧ _)
              have HS1 := Lib.hid S1
              have HB9 := Lib.hid hb9
              have HPQ := Lib.hid (fun i s hi => ownsRow_at ho7 (by rw [List.getElem?_map, hi]; rfl) : ∀ i s, XS[i]? = some s → wc.cell? ⟨nb, i, none⟩ = some (iz (s : Nat)))
              have hnb : nb ≠ q := fun e => by
                have h1 := (oSl 3 1 (.slice (some ⟨q, 0, none⟩) l.length l.length) l.length (M.map iz)).lt (HS.out.get 1 rfl) q (by simp [oSl, Value.ownBlock])
                have h2 := HX5.out.1.size
                omega
              clear j1 j2 hxwc S1 hJ hJs hx7 hb9 ho7 hn1 hn2
              go_wp2_with fail
              go_loopg [10] XS.length (fun g iv wr => ∃ i : Nat, g + i = XS.length ∧ iv = .int .i64 i ∧ wr.heap[b9]? = some (.cells #[iz (a.cnt + b.cnt), .bool true, iz (age : Int), .slice (some ⟨nb, 0, none⟩) XS.length cap7] 102 (0, 0)) ∧
                Sep w wr [oRL (.slice g2 Z2.length c2) (nb :: N) Z2 [(J, .slice (some ⟨nb, 0, none⟩) XS.length cap7)], oSl 3 1 (.slice (some ⟨q, 0, none⟩) l.length l.length) l.length ((incF M (XS.take i)).map iz)])
              case atStart => exact ⟨0, by omega, rfl, HB9.out, HS1.out⟩
              case round =>
                clear HS1 HB9
                obtain ⟨i, hi, rfl, hb9, S1⟩ := hrel
                have c3 : wr.cell? ⟨b9, 3, none⟩ = some (.slice (some ⟨nb, 0, none⟩) XS.length cap7) := cellOf hb9 3
                by_cases hil : i < XS.length
                · obtain ⟨s, hs⟩ : ∃ s, XS[i]? = some s := ⟨_, List.getElem?_eq_getElem hil⟩
                  have hsl : s < l.length := HSAB.out.2 s (by rw [HXS.out]; exact List.mem_of_getElem? hs)
                  have p0 : wr.cell? ⟨nb, i, none⟩ = some (iz (s : Nat)) := by
                    have h0 : RL wr (.slice g2 Z2.length c2) (nb :: N) Z2 [(J, .slice (some ⟨nb, 0, none⟩) XS.length cap7)] := S1.get 0 rfl
                    obtain ⟨b', c', e, _, hc⟩ := h0.parts (J, .slice (some ⟨nb, 0, none⟩) XS.length cap7) (by simp)
                    injection e with e1 _ _
                    injection e1 with e1
                    injection e1 with e1 _ _
                    subst e1
                    exact hc i s (by rw [HJ.out.2]; exact hs)
                  have hrow : wr.ownsRow 0 3 1 (.slice (some ⟨q, 0, none⟩) l.length l.length) l.length ((incF M (XS.take i)).map iz) := S1.get 1 rfl
                  have hMl : M.length = l.length := HI.out.2.1.1
                  obtain ⟨y, hy⟩ : ∃ y, (incF M (XS.take i))[s]? = some y := ⟨_, List.getElem?_eq_getElem (by rw [incF_len]; omega)⟩
                  have hyb := incF_bd (XS.take i) M (2000 * (age : Int)) (by rw [← HXS.out]; exact HSAB.out.1.sublist (List.take_sublist _ _)) HI.out.2.2.2.2.2.2 y (List.mem_of_getElem? hy)
                  have o0 : wr.cell? ⟨q, s, none⟩ = some (iz y) := ownsRow_at hrow (by rw [List.getElem?_map, hy]; rfl)
                  have o1 := ownsRow_free hrow s
                  have hst := ownsRow_store (i := s) hrow (iz (y + 1))
                  have hsn := incF_snoc M XS i s hs
                  rw [List.getD_eq_getElem?_getD, hy] at hsn
                  simp only [Option.getD_some] at hsn
                  rw [← List.map_set, ← hsn] at hst
                  have S2 := S1.upd 1 (oSl 3 1 (.slice (some ⟨q, 0, none⟩) l.length l.length) l.length ((incF M (XS.take (i + 1))).map iz)) rfl ((Ext.refl _ wr).setCell ⟨q, s, none⟩ (iz (y + 1)) (.inl (by simp [oSl, Value.ownBlock]))) (Fr.refl _ _) hst
                  have hb9' : (wr.setCell ⟨q, s, none⟩ (iz (y + 1))).heap[b9]? = _ := (heap_setCell_ne _ (fun e => hq9 e.symm)).trans hb9
                  have HS2 := Lib.hid (⟨S2, hb9'⟩ : _ ∧ _)
                  have y1 : 0 ≤ y := hyb.1
                  have y2 : y ≤ 2001001 := by omega
                  have x1 : (i : Int) < (XS.length : Int) := by omega
                  have s0 : (0 : Int) ≤ (s : Int) := by omega
                  have s1' : (s : Int) < (l.length : Int) := by omega
                  clear S1 S2 hb9 hb9' hst hsn hrow hs hy hyb hMl
                  go_wp2_with fail
                  go_roundg (XS.length - (i + 1))
                  case measure => omega
                  case rel => exact ⟨i + 1, by omega, by go_num, HS2.out.2, HS2.out.1⟩
                · obtain rfl : i = XS.length := by omega
                  rw [List.take_length] at S1
                  have hrl3 : RL wr (.slice g2 Z2.length c2) (nb :: N) Z2 [(J, .slice (some ⟨nb, 0, none⟩) XS.length cap7)] := S1.get 0 rfl
                  have hrow := hrl3.row
                  have hJp := hrl3.parts (J, .slice (some ⟨nb, 0, none⟩) XS.length cap7) (by simp)
                  have x1 : ¬ (XS.length : Int) < (XS.length : Int) := by omega
                  have HF := Lib.hid (⟨S1, hrl3, hJp⟩ : _ ∧ _ ∧ _)
                  have HB9 := Lib.hid hb9
                  have hz2l : Z2.length ≤ 1000 := by have := HT7.out; omega
                  clear S1 hrl3 hJp hb9
                  go_wp2_with (first | (refine wpList_load_row rfl 102 _ rfl b9 rfl 102 #[iz (a.cnt + b.cnt), .bool true, iz (age : Int), .slice (some ⟨nb, 0, none⟩) XS.length cap7] (0, 0) _ HB9.out Try.underlying102 rfl (by exact info4) ?_) | (at_builtin; refine wpList_append_lies _ rfl _ _ 100 rfl 0 102 j0 _ 4 48 Try.underlying100 hjf hy0 hy1 hy2 rfl (by decide) (.slice g2 Z2.length c2) Z2.length _ rfl (hrow.alloc _) ⟨wr.heap.size, 0, none⟩ 1 1 [iz (a.cnt + b.cnt), .bool true, iz (age : Int), .slice (some ⟨nb, 0, none⟩) XS.length cap7] rfl rfl (cells4_at rfl rfl) (by simp [Value.oneCell']) (by decide) (by unfold maxLen; omega) (by omega) (by omega) (wr.heap.size + 1) (by simp) ?_; intro g cap2 w1 hown1 hgrow hat hlt))
                  have hown2 : w1.ownsRow 0 102 4 (.slice (some ⟨g, 0, none⟩) (Z2.length + 1) cap2) (Z2.length + 1) (rowC Z2 ++ [iz J.cnt, .bool J.mk, iz J.age, .slice (some ⟨nb, 0, none⟩) XS.length cap7]) := by rw [← HJ.out.1]; exact hown1
                  obtain ⟨r1, r2, r3⟩ := HF.out.2.1.push (N' := nb :: N) (Ext.refl [] wr) HF.out.2.2 (fun k hk => hk) (fun k hk => .inl hk) hown2 hgrow hat
                  obtain ⟨Y, hY⟩ : ∃ Y : List Zn, Z2 ++ [(J, Value.slice (some ⟨nb, 0, none⟩) XS.length cap7)] = Y := ⟨_, rfl⟩
                  rw [hY] at r1 r3
                  have hYl : Y.length = Z2.length + 1 := by rw [← hY]; simp
                  have hYm : Y.map (·.1) = Z2.map (·.1) ++ [J] := by rw [← hY]; simp
                  have HR3 := Lib.hid (⟨r1, r2, r3, hYm⟩ : _ ∧ _ ∧ _ ∧ _)
                  clear r1 r2 r3 hown1 hown2 hgrow hat hlt hrow hYm hY
                  rw [← hYl]
                  go_roundg gk'
                  case measure => omega
                  case rel =>
                    obtain ⟨hT, hdm, hinv, hnd, hsrt, hper, hM⟩ := HI.out
                    have hpY : (Y.map (·.1)).Perm (J :: Z2.map (·.1)) := by rw [HR3.out.2.2.2]; exact List.perm_append_comm
                    have hpZ : (Z.map (·.1)).Perm (a :: b :: Z2.map (·.1)) := HT6.out.2.1.map (·.1)
                    have hi2 := hinv.step
                    rw [HJ.out.1] at hi2
                    have hs2 := tri_srt (c := a.cnt + b.cnt) (g := age) hsrt hinv.young
                    rw [HJ.out.1] at hs2
                    have hnd2 := (hpZ.flatMap_right syms).nodup_iff.1 hnd
                    have hdm2 := (hdm.perm (L' := a :: b :: Z2.map (·.1)) (fun x => hpZ.mem_iff.symm)).join (c := a.cnt + b.cnt) (g := age) hnd2
                    rw [HJ.out.1, HJ.out.2] at hdm2
                    refine ⟨age + 1, nb :: N, Y, insS J S2, incF M XS, some ⟨g, 0, none⟩, cap2, by omega, by go_num, rfl, by have := HT7.out; omega, ?_, hdm2.perm (fun x => hpY.mem_iff), hi2, ?_, hs2, ?_, ?_, HF.out.1.upd 0 (oRL (.slice (some ⟨g, 0, none⟩) Y.length cap2) (nb :: N) Y []) rfl HR3.out.2.1 HR3.out.2.2.1 HR3.out.1⟩
                    · rw [mrgF, HJ.out.1] at hT; exact hT
                    · refine ((hpY.flatMap_right syms).nodup_iff).2 ?_
                      rw [List.flatMap_cons, HJ.out.2, ← HXS.out]
                      simp only [List.flatMap_cons, ← List.append_assoc] at hnd2
                      exact hnd2
                    · exact hpY.trans ((HT6.out.1.cons J).trans (insS_perm J S2).symm)
                    · intro y hy
                      have := incF_bd XS M (2000 * (age : Int)) (by rw [← HXS.out]; exact HSAB.out.1) hM y hy
                      omega
          · have h2' : ¬ (1 : Int) < (Z.length : Int) := by omega
            obtain ⟨hT, hdm, hinv, hnd, hsrt, hper, hM⟩ := HI.out
            have hZS : Z.length = S.length := by rw [← hper.length_eq]; simp
            have hST : S = T := by rw [← hT]; exact (mrgF_stop gk age S (by omega)).symm
            have hdeep : deepN l = M := by
              rw [HD.out.1, ← hST]
              match S, hZS with
              | [], h0 =>
                have hZ0 : Z = [] := List.eq_nil_of_length_eq_zero h0
                subst hZ0
                apply List.ext_getElem?
                intro s
                by_cases hs : s < l.length
                · rw [(hdm.2 s hs).2 (by simp), topD, zers, List.getElem?_replicate, if_pos hs]
                · rw [List.getElem?_eq_none (by rw [topD, zers, List.length_replicate]; omega), List.getElem?_eq_none (by rw [hdm.1]; omega)]
              | [x], _ =>
                have hZx : Z.map (·.1) = [x] := List.perm_singleton.1 hper
                rw [hZx] at hdm hnd
                rw [List.flatMap_cons, List.flatMap_nil, List.append_nil] at hnd
                rw [hdm.uniq hnd, topD, setD_all]
              | _ :: _ :: _, h0 => simp at h0; omega
            have HDM := Lib.hid hdeep
            clear hT hdm hinv hnd hsrt hper hM hdeep hZS hST HI HD
            go_wp2_with fail
            go_ret
            exact ⟨.slice (some ⟨q, 0, none⟩) l.length l.length, rfl, HS.out.ext, by rw [deepN_len, HDM.out]; exact HS.out.get 1 rfl, HS.out.base _ (List.mem_cons_of_mem _ (List.mem_cons_self ..))⟩
end Go.Proofs.Ytchhgbhbldfofaa.Hu
