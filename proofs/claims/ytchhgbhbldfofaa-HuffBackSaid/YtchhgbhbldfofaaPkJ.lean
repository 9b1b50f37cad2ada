/-
  HvD, HvE, HuL, HvF, in one text.
-/
import Derived.Test.YtchhgbhbldfofaaPkI
import Derived.Test.YtchhgbhbldfofaaPkH
import Derived.Deep.CutBlock
import Derived.Deep.DeepCutAuto
import Derived.Deep.Strs
/-! HvD: The document's 'deep' (chapter 7) walked. -/
namespace Go.Proofs.Ytchhgbhbldfofaa.Hu
open Go.RowKit

theorem syms_leaf (c : Int) (s : Nat) : syms (.leaf c s) = [s] := rfl
theorem cells4_at {w W : World} {x y z u : Value} {t : TypeId} {b : Nat} (hW : w.alloc (.cells #[x, y, z, u] t) = W) (hb : w.heap.size = b) : ∀ j v, ([x, y, z, u] : List Value)[j]? = some v → W.cell? ((⟨b, 0, none⟩ : Addr).add j) = some v := fun j v hv => by
  subst hW hb
  rw [Addr.add_mid, Nat.zero_add]
  have h : (w.alloc (.cells #[x, y, z, u] t)).heap[w.heap.size]? = some (.cells #[x, y, z, u] t (0, 0)) := heap_alloc_at _
  rw [cellOf h, ← Array.getElem?_toList]
  exact hv
theorem cells4_new (w : World) (x : Value) (y : Value) (z : Value) (u : Value) (t : TypeId) : ∀ j v, ([x, y, z, u] : List Value)[j]? = some v → (w.alloc (.cells #[x, y, z, u] t)).cell? ((⟨w.heap.size, 0, none⟩ : Addr).add j) = some v := fun j v hv => by
  rw [Addr.add_mid, Nat.zero_add]
  have h : (w.alloc (.cells #[x, y, z, u] t)).heap[w.heap.size]? = some (.cells #[x, y, z, u] t (0, 0)) := heap_alloc_at _
  rw [cellOf h, ← Array.getElem?_toList]
  exact hv
set_option maxRecDepth 100000 in
set_option maxHeartbeats 2000000 in
theorem rdeep_walk (v : Value) (l : List Int) (w : World) (hv : IntsAt w v l) (hl : l.length ≤ 1000) (hc : ∀ c ∈ l, c ≤ 1099511627776) :
    Calls Try.prog 42 #[v] w (NewInts w (deepN l)) := by
  obtain ⟨i0, hif, hz0, hz1, hz2⟩ := info_parts infoInt7
  obtain ⟨j0, hjf, hy0, hy1, hy2⟩ := info_parts infoRNode
  obtain ⟨R, hR⟩ : ∃ R, leavesF l 0 = R := ⟨_, rfl⟩
  have HR := Lib.hid hR
  have HR0 := Lib.hid hR
  have HV := Lib.hid hv
  obtain ⟨ao, cap, rfl, hcl⟩ := hv
  have HC := Lib.hid hcl
  have HCC := Lib.hid hc
  obtain ⟨wm, hmk, hown, hgrow⟩ := run_make_full (P := Try.prog) w 0 22 3 i0 (.int .i64 0) 1 Try.underlying22 hif hz0 hz1 .i64 .i64 l.length (by rw [hz2]; omega) (by unfold maxLen; omega) (by omega)
  have hx4 : Ext [] w wm := (Ext.refl [] w).grown hgrow (fun k hk => by cases hk)
  have S := (Sep.start w).new hx4 (oSl 3 1 (.slice (some ⟨w.heap.size, 0, none⟩) l.length l.length) l.length ((zers l.length).map iz)) (by
    have hm : (madeCells (Value.int .i64 0).cells (l.length * 1)).toList = (zers l.length).map iz := by
      rw [zers, List.map_replicate, Nat.mul_one]
      exact toList_madeCells_one _ _
    rw [← hm]; exact hown) (fun q hq => by simp [oSl, Value.ownBlock] at hq; omega)
  obtain ⟨q, hq⟩ : ∃ q, w.heap.size = q := ⟨_, rfl⟩
  rw [hq] at hmk S
  have S := S.new (Ext.refl [] wm) (oRL (.slice none 0 0) [] [] []) ⟨World.ownsRow_nil _ _ _ _, by simp, by simp [Value.ownBlock], by simp⟩ (fun k hk => by simp [oRL, Value.ownBlock] at hk)
  have HS := Lib.hid S
  clear hx4 hown hgrow S hq hR hcl hc
  go_enter Try.func42, Try.ntmps42
  go_wp2_with fail
  clear hmk
  go_loopg [4, 5] l.length (fun g lv iv wr => ∃ (i : Nat) (N : List Nat) (Z : List Zn) (ao4 : Option Addr) (cap4 : Nat), g + i = l.length ∧ iv = .int .i64 i ∧ lv = .slice ao4 Z.length cap4 ∧ Z.length ≤ i ∧ Z.map (·.1) ++ leavesF (l.drop i) i = R ∧ Sep w wr [oRL (.slice ao4 Z.length cap4) N Z [], oSl 3 1 (.slice (some ⟨q, 0, none⟩) l.length l.length) l.length ((zers l.length).map iz)])
  case atStart => exact ⟨0, [], [], none, 0, by omega, rfl, rfl, by simp, by rw [List.drop_zero]; exact HR.out, HS.out⟩
  case round =>
    clear HS HR
    obtain ⟨i, N, Z, ao4, cap4, hi, rfl, rfl, hZ, hR, S⟩ := hrel
    by_cases hil : i < l.length
    · obtain ⟨b, off, rfl, hcell⟩ := HC.out (by omega)
      obtain ⟨x, hck⟩ : ∃ x, l[i]? = some x := ⟨_, List.getElem?_eq_getElem hil⟩
      have d0 := Ext.cell S.ext (hcell i x hck)
      have hxr := HCC.out x (List.mem_of_getElem? hck)
      have hdr : l.drop i = x :: l.drop (i + 1) := by
        obtain ⟨h1, h2⟩ := List.getElem?_eq_some_iff.1 hck
        rw [List.drop_eq_getElem_cons h1, h2]
      rw [hdr, leavesF] at hR
      clear hdr hcell hck
      by_cases h0 : 0 < x
      · rw [if_pos h0] at hR
        have hrl : RL wr (.slice ao4 Z.length cap4) N Z [] := S.get 0 rfl
        have hrow := hrl.row
        have HF := Lib.hid (⟨hR, hrl, S⟩ : _ ∧ _ ∧ _)
        clear hR hrl S
        go_wp2_with (first | (at_builtin; refine wpList_append_lies _ rfl _ _ 100 rfl 0 102 j0 _ 4 48 Try.underlying100 hjf hy0 hy1 hy2 rfl (by decide) (.slice ao4 Z.length cap4) Z.length _ rfl ((hrow.alloc _).alloc _) ⟨wr.heap.size + 1, 0, none⟩ 1 1 [iz x, .bool false, iz (i : Int), .slice (some ⟨wr.heap.size, 0, none⟩) 1 1] rfl rfl (cells4_at rfl (by simp)) (by simp [Value.oneCell']) (by decide) (by unfold maxLen; omega) (by omega) (by omega) (wr.heap.size + 2) (by simp) ?_; intro g cap2 w1 hown1 hgrow hat hlt))
        have hP : PartIn (wr.alloc (.cells #[iz (i : Int)] 3)) (wr.heap.size :: N) (.leaf x i, .slice (some ⟨wr.heap.size, 0, none⟩) 1 1) := by
          refine ⟨wr.heap.size, 1, rfl, by simp, fun j s hj => ?_⟩
          rw [syms_leaf] at hj
          have hb : (wr.alloc (.cells #[iz (i : Int)] 3)).heap[wr.heap.size]? = some (.cells #[iz (i : Int)] 3 (0, 0)) := heap_alloc_at _
          rw [cellOf hb]
          cases j with
          | zero => simp at hj; subst hj; rfl
          | succ j => simp at hj
        have hsz : (wr.alloc (.cells #[iz (i : Int)] 3)).heap.size = wr.heap.size + 1 := by simp
        obtain ⟨r1, r2, r3⟩ := RL.push (N' := wr.heap.size :: N) HF.out.2.1 ((Ext.refl [] wr).alloc (.cells #[iz (i : Int)] 3)) hP (fun k hk => by simp [hk]) (fun k hk => by
          rcases List.mem_cons.1 hk with rfl | hk
          · exact .inr ⟨Nat.le_refl _, by omega⟩
          · exact .inl hk) hown1 hgrow (by rw [hsz]; exact hat)
        obtain ⟨Y, hY⟩ : ∃ Y : List Zn, Z ++ [(Nd.leaf x i, Value.slice (some ⟨wr.heap.size, 0, none⟩) 1 1)] = Y := ⟨_, rfl⟩
        rw [hY] at r1 r3
        have hYl : Y.length = Z.length + 1 := by rw [← hY]; simp
        have hYm : Y.map (·.1) ++ leavesF (l.drop (i + 1)) (i + 1) = R := by rw [← hY, ← HF.out.1]; simp
        have HR3 := Lib.hid (⟨r1, r2, r3, hYm⟩ : _ ∧ _ ∧ _ ∧ _)
        clear r1 r2 r3 hown1 hgrow hat hlt hP hsz hrow hYm
        rw [← hYl]
        go_roundg (l.length - (i + 1))
        case measure => omega
        case rel => exact ⟨i + 1, wr.heap.size :: N, Y, some ⟨g, 0, none⟩, cap2, by omega, by go_num, rfl, by omega, HR3.out.2.2.2, HF.out.2.2.upd 0 (oRL (.slice (some ⟨g, 0, none⟩) Y.length cap2) (wr.heap.size :: N) Y []) rfl HR3.out.2.1 HR3.out.2.2.1 HR3.out.1⟩
      · rw [if_neg h0] at hR
        have HF := Lib.hid (⟨hR, S⟩ : _ ∧ _)
        clear hR S
        go_wp2_with fail
        go_roundg (l.length - (i + 1))
        case measure => omega
        case rel => exact ⟨i + 1, N, Z, ao4, cap4, by omega, by go_num, rfl, by omega, HF.out.1, HF.out.2⟩
    · obtain rfl : i = l.length := by omega
      rw [List.drop_length, leavesF, List.append_nil] at hR
      have HR := Lib.hid hR
      have HS := Lib.hid S
      clear hR S HC
      by_cases h1 : Z.length = 1
      · have h1' : ((Z.length : Int) == 1) = true := by simp [h1]
        obtain ⟨p, rfl⟩ : ∃ p, Z = [p] := by
          match Z, h1 with
          | [p], _ => exact ⟨p, rfl⟩
        have hleaf : leavesF l 0 = [p.1] := by rw [HR0.out]; exact HR.out.symm
        obtain ⟨c, s, hps, _, hsl, _⟩ := leavesF_mem l 0 p.1 (by rw [hleaf]; simp)
        rw [Nat.zero_add] at hsl
        have hdeep : deepN l = (zers l.length).set s 1 := by rw [deepN_one hleaf, hps]; rfl
        have hrl : RL wr (.slice ao4 1 cap4) N [p] [] := HS.out.get 0 rfl
        obtain ⟨g, cap5, hg5⟩ : ∃ g cap5, Value.slice ao4 1 cap4 = .slice (some ⟨g, 0, none⟩) 1 cap5 := by
          rcases hrl.row.2 with ⟨_, h⟩ | ⟨g, cap5, cur, he, _⟩
          · simp at h
          · exact ⟨g, cap5, he⟩
        injection hg5 with hg6 _ hg7
        subst hg6 hg7
        obtain ⟨pb, pcap, hp2, hpN, hpc⟩ := hrl.parts p (by simp)
        rw [hps, syms_leaf] at hp2 hpc
        have c3 : wr.cell? ⟨g, 3, none⟩ = some (.slice (some ⟨pb, 0, none⟩) 1 pcap) := by
          have h := hrl.row.cells (g := g) rfl 3 p.2 (by simp [rowC])
          rw [hp2] at h
          simpa [Addr.add_lit] using h
        have c4 : wr.cell? ⟨pb, 0, none⟩ = some (iz (s : Nat)) := hpc 0 s rfl
        have hout : wr.ownsRow 0 3 1 (.slice (some ⟨q, 0, none⟩) l.length l.length) l.length ((zers l.length).map iz) := HS.out.get 1 rfl
        have o0 : wr.cell? ⟨q, s, none⟩ = some (iz 0) := ownsRow_at hout (by rw [List.getElem?_map, zers, List.getElem?_replicate, if_pos hsl]; rfl)
        have o1 := ownsRow_free hout s
        have hst := ownsRow_store (i := s) hout (iz 1)
        rw [← List.map_set, ← hdeep] at hst
        have S2 := HS.out.upd 1 (oSl 3 1 (.slice (some ⟨q, 0, none⟩) l.length l.length) l.length ((deepN l).map iz)) rfl ((Ext.refl _ wr).setCell ⟨q, s, none⟩ (iz 1) (.inl (by simp [oSl, Value.ownBlock]))) (Fr.refl _ _) hst
        have HS2 := Lib.hid S2
        clear S2 hst hout hdeep hleaf hrl hpc hpN hps hp2
        have hs0 : (0 : Int) ≤ (s : Int) := by omega
        go_wp2_with fail
        go_loopg [4, 6] 0 (fun _ lv _ wr2 => lv = .slice (some ⟨g, 0, none⟩) 1 cap4 ∧ wr2 = wr.setCell ⟨q, s, none⟩ (iz 1))
        case atStart => exact ⟨rfl, rfl⟩
        case round =>
          obtain ⟨rfl, rfl⟩ := hrel
          go_wp2_with fail
          go_ret
          exact ⟨.slice (some ⟨q, 0, none⟩) l.length l.length, rfl, HS2.out.ext, by rw [deepN_len]; exact HS2.out.get 1 rfl, HS2.out.base _ (List.mem_cons_of_mem _ (List.mem_cons_self ..))⟩
      · have h1' : ((Z.length : Int) == 1) = false := beq_eq_false_iff_ne.2 (by omega)
        go_wp2_with fail
        obtain ⟨T, hT⟩ : ∃ T, mrgF (leavesF l 0).length 0 (srtS (leavesF l 0)) = T := ⟨_, rfl⟩
        have hZl : Z.length = (leavesF l 0).length := by rw [HR0.out, ← HR.out]; simp
        have HT := Lib.hid hT
        have hdm := DepM.start l
        have hinv := inv_start l
        have hnd := leaves_nodup l
        have hsrt := srtS_srt _ (leavesF_tri l 0)
        have hper : (Z.map (·.1)).Perm (srtS (leavesF l 0)) := by rw [HR.out, ← HR0.out]; exact (srtS_perm _).symm
        have hdeep : deepN l = topD l.length T := by rw [deepN_more (by rw [← hZl]; exact h1), hT]
        have hsum : sumC (leavesF l 0) ≤ 1099511627776000 := by have := sumC_leaves l 0 HCC.out; omega
        obtain ⟨tot, htot⟩ : ∃ tot, sumC (leavesF l 0) = tot := ⟨_, rfl⟩
        rw [htot] at hinv hsum
        have hz0 : ∀ y ∈ zers l.length, 0 ≤ y ∧ y ≤ 2000 * ((0 : Nat) : Int) := fun y hy => by rw [List.eq_of_mem_replicate hy]; omega
        rw [show leavesF l 0 = Z.map (·.1) by rw [HR0.out]; exact HR.out.symm] at hdm hnd
        have HI := Lib.hid (⟨hdm, hinv, hnd, hsrt, hper, hT, hZl, hz0⟩ : _ ∧ _ ∧ _ ∧ _ ∧ _ ∧ _ ∧ _ ∧ _)
        have HD := Lib.hid (⟨hdeep, hsum⟩ : _ ∧ _)
        clear hdm hinv hnd hsrt hper hT hdeep hsum htot hz0 hZl h1 h1'
        go_loopg [4, 6] (leavesF l 0).length (fun g lv gv wr => ∃ (age : Nat) (N : List Nat) (Z : List Zn) (S : List Nd) (M : List Int) (ao4 : Option Addr) (cap4 : Nat), age + g = (leavesF l 0).length ∧ gv = .int .i64 age ∧ lv = .slice ao4 Z.length cap4 ∧ Z.length ≤ g ∧ mrgF g age S = T ∧ DepM l.length (Z.map (·.1)) M ∧ Inv l.length age tot S ∧ ((Z.map (·.1)).flatMap syms).Nodup ∧ Srt S ∧ (Z.map (·.1)).Perm S ∧ (∀ y ∈ M, 0 ≤ y ∧ y ≤ 2000 * (age : Int)) ∧ Sep w wr [oRL (.slice ao4 Z.length cap4) N Z [], oSl 3 1 (.slice (some ⟨q, 0, none⟩) l.length l.length) l.length (M.map iz)])
        case atStart =>
          obtain ⟨hdm, hinv, hnd, hsrt, hper, hT, hZl, hz0⟩ := HI.out
          exact ⟨0, N, Z, srtS (leavesF l 0), zers l.length, ao4, cap4, by omega, rfl, rfl, by omega, hT, hdm, hinv, hnd, hsrt, hper, hz0, HS.out⟩
        case round =>
          clear HI HS HT HR HR0
          obtain ⟨age, N, Z, S, M, ao4, cap4, hag, rfl, rfl, hZg, hT, hdm, hinv, hnd, hsrt, hper, hM, SS⟩ := hrel
          have HS := Lib.hid SS
          have HI := Lib.hid (⟨hT, hdm, hinv, hnd, hsrt, hper, hM⟩ : _ ∧ _ ∧ _ ∧ _ ∧ _ ∧ _ ∧ _)
          clear SS hT hdm hinv hnd hsrt hper hM
          by_cases h2 : 2 ≤ Z.length
          · have h2' : (1 : Int) < (Z.length : Int) := by omega
            obtain ⟨gk', rfl⟩ : ∃ gk', gk = gk' + 1 := ⟨gk - 1, by omega⟩
            have hag2 : age ≤ 1000 := by have := leaves_le l 0; omega
            have hrl : RL wr (.slice ao4 Z.length cap4) N Z [] := HS.out.get 0 rfl
            obtain ⟨a, b, S2, rfl⟩ : ∃ a b S2, S = a :: b :: S2 := by
              have hSl : S.length = Z.length := by rw [← HI.out.2.2.2.2.2.1.length_eq]; simp
              match S, hSl with
              | [], h => simp at h; omega
              | [_], h => simp at h; omega
              | a :: b :: S2, _ => exact ⟨a, b, S2, rfl⟩
            obtain ⟨pa, pb, Z1, Z2, t1, t2, t3, t4, t5, t6, t7, t8⟩ := two_least HI.out.2.2.2.2.2.1 HI.out.2.2.2.2.1
            obtain ⟨ba, ca, rfl, hbaN, hpa⟩ := hrl.part (t6.mem_iff.2 (by simp) : (a, pa) ∈ Z)
            obtain ⟨bb, cb, rfl, hbbN, hpb⟩ := hrl.part (t6.mem_iff.2 (by simp) : (b, pb) ∈ Z)
            have hsl : ∀ p ∈ Z, isSl p.2 := fun p hp => (hrl.parts p (by simp [hp])).sl
            have hsl1 : ∀ p ∈ Z1, isSl p.2 := fun p hp => hsl p (by rw [← t2] at hp; exact List.mem_of_mem_eraseIdx hp)
            have hsl2 : ∀ p ∈ Z2, isSl p.2 := fun p hp => hsl1 p (by rw [← t4] at hp; exact List.mem_of_mem_eraseIdx hp)
            have hzl1000 : Z.length ≤ 1000 := by have := leaves_le l 0; omega
            have HT6 := Lib.hid (⟨t5, t6, hrl, hpa, hpb⟩ : _ ∧ _ ∧ _ ∧ _ ∧ _)
            have HT1 := Lib.hid (⟨t1, t2, hsl⟩ : _ ∧ _ ∧ _)
            have HT3 := Lib.hid (⟨t3, t4, hsl1, hsl2⟩ : _ ∧ _ ∧ _ ∧ _)
            have HT7 := Lib.hid (⟨t7, t8⟩ : _ ∧ _)
            clear t1 t2 t3 t4 t5 t6 t7 t8 hrl hpa hpb hsl hsl1 hsl2
            go_wp2_with fail
            obtain ⟨W2, hW2⟩ : ∃ W2, (wr.alloc (.cells #[.int .i64 0, .bool false, .int .i64 0, .slice none 0 0] 102)).alloc (.cells #[.int .i64 0, .bool false, .int .i64 0, .slice none 0 0] 102) = W2 := ⟨_, rfl⟩
            have hx2 : Ext [] wr W2 := by rw [← hW2]; exact ((Ext.refl [] wr).alloc _).alloc _
            have hb7 : W2.heap[wr.heap.size]? = some (.cells #[.int .i64 0, .bool false, .int .i64 0, .slice none 0 0] 102 (0, 0)) := by rw [← hW2]; exact heap_alloc_old _ (heap_alloc_at _)
            have hb8 : W2.heap[wr.heap.size + 1]? = some (.cells #[.int .i64 0, .bool false, .int .i64 0, .slice none 0 0] 102 (0, 0)) := by
              have h : (wr.alloc (.cells #[.int .i64 0, .bool false, .int .i64 0, .slice none 0 0] 102)).heap.size = wr.heap.size + 1 := by simp
              rw [← hW2, ← h]; exact heap_alloc_at _
            rw [hW2]
            have HX2 := Lib.hid (⟨hx2, hb7, hb8⟩ : _ ∧ _ ∧ _)
            clear hx2 hb7 hb8 hW2
            refine (take_at _ Z Z1 a _ W2 (row_keep HX2.out.1 HT6.out.2.2.1.row) HT1.out.2.2 (by omega) hzl1000 HT1.out.1 HT1.out.2.1).mono ?_
            rintro e w1 ⟨g1, c1, rfl, hx1, hr1, hf1⟩
            have hb7 := hx1.keep HX2.out.2.1 (by simp)
            have hb8 := hx1.keep HX2.out.2.2 (by simp)
            have HX1 := Lib.hid (⟨HX2.out.1.trans hx1, hb7, hb8, hr1, hf1, lt_of_block HX2.out.2.2⟩ : _ ∧ _ ∧ _ ∧ _ ∧ _ ∧ _)
            clear hx1 hb7 hb8 hr1 hf1 HX2
            go_wp2_with (first | (refine wpList_store_row rfl 102 _ _ rfl wr.heap.size #[iz a.cnt, .bool a.mk, iz a.age, .slice (some ⟨ba, 0, none⟩) (syms a).length ca] rfl rfl 102 _ HX1.out.2.1 (by exact info4) rfl (by simp [Value.oneCell']) ?_))
            obtain ⟨W3, hW3⟩ : ∃ W3, w1.setRow wr.heap.size #[iz a.cnt, .bool a.mk, iz a.age, .slice (some ⟨ba, 0, none⟩) (syms a).length ca] = W3 := ⟨_, rfl⟩
            have hx3 : Ext [] wr W3 := by rw [← hW3]; exact ext_setRow HX1.out.1 _ _ (.inr (Nat.le_refl _))
            have hx31 : Ext [wr.heap.size] w1 W3 := by rw [← hW3]; exact ext_setRow (Ext.refl _ _) _ _ (.inl (by simp))
            have hb7 : W3.heap[wr.heap.size]? = some (.cells #[iz a.cnt, .bool a.mk, iz a.age, .slice (some ⟨ba, 0, none⟩) (syms a).length ca] 102 (0, 0)) := by rw [← hW3]; exact setRow_heap9 HX1.out.2.1
            have hb8 := hx31.keep HX1.out.2.2.1 (by simp)
            have hr1 := ownsRow_ext HX1.out.2.2.2.1 hx31 (fun g hg h => by have h1 := HX1.out.2.2.2.2.1 g (by simp [hg]); have h2 := HX1.out.2.2.2.2.2; simp at h; omega)
            rw [hW3]
            have HX3 := Lib.hid (⟨hx3, hb7, hb8, hr1⟩ : _ ∧ _ ∧ _ ∧ _)
            clear hx3 hx31 hb7 hb8 hr1 HX1 hW3
            refine (take_at _ Z1 Z2 b _ W3 HX3.out.2.2.2 HT3.out.2.2.1 (by have := HT7.out; omega) (by have := HT7.out; omega) HT3.out.1 HT3.out.2.1).mono ?_
            rintro e w2 ⟨g2, c2, rfl, hx2, hr2, hf2⟩
            have HX4 := Lib.hid (⟨HX3.out.1.trans hx2, hx2.keep HX3.out.2.1 (by simp), hx2.keep HX3.out.2.2.1 (by simp), hr2, hf2, lt_of_block HX3.out.2.2.1⟩ : _ ∧ _ ∧ _ ∧ _ ∧ _ ∧ _)
            clear hx2 hr2 hf2 HX3
            go_wp2_with (first | (refine wpList_store_row rfl 102 _ _ rfl (wr.heap.size + 1) #[iz b.cnt, .bool b.mk, iz b.age, .slice (some ⟨bb, 0, none⟩) (syms b).length cb] rfl rfl 102 _ HX4.out.2.2.1 (by exact info4) rfl (by simp [Value.oneCell']) ?_))
            obtain ⟨W5, hW5⟩ : ∃ W5, w2.setRow (wr.heap.size + 1) #[iz b.cnt, .bool b.mk, iz b.age, .slice (some ⟨bb, 0, none⟩) (syms b).length cb] = W5 := ⟨_, rfl⟩
            have hx5 : Ext [] wr W5 := by rw [← hW5]; exact ext_setRow HX4.out.1 _ _ (.inr (Nat.le_succ _))
            have hx51 : Ext [wr.heap.size + 1] w2 W5 := by rw [← hW5]; exact ext_setRow (Ext.refl _ _) _ _ (.inl (by simp))
            have hb8 : W5.heap[wr.heap.size + 1]? = some (.cells #[iz b.cnt, .bool b.mk, iz b.age, .slice (some ⟨bb, 0, none⟩) (syms b).length cb] 102 (0, 0)) := by rw [← hW5]; exact setRow_heap9 HX4.out.2.2.1
            have hb7 := hx51.keep HX4.out.2.1 (by simp)
            have hr2 := ownsRow_ext HX4.out.2.2.2.1 hx51 (fun g hg h => by have h1 := HX4.out.2.2.2.2.1 g (by simp [hg]); have h2 := HX4.out.2.2.2.2.2; simp at h; omega)
            have hf2 : ∀ k ∈ (Value.slice g2 Z2.length c2).ownBlock.toList, wr.heap.size ≤ k := fun k hk => by have h1 := HX4.out.2.2.2.2.1 k hk; have h2 := HX4.out.2.2.2.2.2; omega
            have q0 : ∀ z : Ex W5, z.w.cell? ⟨wr.heap.size, 0, none⟩ = some (iz a.cnt) := fun z => cellOf (z.heap hb7) 0
            have q3 : ∀ z : Ex W5, z.w.cell? ⟨wr.heap.size, 3, none⟩ = some (.slice (some ⟨ba, 0, none⟩) (syms a).length ca) := fun z => cellOf (z.heap hb7) 3
            have r0 : ∀ z : Ex W5, z.w.cell? ⟨wr.heap.size + 1, 0, none⟩ = some (iz b.cnt) := fun z => cellOf (z.heap hb8) 0
            have r3 : ∀ z : Ex W5, z.w.cell? ⟨wr.heap.size + 1, 3, none⟩ = some (.slice (some ⟨bb, 0, none⟩) (syms b).length cb) := fun z => cellOf (z.heap hb8) 3
            obtain ⟨s1, s2, s3⟩ := HI.out.2.2.1.two
            have s4 := HD.out.2
            have s5 : 0 ≤ a.cnt + b.cnt := by omega
            have s6 : a.cnt + b.cnt ≤ 1099511627776000 := by omega
            rw [hW5]
            have HX5 := Lib.hid (⟨hx5, hr2, hf2⟩ : _ ∧ _ ∧ _)
            clear hx5 hx51 hb7 hb8 hr2 hf2 HX4 hW5 s4 s3
            have HPC := Lib.hid (⟨fun i s hi => Ext.cell HX5.out.1 (HT6.out.2.2.2.1 i s hi), fun i s hi => Ext.cell HX5.out.1 (HT6.out.2.2.2.2 i s hi)⟩ : (∀ i s, (syms a)[i]? = some s → W5.cell? ⟨ba, i, none⟩ = some (iz (s : Nat))) ∧ ∀ i s, (syms b)[i]? = some s → W5.cell? ⟨bb, i, none⟩ = some (iz (s : Nat)))
            have hsabn : (syms a ++ syms b).Nodup := by
              have h1 := ((HT6.out.2.1.map (·.1)).flatMap_right syms).nodup_iff.1 HI.out.2.2.2.1
              simp only [List.map_cons, List.flatMap_cons] at h1
              rw [← List.append_assoc] at h1
              exact (List.nodup_append.1 h1).1
            have hsabl : ∀ s ∈ syms a ++ syms b, s < l.length := fun s hs => by
              rcases List.mem_append.1 hs with hs | hs
              · exact syms_lt _ a (HI.out.2.2.1.sz a (by simp)).1 s hs
              · exact syms_lt _ b (HI.out.2.2.1.sz b (by simp)).1 s hs
            have hsab : (syms a).length + (syms b).length ≤ 4000 := by
              have := nodup_le _ _ hsabn hsabl
              rw [List.length_append] at this
              omega
            have HSAB := Lib.hid (⟨hsabn, hsabl⟩ : _ ∧ _)
            clear hsabn hsabl
            obtain ⟨XS, hXS⟩ : ∃ XS, syms a ++ syms b = XS := ⟨_, rfl⟩
            have hXl : XS.length ≤ 4000 := by rw [← hXS, List.length_append]; exact hsab
            have HXS := Lib.hid hXS
            clear hXS
            go_cut [9] (fun x9 wx => JoinAt W5 (a.cnt + b.cnt) age XS x9 wx)
            case first =>
              refine wp_region_perm (C := fun w' => ∃ x : Ex W5, w' = x.w) [0, 1, 2, 3, 4, 5, 7, 8, 10, 11] 15 (by kernel_rfl) (by decide +kernel) ⟨Ex.mk _ ((Ext.refl [] W5).drew), rfl⟩ ?_
              simp only [pick, List.getElem?_toArray, List.getElem?_cons_zero, List.getElem?_cons_succ, List.drop_succ_cons, List.drop_zero]
              repeat (go_big_quiet_step (fail))
              refine wpQuiet_nil ?_
              clear q0 q3 r0 r3
              have F := Fl.start ((Ext.refl [] W5).drew)
              obtain ⟨V, hV⟩ : ∃ V, W5.drew = V := ⟨_, rfl⟩
              rw [hV] at F ⊢
              clear hV
-- BEGIN region
              refine anyC_two (f := 4) (i := 6) (j := 14) (by kernel_rfl) (by decide) (by decide) rfl rfl rfl rfl (fun K hK => ?_) (fun K hK => ?_)
              · skip
                skip
                go_wp2_with fail
                refine hK _ _ ⟨Ex.mk _ F.build.ext, rfl⟩ ?_
                clear hK K
                replace F := F.build
                obtain ⟨e0, he0⟩ : ∃ e0, V.heap.size = e0 := ⟨_, rfl⟩
                rw [he0] at F
                obtain ⟨V2, hV2⟩ : ∃ V2, V.alloc (.cells #[] 3) = V2 := ⟨_, rfl⟩
                rw [hV2] at F
                simp only [he0, hV2]
                clear he0 hV2 V
                obtain ⟨V, hV⟩ : ∃ V, V = V2 := ⟨_, rfl⟩
                subst hV
                refine anyC_two (f := 3) (i := 9) (j := 14) (by kernel_rfl) (by decide) (by decide) rfl rfl rfl rfl (fun K hK => ?_) (fun K hK => ?_)
                · skip
                  skip
                  obtain ⟨v1, V1, a1, F1⟩ := F.app ba ca (syms a) HPC.out.1 (by simp only [List.length_nil]; omega)
                  refine wp_append_run _ _ _ _ rfl rfl rfl (a1 22) ?_
                  refine hK _ _ ⟨Ex.mk _ F1.ext, rfl⟩ ?_
                  clear hK K a1 F
                  have F := F1
                  clear F1
                  clear V
                  obtain ⟨V, hV⟩ : ∃ V, V = V1 := ⟨_, rfl⟩
                  subst hV
                  refine anyC_two (f := 2) (i := 12) (j := 14) (by kernel_rfl) (by decide) (by decide) rfl rfl rfl rfl (fun K hK => ?_) (fun K hK => ?_)
                  · skip
                    skip
                    obtain ⟨v2, V2, a2, F2⟩ := F.app bb cb (syms b) HPC.out.2 (by simp only [List.nil_append]; omega)
                    rw [List.nil_append, HXS.out] at F2
                    obtain ⟨nb, cap7, rfl⟩ := F2.sl (by rw [← HXS.out]; have := syms_ne a; simp only [List.length_append]; omega)
                    refine wp_append_run _ _ _ _ rfl rfl rfl (a2 22) ?_
                    refine hK _ _ ⟨Ex.mk _ F2.ext, rfl⟩ ?_
                    clear hK K a2 F
                    have F := F2
                    clear F2
                    clear V
                    obtain ⟨V, hV⟩ : ∃ V, V = V2 := ⟨_, rfl⟩
                    subst hV
                    refine anyC_two (f := 1) (i := 13) (j := 14) (by kernel_rfl) (by decide) (by decide) rfl rfl rfl rfl (fun K hK => ?_) (fun K hK => ?_)
                    · skip
                      skip
                      go_wp2_with fail
                      refine hK _ _ ⟨Ex.mk _ F.ext, rfl⟩ ?_
                      clear hK K
                      refine anyC_one (f := 0) (i := 14) (by kernel_rfl) (by decide) rfl rfl (fun K hK => ?_)
                      go_wp2_with fail
                      refine hK _ _ ⟨Ex.mk _ F.flt.ext, rfl⟩ ?_
                      clear hK K
                      replace F := F.flt
                      obtain ⟨b9, hb9⟩ : ∃ b9, V.heap.size = b9 := ⟨_, rfl⟩
                      rw [hb9] at F
                      obtain ⟨V2, hV2⟩ : ∃ V2, V.alloc (.cells #[.int .i64 0, .bool false, .int .i64 0, .slice none 0 0] 102) = V2 := ⟨_, rfl⟩
                      rw [hV2] at F
                      simp only [hb9, hV2]
                      clear hb9 hV2 V
                      obtain ⟨V, hV⟩ : ∃ V, V = V2 := ⟨_, rfl⟩
                      subst hV
                      refine anyC_end (by kernel_rfl) ?_
                      obtain ⟨f1, f2, f3⟩ := F.fl _ rfl
                      go_wp2_with (first | (refine wpList_store_row rfl 102 _ _ rfl b9 #[iz (a.cnt + b.cnt), .bool true, iz (age : Int), .slice (some ⟨nb, 0, none⟩) XS.length cap7] rfl rfl 102 _ f1 (by exact info4) rfl (by simp [Value.oneCell']) ?_))
                      refine NoPanic.normal ?_
                      go_wp2_with fail
                      go_meet
                      exact F.done
                    · skip
                      go_wp2_with fail
                      refine hK _ _ ⟨Ex.mk _ F.flt.ext, rfl⟩ ?_
                      clear hK K
                      replace F := F.flt
                      obtain ⟨b9, hb9⟩ : ∃ b9, V.heap.size = b9 := ⟨_, rfl⟩
                      rw [hb9] at F
                      obtain ⟨V2, hV2⟩ : ∃ V2, V.alloc (.cells #[.int .i64 0, .bool false, .int .i64 0, .slice none 0 0] 102) = V2 := ⟨_, rfl⟩
                      rw [hV2] at F
                      simp only [hb9, hV2]
                      clear hb9 hV2 V
                      obtain ⟨V, hV⟩ : ∃ V, V = V2 := ⟨_, rfl⟩
                      subst hV
                      refine anyC_one (f := 0) (i := 13) (by kernel_rfl) (by decide) rfl rfl (fun K hK => ?_)
                      skip
                      go_wp2_with fail
                      refine hK _ _ ⟨Ex.mk _ F.ext, rfl⟩ ?_
                      clear hK K
                      refine anyC_end (by kernel_rfl) ?_
                      obtain ⟨f1, f2, f3⟩ := F.fl _ rfl
                      go_wp2_with (first | (refine wpList_store_row rfl 102 _ _ rfl b9 #[iz (a.cnt + b.cnt), .bool true, iz (age : Int), .slice (some ⟨nb, 0, none⟩) XS.length cap7] rfl rfl 102 _ f1 (by exact info4) rfl (by simp [Value.oneCell']) ?_))
                      refine NoPanic.normal ?_
                      go_wp2_with fail
                      go_meet
                      exact F.done
                  · skip
                    go_wp2_with fail
                    refine hK _ _ ⟨Ex.mk _ F.flt.ext, rfl⟩ ?_
                    clear hK K
                    replace F := F.flt
                    obtain ⟨b9, hb9⟩ : ∃ b9, V.heap.size = b9 := ⟨_, rfl⟩
                    rw [hb9] at F
                    obtain ⟨V2, hV2⟩ : ∃ V2, V.alloc (.cells #[.int .i64 0, .bool false, .int .i64 0, .slice none 0 0] 102) = V2 := ⟨_, rfl⟩
                    rw [hV2] at F
                    simp only [hb9, hV2]
                    clear hb9 hV2 V
                    obtain ⟨V, hV⟩ : ∃ V, V = V2 := ⟨_, rfl⟩
                    subst hV
                    refine anyC_one (f := 1) (i := 12) (by kernel_rfl) (by decide) rfl rfl (fun K hK => ?_)
                    skip
                    obtain ⟨v2, V2, a2, F2⟩ := F.app bb cb (syms b) HPC.out.2 (by simp only [List.nil_append]; omega)
                    rw [List.nil_append, HXS.out] at F2
                    obtain ⟨nb, cap7, rfl⟩ := F2.sl (by rw [← HXS.out]; have := syms_ne a; simp only [List.length_append]; omega)
                    refine wp_append_run _ _ _ _ rfl rfl rfl (a2 22) ?_
                    refine hK _ _ ⟨Ex.mk _ F2.ext, rfl⟩ ?_
                    clear hK K a2 F
                    have F := F2
                    clear F2
                    clear V
                    obtain ⟨V, hV⟩ : ∃ V, V = V2 := ⟨_, rfl⟩
                    subst hV
                    refine anyC_one (f := 0) (i := 13) (by kernel_rfl) (by decide) rfl rfl (fun K hK => ?_)
                    skip
                    go_wp2_with fail
                    refine hK _ _ ⟨Ex.mk _ F.ext, rfl⟩ ?_
                    clear hK K
                    refine anyC_end (by kernel_rfl) ?_
                    obtain ⟨f1, f2, f3⟩ := F.fl _ rfl
                    go_wp2_with (first | (refine wpList_store_row rfl 102 _ _ rfl b9 #[iz (a.cnt + b.cnt), .bool true, iz (age : Int), .slice (some ⟨nb, 0, none⟩) XS.length cap7] rfl rfl 102 _ f1 (by exact info4) rfl (by simp [Value.oneCell']) ?_))
                    refine NoPanic.normal ?_
                    go_wp2_with fail
                    go_meet
                    exact F.done
                · skip
                  go_wp2_with fail
                  refine hK _ _ ⟨Ex.mk _ F.flt.ext, rfl⟩ ?_
                  clear hK K
                  replace F := F.flt
                  obtain ⟨b9, hb9⟩ : ∃ b9, V.heap.size = b9 := ⟨_, rfl⟩
                  rw [hb9] at F
                  obtain ⟨V2, hV2⟩ : ∃ V2, V.alloc (.cells #[.int .i64 0, .bool false, .int .i64 0, .slice none 0 0] 102) = V2 := ⟨_, rfl⟩
                  rw [hV2] at F
                  simp only [hb9, hV2]
                  clear hb9 hV2 V
                  obtain ⟨V, hV⟩ : ∃ V, V = V2 := ⟨_, rfl⟩
                  subst hV
                  refine anyC_one (f := 2) (i := 9) (by kernel_rfl) (by decide) rfl rfl (fun K hK => ?_)
                  skip
                  obtain ⟨v1, V1, a1, F1⟩ := F.app ba ca (syms a) HPC.out.1 (by simp only [List.length_nil]; omega)
                  refine wp_append_run _ _ _ _ rfl rfl rfl (a1 22) ?_
                  refine hK _ _ ⟨Ex.mk _ F1.ext, rfl⟩ ?_
                  clear hK K a1 F
                  have F := F1
                  clear F1
                  clear V
                  obtain ⟨V, hV⟩ : ∃ V, V = V1 := ⟨_, rfl⟩
                  subst hV
                  refine anyC_one (f := 1) (i := 12) (by kernel_rfl) (by decide) rfl rfl (fun K hK => ?_)
                  skip
                  obtain ⟨v2, V2, a2, F2⟩ := F.app bb cb (syms b) HPC.out.2 (by simp only [List.nil_append]; omega)
                  rw [List.nil_append, HXS.out] at F2
                  obtain ⟨nb, cap7, rfl⟩ := F2.sl (by rw [← HXS.out]; have := syms_ne a; simp only [List.length_append]; omega)
                  refine wp_append_run _ _ _ _ rfl rfl rfl (a2 22) ?_
                  refine hK _ _ ⟨Ex.mk _ F2.ext, rfl⟩ ?_
                  clear hK K a2 F
                  have F := F2
                  clear F2
                  clear V
                  obtain ⟨V, hV⟩ : ∃ V, V = V2 := ⟨_, rfl⟩
                  subst hV
                  refine anyC_one (f := 0) (i := 13) (by kernel_rfl) (by decide) rfl rfl (fun K hK => ?_)
                  skip
                  go_wp2_with fail
                  refine hK _ _ ⟨Ex.mk _ F.ext, rfl⟩ ?_
                  clear hK K
                  refine anyC_end (by kernel_rfl) ?_
                  obtain ⟨f1, f2, f3⟩ := F.fl _ rfl
                  go_wp2_with (first | (refine wpList_store_row rfl 102 _ _ rfl b9 #[iz (a.cnt + b.cnt), .bool true, iz (age : Int), .slice (some ⟨nb, 0, none⟩) XS.length cap7] rfl rfl 102 _ f1 (by exact info4) rfl (by simp [Value.oneCell']) ?_))
                  refine NoPanic.normal ?_
                  go_wp2_with fail
                  go_meet
                  exact F.done
              · skip
                go_wp2_with fail
                refine hK _ _ ⟨Ex.mk _ F.flt.ext, rfl⟩ ?_
                clear hK K
                replace F := F.flt
                obtain ⟨b9, hb9⟩ : ∃ b9, V.heap.size = b9 := ⟨_, rfl⟩
                rw [hb9] at F
                obtain ⟨V2, hV2⟩ : ∃ V2, V.alloc (.cells #[.int .i64 0, .bool false, .int .i64 0, .slice none 0 0] 102) = V2 := ⟨_, rfl⟩
                rw [hV2] at F
                simp only [hb9, hV2]
                clear hb9 hV2 V
                obtain ⟨V, hV⟩ : ∃ V, V = V2 := ⟨_, rfl⟩
                subst hV
                refine anyC_one (f := 3) (i := 6) (by kernel_rfl) (by decide) rfl rfl (fun K hK => ?_)
                skip
                go_wp2_with fail
                refine hK _ _ ⟨Ex.mk _ F.build.ext, rfl⟩ ?_
                clear hK K
                replace F := F.build
                obtain ⟨e0, he0⟩ : ∃ e0, V.heap.size = e0 := ⟨_, rfl⟩
                rw [he0] at F
                obtain ⟨V2, hV2⟩ : ∃ V2, V.alloc (.cells #[] 3) = V2 := ⟨_, rfl⟩
                rw [hV2] at F
                simp only [he0, hV2]
                clear he0 hV2 V
                obtain ⟨V, hV⟩ : ∃ V, V = V2 := ⟨_, rfl⟩
                subst hV
                refine anyC_one (f := 2) (i := 9) (by kernel_rfl) (by decide) rfl rfl (fun K hK => ?_)
                skip
                obtain ⟨v1, V1, a1, F1⟩ := F.app ba ca (syms a) HPC.out.1 (by simp only [List.length_nil]; omega)
                refine wp_append_run _ _ _ _ rfl rfl rfl (a1 22) ?_
                refine hK _ _ ⟨Ex.mk _ F1.ext, rfl⟩ ?_
                clear hK K a1 F
                have F := F1
                clear F1
                clear V
                obtain ⟨V, hV⟩ : ∃ V, V = V1 := ⟨_, rfl⟩
                subst hV
                refine anyC_one (f := 1) (i := 12) (by kernel_rfl) (by decide) rfl rfl (fun K hK => ?_)
                skip
                obtain ⟨v2, V2, a2, F2⟩ := F.app bb cb (syms b) HPC.out.2 (by simp only [List.nil_append]; omega)
                rw [List.nil_append, HXS.out] at F2
                obtain ⟨nb, cap7, rfl⟩ := F2.sl (by rw [← HXS.out]; have := syms_ne a; simp only [List.length_append]; omega)
                refine wp_append_run _ _ _ _ rfl rfl rfl (a2 22) ?_
                refine hK _ _ ⟨Ex.mk _ F2.ext, rfl⟩ ?_
                clear hK K a2 F
                have F := F2
                clear F2
                clear V
                obtain ⟨V, hV⟩ : ∃ V, V = V2 := ⟨_, rfl⟩
                subst hV
                refine anyC_one (f := 0) (i := 13) (by kernel_rfl) (by decide) rfl rfl (fun K hK => ?_)
                skip
                go_wp2_with fail
                refine hK _ _ ⟨Ex.mk _ F.ext, rfl⟩ ?_
                clear hK K
                refine anyC_end (by kernel_rfl) ?_
                obtain ⟨f1, f2, f3⟩ := F.fl _ rfl
                go_wp2_with (first | (refine wpList_store_row rfl 102 _ _ rfl b9 #[iz (a.cnt + b.cnt), .bool true, iz (age : Int), .slice (some ⟨nb, 0, none⟩) XS.length cap7] rfl rfl 102 _ f1 (by exact info4) rfl (by simp [Value.oneCell']) ?_))
                refine NoPanic.normal ?_
                go_wp2_with fail
                go_meet
                exact F.done
                -- END region
            case rest =>
              clear q0 q3 r0 r3
              obtain ⟨nb, cap7, b9, rfl, hx7, hb9, ho7, hn1, hn2, hn3⟩ := hcut
              obtain ⟨J, hJ⟩ : ∃ J, Nd.join (a.cnt + b.cnt) age a b = J := ⟨_, rfl⟩
              have hJs : syms J = XS := by rw [← hJ, syms_join]; exact HXS.out
              rw [← hJs] at hb9 ho7
              obtain ⟨j1, j2⟩ := HT6.out.2.2.1.joined (J := J) (fun p hp => HT6.out.2.1.mem_iff.2 (by simp [hp])) HX5.out.1 HX5.out.2.1 HX5.out.2.2 hx7 ho7 hn1
              have hxwc : Ext [] wr wc := HX5.out.1.trans hx7
              have S1 := HS.out.upd 0 (oRL (.slice g2 Z2.length c2) (nb :: N) Z2 [(J, .slice (some ⟨nb, 0, none⟩) (syms J).length cap7)]) rfl (hxwc.mono (by simp)) j2 j1
              rw [hJs] at hb9 ho7 S1
              have hq9 : q ≠ b9 := fun e => by
                have h1 := (oSl 3 1 (.slice (some ⟨q, 0, none⟩) l.length l.length) l.length (M.map iz)).lt (HS.out.get 1 rfl) q (by simp [oSl, Value.ownBlock])
                have h2 := HX5.out.1.size
                omega
              have HJ := Lib.hid (⟨hJ, hJs⟩ : _ ∧ _)
              have HS1 := Lib.hid S1
              have HB9 := Lib.hid hb9
              have HPQ := Lib.hid (fun i s hi => ownsRow_at ho7 (by rw [List.getElem?_map, hi]; rfl) : ∀ i s, XS[i]? = some s → wc.cell? ⟨nb, i, none⟩ = some (iz (s : Nat)))
              have hnb : nb ≠ q := fun e => by
                have h1 := (oSl 3 1 (.slice (some ⟨q, 0, none⟩) l.length l.length) l.length (M.map iz)).lt (HS.out.get 1 rfl) q (by simp [oSl, Value.ownBlock])
                have h2 := HX5.out.1.size
                omega
              clear j1 j2 hxwc S1 hJ hJs hx7 hb9 ho7 hn1 hn2
              go_wp2_with fail
              go_loopg [10] XS.length (fun g iv wr => ∃ i : Nat, g + i = XS.length ∧ iv = .int .i64 i ∧ wr.heap[b9]? = some (.cells #[iz (a.cnt + b.cnt), .bool true, iz (age : Int), .slice (some ⟨nb, 0, none⟩) XS.length cap7] 102 (0, 0)) ∧
                Sep w wr [oRL (.slice g2 Z2.length c2) (nb :: N) Z2 [(J, .slice (some ⟨nb, 0, none⟩) XS.length cap7)], oSl 3 1 (.slice (some ⟨q, 0, none⟩) l.length l.length) l.length ((incF M (XS.take i)).map iz)])
              case atStart => exact ⟨0, by omega, rfl, HB9.out, HS1.out⟩
              case round =>
                clear HS1 HB9
                obtain ⟨i, hi, rfl, hb9, S1⟩ := hrel
                have c3 : wr.cell? ⟨b9, 3, none⟩ = some (.slice (some ⟨nb, 0, none⟩) XS.length cap7) := cellOf hb9 3
                by_cases hil : i < XS.length
                · obtain ⟨s, hs⟩ : ∃ s, XS[i]? = some s := ⟨_, List.getElem?_eq_getElem hil⟩
                  have hsl : s < l.length := HSAB.out.2 s (by rw [HXS.out]; exact List.mem_of_getElem? hs)
                  have p0 : wr.cell? ⟨nb, i, none⟩ = some (iz (s : Nat)) := by
                    have h0 : RL wr (.slice g2 Z2.length c2) (nb :: N) Z2 [(J, .slice (some ⟨nb, 0, none⟩) XS.length cap7)] := S1.get 0 rfl
                    obtain ⟨b', c', e, _, hc⟩ := h0.parts (J, .slice (some ⟨nb, 0, none⟩) XS.length cap7) (by simp)
                    injection e with e1 _ _
                    injection e1 with e1
                    injection e1 with e1 _ _
                    subst e1
                    exact hc i s (by rw [HJ.out.2]; exact hs)
                  have hrow : wr.ownsRow 0 3 1 (.slice (some ⟨q, 0, none⟩) l.length l.length) l.length ((incF M (XS.take i)).map iz) := S1.get 1 rfl
                  have hMl : M.length = l.length := HI.out.2.1.1
                  obtain ⟨y, hy⟩ : ∃ y, (incF M (XS.take i))[s]? = some y := ⟨_, List.getElem?_eq_getElem (by rw [incF_len]; omega)⟩
                  have hyb := incF_bd (XS.take i) M (2000 * (age : Int)) (by rw [← HXS.out]; exact HSAB.out.1.sublist (List.take_sublist _ _)) HI.out.2.2.2.2.2.2 y (List.mem_of_getElem? hy)
                  have o0 : wr.cell? ⟨q, s, none⟩ = some (iz y) := ownsRow_at hrow (by rw [List.getElem?_map, hy]; rfl)
                  have o1 := ownsRow_free hrow s
                  have hst := ownsRow_store (i := s) hrow (iz (y + 1))
                  have hsn := incF_snoc M XS i s hs
                  rw [List.getD_eq_getElem?_getD, hy] at hsn
                  simp only [Option.getD_some] at hsn
                  rw [← List.map_set, ← hsn] at hst
                  have S2 := S1.upd 1 (oSl 3 1 (.slice (some ⟨q, 0, none⟩) l.length l.length) l.length ((incF M (XS.take (i + 1))).map iz)) rfl ((Ext.refl _ wr).setCell ⟨q, s, none⟩ (iz (y + 1)) (.inl (by simp [oSl, Value.ownBlock]))) (Fr.refl _ _) hst
                  have hb9' : (wr.setCell ⟨q, s, none⟩ (iz (y + 1))).heap[b9]? = _ := (heap_setCell_ne _ (fun e => hq9 e.symm)).trans hb9
                  have HS2 := Lib.hid (⟨S2, hb9'⟩ : _ ∧ _)
                  have y1 : 0 ≤ y := hyb.1
                  have y2 : y ≤ 2001001 := by omega
                  have x1 : (i : Int) < (XS.length : Int) := by omega
                  have s0 : (0 : Int) ≤ (s : Int) := by omega
                  have s1' : (s : Int) < (l.length : Int) := by omega
                  clear S1 S2 hb9 hb9' hst hsn hrow hs hy hyb hMl
                  go_wp2_with fail
                  go_roundg (XS.length - (i + 1))
                  case measure => omega
                  case rel => exact ⟨i + 1, by omega, by go_num, HS2.out.2, HS2.out.1⟩
                · obtain rfl : i = XS.length := by omega
                  rw [List.take_length] at S1
                  have hrl3 : RL wr (.slice g2 Z2.length c2) (nb :: N) Z2 [(J, .slice (some ⟨nb, 0, none⟩) XS.length cap7)] := S1.get 0 rfl
                  have hrow := hrl3.row
                  have hJp := hrl3.parts (J, .slice (some ⟨nb, 0, none⟩) XS.length cap7) (by simp)
                  have x1 : ¬ (XS.length : Int) < (XS.length : Int) := by omega
                  have HF := Lib.hid (⟨S1, hrl3, hJp⟩ : _ ∧ _ ∧ _)
                  have HB9 := Lib.hid hb9
                  have hz2l : Z2.length ≤ 1000 := by have := HT7.out; omega
                  clear S1 hrl3 hJp hb9
                  go_wp2_with (first | (refine wpList_load_row rfl 102 _ rfl b9 rfl 102 #[iz (a.cnt + b.cnt), .bool true, iz (age : Int), .slice (some ⟨nb, 0, none⟩) XS.length cap7] (0, 0) _ HB9.out Try.underlying102 rfl (by exact info4) ?_) | (at_builtin; refine wpList_append_lies _ rfl _ _ 100 rfl 0 102 j0 _ 4 48 Try.underlying100 hjf hy0 hy1 hy2 rfl (by decide) (.slice g2 Z2.length c2) Z2.length _ rfl (hrow.alloc _) ⟨wr.heap.size, 0, none⟩ 1 1 [iz (a.cnt + b.cnt), .bool true, iz (age : Int), .slice (some ⟨nb, 0, none⟩) XS.length cap7] rfl rfl (cells4_at rfl rfl) (by simp [Value.oneCell']) (by decide) (by unfold maxLen; omega) (by omega) (by omega) (wr.heap.size + 1) (by simp) ?_; intro g cap2 w1 hown1 hgrow hat hlt))
                  have hown2 : w1.ownsRow 0 102 4 (.slice (some ⟨g, 0, none⟩) (Z2.length + 1) cap2) (Z2.length + 1) (rowC Z2 ++ [iz J.cnt, .bool J.mk, iz J.age, .slice (some ⟨nb, 0, none⟩) XS.length cap7]) := by rw [← HJ.out.1]; exact hown1
                  obtain ⟨r1, r2, r3⟩ := HF.out.2.1.push (N' := nb :: N) (Ext.refl [] wr) HF.out.2.2 (fun k hk => hk) (fun k hk => .inl hk) hown2 hgrow hat
                  obtain ⟨Y, hY⟩ : ∃ Y : List Zn, Z2 ++ [(J, Value.slice (some ⟨nb, 0, none⟩) XS.length cap7)] = Y := ⟨_, rfl⟩
                  rw [hY] at r1 r3
                  have hYl : Y.length = Z2.length + 1 := by rw [← hY]; simp
                  have hYm : Y.map (·.1) = Z2.map (·.1) ++ [J] := by rw [← hY]; simp
                  have HR3 := Lib.hid (⟨r1, r2, r3, hYm⟩ : _ ∧ _ ∧ _ ∧ _)
                  clear r1 r2 r3 hown1 hown2 hgrow hat hlt hrow hYm hY
                  rw [← hYl]
                  go_roundg gk'
                  case measure => omega
                  case rel =>
                    obtain ⟨hT, hdm, hinv, hnd, hsrt, hper, hM⟩ := HI.out
                    have hpY : (Y.map (·.1)).Perm (J :: Z2.map (·.1)) := by rw [HR3.out.2.2.2]; exact List.perm_append_comm
                    have hpZ : (Z.map (·.1)).Perm (a :: b :: Z2.map (·.1)) := HT6.out.2.1.map (·.1)
                    have hi2 := hinv.step
                    rw [HJ.out.1] at hi2
                    have hs2 := tri_srt (c := a.cnt + b.cnt) (g := age) hsrt hinv.young
                    rw [HJ.out.1] at hs2
                    have hnd2 := (hpZ.flatMap_right syms).nodup_iff.1 hnd
                    have hdm2 := (hdm.perm (L' := a :: b :: Z2.map (·.1)) (fun x => hpZ.mem_iff.symm)).join (c := a.cnt + b.cnt) (g := age) hnd2
                    rw [HJ.out.1, HJ.out.2] at hdm2
                    refine ⟨age + 1, nb :: N, Y, insS J S2, incF M XS, some ⟨g, 0, none⟩, cap2, by omega, by go_num, rfl, by have := HT7.out; omega, ?_, hdm2.perm (fun x => hpY.mem_iff), hi2, ?_, hs2, ?_, ?_, HF.out.1.upd 0 (oRL (.slice (some ⟨g, 0, none⟩) Y.length cap2) (nb :: N) Y []) rfl HR3.out.2.1 HR3.out.2.2.1 HR3.out.1⟩
                    · rw [mrgF, HJ.out.1] at hT; exact hT
                    · refine ((hpY.flatMap_right syms).nodup_iff).2 ?_
                      rw [List.flatMap_cons, HJ.out.2, ← HXS.out]
                      simp only [List.flatMap_cons, ← List.append_assoc] at hnd2
                      exact hnd2
                    · exact hpY.trans ((HT6.out.1.cons J).trans (insS_perm J S2).symm)
                    · intro y hy
                      have := incF_bd XS M (2000 * (age : Int)) (by rw [← HXS.out]; exact HSAB.out.1) hM y hy
                      omega
          · have h2' : ¬ (1 : Int) < (Z.length : Int) := by omega
            obtain ⟨hT, hdm, hinv, hnd, hsrt, hper, hM⟩ := HI.out
            have hZS : Z.length = S.length := by rw [← hper.length_eq]; simp
            have hST : S = T := by rw [← hT]; exact (mrgF_stop gk age S (by omega)).symm
            have hdeep : deepN l = M := by
              rw [HD.out.1, ← hST]
              match S, hZS with
              | [], h0 =>
                have hZ0 : Z = [] := List.eq_nil_of_length_eq_zero h0
                subst hZ0
                apply List.ext_getElem?
                intro s
                by_cases hs : s < l.length
                · rw [(hdm.2 s hs).2 (by simp), topD, zers, List.getElem?_replicate, if_pos hs]
                · rw [List.getElem?_eq_none (by rw [topD, zers, List.length_replicate]; omega), List.getElem?_eq_none (by rw [hdm.1]; omega)]
              | [x], _ =>
                have hZx : Z.map (·.1) = [x] := List.perm_singleton.1 hper
                rw [hZx] at hdm hnd
                rw [List.flatMap_cons, List.flatMap_nil, List.append_nil] at hnd
                rw [hdm.uniq hnd, topD, setD_all]
              | _ :: _ :: _, h0 => simp at h0; omega
            have HDM := Lib.hid hdeep
            clear hT hdm hinv hnd hsrt hper hM hdeep hZS hST HI HD
            go_wp2_with fail
            go_ret
            exact ⟨.slice (some ⟨q, 0, none⟩) l.length l.length, rfl, HS.out.ext, by rw [deepN_len, HDM.out]; exact HS.out.get 1 rfl, HS.out.base _ (List.mem_cons_of_mem _ (List.mem_cons_self ..))⟩
end Go.Proofs.Ytchhgbhbldfofaa.Hu

/-! HvE: The document's Lens (chapter 7) walked. -/
namespace Go.Proofs.Ytchhgbhbldfofaa.Hu
open Go.RowKit

def allLe (m : Int) (l : List Int) : Bool := l.all fun x => decide (x ≤ m)
theorem allLe_snoc (m : Int) (l : List Int) (x : Int) : allLe m (l ++ [x]) = (allLe m l && decide (x ≤ m)) := by simp [allLe]
theorem okB_all (m : Int) (f : List Int) : okB m f = allLe m (deepN f) := by
  rw [Bool.eq_iff_iff]
  unfold okB allLe
  rw [decide_eq_true_iff, List.all_eq_true]
  constructor
  · rintro (h | h) x hx
    · have : (deepN f).length = 0 := by rw [deepN_len]; exact h
      rw [List.eq_nil_of_length_eq_zero this] at hx
      cases hx
    · exact decide_eq_true (Int.le_trans (le_maxL _ _ hx) h)
  · intro h
    by_cases h0 : f.length = 0
    · exact .inl h0
    · exact .inr (maxL_le _ _ (by rw [deepN_len]; omega) (fun x hx => of_decide_eq_true (h x hx)))
set_option maxRecDepth 100000 in
set_option maxHeartbeats 16000000 in
theorem rlens_ok (v : Value) (l : List Int) (m : Int) (K : Nat) (w : World) (hv : IntsArg w v l) (he : lensErr l m = false) (hfit : fitB K m l = true) :
    Calls Try.prog 17 #[v, .int .i64 m] w (NewTwo w (lensF K m l)) := by
  obtain ⟨hx, hl, hm1, hm15, hsome⟩ := lensErr_false he
  obtain ⟨hA, ao, cap, rfl, hcap, hcm, hnil⟩ := hv
  have HAA := Lib.hid hA
  obtain ⟨aov, capv, hev, hc⟩ := hA
  injection hev with h1 _ h3
  subst h1 h3
  have hlz := lensF_len K m l
  obtain ⟨R, hR⟩ : ∃ R, lensF K m l = R := ⟨_, rfl⟩
  rw [hR] at hlz ⊢
  have HR := Lib.hid hR
  have HLZ := Lib.hid hlz
  have HFIT := Lib.hid hfit
  have HC := Lib.hid hc
  have HXX := Lib.hid hx
  have HNIL := Lib.hid (⟨hnil, hcap⟩ : _ ∧ _)
  obtain ⟨mm, rfl⟩ : ∃ mm : Nat, m = mm := ⟨m.toNat, by omega⟩
  rw [Int.toNat_natCast] at hsome
  obtain ⟨t, ht⟩ : ∃ t, 2 ^ mm = t := ⟨_, rfl⟩
  rw [ht] at hsome
  have ht9 : t ≤ 32768 := by rw [← ht]; exact Nat.pow_le_pow_right (n := 2) (by omega) (show mm ≤ 15 by omega)
  have hti : (2 : Int) ^ mm = (t : Int) := by rw [← ht]; push_cast; rfl
  have HSM := Lib.hid hsome
  have HSL := Lib.hid (someN_le l)
  have hl' : ¬ 288 < l.length := by omega
  have q1 : ¬ ((mm : Int) < 1) := by omega
  have q2 : ¬ ((15 : Int) < (mm : Int)) := by omega
  clear hx hc hR hlz hfit he hcap hcm hnil hsome ht
  go_enter Try.func17, Try.ntmps17
  go_wp2_with fail
  go_loopg [6, 7] l.length (fun g sv iv wr => ∃ k : Nat, g + k = l.length ∧ iv = .int .i64 k ∧ sv = .int .i64 (someN (l.take k) : Nat) ∧ w = wr)
  case atStart => exact ⟨0, by omega, rfl, by simp [someN], rfl⟩
  case round =>
    obtain ⟨k, hk, rfl, rfl, rfl⟩ := hrel
    by_cases hlt : k < l.length
    · obtain ⟨b, off, rfl, hcell⟩ := HC.out (by omega)
      obtain ⟨x, hck⟩ : ∃ x, l[k]? = some x := ⟨_, List.getElem?_eq_getElem hlt⟩
      have d0 := hcell k x hck
      have hxr := HXX.out x (List.mem_of_getElem? hck)
      have x1 : ¬ x < 0 := by omega
      have x2 : ¬ (1099511627776 : Int) < x := by omega
      have hs := someN_snoc (l.take k) x
      rw [← ints_take l k x hck] at hs
      have hs9 : someN (l.take k) ≤ 288 := by have := someN_le (l.take k); have := List.length_take_le k l; omega
      have HS := Lib.hid hs
      generalize someN (l.take k) = s at *
      clear hcell hck hs
      by_cases h0 : 0 < x
      · go_wp2_with fail
        go_roundg (l.length - (k + 1))
        case measure => omega
        case rel => exact ⟨k + 1, by omega, by go_num, by rw [HS.out, if_pos h0]; go_num, rfl⟩
      · go_wp2_with fail
        go_roundg (l.length - (k + 1))
        case measure => omega
        case rel => exact ⟨k + 1, by omega, by go_num, by rw [HS.out, if_neg (by omega)]; go_num, rfl⟩
    · obtain rfl : k = l.length := by omega
      rw [List.take_length]
      have hsm := HSM.out
      have hsl := HSL.out
      generalize someN l = s at *
      have q3 : ¬ ((t : Int) < (s : Int)) := by omega
      obtain ⟨v1, w1, hr, hx1, hp1, hn1⟩ := copy_ints w ao cap l HAA.out (by omega) HNIL.out.1 (fun h => by have := HNIL.out.1 h; have := HNIL.out.2; omega)
      have HRR := Lib.hid hr
      obtain ⟨ao1, cap1, rfl⟩ := (IntsAt.of_own hp1).slice
      have HS := Lib.hid (((Sep.start w).new hx1 (oSl 3 1 (.slice ao1 l.length cap1) l.length (l.map iz)) hp1 hn1))
      clear HC hx1 hp1 hn1 hr
      go_wp2_with (at_builtin; refine wpList_plain rfl (fun K9 hK9 => wp_append_run _ _ _ _ rfl rfl rfl (HRR.out _) (hK9 _ _ ?_)))
      clear hsm hsl HSM HSL q3 HRR
      go_loopg [9] K (fun g _ wr => ∃ f : List Int, f.length = l.length ∧ (∀ c ∈ f, 0 ≤ c ∧ c ≤ 1099511627776) ∧ lensF g mm f = R ∧ fitB g mm f = true ∧ Sep w wr [oSl 3 1 (.slice ao1 l.length cap1) l.length (f.map iz)])
      case atStart => exact ⟨l, rfl, HXX.out, HR.out, HFIT.out, HS.out⟩
      case round =>
        clear HS HXX HR HFIT HAA HNIL
        obtain ⟨f, hfl, hrg, hR, hfit, S⟩ := hrel
        have hown : wr.ownsRow 0 3 1 (.slice ao1 l.length cap1) l.length (f.map iz) := S.get 0 rfl
        rw [← hfl] at hown
        have hia := IntsAt.of_own hown
        rw [hfl] at hia
        have hdeep := rdeep_walk _ f wr hia (by omega) (fun c hc => (hrg c hc).2)
        have hdl := deepN_len f
        have hokB := okB_all mm f
        obtain ⟨D, hD⟩ : ∃ D, deepN f = D := ⟨_, rfl⟩
        rw [hD] at hokB
        have hR1 : okB mm f = true → D = R := fun ho => by
          rw [← hD, ← hR]
          cases gk with
          | zero => rfl
          | succ g => rw [lensF, if_pos ho]
        have hR2 : okB mm f = false → ∃ g', gk = g' + 1 ∧ lensF g' mm (halfL f) = R ∧ fitB g' mm (halfL f) = true := fun ho => by
          cases gk with
          | zero => rw [fitB, ho] at hfit; cases hfit
          | succ g =>
            rw [lensF, if_neg (by rw [ho]; simp)] at hR
            rw [fitB, ho, Bool.false_or] at hfit
            exact ⟨g, rfl, hR, hfit⟩
        rw [hD] at hdeep hdl
        rw [hokB] at hR1 hR2
        have HDEEP := Lib.hid hdeep
        have HS := Lib.hid S
        have HK := Lib.hid (⟨hfl, hrg, hR1, hR2, hdl⟩ : _ ∧ _ ∧ _ ∧ _ ∧ _)
        clear hdeep S hown hia hfl hrg hR1 hR2 hokB hdl hR hfit hD
        go_wp2_with fail
        refine HDEEP.out.mono ?_
        clear HDEEP
        rintro e w2 ⟨v2, rfl, hx2, hp2, hn2⟩
        have hp2' : w2.ownsRow 0 3 1 v2 D.length (D.map iz) := hp2
        have hI := IntsAt.of_own hp2'
        obtain ⟨ao2, cap2, rfl⟩ := hI.slice
        have hnw : ∀ k ∈ (Value.slice ao2 D.length cap2).ownBlock.toList, w.heap.size ≤ k := fun k hk => Nat.le_trans HS.out.ext.size (hn2 k hk)
        have HS := Lib.hid (HS.out.quiet hx2)
        have HP2 := Lib.hid (⟨hp2', hI, hnw⟩ : _ ∧ _ ∧ _)
        have hDl : D.length ≤ 1000 := by have h1 := HK.out.2.2.2.2; have h2 := HK.out.1; omega
        clear hnw
        clear hx2 hp2 hp2' hI hn2
        obtain ⟨G, hG⟩ : ∃ G, gk = G := ⟨_, rfl⟩
        subst hG
        go_wp2_with fail
        go_loopg [10, 11] D.length (fun g fv iv wr => ∃ k : Nat, g + k = D.length ∧ iv = .int .i64 k ∧ fv = .bool (allLe mm (D.take k)) ∧ w2 = wr)
        case atStart => exact ⟨0, by omega, rfl, rfl, rfl⟩
        case round =>
          obtain ⟨k, hk, rfl, rfl, rfl⟩ := hrel
          by_cases hlt : k < D.length
          · obtain ⟨_, _, hev2, hc2⟩ := HP2.out.2.1
            injection hev2 with h1 _ h3
            subst h1 h3
            obtain ⟨b, off, rfl, hcell⟩ := hc2 (by omega)
            obtain ⟨x, hck⟩ : ∃ x, D[k]? = some x := ⟨_, List.getElem?_eq_getElem hlt⟩
            have d0 := hcell k x hck
            have hs := allLe_snoc mm (D.take k) x
            rw [← ints_take D k x hck] at hs
            have HA := Lib.hid hs
            clear hcell hck hs hc2
            cases hb : allLe mm (D.take k)
            · rw [hb] at HA
              clear hb
              go_wp2_with fail
              go_roundg (D.length - (k + 1))
              case measure => omega
              case rel => exact ⟨k + 1, by omega, by go_num, by rw [HA.out]; rfl, rfl⟩
            · rw [hb] at HA
              clear hb
              go_wp2_with fail
              go_roundg (D.length - (k + 1))
              case measure => omega
              case rel => exact ⟨k + 1, by omega, by go_num, by rw [HA.out, Bool.true_and], rfl⟩
          · obtain rfl : k = D.length := by omega
            rw [List.take_length]
            cases hb : allLe mm D
            · obtain ⟨g', hgg, hR, hfit⟩ := HK.out.2.2.2.1 hb
              have HRF := Lib.hid (⟨hR, hfit⟩ : _ ∧ _)
              have HGG := Lib.hid hgg
              have HFN := Lib.hid (⟨HK.out.1, trivial⟩ : f.length = l.length ∧ True)
              clear hR hfit hb hgg
              have HI0 := Lib.hid (HS.out : Sep w w2 [oSl 3 1 (.slice ao1 l.length cap1) l.length ((halfL (f.take 0) ++ f.drop 0).map iz)])
              go_wp2_with fail
              go_loopg [12] l.length (fun g iv wr2 => ∃ k : Nat, g + k = l.length ∧ iv = .int .i64 k ∧ Sep w wr2 [oSl 3 1 (.slice ao1 l.length cap1) l.length ((halfL (f.take k) ++ f.drop k).map iz)])
              case atStart => exact ⟨0, by omega, rfl, HI0.out⟩
              case round =>
                clear HS HI0
                obtain ⟨k, hk, rfl, S⟩ := hrel
                by_cases hlt : k < l.length
                · have hkf : k < f.length := by have := HFN.out.1; omega
                  obtain ⟨x, hx⟩ : ∃ x, f[k]? = some x := ⟨_, List.getElem?_eq_getElem hkf⟩
                  obtain ⟨h1, h2⟩ := List.getElem?_eq_some_iff.1 hx
                  have hxr := HK.out.2.1 x (List.mem_of_getElem? hx)
                  have hdr : f.drop k = x :: f.drop (k + 1) := by rw [List.drop_eq_getElem_cons h1, h2]
                  have htk : halfL (f.take (k + 1)) = halfL (f.take k) ++ [(x + 1) / 2] := by rw [ints_take f k x hx]; simp [halfL]
                  have hlk : (halfL (f.take k)).length = k := by simp [halfL]; omega
                  have hrow : wr.ownsRow 0 3 1 (.slice ao1 l.length cap1) l.length ((halfL (f.take k) ++ f.drop k).map iz) := S.get 0 rfl
                  obtain ⟨g3, hg3⟩ : ∃ g3, ao1 = some ⟨g3, 0, none⟩ := by
                    rcases hrow.2 with ⟨_, h⟩ | ⟨g, cap, cs, h, _⟩
                    · omega
                    · injection h with h _ _; exact ⟨g, h⟩
                  subst hg3
                  have hat : ((halfL (f.take k) ++ f.drop k).map iz)[k]? = some (iz x) := by
                    rw [hdr, List.getElem?_map, List.getElem?_append_right (by omega), hlk, Nat.sub_self]; rfl
                  have c0 : wr.cell? ⟨g3, k, none⟩ = some (iz x) := ownsRow_at hrow hat
                  have f0 := ownsRow_free hrow k
                  have hst := ownsRow_store (i := k) hrow (iz ((x + 1) / 2))
                  rw [← List.map_set, hdr, List.set_append, if_neg (by omega), hlk, Nat.sub_self, List.set_cons_zero, List.append_cons, ← htk] at hst
                  have S2 := S.upd 0 (oSl 3 1 (.slice (some ⟨g3, 0, none⟩) l.length cap1) l.length (List.map iz (halfL (f.take (k + 1)) ++ f.drop (k + 1)))) rfl ((Ext.refl _ wr).setCell ⟨g3, k, none⟩ (iz ((x + 1) / 2)) (.inl (by simp [oSl, Value.ownBlock]))) (Fr.refl _ _) hst
                  have HS2 := Lib.hid S2
                  have x0 : (0 : Int) ≤ x := hxr.1
                  have x9 : x ≤ 1099511627776 := hxr.2
                  clear S2 hst hrow hat hdr htk hlk hx h1 h2 hxr S hkf
                  go_wp2_with fail
                  go_roundg (l.length - (k + 1))
                  case measure => omega
                  case rel => exact ⟨k + 1, by omega, by go_num, HS2.out⟩
                · obtain rfl : k = l.length := by omega
                  have hS : Sep w wr [oSl 3 1 (.slice ao1 l.length cap1) l.length ((halfL f).map iz)] := by
                    have h := S
                    rw [List.take_of_length_le (by have := HFN.out.1; omega), List.drop_eq_nil_of_le (by have := HFN.out.1; omega), List.append_nil] at h
                    exact h
                  have HS := Lib.hid hS
                  clear hS S
                  go_wp2_with fail
                  go_roundg g'
                  case measure => have := HGG.out; omega
                  case rel => exact ⟨halfL f, by simp [halfL]; exact HK.out.1, half_rng HK.out.2.1, HRF.out.1, HRF.out.2, HS.out⟩
            · have hDR := HK.out.2.2.1 hb
              subst hDR
              clear hb
              go_wp2_with fail
              exact bodyPost_ret (results_tmp2 rfl _ _ _) rfl ⟨_, rfl, HS.out.ext, HP2.out.1, HP2.out.2.2⟩
set_option maxRecDepth 100000 in
set_option maxHeartbeats 8000000 in
theorem rlens_err (v : Value) (l : List Int) (m : Int) (w : World) (hv : IntsArg w v l) (hl : l.length ≤ 1048576) (hm0 : -9223372036854775808 ≤ m) (hm9 : m ≤ 9223372036854775807) (he : lensErr l m = true) :
    Calls Try.prog 17 #[v, .int .i64 m] w fun e w' => e = .returned (.tuple #[.slice none 0 0, .int .i64 2]) ∧ Ext [] w w' := by
  obtain ⟨hA, ao, cap, rfl, hcap, hcm, hnil⟩ := hv
  obtain ⟨aov, capv, hev, hc⟩ := hA
  injection hev with h1 _ h3
  subst h1 h3
  have HC := Lib.hid hc
  clear hc hcap hcm hnil
  by_cases q0 : 288 < l.length
  · have q0' : (288 : Int) < (l.length : Int) := by omega
    clear he
    go_enter Try.func17, Try.ntmps17
    go_wp2_with fail
    exact bodyPost_ret (results_tmp2 rfl _ _ _) rfl ⟨rfl, Ext.refl _ _⟩
  have q0' : ¬ (288 : Int) < (l.length : Int) := by omega
  by_cases q1 : m < 1
  · clear he
    go_enter Try.func17, Try.ntmps17
    go_wp2_with fail
    exact bodyPost_ret (results_tmp2 rfl _ _ _) rfl ⟨rfl, Ext.refl _ _⟩
  by_cases q2 : 15 < m
  · clear he
    go_enter Try.func17, Try.ntmps17
    go_wp2_with fail
    exact bodyPost_ret (results_tmp2 rfl _ _ _) rfl ⟨rfl, Ext.refl _ _⟩
  obtain ⟨mm, rfl⟩ : ∃ mm : Nat, m = mm := ⟨m.toNat, by omega⟩
  obtain ⟨t, ht⟩ : ∃ t, 2 ^ mm = t := ⟨_, rfl⟩
  have ht9 : t ≤ 32768 := by rw [← ht]; exact Nat.pow_le_pow_right (n := 2) (by omega) (show mm ≤ 15 by omega)
  have hti : (2 : Int) ^ mm = (t : Int) := by rw [← ht]; push_cast; rfl
  unfold lensErr at he
  rw [Int.toNat_natCast, ht] at he
  have HE := Lib.hid (show ((l.drop 0).any fun x => decide (x < 0 ∨ 1099511627776 < x)) = true ∨ t < someN (l.take 0) + someN (l.drop 0) by
    rcases Bool.or_eq_true_iff.1 he with h | h
    · exact .inl h
    · have := of_decide_eq_true h
      exact .inr (by simp only [List.take_zero, List.drop_zero]; have : someN [] = 0 := rfl; omega))
  clear he ht
  go_enter Try.func17, Try.ntmps17
  go_wp2_with fail
  go_loopg [6, 7] l.length (fun g sv iv wr => ∃ k : Nat, g + k = l.length ∧ iv = .int .i64 k ∧ sv = .int .i64 (someN (l.take k) : Nat) ∧ (((l.drop k).any fun x => decide (x < 0 ∨ 1099511627776 < x)) = true ∨ t < someN (l.take k) + someN (l.drop k)) ∧ w = wr)
  case atStart => exact ⟨0, by omega, rfl, by simp [someN], HE.out, rfl⟩
  case round =>
    clear HE
    obtain ⟨k, hk, rfl, rfl, ha, rfl⟩ := hrel
    by_cases hlt : k < l.length
    · obtain ⟨b, off, rfl, hcell⟩ := HC.out (by omega)
      obtain ⟨x, hck⟩ : ∃ x, l[k]? = some x := ⟨_, List.getElem?_eq_getElem hlt⟩
      have d0 := hcell k x hck
      have hdr : l.drop k = x :: l.drop (k + 1) := by
        obtain ⟨h1, h2⟩ := List.getElem?_eq_some_iff.1 hck
        rw [List.drop_eq_getElem_cons h1, h2]
      have hs := someN_snoc (l.take k) x
      rw [← ints_take l k x hck] at hs
      have hs9 : someN (l.take k) ≤ 288 := by have := someN_le (l.take k); have := List.length_take_le k l; omega
      by_cases hx0 : x < 0
      · clear ha hs hdr hcell hck
        generalize someN (l.take k) = s at *
        go_wp2_with fail
        exact bodyPost_ret (results_tmp2 rfl _ _ _) rfl ⟨rfl, Ext.refl _ _⟩
      · by_cases hx9 : 1099511627776 < x
        · clear ha hs hdr hcell hck
          generalize someN (l.take k) = s at *
          go_wp2_with fail
          exact bodyPost_ret (results_tmp2 rfl _ _ _) rfl ⟨rfl, Ext.refl _ _⟩
        · have ha2 : (((l.drop (k + 1)).any fun x => decide (x < 0 ∨ 1099511627776 < x)) = true ∨ t < someN (l.take (k + 1)) + someN (l.drop (k + 1))) := by
            rcases ha with ha | ha
            · rw [hdr, List.any_cons, decide_eq_false (by omega), Bool.false_or] at ha
              exact .inl ha
            · refine .inr ?_
              rw [hdr] at ha
              rw [hs]
              have e : someN (x :: l.drop (k + 1)) = (if 0 < x then 1 else 0) + someN (l.drop (k + 1)) := by
                unfold someN
                rw [List.countP_cons]
                by_cases h : 0 < x <;> simp [h]
                omega
              rw [e] at ha
              omega
          have HA := Lib.hid (⟨ha2, hs⟩ : _ ∧ _)
          clear ha ha2 hs hdr hcell hck
          generalize someN (l.take k) = s at *
          by_cases h0 : 0 < x
          · go_wp2_with fail
            go_roundg (l.length - (k + 1))
            case measure => omega
            case rel => exact ⟨k + 1, by omega, by go_num, by rw [HA.out.2, if_pos h0]; go_num, HA.out.1, rfl⟩
          · go_wp2_with fail
            go_roundg (l.length - (k + 1))
            case measure => omega
            case rel => exact ⟨k + 1, by omega, by go_num, by rw [HA.out.2, if_neg (by omega)]; go_num, HA.out.1, rfl⟩
    · obtain rfl : k = l.length := by omega
      have hs9 : someN (l.take l.length) ≤ 288 := by have := someN_le (l.take l.length); have := List.length_take_le l.length l; omega
      have q3 : t < someN (l.take l.length) := by
        rcases ha with ha | ha
        · rw [List.drop_length] at ha; cases ha
        · rw [List.drop_length] at ha; have : someN [] = 0 := rfl; omega
      clear ha
      generalize someN (l.take l.length) = s at *
      have q3' : (t : Int) < (s : Int) := by omega
      go_wp2_with fail
      exact bodyPost_ret (results_tmp2 rfl _ _ _) rfl ⟨rfl, Ext.refl _ _⟩
end Go.Proofs.Ytchhgbhbldfofaa.Hu

/-! HuL: pagemenderkit.Same at int and at uint32; the chapter's example (huff). -/
namespace Go.Proofs.Ytchhgbhbldfofaa.Hu
open Go.RowKit

/-- the value v is a slice of the numbers l (uint32) in the world w -/
def U32sAt (w : World) (v : Value) (l : List Nat) : Prop :=
  ∃ ao cap, v = .slice ao l.length cap ∧ (0 < l.length → ∃ b off, ao = some ⟨b, off, none⟩ ∧ ∀ i x, l[i]? = some x → w.cell? ⟨b, off + i, none⟩ = some (u32v x))
theorem U32sAt.ext {w w' : World} {v : Value} {l : List Nat} (h : U32sAt w v l) (hx : Ext [] w w') : U32sAt w' v l := by
  obtain ⟨ao, cap, rfl, hc⟩ := h
  refine ⟨ao, cap, rfl, fun hn => ?_⟩
  obtain ⟨b, off, rfl, h⟩ := hc hn
  exact ⟨b, off, rfl, fun i x hi => Ext.cell hx (h i x hi)⟩
theorem U32sAt.of_own {w : World} {v : Value} {l : List Nat} (h : w.ownsRow 0 34 1 v l.length (l.map u32v)) : U32sAt w v l := by
  rcases h.2 with ⟨rfl, hn⟩ | ⟨g, cap, cs, rfl, _, hg, hnc, hcap, hsz, ht⟩
  · exact ⟨none, 0, by rw [hn], fun h => by omega⟩
  · refine ⟨_, cap, rfl, fun _ => ⟨g, 0, rfl, fun i x hi => ?_⟩⟩
    rw [Nat.zero_add]
    exact ownsRow_at h (by rw [List.getElem?_map, hi]; rfl)
theorem U32sAt.of_block {w : World} {b cap : Nat} {cs : Array Value} {t : TypeId} {f : Nat × Nat} (l : List Nat) (n : Nat) (hn : l.length = n) (hb : w.heap[b]? = some (.cells cs t f)) (hc : cs.toList = l.map u32v) : U32sAt w (.slice (some ⟨b, 0, none⟩) n cap) l := by
  subst hn
  refine ⟨_, cap, rfl, fun _ => ⟨b, 0, rfl, fun i x hi => ?_⟩⟩
  rw [cellOf hb, Nat.zero_add, ← Array.getElem?_toList, hc, List.getElem?_map, hi]
  rfl
theorem IntsAt.of_block {w : World} {b cap : Nat} {cs : Array Value} {t : TypeId} {f : Nat × Nat} (l : List Int) (n : Nat) (hn : l.length = n) (hb : w.heap[b]? = some (.cells cs t f)) (hc : cs.toList = l.map iz) : IntsAt w (.slice (some ⟨b, 0, none⟩) n cap) l := by
  subst hn
  refine ⟨_, cap, rfl, fun _ => ⟨b, 0, rfl, fun i x hi => ?_⟩⟩
  rw [cellOf hb, Nat.zero_add, ← Array.getElem?_toList, hc, List.getElem?_map, hi]
  rfl
theorem IntsArg.of_block {w : World} {b : Nat} {cs : Array Value} {t : TypeId} {f : Nat × Nat} (l : List Int) (n : Nat) (hn : l.length = n) (hm : n ≤ maxLen) (hb : w.heap[b]? = some (.cells cs t f)) (hc : cs.toList = l.map iz) : IntsArg w (.slice (some ⟨b, 0, none⟩) n n) l :=
  ⟨IntsAt.of_block l n hn hb hc, _, n, by rw [hn], by omega, hm, fun h => by cases h⟩
set_option maxRecDepth 100000 in
set_option maxHeartbeats 8000000 in
theorem same_int (v u : Value) (l m : List Int) (w : World) (hv : IntsAt w v l) (hu : IntsAt w u m) (hl : l.length ≤ 1048576) (hm : m.length ≤ 1048576) :
    Calls Try.prog 19 #[v, u] w fun e w' => e = .returned (.bool (decide (l = m))) ∧ Ext [] w w' := by
  obtain ⟨ao, cap, rfl, hc⟩ := hv
  obtain ⟨ao2, cap2, rfl, hc2⟩ := hu
  have HC := Lib.hid hc
  have HC2 := Lib.hid hc2
  clear hc hc2
  by_cases hlen : l.length = m.length
  · obtain ⟨R, hR⟩ : ∃ R, decide (l = m) = R := ⟨_, rfl⟩
    rw [hR]
    have HR := Lib.hid hR
    have j1 : (((l.length : Nat) : Int) != ((m.length : Nat) : Int)) = false := by simp [hlen]
    have j2 : ((l.length != m.length) : Bool) = false := by simp [hlen]
    have HL := Lib.hid hlen
    clear hR hlen
    go_enter Try.func19, Try.ntmps19
    go_wp2_with fail
    clear j1 j2
    go_loopg [5] l.length (fun g iv wr => ∃ k : Nat, g + k = l.length ∧ iv = .int .i64 k ∧ l.take k = m.take k ∧ Ext [] w wr)
    case atStart => exact ⟨0, by omega, rfl, by simp, Ext.refl _ _⟩
    case round =>
      obtain ⟨k, hk, rfl, htk, hx⟩ := hrel
      have HX := Lib.hid hx
      have HT := Lib.hid htk
      clear hx htk
      by_cases hlt : k < l.length
      · have hlm : k < m.length := by have := HL.out; omega
        obtain ⟨b, off, rfl, hcell⟩ := HC.out (by omega)
        obtain ⟨b2, off2, rfl, hcell2⟩ := HC2.out (by omega)
        obtain ⟨x, hxk⟩ : ∃ x, l[k]? = some x := ⟨_, List.getElem?_eq_getElem hlt⟩
        obtain ⟨y, hyk⟩ : ∃ y, m[k]? = some y := ⟨_, List.getElem?_eq_getElem hlm⟩
        have c0 := hcell k x hxk
        have e0 := hcell2 k y hyk
        have d0 : ∀ q : Ex wr, q.w.cell? _ = some _ := fun q => Ext.cell (HX.out.trans q.ext) c0
        have f0 : ∀ q : Ex wr, q.w.cell? _ = some _ := fun q => Ext.cell (HX.out.trans q.ext) e0
        have HXY := Lib.hid (⟨hxk, hyk⟩ : _ ∧ _)
        have hlt' : (k : Int) < (l.length : Int) := by omega
        have hlm' : (k : Int) < (m.length : Int) := by omega
        clear hcell hcell2 c0 e0 hxk hyk
        by_cases hxy : x = y
        · subst hxy
          go_wp2_with fail
          refine wp_region_ext (by kernel_rfl) (by kernel_rfl) ?_
          repeat (go_big_quiet_step (fail))
          refine wpQuiet_nil ?_
          rintro _ ⟨q, rfl⟩
          have HX := Lib.hid (HX.out.trans q.ext)
          clear d0 f0
          go_wp2_with fail
          go_roundg (l.length - (k + 1))
          case measure => omega
          case rel =>
            refine ⟨k + 1, by omega, by go_num, ?_, HX.out⟩
            rw [List.take_add_one, List.take_add_one, HT.out, HXY.out.1, HXY.out.2]
        · have n1 : ((x : Int) != (y : Int)) = true := by simp; omega
          have n2 : ((x : Int) == (y : Int)) = false := beq_eq_false_iff_ne.2 (by omega)
          have hlm2 : ¬ l = m := fun h => hxy (by have h1 := HXY.out.1; rw [h, HXY.out.2] at h1; exact (Option.some.inj h1).symm)
          have hR := HR.out
          rw [decide_eq_false hlm2] at hR
          subst hR
          clear hlm2 hxy
          go_wp2_with fail
          refine wp_region_ext (by kernel_rfl) (by kernel_rfl) ?_
          repeat (go_big_quiet_step (fail))
          refine wpQuiet_nil ?_
          rintro _ ⟨q, rfl⟩
          have HX := Lib.hid (HX.out.trans q.ext)
          clear d0 f0
          go_wp2_with fail
          go_ret
          exact ⟨rfl, HX.out⟩
      · obtain rfl : k = l.length := by omega
        have h := HT.out
        rw [List.take_length, HL.out, List.take_length] at h
        have hR := HR.out
        rw [decide_eq_true h] at hR
        subst hR
        clear h
        go_wp2_with fail
        go_ret
        exact ⟨rfl, HX.out⟩
  · have e : decide (l = m) = false := decide_eq_false (fun h => hlen (by rw [h]))
    rw [e]
    have j1 : (((l.length : Nat) : Int) != ((m.length : Nat) : Int)) = true := by simp; omega
    have j2 : ((l.length != m.length) : Bool) = true := by simpa using hlen
    clear e hlen
    go_enter Try.func19, Try.ntmps19
    go_wp2_with fail
    go_ret
    exact ⟨rfl, Ext.refl _ _⟩
set_option maxRecDepth 100000 in
set_option maxHeartbeats 8000000 in
theorem same_u32 (v u : Value) (l m : List Nat) (w : World) (hv : U32sAt w v l) (hu : U32sAt w u m) (hl : l.length ≤ 1048576) (hm : m.length ≤ 1048576) :
    Calls Try.prog 18 #[v, u] w fun e w' => e = .returned (.bool (decide (l = m))) ∧ Ext [] w w' := by
  obtain ⟨ao, cap, rfl, hc⟩ := hv
  obtain ⟨ao2, cap2, rfl, hc2⟩ := hu
  have HC := Lib.hid hc
  have HC2 := Lib.hid hc2
  clear hc hc2
  by_cases hlen : l.length = m.length
  · obtain ⟨R, hR⟩ : ∃ R, decide (l = m) = R := ⟨_, rfl⟩
    rw [hR]
    have HR := Lib.hid hR
    have j1 : (((l.length : Nat) : Int) != ((m.length : Nat) : Int)) = false := by simp [hlen]
    have j2 : ((l.length != m.length) : Bool) = false := by simp [hlen]
    have HL := Lib.hid hlen
    clear hR hlen
    go_enter Try.func18, Try.ntmps18
    go_wp2_with fail
    clear j1 j2
    go_loopg [5] l.length (fun g iv wr => ∃ k : Nat, g + k = l.length ∧ iv = .int .i64 k ∧ l.take k = m.take k ∧ Ext [] w wr)
    case atStart => exact ⟨0, by omega, rfl, by simp, Ext.refl _ _⟩
    case round =>
      obtain ⟨k, hk, rfl, htk, hx⟩ := hrel
      have HX := Lib.hid hx
      have HT := Lib.hid htk
      clear hx htk
      by_cases hlt : k < l.length
      · have hlm : k < m.length := by have := HL.out; omega
        obtain ⟨b, off, rfl, hcell⟩ := HC.out (by omega)
        obtain ⟨b2, off2, rfl, hcell2⟩ := HC2.out (by omega)
        obtain ⟨x, hxk⟩ : ∃ x, l[k]? = some x := ⟨_, List.getElem?_eq_getElem hlt⟩
        obtain ⟨y, hyk⟩ : ∃ y, m[k]? = some y := ⟨_, List.getElem?_eq_getElem hlm⟩
        have c0 := hcell k x hxk
        have e0 := hcell2 k y hyk
        have d0 : ∀ q : Ex wr, q.w.cell? _ = some _ := fun q => Ext.cell (HX.out.trans q.ext) c0
        have f0 : ∀ q : Ex wr, q.w.cell? _ = some _ := fun q => Ext.cell (HX.out.trans q.ext) e0
        have HXY := Lib.hid (⟨hxk, hyk⟩ : _ ∧ _)
        have hlt' : (k : Int) < (l.length : Int) := by omega
        have hlm' : (k : Int) < (m.length : Int) := by omega
        clear hcell hcell2 c0 e0 hxk hyk
        by_cases hxy : x = y
        · subst hxy
          go_wp2_with fail
          refine wp_region_ext (by kernel_rfl) (by kernel_rfl) ?_
          repeat (go_big_quiet_step (fail))
          refine wpQuiet_nil ?_
          rintro _ ⟨q, rfl⟩
          have HX := Lib.hid (HX.out.trans q.ext)
          clear d0 f0
          go_wp2_with fail
          go_roundg (l.length - (k + 1))
          case measure => omega
          case rel =>
            refine ⟨k + 1, by omega, by go_num, ?_, HX.out⟩
            rw [List.take_add_one, List.take_add_one, HT.out, HXY.out.1, HXY.out.2]
        · have n1 : ((x : Int) != (y : Int)) = true := by simp; omega
          have n2 : ((x : Int) == (y : Int)) = false := beq_eq_false_iff_ne.2 (by omega)
          have hlm2 : ¬ l = m := fun h => hxy (by have h1 := HXY.out.1; rw [h, HXY.out.2] at h1; exact (Option.some.inj h1).symm)
          have hR := HR.out
          rw [decide_eq_false hlm2] at hR
          subst hR
          clear hlm2 hxy
          go_wp2_with fail
          refine wp_region_ext (by kernel_rfl) (by kernel_rfl) ?_
          repeat (go_big_quiet_step (fail))
          refine wpQuiet_nil ?_
          rintro _ ⟨q, rfl⟩
          have HX := Lib.hid (HX.out.trans q.ext)
          clear d0 f0
          go_wp2_with fail
          go_ret
          exact ⟨rfl, HX.out⟩
      · obtain rfl : k = l.length := by omega
        have h := HT.out
        rw [List.take_length, HL.out, List.take_length] at h
        have hR := HR.out
        rw [decide_eq_true h] at hR
        subst hR
        clear h
        go_wp2_with fail
        go_ret
        exact ⟨rfl, HX.out⟩
  · have e : decide (l = m) = false := decide_eq_false (fun h => hlen (by rw [h]))
    rw [e]
    have j1 : (((l.length : Nat) : Int) != ((m.length : Nat) : Int)) = true := by simp; omega
    have j2 : ((l.length != m.length) : Bool) = true := by simpa using hlen
    clear e hlen
    go_enter Try.func18, Try.ntmps18
    go_wp2_with fail
    go_ret
    exact ⟨rfl, Ext.refl _ _⟩
theorem ex7_c : codesN [2, 1, 3, 3] = [2, 0, 6, 7] := by decide +kernel
theorem ex7_b : badL [2, 1, 3, 3] = false := by decide +kernel
theorem ex7_k : kra [2, 1, 3, 3] ≤ 32768 := by decide +kernel
theorem ex7_e : lensErr [5, 0, 1, 1] 15 = false := by decide +kernel
theorem ex7_f : fitB 0 15 [5, 0, 1, 1] = true := by decide +kernel
theorem ex7_l : lensF 0 15 [5, 0, 1, 1] = [1, 0, 2, 2] := by decide +kernel
set_option maxRecDepth 100000 in
set_option maxHeartbeats 8000000 in
theorem lives07 (w : World) : Calls Try.prog 10 #[] w fun e w' => e = .returned (.bool true) ∧ Ext [] w w' := by
  go_enter Try.func10, Try.ntmps10
  go_wp2_with fail
  refine (codes_ok _ [2, 1, 3, 3] _ (IntsAt.of_block _ 4 rfl (heap_alloc_at _) rfl) (by decide) ex7_b ex7_k).mono ?_
  rw [ex7_c]
  rintro e w1 ⟨v1, rfl, hx, hp, _⟩
  have HX := Lib.hid (((Ext.refl _ w).alloc _).trans hx)
  have HP := Lib.hid (U32sAt.of_own hp)
  clear hx hp
  go_wp2_with fail
  refine (lens_ok _ [5, 0, 1, 1] 15 0 _ (IntsArg.of_block _ 4 rfl (by unfold maxLen; omega) (heap_alloc_at _) rfl) ex7_e ex7_f).mono ?_
  rw [ex7_l]
  rintro e w2 ⟨v2, rfl, hx, hp, _⟩
  have hx := ((Ext.refl _ w1).alloc _).trans hx
  have HP := Lib.hid (HP.out.ext hx)
  have HX := Lib.hid (HX.out.trans hx)
  have HP2 := Lib.hid (IntsAt.of_own hp)
  clear hx hp
  go_wp2_with fail
  refine (same_u32 v1 _ [2, 0, 6, 7] [2, 0, 6, 7] _ (HP.out.ext ((Ext.refl _ _).alloc _)) (U32sAt.of_block _ 4 rfl (heap_alloc_at _) rfl) (by decide) (by decide)).mono ?_
  rw [decide_eq_true rfl]
  rintro e w3 ⟨rfl, hx⟩
  have hx := ((Ext.refl _ w2).alloc _).trans hx
  have HX := Lib.hid (HX.out.trans hx)
  have HP2 := Lib.hid (HP2.out.ext hx)
  clear hx HP
  go_wp2_with fail
  refine (same_int v2 _ [1, 0, 2, 2] [1, 0, 2, 2] _ (HP2.out.ext ((Ext.refl _ _).alloc _)) (IntsAt.of_block _ 4 rfl (heap_alloc_at _) rfl) (by decide) (by decide)).mono ?_
  rw [decide_eq_true rfl]
  rintro e w4 ⟨rfl, hx⟩
  have HX := Lib.hid (HX.out.trans (((Ext.refl _ w3).alloc _).trans hx))
  clear hx HP2
  go_wp2_with fail
  go_ret
  exact ⟨rfl, HX.out⟩
end Go.Proofs.Ytchhgbhbldfofaa.Hu

/-! HvF: The statement HuffCalls: what huff tells and what the document tells, side by side. -/
namespace Go.Proofs.Ytchhgbhbldfofaa.Hu
open Go.RowKit
open Go.ChangeShapes Go.WideShapes

/-! ### the argument []int -/
theorem cellsInt7 : Try.prog.cellsOf 3 = 1 := by kernel_rfl
def IntsArg' (w : World) (v : Value) (l : List Int) : Prop := IntsArg w v l ∧ ∀ x ∈ l, -9223372036854775808 ≤ x ∧ x ≤ 9223372036854775807
set_option maxRecDepth 100000 in
theorem open_ints7 {H : Type} {enc : TypeId × Value → H} {w : World} {base : Nat} {sp : Nat → Bool} {held : Bool} {r : Reach} {b0 : Nat} {v : Value} {d : DataW H} {ps : List MemPlace} (hval : Value.okWide Try.prog w r b0 22 v) (hd : DataW.Trod enc Try.prog w base sp held 22 v d ps) :
    ∃ l, IntsArg' w v l := by
  obtain ⟨a0, len0, cap0, rfl⟩ := okWide_slice Try.underlying22 hval
  obtain ⟨fuel, hf⟩ := hd
  simp only [Value.cells] at hf
  rcases Go.Deep.open_slice Try.underlying22 hf with ⟨hc, _⟩ | ⟨a, len, cap, m, n, D, Pl, hc, _, hl, hm, hmm, _, hx⟩
  · obtain ⟨rfl, rfl, rfl⟩ : a0 = none ∧ len0 = 0 ∧ cap0 = 0 := by simpa using hc
    exact ⟨[], ⟨⟨none, 0, rfl, fun h => absurd h (Nat.lt_irrefl 0)⟩, none, 0, rfl, Nat.le_refl _, by unfold maxLen; omega, fun _ => rfl⟩, by simp⟩
  · obtain ⟨rfl, rfl, rfl⟩ : a0 = some a ∧ len0 = len ∧ cap0 = cap := by simpa using hc
    have hlm : len0 ≤ m := by rw [hmm]; split <;> omega
    have each : ∀ i, i < len0 → ∃ q : Int, w.cell? (a.add i) = some (.int .i64 q) ∧ -9223372036854775808 ≤ q ∧ q ≤ 9223372036854775807 := by
      intro i hi
      obtain ⟨cs', h1, h2⟩ := hx i (by omega)
      rw [cellsInt7, Nat.mul_one] at h1
      obtain ⟨_, hlen, hcell⟩ := World.cells?_some h1
      match cs', hlen with
      | [v0], _ =>
        have e0 := hcell 0 (by omega)
        obtain ⟨q, hq, _, hw⟩ := DataW.trod_int Try.underlying3 h2
        simp only [List.cons.injEq, and_true] at hq
        subst hq
        exact ⟨q, by rw [show (a.add i).add 0 = a.add i from by simp [Addr.add]] at e0; simpa using e0, Kt.wf_i64 hw⟩
    obtain ⟨f, hf⟩ := Go.Deep.choose_lt each
    have hfl : ((List.range len0).map f).length = len0 := by simp
    refine ⟨(List.range len0).map f, ⟨⟨some a, cap0, by rw [hfl], fun hn => ?_⟩, some a, cap0, by rw [hfl], by rw [hfl]; exact hl, hm, fun h => by cases h⟩, fun x hx => ?_⟩
    · rw [hfl] at hn
      have hspot : a.spot = none := by simpa [Addr.add] using World.cell?_spot (hf 0 hn).1
      obtain ⟨b, off, sp0⟩ := a
      obtain rfl : sp0 = none := hspot
      refine ⟨b, off, rfl, fun i x hi => ?_⟩
      have hi0 : i < len0 := by have := (List.getElem?_eq_some_iff.1 hi).1; omega
      rw [List.getElem?_map, List.getElem?_range hi0] at hi
      obtain rfl : f i = x := by simpa using hi
      obtain ⟨h0, _⟩ := hf i hi0
      have ad : ∀ k, (⟨b, off, none⟩ : Addr).add k = ⟨b, off + k, none⟩ := fun k => by unfold Addr.add; split <;> simp_all
      rw [ad] at h0
      exact h0
    · obtain ⟨i, hi, rfl⟩ := List.mem_map.1 hx
      exact (hf i (List.mem_range.1 hi)).2
/-! ### both answers -/
def codesO (l : List Int) : List Nat := if codesE l = 0 then codesN l else []
theorem codesO_len (l : List Int) : (codesO l).length ≤ l.length := by
  unfold codesO
  split
  · rw [codesN, codesF_len]; exact Nat.le_refl _
  · exact Nat.zero_le _
theorem codesE_zero {l : List Int} (h : codesE l = 0) : badL l = false ∧ kra l ≤ 32768 := by
  unfold codesE at h
  cases hb : badL l
  · rw [hb] at h
    simp only [Bool.false_eq_true, if_false] at h
    split at h
    · omega
    · exact ⟨rfl, by omega⟩
  · rw [hb] at h
    simp at h
theorem U32sAt.nil (w : World) : U32sAt w (.slice none 0 0) [] := ⟨none, 0, rfl, fun h => by simp at h⟩
theorem IntsAt.nil (w : World) : IntsAt w (.slice none 0 0) [] := ⟨none, 0, rfl, fun h => by simp at h⟩
def CodesR (w : World) (l : List Int) (e : Ending) (w' : World) : Prop := ∃ v', e = .returned (.tuple #[v', .int .i64 (codesE l)]) ∧ Ext [] w w' ∧ U32sAt w' v' (codesO l)
theorem codes_any (v : Value) (l : List Int) (w : World) (hv : IntsAt w v l) (hl : l.length ≤ 1048576) : Calls Try.prog 13 #[v] w (CodesR w l) := by
  by_cases he : codesE l = 0
  · obtain ⟨hb, hk⟩ := codesE_zero he
    refine (codes_ok v l w hv hl hb hk).mono ?_
    rintro e w' ⟨v', rfl, hx, hp, _⟩
    refine ⟨v', by rw [he], hx, U32sAt.of_own ?_⟩
    unfold codesO
    rw [if_pos he, show (codesN l).length = l.length from codesF_len _ _]
    exact hp
  · refine (codes_err v l w hv hl he).mono ?_
    rintro e w' ⟨rfl, hx⟩
    refine ⟨_, rfl, hx, ?_⟩
    unfold codesO
    rw [if_neg he]
    exact U32sAt.nil w'
theorem rcodes_any (v : Value) (l : List Int) (w : World) (hv : IntsAt w v l) (hl : l.length ≤ 1048576) : Calls Try.prog 15 #[v] w (CodesR w l) := by
  by_cases he : codesE l = 0
  · obtain ⟨hb, hk⟩ := codesE_zero he
    refine (rcodes_ok v l w hv hb hk).mono ?_
    rintro e w' ⟨v', rfl, hx, hp, _⟩
    refine ⟨v', by rw [he], hx, U32sAt.of_own ?_⟩
    unfold codesO
    rw [if_pos he, show (codesN l).length = l.length from codesF_len _ _]
    exact hp
  · refine (rcodes_err v l w hv hl he).mono ?_
    rintro e w' ⟨rfl, rfl⟩
    refine ⟨_, rfl, Ext.refl _ _, ?_⟩
    unfold codesO
    rw [if_neg he]
    exact U32sAt.nil w
def lensO (l : List Int) (m : Int) : List Int := if lensErr l m = true then [] else lensF 40 m l
def lensX (l : List Int) (m : Int) : Int := if lensErr l m = true then 2 else 0
theorem lensO_len (l : List Int) (m : Int) : (lensO l m).length ≤ l.length := by
  unfold lensO
  split
  · exact Nat.zero_le _
  · rw [lensF_len]; exact Nat.le_refl _
def LensR (w : World) (l : List Int) (m : Int) (e : Ending) (w' : World) : Prop := ∃ v', e = .returned (.tuple #[v', .int .i64 (lensX l m)]) ∧ Ext [] w w' ∧ IntsAt w' v' (lensO l m)
theorem LensR.of_ok {w w' : World} {l : List Int} {m : Int} {e : Ending} (he : lensErr l m = false) (h : NewTwo w (lensF 40 m l) e w') : LensR w l m e w' := by
  obtain ⟨v', rfl, hx, hp, _⟩ := h
  refine ⟨v', by unfold lensX; rw [he]; rfl, hx, ?_⟩
  unfold lensO
  rw [he]
  exact IntsAt.of_own hp
theorem LensR.of_err {w w' : World} {l : List Int} {m : Int} (he : lensErr l m = true) (hx : Ext [] w w') : LensR w l m (.returned (.tuple #[.slice none 0 0, .int .i64 2])) w' := by
  refine ⟨_, by unfold lensX; rw [he]; rfl, hx, ?_⟩
  unfold lensO
  rw [he]
  exact IntsAt.nil w'
theorem lens_any (v : Value) (l : List Int) (m : Int) (w : World) (hv : IntsArg w v l) (hl : l.length ≤ 1048576) (hm0 : -9223372036854775808 ≤ m) (hm9 : m ≤ 9223372036854775807) :
    Calls Try.prog 16 #[v, .int .i64 m] w (LensR w l m) := by
  cases he : lensErr l m
  · exact (lens_ok v l m 40 w hv he (fit_all he)).mono fun e w' h => LensR.of_ok he h
  · refine (lens_err v l m w hv hl hm0 hm9 he).mono ?_
    rintro e w' ⟨rfl, hx⟩
    exact LensR.of_err he hx
theorem rlens_any (v : Value) (l : List Int) (m : Int) (w : World) (hv : IntsArg w v l) (hl : l.length ≤ 1048576) (hm0 : -9223372036854775808 ≤ m) (hm9 : m ≤ 9223372036854775807) :
    Calls Try.prog 17 #[v, .int .i64 m] w (LensR w l m) := by
  cases he : lensErr l m
  · exact (rlens_ok v l m 40 w hv he (fit_all he)).mono fun e w' h => LensR.of_ok he h
  · refine (rlens_err v l m w hv hl hm0 hm9 he).mono ?_
    rintro e w' ⟨rfl, hx⟩
    exact LensR.of_err he hx
set_option maxRecDepth 100000 in
set_option maxHeartbeats 4000000 in
theorem own_int (v : Value) (l : List Int) (w : World) (hv : IntsArg w v l) (hl : l.length ≤ 1048576) : Calls Try.prog 14 #[v] w (NewInts w l) := by
  obtain ⟨hA, ao, cap, rfl, hcap, hcm, hnil⟩ := hv
  obtain ⟨v', w', hr, hx, hp, hn⟩ := copy_ints w ao cap l hA hl hnil (fun h => by have := hnil h; omega)
  have HXP := Lib.hid (⟨hx, hp, hn⟩ : _ ∧ _ ∧ _)
  have HR := Lib.hid hr
  clear hx hp hn hA hr hnil hcap hcm
  go_enter Try.func14, Try.ntmps14
  go_wp2_with (at_builtin; refine wpList_plain rfl (fun K9 hK9 => wp_append_run _ _ _ _ rfl rfl rfl (HR.out _) (hK9 _ _ ?_)))
  go_ret
  exact ⟨_, rfl, HXP.out.1, HXP.out.2.1, HXP.out.2.2⟩
set_option maxRecDepth 100000 in
set_option maxHeartbeats 8000000 in
theorem calls_law (v0 v1 : Value) (m : Int) (w : World) (h0 : ∃ l, IntsArg' w v0 l) (h1 : ∃ l, IntsArg' w v1 l) (h2 : (Lit.int .i64 m).wf = true) :
    Calls Try.prog 3 #[v0, v1, .int .i64 m] w fun e w' => e = .returned (.bool true) ∧ Ext [] w w' := by
  obtain ⟨l, hl, _⟩ := h0
  obtain ⟨f, hf, _⟩ := h1
  have hm := Kt.wf_i64 h2
  have HM := Lib.hid hm
  have HL := Lib.hid hl
  have HF := Lib.hid hf
  clear hm h2
  obtain ⟨_, ao, cap, rfl, _⟩ := hl
  obtain ⟨_, ao2, cap2, rfl, _⟩ := hf
  go_enter Try.func3, Try.ntmps3
  go_wp2_with fail
  refine (lives07 w).mono ?_
  rintro e w1 ⟨rfl, hx⟩
  have HX := Lib.hid hx
  clear hx
  by_cases hl3 : 300 < l.length
  · have hl3' : (300 : Int) < (l.length : Int) := by omega
    go_wp2_with fail
    go_ret
    exact ⟨rfl, HX.out⟩
  have hl3' : ¬ (300 : Int) < (l.length : Int) := by omega
  by_cases hf3 : 300 < f.length
  · have hf3' : (300 : Int) < (f.length : Int) := by omega
    go_wp2_with fail
    go_ret
    exact ⟨rfl, HX.out⟩
  have hf3' : ¬ (300 : Int) < (f.length : Int) := by omega
  obtain ⟨s1, hs1⟩ : ∃ s1, (stateN l).1 = s1 := ⟨_, rfl⟩
  obtain ⟨s2, hs2⟩ : ∃ s2, (stateN l).2 = s2 := ⟨_, rfl⟩
  obtain ⟨c1, hc1⟩ : ∃ c1, codesE l = c1 := ⟨_, rfl⟩
  obtain ⟨x1, hx1⟩ : ∃ x1, lensX f m = x1 := ⟨_, rfl⟩
  have HQ := Lib.hid (⟨hs1, hs2, hc1, hx1⟩ : _ ∧ _ ∧ _ ∧ _)
  clear hs1 hs2 hc1 hx1
  go_wp2_with fail
  refine (state_walk _ l w1 (HL.out.1.ext HX.out) (by omega)).mono ?_
  rw [HQ.out.1, HQ.out.2.1]
  rintro e w2 ⟨rfl, hx⟩
  have HX := Lib.hid (HX.out.trans hx)
  clear hx
  go_wp2_with fail
  refine (rstate_walk _ l w2 (HL.out.1.ext HX.out) (by omega)).mono ?_
  rw [HQ.out.1, HQ.out.2.1]
  rintro e w2' ⟨rfl, rfl⟩
  go_wp2_with fail
  refine (own_int _ l w2 (HL.out.ext HX.out) (by omega)).mono ?_
  rintro e w3 ⟨v3, rfl, hx, hp, _⟩
  have HX := Lib.hid (HX.out.trans hx)
  have HP := Lib.hid (IntsAt.of_own hp)
  clear hx hp
  go_wp2_with fail
  refine (codes_any _ l w3 HP.out (by omega)).mono ?_
  rintro e w4 ⟨v4, he, hx, hp4⟩
  rw [HQ.out.2.2.1] at he
  subst he
  have HX := Lib.hid (HX.out.trans hx)
  have HP4 := Lib.hid hp4
  clear hx hp4 HP
  go_wp2_with fail
  refine (rcodes_any _ l w4 (HL.out.1.ext HX.out) (by omega)).mono ?_
  rintro e w5 ⟨v5, he, hx, hp5⟩
  rw [HQ.out.2.2.1] at he
  subst he
  have HX := Lib.hid (HX.out.trans hx)
  have HP4 := Lib.hid (HP4.out.ext hx)
  have HP5 := Lib.hid hp5
  clear hx hp5
  go_wp2_with fail
  refine (own_int _ f w5 (HF.out.ext HX.out) (by omega)).mono ?_
  rintro e w6 ⟨v6, rfl, hx, hp, _⟩
  have HX := Lib.hid (HX.out.trans hx)
  have HP4 := Lib.hid (HP4.out.ext hx)
  have HP5 := Lib.hid (HP5.out.ext hx)
  have HP := Lib.hid (IntsArg.of_own hp)
  clear hx hp
  go_wp2_with fail
  refine (lens_any _ f m w6 HP.out (by omega) HM.out.1 HM.out.2).mono ?_
  rintro e w7 ⟨v7, he, hx, hp7⟩
  rw [HQ.out.2.2.2] at he
  subst he
  have HX := Lib.hid (HX.out.trans hx)
  have HP4 := Lib.hid (HP4.out.ext hx)
  have HP5 := Lib.hid (HP5.out.ext hx)
  have HP7 := Lib.hid hp7
  clear hx hp7 HP
  go_wp2_with fail
  refine (rlens_any _ f m w7 (HF.out.ext HX.out) (by omega) HM.out.1 HM.out.2).mono ?_
  rintro e w8 ⟨v8, he, hx, hp8⟩
  rw [HQ.out.2.2.2] at he
  subst he
  have HX := Lib.hid (HX.out.trans hx)
  have HP4 := Lib.hid (HP4.out.ext hx)
  have HP5 := Lib.hid (HP5.out.ext hx)
  have HP7 := Lib.hid (HP7.out.ext hx)
  have HP8 := Lib.hid hp8
  clear hx hp8
  go_wp2_with fail
  refine (same_u32 v4 v5 (codesO l) (codesO l) w8 HP4.out HP5.out (by have := codesO_len l; omega) (by have := codesO_len l; omega)).mono ?_
  rw [decide_eq_true rfl]
  rintro e w9 ⟨rfl, hx⟩
  have HX := Lib.hid (HX.out.trans hx)
  have HP7 := Lib.hid (HP7.out.ext hx)
  have HP8 := Lib.hid (HP8.out.ext hx)
  clear hx
  go_wp2_with fail
  refine (same_int v7 v8 (lensO f m) (lensO f m) w9 HP7.out HP8.out (by have := lensO_len f m; omega) (by have := lensO_len f m; omega)).mono ?_
  rw [decide_eq_true rfl]
  rintro e w10 ⟨rfl, hx⟩
  have HX := Lib.hid (HX.out.trans hx)
  clear hx
  go_wp2_with fail
  go_ret
  exact ⟨rfl, HX.out⟩
end Go.Proofs.Ytchhgbhbldfofaa.Hu
