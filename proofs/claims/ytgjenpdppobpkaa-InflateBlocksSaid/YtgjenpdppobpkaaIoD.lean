/-
  The law InflateBlocks walked.
-/
import Derived.Test.YtgjenpdppobpkaaIoC
namespace Go.Proofs.Ytgjenpdppobpkaa.If
open Go.RowKit Bt Hu

def strm0 (ts : List (List Nat)) : List Nat := ts.flatMap (blkB 0)
theorem strm_last : ∀ (ts : List (List Nat)) (t : List Nat), strm (ts ++ [t]) = strm0 ts ++ blkB 1 t
  | [], t => rfl
  | [u], t => by simp [strm, strm0]
  | u :: x :: l, t => by
    have := strm_last (x :: l) t
    rw [List.cons_append, List.cons_append, strm, ← List.cons_append, this]
    simp [strm0]
def accS (ts : List (List Nat)) (k : Nat) : List Nat := if k < ts.length then strm0 (ts.take k) else strm ts
theorem accS_next (ts : List (List Nat)) (k : Nat) (t : List Nat) (h : ts[k]? = some t) : accS ts (k + 1) = accS ts k ++ blkB (if k + 1 = ts.length then 1 else 0) t := by
  have hk : k < ts.length := (List.getElem?_eq_some_iff.1 h).1
  have e : ts.take (k + 1) = ts.take k ++ [t] := take_snoc10 ts k t h
  unfold accS
  rw [if_pos hk]
  by_cases hn : k + 1 = ts.length
  · rw [if_neg (by omega), if_pos hn]
    rw [hn, List.take_length] at e
    rw [e, strm_last]
    congr 2
    rw [List.take_append_of_le_length (by rw [List.length_take]; omega), List.take_take, Nat.min_self]
  · rw [if_pos (by omega), if_neg hn, e]
    simp [strm0]
theorem accS_len (ts : List (List Nat)) : ∀ k, k ≤ ts.length → (∀ i t, i < k → ts[i]? = some t → t.length ≤ 100) → (accS ts k).length ≤ 105 * k ∧ (ts.take k).flatten.length ≤ 100 * k
  | 0, _, _ => by
    refine ⟨?_, by simp⟩
    unfold accS
    split
    · simp [strm0]
    · rw [List.length_eq_zero_iff.1 (show ts.length = 0 by omega)]
      simp [strm]
  | k + 1, hk, ht => by
    obtain ⟨x, hx⟩ : ∃ x, ts[k]? = some x := ⟨_, List.getElem?_eq_getElem hk⟩
    obtain ⟨i1, i2⟩ := accS_len ts k (by omega) (fun i t hi h => ht i t (by omega) h)
    have hxl := ht k x (Nat.lt_succ_self k) hx
    rw [accS_next ts k x hx, take_snoc10 ts k x hx, List.length_append, blk_len, List.flatten_append, List.length_append, List.flatten_singleton]
    omega
theorem head_text (w : World) (a b c d e : Nat) :
    (convert 26 9 (.slice (some ⟨w.heap.size, 0, none⟩) 5 5)).run Try.prog (w.alloc (.cells #[.int .u8 (a : Int), .int .u8 (b : Int), .int .u8 (c : Int), .int .u8 (d : Int), .int .u8 (e : Int)] 5 (0, 0))) = .ok (.string (txt [a, b, c, d, e])) (w.alloc (.cells #[.int .u8 (a : Int), .int .u8 (b : Int), .int .u8 (c : Int), .int .u8 (d : Int), .int .u8 (e : Int)] 5 (0, 0))) :=
  run_row_text (n := 5) (bs := [a, b, c, d, e]) ⟨rfl, .inr ⟨w.heap.size, 5, _, rfl, Nat.zero_le _, heap_alloc_at _, Nat.le_refl _, by unfold maxLen; omega, rfl, rfl⟩⟩
theorem strm_le : ∀ ts : List (List Nat), (∀ t ∈ ts, t.length ≤ 100) → (strm ts).length ≤ 105 * ts.length ∧ ts.flatten.length ≤ 100 * ts.length
  | [], _ => by simp [strm]
  | [t], h => by
    have := h t (by simp)
    rw [strm, blk_len]
    simp
    omega
  | t :: u :: l, h => by
    have h1 := h t (by simp)
    obtain ⟨h2, h3⟩ := strm_le (u :: l) (fun x hx => h x (by simp [hx]))
    rw [strm, List.length_append, blk_len, List.flatten_cons, List.length_append]
    simp only [List.length_cons] at h2 h3 ⊢
    omega
theorem blocks_runs (ts : List (List Nat)) (s : ByteArray) (h0 : ts ≠ []) (ht : ∀ t ∈ ts, t.length ≤ 100 ∧ ∀ b ∈ t, b < 256) (hl : ts.length ≤ 20) (hs : s.size ≤ 100) :
    ∃ (B2 : List Nat) (m N : Nat), (txt (strm ts)).size = N + 1 ∧ N < 2100 ∧ (txt ts.flatten).size ≤ 2000 ∧ B2 <+: ts.flatten ∧
      (∀ w, Calls Try.prog 13 #[.string (txt (strm ts) ++ s), .int .i64 ((txt ts.flatten).size : Nat)] w fun e w' => e = .returned (.tuple #[.string (txt ts.flatten), .int .i64 ((txt (strm ts)).size : Nat), .int .i64 0]) ∧ Ext [] w w') ∧
      (∀ w, Calls Try.prog 13 #[.string ((txt (strm ts)).extract 0 N), .int .i64 ((txt ts.flatten).size : Nat)] w fun e w' => e = .returned (.tuple #[.string (txt B2), .int .i64 (m : Nat), .int .i64 8]) ∧ Ext [] w w') := by
  obtain ⟨l1, l2⟩ := strm_le ts (fun t h => (ht t h).1)
  have l3 := strm_len ts
  have l4 : 0 < ts.length := List.length_pos_iff.2 h0
  obtain ⟨N, hN⟩ : ∃ N, (strm ts).length = N + 1 := ⟨(strm ts).length - 1, by omega⟩
  have C : Cut ((txt (strm ts)).extract 0 N) (txt (strm ts ++ [])) ts.flatten.length ts.flatten.length := by
    rw [List.append_nil]
    exact cut_of _ N _ (by rw [txt_size]; omega)
  have hz : ((txt (strm ts)).extract 0 N).size = N := by simp [txt_size]; omega
  obtain ⟨d1, d2⟩ := stored_less ts _ [] h0 ht C (by rw [hz]; omega)
  refine ⟨outOf (runR ((txt (strm ts)).extract 0 N) ts.flatten.length), nOf (runR ((txt (strm ts)).extract 0 N) ts.flatten.length), N, by rw [txt_size, hN], by omega, by rw [txt_size]; omega, d2, fun w => ?_, fun w => ?_⟩
  · have h := run_walk (txt (strm ts) ++ s) ts.flatten.length w (by rw [ByteArray.size_append, txt_size]; omega) (by omega)
    have e1 : txt (strm ts) ++ s = txt (strm ts ++ bl s) := by rw [← txt_add, txt_bl]
    rw [runV_parts] at h
    rw [txt_size, txt_size]
    refine h.mono ?_
    rintro e w' ⟨rfl, hx⟩
    refine ⟨?_, hx⟩
    rw [e1, stored_run ts (bl s) h0 ht]
    show Ending.returned (.tuple #[.string (txt ts.flatten), .int .i64 (((8 * (strm ts).length + 7) / 8 : Nat) : Int), .int .i64 0]) = _
    rw [show (8 * (strm ts).length + 7) / 8 = (strm ts).length by omega]
  · have h := run_walk ((txt (strm ts)).extract 0 N) ts.flatten.length w (by rw [hz]; omega) (by omega)
    rw [runV_parts, d1] at h
    rw [txt_size]
    exact h
set_option maxRecDepth 100000 in
set_option maxHeartbeats 4000000 in
theorem blocks_law (v0 : Value) (s : ByteArray) (w : World) (h0 : ∃ l, StrsArg w v0 l) (_h1 : s.size ≤ maxLen) :
    Calls Try.prog 5 #[v0, .string s] w fun e w' => e = .returned (.bool true) ∧ Ext [] w w' := by
  obtain ⟨l, ao, cap, rfl, hc⟩ := h0
  have HC := Lib.hid hc
  clear hc
  unfold maxLen at _h1
  by_cases hg : l.length = 0 ∨ 20 < l.length ∨ 100 < s.size
  · by_cases g1 : l.length = 0
    · go_enter Try.func5, Try.ntmps5
      go_wp2_with fail
      refine (lives08 w).mono ?_
      rintro e w1 ⟨rfl, hx⟩
      go_wp2_with fail
      go_ret
      exact ⟨rfl, hx⟩
    · have y1 : ((l.length : Int) == 0) = false := beq_eq_false_iff_ne.2 (by omega)
      by_cases g2 : 20 < l.length
      · have y2 : (20 : Int) < (l.length : Int) := by omega
        go_enter Try.func5, Try.ntmps5
        go_wp2_with fail
        refine (lives08 w).mono ?_
        rintro e w1 ⟨rfl, hx⟩
        go_wp2_with fail
        go_ret
        exact ⟨rfl, hx⟩
      · have y2 : (l.length : Int) ≤ 20 := by omega
        have y3 : (100 : Int) < (s.size : Int) := by omega
        go_enter Try.func5, Try.ntmps5
        go_wp2_with fail
        refine (lives08 w).mono ?_
        rintro e w1 ⟨rfl, hx⟩
        go_wp2_with fail
        go_ret
        exact ⟨rfl, hx⟩
  · have y1 : ((l.length : Int) == 0) = false := beq_eq_false_iff_ne.2 (by omega)
    have y2 : decide ((20 : Int) < (l.length : Int)) = false := decide_eq_false (by omega)
    have y3 : decide ((100 : Int) < (s.size : Int)) = false := decide_eq_false (by omega)
    go_enter Try.func5, Try.ntmps5
    go_wp2_with fail
    refine (lives08 w).mono ?_
    rintro e w1 ⟨rfl, hx⟩
    have HX := Lib.hid hx
    clear hx
    go_wp2_with fail
    clear y1 y2 y3
    have hl20 : l.length ≤ 20 := by omega
    have hl1 : 1 ≤ l.length := by omega
    have hs100 : s.size ≤ 100 := by omega
    clear hg
    have htl : (l.map bl).length = l.length := List.length_map ..
    go_loopg [5, 6, 7] l.length (fun g sv tv iv wr => ∃ k : Nat, g + k = l.length ∧ sv = .string (txt (accS (l.map bl) k)) ∧ tv = .string (txt ((l.map bl).take k).flatten) ∧ iv = .int .i64 k ∧ (∀ (i : Nat) (x : ByteArray), i < k → l[i]? = some x → x.size ≤ 100) ∧ Ext [] w wr)
    case atStart => exact ⟨0, by omega, by unfold accS; rw [if_pos (by omega)]; rfl, rfl, rfl, fun i x h => absurd h (Nat.not_lt_zero _), HX.out⟩
    case round =>
      clear HX
      obtain ⟨k, hg, rfl, rfl, rfl, hsm, hx⟩ := hrel
      have HX := Lib.hid hx
      have HSM := Lib.hid hsm
      clear hx hsm
      by_cases hlt : k < l.length
      · obtain ⟨b, off, rfl, hcell⟩ := HC.out (by omega)
        obtain ⟨x, hx⟩ : ∃ x, l[k]? = some x := ⟨_, List.getElem?_eq_getElem hlt⟩
        have c0 := Ext.cell HX.out (hcell k x hx)
        have k1 : (k : Int) < (l.length : Int) := by omega
        by_cases hx100 : x.size ≤ 100
        · by_cases hlast : k + 1 = l.length
          · have k3 : ((k : Int) == (l.length : Int) - 1) = true := beq_iff_eq.2 (by omega)
            have hnx := accS_next (l.map bl) k (bl x) (by rw [List.getElem?_map, hx]; rfl)
            rw [htl, if_pos hlast] at hnx
            have hct := head_text wr.drew 1 x.size 0 (255 - x.size) 255
            rw [show (((255 - x.size : Nat)) : Int) = 255 - (x.size : Int) by omega] at hct
            have hct : (convert 26 9 (.slice (some ⟨wr.heap.size, 0, none⟩) 5 5)).run Try.prog (wr.alloc (.cells #[.int .u8 1, .int .u8 (x.size : Int), .int .u8 0, .int .u8 (255 - (x.size : Int)), .int .u8 255] 5 (0, 0))).drew = .ok (.string (txt [1, x.size, 0, 255 - x.size, 255])) (wr.alloc (.cells #[.int .u8 1, .int .u8 (x.size : Int), .int .u8 0, .int .u8 (255 - (x.size : Int)), .int .u8 255] 5 (0, 0))).drew := hct
            have hE : txt (accS (l.map bl) (k + 1)) = txt (accS (l.map bl) k) ++ txt [1, x.size, 0, 255 - x.size, 255] ++ x := by
              have hx' : ∀ A H : List Nat, txt A ++ txt H ++ x = txt (A ++ H ++ bl x) := fun A H => by rw [← txt_add, ← txt_add, txt_bl]
              rw [hx', hnx, List.append_assoc]
              unfold blkB
              rw [bl_len]
              rfl
            have hF : txt ((l.map bl).take (k + 1)).flatten = txt ((l.map bl).take k).flatten ++ x := by
              have hx' : ∀ A : List Nat, txt A ++ x = txt (A ++ bl x) := fun A => by rw [← txt_add, txt_bl]
              rw [hx', take_snoc10 (l.map bl) k (bl x) (by rw [List.getElem?_map, hx]; rfl)]
              simp
            have HE := Lib.hid (⟨hE, hF⟩ : _ ∧ _)
            clear hE hF hnx hlast
            have hzl := accS_len (l.map bl) k (by omega) (fun i t hi ht => by
              rw [List.getElem?_map] at ht
              obtain ⟨y, hy, rfl⟩ := Option.map_eq_some_iff.1 ht
              rw [bl_len]
              exact HSM.out i y hi hy)
            have q5 : (txt (accS (l.map bl) k)).size ≤ 2100 := by rw [txt_size]; omega
            have q6 : (txt ((l.map bl).take k).flatten).size ≤ 2000 := by rw [txt_size]; omega
            clear hzl
            generalize txt (accS (l.map bl) k) = S5 at *
            generalize txt ((l.map bl).take k).flatten = S6 at *
            have q7 : (txt [1, x.size, 0, 255 - x.size, 255]).size = 5 := by rw [txt_size]; rfl
            obtain ⟨hd, hhd⟩ : ∃ hd, txt [1, x.size, 0, 255 - x.size, 255] = hd := ⟨_, rfl⟩
            rw [hhd] at hct HE q7
            clear hhd
            have HXX := Lib.hid hx
            clear hx
            have z1 : IntKind.u8.wrap (x.size : Int) = (x.size : Int) := by unfold IntKind.wrap; simp [IntKind.signed, IntKind.bits]; omega
            have z2 : IntKind.i64.wrap (255 - (x.size : Int)) = 255 - (x.size : Int) := by unfold IntKind.wrap; simp [IntKind.signed, IntKind.bits]; omega
            have z3 : IntKind.u8.wrap (255 - (x.size : Int)) = 255 - (x.size : Int) := by unfold IntKind.wrap; simp [IntKind.signed, IntKind.bits]; omega
            have j1 : ¬ 9223372036854775807 < S5.size + 5 := by omega
            have j2 : ¬ 9223372036854775807 < S5.size + 5 + x.size := by omega
            have j3 : ¬ 9223372036854775807 < S6.size + x.size := by omega
            have j4 : ¬ 9223372036854775807 < (S5 ++ hd).size + x.size := by rw [ByteArray.size_append]; omega
            have c1 : (wr.alloc (.cells #[.int .u8 1, .int .u8 (x.size : Int), .int .u8 0, .int .u8 (255 - (x.size : Int)), .int .u8 255] 5 (0, 0))).drew.cell? ⟨b, off + k, none⟩ = some (.string x) := Ext.cell ((HX.out.alloc _).drew) (hcell k x HXX.out)
            go_wp2_with fail
            go_region
            clear hct z1 z2 z3 j1 j2 j3 j4 c1
            go_wp2_with fail
            go_roundg (l.length - (k + 1))
            case measure => omega
            case rel =>
              refine ⟨k + 1, by omega, by rw [HE.out.1], by rw [HE.out.2], by go_num, fun i y hi hy => ?_, (HX.out.drew).alloc _⟩
              by_cases hik : i = k
              · subst hik
                rw [HXX.out] at hy
                obtain rfl := Option.some.inj hy
                exact hx100
              · exact HSM.out i y (by omega) hy
          · have k3 : ((k : Int) == (l.length : Int) - 1) = false := beq_eq_false_iff_ne.2 (by omega)
            have hnx := accS_next (l.map bl) k (bl x) (by rw [List.getElem?_map, hx]; rfl)
            rw [htl, if_neg hlast] at hnx
            have hct := head_text wr.drew 0 x.size 0 (255 - x.size) 255
            rw [show (((255 - x.size : Nat)) : Int) = 255 - (x.size : Int) by omega] at hct
            have hct : (convert 26 9 (.slice (some ⟨wr.heap.size, 0, none⟩) 5 5)).run Try.prog (wr.alloc (.cells #[.int .u8 0, .int .u8 (x.size : Int), .int .u8 0, .int .u8 (255 - (x.size : Int)), .int .u8 255] 5 (0, 0))).drew = .ok (.string (txt [0, x.size, 0, 255 - x.size, 255])) (wr.alloc (.cells #[.int .u8 0, .int .u8 (x.size : Int), .int .u8 0, .int .u8 (255 - (x.size : Int)), .int .u8 255] 5 (0, 0))).drew := hct
            have hE : txt (accS (l.map bl) (k + 1)) = txt (accS (l.map bl) k) ++ txt [0, x.size, 0, 255 - x.size, 255] ++ x := by
              have hx' : ∀ A H : List Nat, txt A ++ txt H ++ x = txt (A ++ H ++ bl x) := fun A H => by rw [← txt_add, ← txt_add, txt_bl]
              rw [hx', hnx, List.append_assoc]
              unfold blkB
              rw [bl_len]
              rfl
            have hF : txt ((l.map bl).take (k + 1)).flatten = txt ((l.map bl).take k).flatten ++ x := by
              have hx' : ∀ A : List Nat, txt A ++ x = txt (A ++ bl x) := fun A => by rw [← txt_add, txt_bl]
              rw [hx', take_snoc10 (l.map bl) k (bl x) (by rw [List.getElem?_map, hx]; rfl)]
              simp
            have HE := Lib.hid (⟨hE, hF⟩ : _ ∧ _)
            clear hE hF hnx hlast
            have hzl := accS_len (l.map bl) k (by omega) (fun i t hi ht => by
              rw [List.getElem?_map] at ht
              obtain ⟨y, hy, rfl⟩ := Option.map_eq_some_iff.1 ht
              rw [bl_len]
              exact HSM.out i y hi hy)
            have q5 : (txt (accS (l.map bl) k)).size ≤ 2100 := by rw [txt_size]; omega
            have q6 : (txt ((l.map bl).take k).flatten).size ≤ 2000 := by rw [txt_size]; omega
            clear hzl
            generalize txt (accS (l.map bl) k) = S5 at *
            generalize txt ((l.map bl).take k).flatten = S6 at *
            have q7 : (txt [0, x.size, 0, 255 - x.size, 255]).size = 5 := by rw [txt_size]; rfl
            obtain ⟨hd, hhd⟩ : ∃ hd, txt [0, x.size, 0, 255 - x.size, 255] = hd := ⟨_, rfl⟩
            rw [hhd] at hct HE q7
            clear hhd
            have HXX := Lib.hid hx
            clear hx
            have z1 : IntKind.u8.wrap (x.size : Int) = (x.size : Int) := by unfold IntKind.wrap; simp [IntKind.signed, IntKind.bits]; omega
            have z2 : IntKind.i64.wrap (255 - (x.size : Int)) = 255 - (x.size : Int) := by unfold IntKind.wrap; simp [IntKind.signed, IntKind.bits]; omega
            have z3 : IntKind.u8.wrap (255 - (x.size : Int)) = 255 - (x.size : Int) := by unfold IntKind.wrap; simp [IntKind.signed, IntKind.bits]; omega
            have j1 : ¬ 9223372036854775807 < S5.size + 5 := by omega
            have j2 : ¬ 9223372036854775807 < S5.size + 5 + x.size := by omega
            have j3 : ¬ 9223372036854775807 < S6.size + x.size := by omega
            have j4 : ¬ 9223372036854775807 < (S5 ++ hd).size + x.size := by rw [ByteArray.size_append]; omega
            have c1 : (wr.alloc (.cells #[.int .u8 0, .int .u8 (x.size : Int), .int .u8 0, .int .u8 (255 - (x.size : Int)), .int .u8 255] 5 (0, 0))).drew.cell? ⟨b, off + k, none⟩ = some (.string x) := Ext.cell ((HX.out.alloc _).drew) (hcell k x HXX.out)
            go_wp2_with fail
            go_region
            clear hct z1 z2 z3 j1 j2 j3 j4 c1
            go_wp2_with fail
            go_roundg (l.length - (k + 1))
            case measure => omega
            case rel =>
              refine ⟨k + 1, by omega, by rw [HE.out.1], by rw [HE.out.2], by go_num, fun i y hi hy => ?_, (HX.out.drew).alloc _⟩
              by_cases hik : i = k
              · subst hik
                rw [HXX.out] at hy
                obtain rfl := Option.some.inj hy
                exact hx100
              · exact HSM.out i y (by omega) hy
        · have k2 : (100 : Int) < (x.size : Int) := by omega
          go_wp2_with fail
          go_ret
          exact ⟨rfl, HX.out⟩
      · obtain rfl : k = l.length := by omega
        have e5 : accS (l.map bl) l.length = strm (l.map bl) := by unfold accS; rw [if_neg (by omega)]
        have e6 : (l.map bl).take l.length = l.map bl := List.take_of_length_le (by omega)
        have hne : l.map bl ≠ [] := fun h => by rw [h] at htl; simp at htl; omega
        have ht : ∀ t ∈ l.map bl, t.length ≤ 100 ∧ ∀ b ∈ t, b < 256 := fun t h => by
          obtain ⟨x, hx, rfl⟩ := List.mem_map.1 h
          obtain ⟨i, hi⟩ := List.getElem?_of_mem hx
          exact ⟨by rw [bl_len]; exact HSM.out i x (List.getElem?_eq_some_iff.1 hi).1 hi, bl_lt x⟩
        obtain ⟨B2, m, N, n1, n2, n3, hpre, r1, r2⟩ := blocks_runs (l.map bl) s hne ht (by omega) hs100
        have hb := fun w => begins9 (l.map bl).flatten B2 w hpre
        rw [e5, e6]
        clear e5 e6 hne ht hpre HSM
        generalize txt (strm (l.map bl)) = S5 at *
        generalize txt (l.map bl).flatten = S6 at *
        have HR := Lib.hid (⟨r1, r2, hb⟩ : _ ∧ _ ∧ _)
        clear r1 r2 hb
        have k9 : ¬ (l.length : Int) < (l.length : Int) := by omega
        go_wp2_with fail
        refine (HR.out.1 wr).mono ?_
        rintro e w3 ⟨rfl, hx⟩
        have HX := Lib.hid (HX.out.trans hx)
        clear hx
        have n1' : (S5.size : Int) - 1 = (N : Int) := by omega
        go_wp2_with fail
        trace_state
        refine (HR.out.2.1 w3).mono ?_
        rintro e w4 ⟨rfl, hx⟩
        have HX := Lib.hid (HX.out.trans hx)
        clear hx
        go_wp2_with fail
        refine (HR.out.2.2 w4).mono ?_
        rintro e w5 ⟨rfl, rfl⟩
        go_wp2_with fail
        go_ret
        exact ⟨rfl, HX.out⟩
end Go.Proofs.Ytgjenpdppobpkaa.If
