/-
  deflate: Stored walked.
-/
import Derived.Test.YtnapnaaejignaaaGreatDgA
import Derived.Deep.Upon
import Derived.Laws.DeepNot64
namespace Go.Proofs.YtnapnaaejignaaaGreat.De
open Go.RowKit Bt Hu If Mt

theorem bytes_nB (x : ByteArray) : byteCells x = (nB (B x)).map b8 := by
  unfold byteCells nB B
  rw [List.map_map]
  rfl
abbrev oBs (ao : Option Addr) (cap : Nat) (o : List Nat) : Ob := oSl 5 1 (.slice ao o.length cap) o.length (o.map b8)
/-- a text is appended to a row of the call's own -/
theorem app_str {w : World} {ao : Option Addr} {cap : Nat} {o : List Nat} (h : w.ownsRow 0 5 1 (.slice ao o.length cap) o.length (o.map b8)) (x : ByteArray) (hl : o.length + x.size ≤ 1073741824) (ty : TypeId) :
    ∃ ao' cap' w', (Builtin.append_ #[28, 9] ty #[.slice ao o.length cap, .string x]).run Tryz.prog w = .ok (.slice ao' (o ++ nB (B x)).length cap') w' ∧ w'.ownsRow 0 5 1 (.slice ao' (o ++ nB (B x)).length cap') (o ++ nB (B x)).length ((o ++ nB (B x)).map b8) ∧
      Ext (Value.slice ao o.length cap).ownBlock.toList w w' ∧ Fr w (Value.slice ao o.length cap).ownBlock.toList (Value.slice ao' (o ++ nB (B x)).length cap').ownBlock.toList := by
  obtain ⟨i0, hi, hz0, hz1, hz2⟩ := info_parts infoByte
  have hlen : (o ++ nB (B x)).length = o.length + x.size := by rw [List.length_append, nB_len, B_len]
  have hs := Src.ofString (P := Tryz.prog) w Tryz.underlying9 x
  rw [bytes_nB] at hs
  by_cases h0 : x.size = 0
  · have hB : nB (B x) = [] := List.eq_nil_of_length_eq_zero (by rw [nB_len, B_len]; exact h0)
    rw [hB, List.append_nil]
    rw [hB, h0, List.map_nil] at hs
    have hle : o.length ≤ cap := by
      rcases h.2 with ⟨he, hn⟩ | ⟨g, c2, cur, he, _, _, hnc, _⟩
      · injection he with _ _ e3
        omega
      · injection he with _ _ e3
        omega
    exact ⟨ao, cap, w, run_append_nothing w 28 9 ty 5 i0 Tryz.underlying28 hi ao o.length cap hle _ (by rw [hz1]; exact hs), h, Ext.refl _ _, Fr.refl _ _⟩
  · obtain ⟨g, c2, w', hr, h2, h3, h4, h5⟩ := run_append_src (P := Tryz.prog) w 0 28 9 ty 5 i0 (.int .u8 0) 1 1 Tryz.underlying28 hi hz0 hz1 hz2 rfl (by decide) _ _ _ h _ _ _ hs (by omega) (by unfold maxLen; omega) (by omega) (by omega)
    rw [← List.map_append, ← hlen] at h2
    rw [← hlen] at hr
    refine ⟨_, c2, w', hr, h2, ⟨h3.os, h3.tape, h3.output, h3.size, fun k hk hS => h3.block k hk (fun e => hS (by simp [e]))⟩, fun q hq => ?_⟩
    obtain rfl : q = g := by simpa [Value.ownBlock] using hq
    rcases h4 with h | h
    · exact .inl (by simp [h])
    · exact .inr (by omega)
theorem stoF_last (g : Nat) (l : List Nat) (h : l.length ≤ 65535) : stoF (g + 1) l = (1 :: hdS l.length) ++ l := by rw [stoF, if_pos h]
theorem stoF_more (g : Nat) (l : List Nat) (h : ¬ l.length ≤ 65535) : stoF (g + 1) l = ((0 :: hdS 65535) ++ l.take 65535) ++ stoF g (l.drop 65535) := by rw [stoF, if_neg h]
theorem nB_take (t : ByteArray) (n : Nat) : nB (B (t.extract 0 n)) = (nB (B t)).take n := by
  unfold nB B
  rw [ByteArray.data_extract, Array.toList_extract]
  simp [List.extract, List.map_take]
theorem nB_drop (t : ByteArray) (n : Nat) : nB (B (t.extract n t.size)) = (nB (B t)).drop n := by
  unfold nB B
  rw [ByteArray.data_extract, Array.toList_extract, List.extract, List.map_take, List.map_drop, List.take_of_length_le]
  rw [List.length_drop, List.length_map, Array.length_toList]
  exact Nat.le_refl _
theorem lo8 (n : Nat) : (n : Int) % 256 = ((n % 256 : Nat) : Int) := by omega
set_option maxRecDepth 100000 in
set_option maxHeartbeats 4000000 in
theorem stored_walk (s : ByteArray) (w : World) (hs : s.size ≤ 1048576) :
    Calls Tryz.prog 21 #[.string s] w fun e w' => e = .returned (.string (storedN s)) ∧ Ext [] w w' := by
  obtain ⟨i0, hif, hz0, hz1, hz2⟩ := info_parts infoByte
  unfold storedN
  obtain ⟨R, hR⟩ : ∃ R, storedB s = R := ⟨_, rfl⟩
  rw [hR]
  unfold storedB at hR
  have HR := Lib.hid hR
  clear hR
  have S0 := (Sep.start w).new (Ext.refl _ _) (oBs none 0 []) (World.ownsRow_nil _ _ _ _) (by simp [oSl, Value.ownBlock])
  have HS := Lib.hid S0
  clear S0
  go_enter Tryz.func21, Tryz.ntmps21
  go_wp2_with fail
  go_loopg [0, 3, 4] (s.size / 65535 + 1) (fun g tv ov lv wr => ∃ (t : ByteArray) (o : List Nat) (ao : Option Addr) (cap : Nat), tv = .string t ∧ ov = .slice ao o.length cap ∧ o.length ≤ 2 * s.size + 100 ∧ ((lv = .int .u8 0 ∧ o ++ stoF g (nB (B t)) = R ∧ t.size < 65535 * g ∧ t.size ≤ 1048576 ∧ o.length + 2 * t.size + 6 ≤ 2 * s.size + 90) ∨ (lv = .int .u8 1 ∧ o = R)) ∧ Sep w wr [oBs ao cap o])
  case atStart => exact ⟨s, [], none, 0, rfl, rfl, by simp, .inl ⟨rfl, HR.out, by omega, hs, by simp⟩, HS.out⟩
  case round =>
    clear HS HR
    obtain ⟨t, o, ao, cap, rfl, rfl, hol, hcase, S⟩ := hrel
    have HS := Lib.hid S
    clear S
    rcases hcase with ⟨rfl, hR, htg, htz, hot⟩ | ⟨rfl, rfl⟩
    · obtain ⟨g, rfl⟩ : ∃ g, gk = g + 1 := ⟨gk - 1, by omega⟩
      obtain ⟨n, hn⟩ : ∃ n, min t.size 65535 = n := ⟨_, rfl⟩
      have hn65 : n ≤ 65535 := by omega
      have hnt : n ≤ t.size := by omega
      have hmin : min (t.size : Int) 65535 = (n : Int) := by omega
      obtain ⟨a, ha⟩ : ∃ a, n % 256 = a := ⟨_, rfl⟩
      obtain ⟨b, hb⟩ : ∃ b, n / 256 = b := ⟨_, rfl⟩
      have hx : bits BinOp.xor IntKind.i64 (if IntKind.i64.signed = true then -1 else 9223372036854775807) (n : Int) = -1 - (n : Int) := i64_not n (by omega)
      have h1 : (n : Int) % 256 = (a : Nat) := by omega
      have h2 : (n : Int) / 256 = (b : Nat) := by omega
      have h3 : (-1 - (n : Int)) % 256 = ((255 - a : Nat) : Int) := by omega
      have h4 : (-1 - (n : Int)) / 256 % 256 = ((255 - b : Nat) : Int) := by omega
      have hb255 : (b : Int) ≤ 255 := by omega
      have hd : hdS n = [a, b, 255 - a, 255 - b] := by unfold hdS; rw [ha, hb]
      have HN := Lib.hid (⟨hn, hd, hR, htg, htz, hot⟩ : _ ∧ _ ∧ _ ∧ _ ∧ _ ∧ _)
      have hts : t.size ≤ 1048576 := htz
      have hso : o.length ≤ 2097300 := by omega
      clear hn ha hb hd hR htg htz hot
      have hown : wr.ownsRow 0 5 1 (.slice ao o.length cap) o.length (o.map b8) := HS.out.get 0 rfl
      by_cases hl : n = t.size
      · have q1 : ((n : Int) == (t.size : Int)) = true := beq_iff_eq.2 (by omega)
        have HLn := Lib.hid hl
        clear hl
        go_upto_region 8 with (at_builtin; refine wpList_append_lies _ rfl _ _ 28 rfl 0 5 i0 _ 1 1 Tryz.underlying28 hif hz0 hz1 hz2 rfl (by decide) (.slice ao o.length cap) o.length (o.map b8) rfl (World.ownsRow.alloc hown _) ⟨wr.heap.size, 0, none⟩ 5 5 (([1, a, b, 255 - a, 255 - b] : List Nat).map b8) rfl rfl (World.news_of_block (heap_alloc_at (w := wr) _)) (by simp [Value.oneCell', b8]) (by decide) (by unfold maxLen; omega) (by omega) (by omega) (wr.heap.size + 1) (by simp) ?_; intro g1 cap1 w2 hown1 hgrow1 hat1 hlt1; have P1 := push_local (cap := cap1) (n := o.length + 5) hgrow1 hat1; have H2 := Lib.hid (HS.out.upd 0 (oBs (some ⟨g1, 0, none⟩) cap1 (o ++ [1, a, b, 255 - a, 255 - b])) rfl P1.1 (by have := P1.2; simpa only [oBs, oSl, List.length_append, List.length_cons, List.length_nil] using this) (show w2.ownsRow 0 5 1 (.slice (some ⟨g1, 0, none⟩) (o ++ [1, a, b, 255 - a, 255 - b]).length cap1) (o ++ [1, a, b, 255 - a, 255 - b]).length ((o ++ [1, a, b, 255 - a, 255 - b]).map b8) by rw [List.map_append, List.length_append]; exact hown1)); clear P1 hown1 hgrow1 hat1 hown)
        clear HS
        have S : Sep w w2 [oBs (some ⟨g1, 0, none⟩) cap1 (o ++ [1, a, b, 255 - a, 255 - b])] := H2.out
        clear H2
        obtain ⟨o2, ho2⟩ : ∃ o2, o ++ [1, a, b, 255 - a, 255 - b] = o2 := ⟨_, rfl⟩
        have hl2 : o2.length = o.length + 5 := by rw [← ho2, List.length_append]; rfl
        rw [ho2] at S
        have e5 : (.slice (some ⟨g1, 0, none⟩) (o.length + 5) cap1 : Value) = .slice (some ⟨g1, 0, none⟩) o2.length cap1 := by rw [hl2]
        have HO2 := Lib.hid ho2
        have HS := Lib.hid S
        clear S ho2 hx h1 h2 h3 h4 hb255
        rw [e5]
        have hown2 : w2.ownsRow 0 5 1 (.slice (some ⟨g1, 0, none⟩) o2.length cap1) o2.length (o2.map b8) := HS.out.get 0 rfl
        have hext : (t.extract 0 n).size = n := by simp; omega
        have hA := fun ty => app_str hown2.drew (t.extract 0 n) (by rw [hext]; omega) ty
        obtain ⟨o3, hoe⟩ : ∃ o3, o2 ++ nB (B (t.extract 0 n)) = o3 := ⟨_, rfl⟩
        rw [hoe] at hA
        have HOE := Lib.hid hoe
        obtain ⟨ao3, cap3, w3, hr, ho3, hx3, hf3⟩ := hA 28
        have j1 : (0 : Int) ≤ (n : Int) := by omega
        have j2 : (n : Int) ≤ (t.size : Int) := by omega
        have HA := Lib.hid (⟨hr, ho3, hx3, hf3⟩ : _ ∧ _ ∧ _ ∧ _)
        clear hA hr ho3 hx3 hf3 hown2 hoe
        refine wp_region_perm (C := fun w' => ∃ x : ExS (Value.slice (some ⟨g1, 0, none⟩) o2.length cap1).ownBlock.toList w2, w' = x.w) [0, 1, 2, 3, 5, 6, 7] 9 (by kernel_rfl) (by kernel_rfl) ⟨ExS.mk _ ((Ext.refl _ w2).drew), rfl⟩ ?_
        simp only [pick, List.getElem?_toArray, List.getElem?_cons_zero, List.getElem?_cons_succ, List.drop_succ_cons, List.drop_zero]
        repeat (go_big_quiet_step (fail))
        refine wpQuiet_nil ?_
        refine anyC_one (f := 1) (i := 4) (by kernel_rfl) (by decide) rfl rfl (fun K hK => ?_)
        refine wp_append_run _ _ _ _ rfl rfl rfl HA.out.1 ?_
        refine hK _ _ ⟨ExS.mk _ ((Ext.refl _ w2).drew.trans HA.out.2.2.1), rfl⟩ ?_
        clear hK K
        refine anyC_one (f := 0) (i := 8) (by kernel_rfl) (by decide) rfl rfl (fun K hK => ?_)
        go_wp2_with fail
        refine hK _ _ ⟨ExS.mk _ ((Ext.refl _ w2).drew.trans HA.out.2.2.1), rfl⟩ ?_
        clear hK K
        refine anyC_end (by kernel_rfl) ?_
        go_wp2_with fail
        refine NoPanic.normal ?_
        go_wp2_with fail
        have S := HS.out.upd 0 (oBs ao3 cap3 o3) rfl HA.out.2.2.1.drewR HA.out.2.2.2 HA.out.2.1
        have S : Sep w w3 [oBs ao3 cap3 o3] := S
        have HS := Lib.hid S
        clear S
        have ht : (nB (B (t.extract 0 n))).length = n := by rw [nB_len, B_len, hext]
        go_roundg g
        case measure => omega
        case rel =>
          obtain ⟨z1, z2, z3, z4, z5, z6⟩ := HN.out
          have hl3 : o3.length = o.length + 5 + n := by rw [← HOE.out, List.length_append, ht, hl2]
          have hl4 : (nB (B t)).length = t.size := by rw [nB_len, B_len]
          refine ⟨t.extract n t.size, o3, ao3, cap3, rfl, rfl, by omega, .inr ⟨rfl, ?_⟩, HS.out⟩
          have hnt2 : n = t.size := HLn.out
          rw [stoF_last g _ (by omega)] at z3
          rw [← z3, ← HOE.out, ← HO2.out, hl4, ← hnt2, z2, nB_take, List.take_of_length_le (by omega), List.append_assoc]
      · have q1 : ((n : Int) == (t.size : Int)) = false := beq_eq_false_iff_ne.2 (by omega)
        go_upto_region 8 with (at_builtin; refine wpList_append_lies _ rfl _ _ 28 rfl 0 5 i0 _ 1 1 Tryz.underlying28 hif hz0 hz1 hz2 rfl (by decide) (.slice ao o.length cap) o.length (o.map b8) rfl (World.ownsRow.alloc hown _) ⟨wr.heap.size, 0, none⟩ 5 5 (([0, a, b, 255 - a, 255 - b] : List Nat).map b8) rfl rfl (World.news_of_block (heap_alloc_at (w := wr) _)) (by simp [Value.oneCell', b8]) (by decide) (by unfold maxLen; omega) (by omega) (by omega) (wr.heap.size + 1) (by simp) ?_; intro g1 cap1 w2 hown1 hgrow1 hat1 hlt1; have P1 := push_local (cap := cap1) (n := o.length + 5) hgrow1 hat1; have H2 := Lib.hid (HS.out.upd 0 (oBs (some ⟨g1, 0, none⟩) cap1 (o ++ [0, a, b, 255 - a, 255 - b])) rfl P1.1 (by have := P1.2; simpa only [oBs, oSl, List.length_append, List.length_cons, List.length_nil] using this) (show w2.ownsRow 0 5 1 (.slice (some ⟨g1, 0, none⟩) (o ++ [0, a, b, 255 - a, 255 - b]).length cap1) (o ++ [0, a, b, 255 - a, 255 - b]).length ((o ++ [0, a, b, 255 - a, 255 - b]).map b8) by rw [List.map_append, List.length_append]; exact hown1)); clear P1 hown1 hgrow1 hat1 hown)
        clear HS
        have S : Sep w w2 [oBs (some ⟨g1, 0, none⟩) cap1 (o ++ [0, a, b, 255 - a, 255 - b])] := H2.out
        clear H2
        obtain ⟨o2, ho2⟩ : ∃ o2, o ++ [0, a, b, 255 - a, 255 - b] = o2 := ⟨_, rfl⟩
        have hl2 : o2.length = o.length + 5 := by rw [← ho2, List.length_append]; rfl
        rw [ho2] at S
        have e5 : (.slice (some ⟨g1, 0, none⟩) (o.length + 5) cap1 : Value) = .slice (some ⟨g1, 0, none⟩) o2.length cap1 := by rw [hl2]
        have HO2 := Lib.hid ho2
        have HS := Lib.hid S
        clear S ho2 hx h1 h2 h3 h4 hb255
        rw [e5]
        have hown2 : w2.ownsRow 0 5 1 (.slice (some ⟨g1, 0, none⟩) o2.length cap1) o2.length (o2.map b8) := HS.out.get 0 rfl
        have hext : (t.extract 0 n).size = n := by simp; omega
        have hA := fun ty => app_str hown2.drew (t.extract 0 n) (by rw [hext]; omega) ty
        obtain ⟨o3, hoe⟩ : ∃ o3, o2 ++ nB (B (t.extract 0 n)) = o3 := ⟨_, rfl⟩
        rw [hoe] at hA
        have HOE := Lib.hid hoe
        obtain ⟨ao3, cap3, w3, hr, ho3, hx3, hf3⟩ := hA 28
        have j1 : (0 : Int) ≤ (n : Int) := by omega
        have j2 : (n : Int) ≤ (t.size : Int) := by omega
        have HA := Lib.hid (⟨hr, ho3, hx3, hf3⟩ : _ ∧ _ ∧ _ ∧ _)
        clear hA hr ho3 hx3 hf3 hown2 hoe
        refine wp_region_perm (C := fun w' => ∃ x : ExS (Value.slice (some ⟨g1, 0, none⟩) o2.length cap1).ownBlock.toList w2, w' = x.w) [0, 1, 2, 3, 5, 6, 7] 9 (by kernel_rfl) (by kernel_rfl) ⟨ExS.mk _ ((Ext.refl _ w2).drew), rfl⟩ ?_
        simp only [pick, List.getElem?_toArray, List.getElem?_cons_zero, List.getElem?_cons_succ, List.drop_succ_cons, List.drop_zero]
        repeat (go_big_quiet_step (fail))
        refine wpQuiet_nil ?_
        refine anyC_one (f := 1) (i := 4) (by kernel_rfl) (by decide) rfl rfl (fun K hK => ?_)
        refine wp_append_run _ _ _ _ rfl rfl rfl HA.out.1 ?_
        refine hK _ _ ⟨ExS.mk _ ((Ext.refl _ w2).drew.trans HA.out.2.2.1), rfl⟩ ?_
        clear hK K
        refine anyC_one (f := 0) (i := 8) (by kernel_rfl) (by decide) rfl rfl (fun K hK => ?_)
        go_wp2_with fail
        refine hK _ _ ⟨ExS.mk _ ((Ext.refl _ w2).drew.trans HA.out.2.2.1), rfl⟩ ?_
        clear hK K
        refine anyC_end (by kernel_rfl) ?_
        go_wp2_with fail
        refine NoPanic.normal ?_
        go_wp2_with fail
        have S := HS.out.upd 0 (oBs ao3 cap3 o3) rfl HA.out.2.2.1.drewR HA.out.2.2.2 HA.out.2.1
        have S : Sep w w3 [oBs ao3 cap3 o3] := S
        have HS := Lib.hid S
        clear S
        have ht : (nB (B (t.extract 0 n))).length = n := by rw [nB_len, B_len, hext]
        go_roundg g
        case measure => omega
        case rel =>
          obtain ⟨z1, z2, z3, z4, z5, z6⟩ := HN.out
          have hl3 : o3.length = o.length + 5 + n := by rw [← HOE.out, List.length_append, ht, hl2]
          have hl4 : (nB (B t)).length = t.size := by rw [nB_len, B_len]
          have ne : n = 65535 := by omega
          have he : (t.extract n t.size).size = t.size - n := by simp
          refine ⟨t.extract n t.size, o3, ao3, cap3, rfl, rfl, by omega, .inl ⟨rfl, ?_, by rw [he]; omega, by rw [he]; omega, by rw [he]; omega⟩, HS.out⟩
          rw [stoF_more g _ (by omega)] at z3
          rw [← z3, ← HOE.out, ← HO2.out, nB_take, nB_drop, ne, ← ne, z2]
          simp only [List.append_assoc, List.cons_append, List.nil_append]
    · have hown := HS.out.get 0 rfl
      have hct := run_row_text hown
      clear hown
      go_wp2_with fail
      go_ret
      exact ⟨rfl, HS.out.ext⟩
end Go.Proofs.YtnapnaaejignaaaGreat.De
