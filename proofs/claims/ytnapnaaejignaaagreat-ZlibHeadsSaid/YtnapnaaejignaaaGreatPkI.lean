/-
  HuN, HuO, HuT, HuU, HuW, HuX, HuY, HuZ, HvA, HvB, HvC, HvCb, in one text.
-/
import Derived.Test.YtnapnaaejignaaaGreatPkH
import Derived.Test.YtnapnaaejignaaaGreatPkB
import Derived.Deep.MidRow
/-! HuN: huff.New, Size walked: the table. -/
namespace Go.Proofs.YtnapnaaejignaaaGreat.Hu
open Go.RowKit

/-! ### plain: symbols by length, then by number -/
def symF : List Int → Nat → Int → List Nat
  | [], _, _ => []
  | x :: l, i, n => if x = n then i :: symF l (i + 1) n else symF l (i + 1) n
def symT (l : List Int) : Nat → Nat → List Nat
  | _, 0 => []
  | k, g + 1 => symF l 0 k ++ symT l (k + 1) g
def symsN (l : List Int) : List Nat := symT l 1 15
theorem symF_len : ∀ (l : List Int) (i : Nat) (n : Int), (symF l i n).length ≤ l.length
  | [], _, _ => Nat.le_refl _
  | x :: l, i, n => by
    rw [symF]
    split
    · exact Nat.succ_le_succ (symF_len l (i + 1) n)
    · exact Nat.le_succ_of_le (symF_len l (i + 1) n)
theorem symT_len (l : List Int) : ∀ k g, (symT l k g).length ≤ g * l.length
  | k, 0 => by simp [symT]
  | k, g + 1 => by
    rw [symT, List.length_append, Nat.succ_mul]
    have := symF_len l 0 k
    have := symT_len l (k + 1) g
    omega
/-! ### the table's cells -/
def tabC (vl vc : Value) (c : Nat → Nat) (vs : Value) : Array Value :=
  #[vl, vc, iz (c 0), iz (c 1), iz (c 2), iz (c 3), iz (c 4), iz (c 5), iz (c 6), iz (c 7), iz (c 8), iz (c 9), iz (c 10), iz (c 11), iz (c 12), iz (c 13), iz (c 14), iz (c 15), vs]
theorem tabC_at (vl vc : Value) (c : Nat → Nat) (vs : Value) (j : Nat) (h : j < 16) : (tabC vl vc c vs)[2 + j]? = some (iz (c j)) := by
  match j, h with
  | 0, _ | 1, _ | 2, _ | 3, _ | 4, _ | 5, _ | 6, _ | 7, _ | 8, _ | 9, _ | 10, _ | 11, _ | 12, _ | 13, _ | 14, _ | 15, _ => rfl
  | n + 16, h => exact absurd h (by omega)
def setA : Array Value → Nat → List Value → Array Value
  | cs, _, [] => cs
  | cs, o, v :: r => setA (cs.setIfInBounds o v) (o + 1) r
theorem setCells_heap (b : Nat) {T : TypeId} : ∀ (vs : List Value) (o : Nat) (w : World) (cs : Array Value), w.heap[b]? = some (.cells cs T (0, 0)) → (w.setCells b o vs).heap[b]? = some (.cells (setA cs o vs) T (0, 0))
  | [], _, _, _, h => h
  | v :: r, o, w, cs, h => by
    rw [World.setCells, setA]
    exact setCells_heap b r (o + 1) _ _ (heap_setCell_same h v)
theorem setCells_ext {S : List Nat} {a : World} (b : Nat) (hp : b ∈ S ∨ a.heap.size ≤ b) : ∀ (vs : List Value) (o : Nat) (w : World), Ext S a w → Ext S a (w.setCells b o vs)
  | [], _, _, h => h
  | v :: r, o, w, h => by
    rw [World.setCells]
    exact setCells_ext b hp r (o + 1) _ (h.setCell _ _ hp)
theorem arrC_list (c : Nat → Nat) : (arrC c).toList = [iz (c 0), iz (c 1), iz (c 2), iz (c 3), iz (c 4), iz (c 5), iz (c 6), iz (c 7), iz (c 8), iz (c 9), iz (c 10), iz (c 11), iz (c 12), iz (c 13), iz (c 14), iz (c 15)] := rfl
theorem tabC_count (vl vc : Value) (c : Nat → Nat) (vs : Value) : setA (tabC vl vc (fun _ => 0) vs) 2 (arrC c).toList = tabC vl vc c vs := by
  rw [arrC_list]
  simp [setA, tabC]
theorem there_tab {w : World} {b : Nat} {vl vc : Value} {c : Nat → Nat} {vs : Value} {T : TypeId} (h : w.heap[b]? = some (.cells (tabC vl vc c vs) T (0, 0))) (d : Nat → Nat) : w.there b 2 (arrC d).size := fun j hj => by
  rw [arrC_size] at hj
  exact ⟨by rw [cellOf h (2 + j), tabC_at _ _ _ _ j hj]; rfl, freeOf h (2 + j)⟩
/-- the table's own block with its symbols -/
def oFld (tb : Nat) (F : List Nat) (vl vc : Value) (c : Nat → Nat) (P : List Nat) : Ob where
  F := F
  P := fun w => ∃ vs, w.heap[tb]? = some (.cells (tabC vl vc c vs) 118 (0, 0)) ∧ w.ownsRow 0 3 1 vs P.length (P.map fun n : Nat => iz n) ∧ F = tb :: vs.ownBlock.toList ∧ vs.ownBlock ≠ some tb
  ok := fun h hx hS => by
    obtain ⟨v, hb, hown, rfl, hne⟩ := h
    exact ⟨v, hx.keep hb (hS tb (by simp)), ownsRow_ext hown hx (fun g hg => hS g (by simp [hg])), rfl, hne⟩
  lt := fun h => by
    obtain ⟨v, hb, hown, rfl, hne⟩ := h
    intro k hk
    rcases List.mem_cons.1 hk with rfl | hk
    · exact lt_of_block hb
    · exact (hown.lt k (by simpa using hk)).2
/-- a table of lengths l -/
def oTab (tb : Nat) (F : List Nat) (l : List Int) : Ob where
  F := F
  P := fun w => ∃ vl vc vs, w.heap[tb]? = some (.cells (tabC vl vc (cntF l) vs) 118 (0, 0)) ∧ w.ownsRow 0 3 1 vl l.length (l.map iz) ∧ w.ownsRow 0 32 1 vc l.length ((codesN l).map u32v) ∧ w.ownsRow 0 3 1 vs (symsN l).length ((symsN l).map fun n : Nat => iz n) ∧ F = tb :: (vl.ownBlock.toList ++ vc.ownBlock.toList ++ vs.ownBlock.toList)
  ok := fun h hx hS => by
    obtain ⟨vl, vc, vs, hb, h1, h2, h3, rfl⟩ := h
    exact ⟨vl, vc, vs, hx.keep hb (hS tb (by simp)), ownsRow_ext h1 hx (fun g hg => hS g (by simp [hg])), ownsRow_ext h2 hx (fun g hg => hS g (by simp [hg])), ownsRow_ext h3 hx (fun g hg => hS g (by simp [hg])), rfl⟩
  lt := fun h => by
    obtain ⟨vl, vc, vs, hb, h1, h2, h3, rfl⟩ := h
    intro k hk
    rcases List.mem_cons.1 hk with rfl | hk
    · exact lt_of_block hb
    · rcases List.mem_append.1 hk with hk | hk
      · rcases List.mem_append.1 hk with hk | hk
        · exact (h1.lt k (by simpa using hk)).2
        · exact (h2.lt k (by simpa using hk)).2
      · exact (h3.lt k (by simpa using hk)).2
theorem own_slice {w : World} {E : TypeId} {k n : Nat} {v : Value} {xs : List Value} (h : w.ownsRow 0 E k v n xs) : ∃ ao cap, v = .slice ao n cap := by
  rcases h.2 with ⟨rfl, rfl⟩ | ⟨g, cap, cur, rfl, _⟩
  · exact ⟨none, 0, rfl⟩
  · exact ⟨_, cap, rfl⟩
def NewTab (w : World) (l : List Int) (e : Ending) (w' : World) : Prop :=
  ∃ tb F, e = .returned (.tuple #[.pointer (some ⟨tb, 0, none⟩), .int .i64 0]) ∧ Ext [] w w' ∧ (oTab tb F l).P w' ∧ ∀ k ∈ F, w.heap.size ≤ k
set_option maxRecDepth 100000 in
set_option maxHeartbeats 4000000 in
theorem new_err (v : Value) (l : List Int) (w : World) (hv : IntsAt w v l) (hl : l.length ≤ 1048576) (he : codesE l ≠ 0) :
    Calls Tryz.prog 40 #[v] w fun e w' => e = .returned (.tuple #[.pointer none, .int .i64 (codesE l)]) ∧ Ext [] w w' := by
  have hc := codes_err v l w hv hl he
  have h24 : codesE l = 2 ∨ codesE l = 4 := by
    unfold codesE at he ⊢
    split
    · exact .inl rfl
    · split
      · exact .inr rfl
      · rename_i h1 h2; rw [if_neg h1, if_neg h2] at he; exact absurd rfl he
  generalize codesE l = ce at *
  have HC := Lib.hid hc
  clear hc hv hl
  go_enter Tryz.func40, Tryz.ntmps40
  go_wp2_with fail
  refine HC.out.mono ?_
  clear HC
  rintro e w1 ⟨rfl, hx1⟩
  have HX := Lib.hid hx1
  clear hx1
  rcases h24 with rfl | rfl
  · go_wp2_with fail
    exact bodyPost_ret (results_tmp2 rfl _ _ _) rfl ⟨rfl, HX.out⟩
  · go_wp2_with fail
    exact bodyPost_ret (results_tmp2 rfl _ _ _) rfl ⟨rfl, HX.out⟩
set_option maxRecDepth 100000 in
set_option maxHeartbeats 16000000 in
theorem new_walk (v : Value) (l : List Int) (w : World) (hv : IntsArg w v l) (he : codesE l = 0) :
    Calls Tryz.prog 40 #[v] w (NewTab w l) := by
  have hb : badL l = false := by
    unfold codesE at he
    cases h : badL l
    · rfl
    · rw [if_pos h] at he; cases he
  have hk : kra l ≤ 32768 := by
    unfold codesE at he
    rw [hb, if_neg (by decide)] at he
    split at he
    · cases he
    · omega
  obtain ⟨hl2, hrg⟩ := bad_false hb
  obtain ⟨i0, hif, hz0, hz1, hz2⟩ := info_parts infoInt7
  have hcod := codes_ok v l w hv.1 (by omega) hb hk
  have hcln := fun w h => clone_walk v l w h (by omega)
  have hcnt := fun w h => counts_good v l w h hb
  have hcl := codesF_len l (nxN (cntF l))
  obtain ⟨R, hR⟩ : ∃ R, symsN l = R := ⟨_, rfl⟩
  have hRL : R.length ≤ 5000 := by rw [← hR]; have := symT_len l 1 15; unfold symsN; omega
  have HKEEP := Lib.hid (⟨hR, hRL⟩ : symsN l = R ∧ R.length ≤ 5000)
  have HCOD := Lib.hid hcod
  have HCLN := Lib.hid hcln
  have HCNT := Lib.hid hcnt
  have HV := Lib.hid hv
  obtain ⟨hA, ao, cap, rfl, hcap, hcm, hnil⟩ := hv
  obtain ⟨aov, capv, hev, hc⟩ := hA
  injection hev with h1 _ h3
  subst h1 h3
  have HC := Lib.hid hc
  clear hc hcap hcm hnil hcod hcln hcnt hk hb he hR hRL hrg hcl
  go_enter Tryz.func40, Tryz.ntmps40
  go_wp2_with fail
  refine HCOD.out.mono ?_
  clear HCOD
  rintro e w1 ⟨vc, rfl, hx1, hp1, hn1⟩
  obtain ⟨aoc, capc, rfl⟩ := own_slice hp1
  have HS := Lib.hid ((Sep.start w).new hx1 (oSl 32 1 (.slice aoc l.length capc) l.length ((codesN l).map u32v)) hp1 hn1)
  clear hx1 hp1 hn1
  go_wp2_with fail
  refine (HCLN.out _ (HV.out.ext HS.out.ext)).mono ?_
  clear HCLN
  rintro e w2 ⟨vl, rfl, hx2, hp2, hn2⟩
  obtain ⟨aol, capl, rfl⟩ := own_slice hp2
  have HS := Lib.hid (HS.out.new hx2 (oSl 3 1 (.slice aol l.length capl) l.length (l.map iz)) hp2 hn2)
  clear hx2 hp2 hn2
  have S := HS.out.new ((Ext.refl [] w2).alloc (.cells (tabC (.slice aol l.length capl) (.slice aoc l.length capc) (fun _ => 0) (.slice none 0 0)) 118)) (oFld w2.heap.size [w2.heap.size] (.slice aol l.length capl) (.slice aoc l.length capc) (fun _ => 0) []) ⟨.slice none 0 0, heap_alloc_at _, World.ownsRow_nil _ _ _ _, rfl, by simp [Value.ownBlock]⟩ (fun k hk => by rw [List.mem_singleton.1 hk]; exact Nat.le_refl _)
  have HS := Lib.hid S
  clear S
  go_wp2_with fail
  refine (HCNT.out _ (HV.out.1.ext HS.out.ext)).mono ?_
  clear HCNT
  rintro e w3 ⟨rfl, hx3⟩
  have HS := Lib.hid (HS.out.quiet hx3)
  clear hx3
  obtain ⟨c, hcc⟩ : ∃ c, cntF l = c := ⟨_, rfl⟩
  rw [hcc]
  have HCC := Lib.hid hcc
  clear hcc
  obtain ⟨vs, htab, _⟩ : ∃ vs, w3.heap[w2.heap.size]? = some (.cells (tabC (.slice aol l.length capl) (.slice aoc l.length capc) (fun _ => 0) vs) 118 (0, 0)) ∧ True := by
    obtain ⟨vs, h, _⟩ := HS.out.get 0 rfl
    exact ⟨vs, h, trivial⟩
  have HT := Lib.hid htab
  clear htab
  go_wp2_with (first | (refine wpList_store_mid rfl 116 _ _ rfl w2.heap.size 2 (arrC c) rfl rfl (there_tab HT.out c) (info16c c) (arrC_one c) ?_))
  have S := HS.out.upd 0 (oFld w2.heap.size [w2.heap.size] (.slice aol l.length capl) (.slice aoc l.length capc) c []) rfl (setCells_ext (S := [w2.heap.size]) w2.heap.size (.inl (by simp)) (arrC c).toList 2 _ (Ext.refl [w2.heap.size] w3)) (Fr.refl _ _) (by
    obtain ⟨vs, h1, h2, h3, h4⟩ := HS.out.get 0 rfl
    refine ⟨vs, ?_, ?_, h3, h4⟩
    · have h := setCells_heap w2.heap.size (arrC c).toList 2 w3 _ h1
      rw [tabC_count] at h
      exact h
    · exact ownsRow_ext h2 (setCells_ext (S := [w2.heap.size]) w2.heap.size (.inl (by simp)) (arrC c).toList 2 _ (Ext.refl [w2.heap.size] w3)) (fun g hg hm => by rw [List.mem_singleton] at hm; subst hm; exact h4 hg))
  obtain ⟨W, hW⟩ : ∃ W, w3.setCells w2.heap.size 2 (arrC c).toList = W := ⟨_, rfl⟩
  obtain ⟨tb, htb⟩ : ∃ tb, w2.heap.size = tb := ⟨_, rfl⟩
  rw [htb] at hW S
  rw [hW] at S
  rw [htb, hW]
  have HS := Lib.hid S
  clear S HT hW htb
  have HR0 := Lib.hid (show ([] : List Nat) ++ symT l 1 15 = R from HKEEP.out.1)
  go_loopg [7] 15 (fun g iv wr => ∃ (k : Nat) (P F : List Nat), g + k = 16 ∧ 1 ≤ k ∧ iv = .int .i64 k ∧ P ++ symT l k g = R ∧ Sep w wr [oFld tb F (.slice aol l.length capl) (.slice aoc l.length capc) c P, oSl 3 1 (.slice aol l.length capl) l.length (l.map iz), oSl 32 1 (.slice aoc l.length capc) l.length ((codesN l).map u32v)])
  case atStart => exact ⟨1, [], _, by omega, by omega, rfl, HR0.out, HS.out⟩
  case round =>
    clear HS HR0
    obtain ⟨k, P, F, hk, hk1, rfl, hR, S⟩ := hrel
    have HS := Lib.hid S
    have HR := Lib.hid hR
    clear S hR
    by_cases hlt : k ≤ 15
    · obtain ⟨g, rfl⟩ : ∃ g, gk = g + 1 := ⟨gk - 1, by omega⟩
      have HR2 := Lib.hid (show P ++ (symF (l.drop 0) 0 k ++ symT l (k + 1) g) = R from HR.out)
      obtain ⟨T, hT⟩ : ∃ T, symT l (k + 1) g = T := ⟨_, rfl⟩
      have HT := Lib.hid hT
      have HR3 := Lib.hid (show P ++ (symF (l.drop 0) 0 k ++ T) = R from by rw [← hT]; exact HR2.out)
      clear hT HR2 HR
      have hkd : (k : Int) ≤ 15 := by omega
      go_wp2_with fail
      clear hkd
      go_loopg [37] l.length (fun q iv wr => ∃ (i : Nat) (P F : List Nat), q + i = l.length ∧ iv = .int .i64 i ∧ P ++ (symF (l.drop i) i k ++ T) = R ∧ Sep w wr [oFld tb F (.slice aol l.length capl) (.slice aoc l.length capc) c P, oSl 3 1 (.slice aol l.length capl) l.length (l.map iz), oSl 32 1 (.slice aoc l.length capc) l.length ((codesN l).map u32v)])
      case atStart => exact ⟨0, P, F, by omega, rfl, HR3.out, HS.out⟩
      case round =>
        clear HS HR3
        obtain ⟨i, P, F, hi, rfl, hR, S⟩ := hrel
        have HS := Lib.hid S
        by_cases hil : i < l.length
        · obtain ⟨b, off, rfl, hcell⟩ := HC.out (by omega)
          obtain ⟨x, hck⟩ : ∃ x, l[i]? = some x := ⟨_, List.getElem?_eq_getElem hil⟩
          have d0 := Ext.cell S.ext (hcell i x hck)
          have hdr : l.drop i = x :: l.drop (i + 1) := by
            obtain ⟨h1, h2⟩ := List.getElem?_eq_some_iff.1 hck
            rw [List.drop_eq_getElem_cons h1, h2]
          rw [hdr, symF] at hR
          clear hdr hcell hck S
          by_cases hx : x = (k : Int)
          · rw [if_pos hx] at hR
            have hPl : P.length ≤ 5000 := by
              have h1 := HKEEP.out.2
              rw [← hR, List.length_append] at h1
              omega
            have HR := Lib.hid hR
            clear hR
            subst hx
            obtain ⟨vs, hb, hown, hF, hne⟩ := HS.out.get 0 rfl
            obtain ⟨n0, hn0⟩ : ∃ n0, P.length = n0 := ⟨_, rfl⟩
            rw [hn0] at hown hPl
            have HF := Lib.hid hF
            have HN := Lib.hid hn0
            clear hF hn0
            have c0 : wr.cell? ⟨tb, 18, none⟩ = some vs := cellOf hb 18
            have f0 := freeOf hb 18
            have HB := Lib.hid (⟨hb, hne⟩ : _ ∧ _)
            clear hb hne
            go_wp2_with (first | (at_builtin; refine wpList_append_lies _ rfl _ _ 58 rfl 0 3 i0 _ 1 8 Tryz.underlying58 hif hz0 hz1 hz2 rfl (by decide) vs n0 _ rfl (hown.alloc _) ⟨wr.heap.size, 0, none⟩ 1 1 [iz i] rfl rfl (cell_one_new _ _ _) (by simp [Value.oneCell']) (by decide) (by unfold maxLen; omega) (by omega) (by omega) (wr.heap.size + 1) (by simp) ?_; intro g2 cap2 w9 hown1 hgrow hat hlt2; have hb1 : w9.heap[tb]? = some (.cells (tabC (.slice aol l.length capl) (.slice aoc l.length capc) c vs) 118 (0, 0)) := grown_keep hgrow (heap_alloc_old _ HB.out.1) HB.out.2; have HP := Lib.hid (push_field HB.out.1 HB.out.2 hown1 hgrow hat 18); have k0 := cellOf hb1 18; have k1 := freeOf hb1 18; clear c0 f0 hgrow hat hlt2 hb1))
            go_roundg (l.length - (i + 1))
            case measure => omega
            case rel =>
              obtain ⟨p1, p2, p3, p4, p5⟩ := HP.out
              have e := HF.out
              subst e
              refine ⟨i + 1, P ++ [i], [tb, g2], by omega, by go_num, by rw [← List.append_cons]; exact HR.out, HS.out.upd 0 (oFld tb [tb, g2] (.slice aol l.length capl) (.slice aoc l.length capc) c (P ++ [i])) rfl p3 p5 ⟨.slice (some ⟨g2, 0, none⟩) (n0 + 1) cap2, p1, ?_, rfl, fun e => p4 (by simpa [Value.ownBlock] using e)⟩⟩
              rw [List.length_append, HN.out, List.map_append]
              exact p2
          · rw [if_neg hx] at hR
            have HR := Lib.hid hR
            clear hR
            go_wp2_with fail
            go_roundg (l.length - (i + 1))
            case measure => omega
            case rel => exact ⟨i + 1, P, F, by omega, by go_num, HR.out, HS.out⟩
        · obtain rfl : i = l.length := by omega
          rw [List.drop_length] at hR
          have HR := Lib.hid hR
          clear hR S
          go_wp2_with fail
          go_roundg g
          case measure => omega
          case rel => exact ⟨k + 1, P, F, by omega, by omega, by go_num, by rw [HT.out]; exact HR.out, HS.out⟩
    · obtain rfl : k = 16 := by omega
      obtain rfl : gk = 0 := by omega
      have hPR : P = R := by have h := HR.out; rw [symT, List.append_nil] at h; exact h
      go_wp2_with fail
      obtain ⟨vs, h1, h2, h3, h4⟩ := HS.out.get 0 rfl
      have hl1 := HS.out.get 1 rfl
      have hc1 := HS.out.get 2 rfl
      refine bodyPost_ret (results_tmp2 rfl _ _ _) rfl ⟨tb, tb :: ((Value.slice aol l.length capl).ownBlock.toList ++ (Value.slice aoc l.length capc).ownBlock.toList ++ vs.ownBlock.toList), rfl, HS.out.ext, ⟨_, _, vs, by rw [HCC.out]; exact h1, hl1, hc1, ?_, rfl⟩, ?_⟩
      · rw [HKEEP.out.1, ← hPR]; exact h2
      · intro q hq
        have b0 := HS.out.base _ (List.mem_cons_self ..)
        have b1 := HS.out.base _ (List.mem_cons_of_mem _ (List.mem_cons_self ..))
        have b2 := HS.out.base _ (List.mem_cons_of_mem _ (List.mem_cons_of_mem _ (List.mem_cons_self ..)))
        rcases List.mem_cons.1 hq with rfl | hq
        · exact b0 _ (by show q ∈ F; rw [h3]; simp)
        · rcases List.mem_append.1 hq with hq | hq
          · rcases List.mem_append.1 hq with hq | hq
            · exact b1 _ hq
            · exact b2 _ hq
          · exact b0 _ (by show q ∈ F; rw [h3]; exact List.mem_cons_of_mem _ hq)
end Go.Proofs.YtnapnaaejignaaaGreat.Hu

/-! HuO: huff's Table: Size, Write, Read walked. -/
namespace Go.Proofs.YtnapnaaejignaaaGreat.Hu
open Go.RowKit Bt

theorem i64_or_bit (x y : Nat) (hx : x < 65536) (hy : y ≤ 1) : bits .or .i64 ((x : Int) * 2) (y : Int) = (x : Int) * 2 + (y : Int) := by
  have key : (BitVec.ofInt 64 ((x : Int) * 2) ||| BitVec.ofInt 64 (y : Int)).toNat = 2 ^ 1 * x + y := by
    rw [BitVec.toNat_or, BitVec.toNat_ofInt, BitVec.toNat_ofInt, Nat.two_pow_add_eq_or_of_lt (by omega : y < 2 ^ 1)]
    congr 1 <;> omega
  show IntKind.i64.wrap ((BitVec.ofInt 64 ((x : Int) * 2) ||| BitVec.ofInt 64 (y : Int)).toNat : Nat) = _
  rw [key, IntKind.wrap_i64]
  omega
theorem own_at {w : World} {E : TypeId} {v : Value} {n : Nat} {xs : List Value} (h : w.ownsRow 0 E 1 v n xs) (hn : 0 < n) : ∃ g cap, v = .slice (some ⟨g, 0, none⟩) n cap := by
  rcases h.2 with ⟨_, h0⟩ | ⟨g, cap, cur, rfl, _⟩
  · omega
  · exact ⟨g, cap, rfl⟩
/-! ### Size -/
def sizeZ (l : List Int) (s : Int) : Int := if s < 0 ∨ (l.length : Int) ≤ s then 0 else l.getD s.toNat 0
theorem size_nil (s : Int) (w : World) : Calls Tryz.prog 65 #[.pointer none, .int .i64 s] w fun e w' => e = .returned (.int .i64 0) ∧ w = w' := by
  go_enter Tryz.func65, Tryz.ntmps65
  go_wp2_with fail
  go_ret
  exact ⟨rfl, rfl⟩
set_option maxRecDepth 100000 in
set_option maxHeartbeats 4000000 in
theorem size_walk (tb : Nat) (F : List Nat) (l : List Int) (s : Int) (w : World) (h : (oTab tb F l).P w) (hl : l.length ≤ 1048576) :
    Calls Tryz.prog 65 #[.pointer (some ⟨tb, 0, none⟩), .int .i64 s] w fun e w' => e = .returned (.int .i64 (sizeZ l s)) ∧ Ext [] w w' := by
  obtain ⟨vl, vc, vs, hb, h1, h2, h3, _⟩ := h
  obtain ⟨aol, capl, rfl⟩ := own_slice h1
  have c0' : w.cell? ⟨tb, 0, none⟩ = some (.slice aol l.length capl) := cellOf hb 0
  by_cases q0 : s < 0
  · have e : sizeZ l s = 0 := by unfold sizeZ; rw [if_pos (.inl q0)]
    rw [e]
    clear e h1 h2 h3 hb
    go_enter Tryz.func65, Tryz.ntmps65
    go_wp2_with fail
    go_ret
    exact ⟨rfl, Ext.refl _ _⟩
  · by_cases q1 : (l.length : Int) ≤ s
    · have e : sizeZ l s = 0 := by unfold sizeZ; rw [if_pos (.inr q1)]
      rw [e]
      clear e h1 h2 h3 hb
      go_enter Tryz.func65, Tryz.ntmps65
      go_wp2_with fail
      go_ret
      exact ⟨rfl, Ext.refl _ _⟩
    · obtain ⟨k, rfl⟩ : ∃ k : Nat, s = k := ⟨s.toNat, by omega⟩
      have hk : k < l.length := by omega
      obtain ⟨x, hx⟩ : ∃ x, l[k]? = some x := ⟨_, List.getElem?_eq_getElem hk⟩
      have e : sizeZ l k = x := by unfold sizeZ; rw [if_neg (by omega), Int.toNat_natCast, List.getD_eq_getElem?_getD, hx]; rfl
      rw [e]
      obtain ⟨g, cap, hv⟩ := own_at h1 (by omega)
      injection hv with hv1 _ hv2
      subst hv1 hv2
      have d0 : w.cell? ⟨g, k, none⟩ = some (iz x) := ownsRow_at h1 (by rw [List.getElem?_map, hx]; rfl)
      clear e h1 h2 h3 hb hx
      go_enter Tryz.func65, Tryz.ntmps65
      go_wp2_with fail
      go_ret
      exact ⟨rfl, Ext.refl _ _⟩
end Go.Proofs.YtnapnaaejignaaaGreat.Hu

/-! HuT: huff's Table: Write walked. -/
namespace Go.Proofs.YtnapnaaejignaaaGreat.Hu
open Go.RowKit Bt

/-- the lowest n bits of c, the upper one first -/
def cbits (c : Nat) : Nat → List Nat
  | 0 => []
  | n + 1 => c / 2 ^ n % 2 :: cbits c n
theorem cbits_len (c : Nat) : ∀ n, (cbits c n).length = n
  | 0 => rfl
  | n + 1 => by rw [cbits, List.length_cons, cbits_len c n]
theorem bitsOf_one (hi : Bool) (v : Nat) (h : v ≤ 1) : bitsOf hi v 1 = [v] := by
  unfold bitsOf
  have : v % 2 = v := by omega
  cases hi <;> simp [List.range_succ, this]
theorem twrite_nil (v : Value) (s : Int) (w : World) (hv : ∃ p, v = .pointer p) : Calls Tryz.prog 41 #[.pointer none, v, .int .i64 s] w fun e w' => e = .returned (.int .i64 1) ∧ w = w' := by
  obtain ⟨p, rfl⟩ := hv
  go_enter Tryz.func41, Tryz.ntmps41
  go_wp2_with fail
  go_ret
  exact ⟨rfl, rfl⟩
theorem twrite_nil2 (tb : Nat) (s : Int) (w : World) : Calls Tryz.prog 41 #[.pointer (some ⟨tb, 0, none⟩), .pointer none, .int .i64 s] w fun e w' => e = .returned (.int .i64 1) ∧ w = w' := by
  go_enter Tryz.func41, Tryz.ntmps41
  go_wp2_with fail
  go_ret
  exact ⟨rfl, rfl⟩
theorem set_get {α : Type} {L : List α} {i j : Nat} {x y : α} (hij : i ≠ j) (h : L[i]? = some x) : (L.set j y)[i]? = some x := by
  rw [List.getElem?_set_ne (Ne.symm hij), h]
theorem set_self {α : Type} {L : List α} {j : Nat} {x y : α} (h : L[j]? = some x) : (L.set j y)[j]? = some y :=
  List.getElem?_set_self (List.getElem?_eq_some_iff.1 h).1
theorem set_same {α : Type} {L : List α} {i : Nat} {x : α} (h : L[i]? = some x) : L.set i x = L := by
  apply List.ext_getElem?
  intro k
  by_cases hk : i = k
  · subst hk; rw [List.getElem?_set_self (List.getElem?_eq_some_iff.1 h).1, h]
  · rw [List.getElem?_set_ne hk]
set_option maxRecDepth 100000 in
set_option maxHeartbeats 8000000 in
theorem sTWrite (i j : Nat) (hij : i ≠ j) {w0 w : World} {L : List Ob} {tb : Nat} {F : List Nat} {l : List Int} {b : Nat} {Fw bl : List Nat} {hi : Bool} (s : Int) (S : Sep w0 w L) (hT : L[i]? = some (oTab tb F l)) (hW : L[j]? = some (oW b Fw hi bl))
    (hl : l.length ≤ 288) (hr : ∀ x ∈ l, 0 ≤ x ∧ x ≤ 15) (hc : ∀ x ∈ codesN l, x < 65536) (hbl : bl.length < 2 ^ 38) :
    Calls Tryz.prog 41 #[.pointer (some ⟨tb, 0, none⟩), .pointer (some ⟨b, 0, none⟩), .int .i64 s] w fun e w' =>
      e = .returned (.int .i64 (if sizeZ l s = 0 then 2 else 0)) ∧ ∃ Fw', Sep w0 w' (L.set j (oW b Fw' hi (bl ++ cbits ((codesN l).getD s.toNat 0) (sizeZ l s).toNat))) := by
  have HSZ := Lib.hid (fun (w : World) (h : (oTab tb F l).P w) => size_walk tb F l s w h (by omega))
  have HS := Lib.hid S
  have HT := Lib.hid hT
  have HW := Lib.hid hW
  have hlen : (codesN l).length = l.length := codesF_len l _
  by_cases h0 : sizeZ l s = 0
  · rw [h0]
    have e3 : bl ++ cbits ((codesN l).getD s.toNat 0) (0 : Int).toNat = bl := List.append_nil _
    rw [e3, if_pos rfl]
    have e2 := set_same hW
    have HE := Lib.hid e2
    clear S hT hW hc hr e2 e3
    have hz := HSZ.out
    rw [h0] at hz
    have HZ := Lib.hid hz
    clear hz HSZ h0
    go_enter Tryz.func41, Tryz.ntmps41
    go_wp2_with fail
    refine (HZ.out _ (HS.out.get i HT.out)).mono ?_
    clear HZ
    rintro e w1 ⟨rfl, hx1⟩
    have HX := Lib.hid hx1
    clear hx1
    go_wp2_with fail
    go_ret
    exact ⟨rfl, Fw, by rw [HE.out]; exact HS.out.quiet HX.out⟩
  · have hs1 : ¬ (s < 0 ∨ (l.length : Int) ≤ s) := fun h => h0 (by unfold sizeZ; rw [if_pos h])
    obtain ⟨k, rfl⟩ : ∃ k : Nat, s = k := ⟨s.toNat, by omega⟩
    have hk : k < l.length := by omega
    obtain ⟨x, hx⟩ : ∃ x, l[k]? = some x := ⟨_, List.getElem?_eq_getElem hk⟩
    have e : sizeZ l k = x := by unfold sizeZ; rw [if_neg hs1, Int.toNat_natCast, List.getD_eq_getElem?_getD, hx]; rfl
    have hxr := hr x (List.mem_of_getElem? hx)
    obtain ⟨n, rfl⟩ : ∃ n : Nat, x = n := ⟨x.toNat, by omega⟩
    obtain ⟨c, hck⟩ : ∃ c, (codesN l)[k]? = some c := ⟨_, List.getElem?_eq_getElem (by omega)⟩
    have hc2 := hc c (List.mem_of_getElem? hck)
    have e3 : (codesN l).getD k 0 = c := by rw [List.getD_eq_getElem?_getD, hck]; rfl
    rw [e] at h0 HSZ ⊢
    rw [Int.toNat_natCast, Int.toNat_natCast, e3]
    have hn0 : 0 < n := by omega
    have hn15 : n ≤ 15 := by omega
    rw [if_neg h0]
    obtain ⟨R, hR⟩ : ∃ R, bl ++ cbits c n = R := ⟨_, rfl⟩
    rw [hR]
    have hRl : R.length < 2 ^ 38 + 16 := by rw [← hR, List.length_append, cbits_len]; omega
    have HR := Lib.hid (⟨hR, hRl⟩ : _ ∧ _)
    have HCK := Lib.hid (fun (w : World) (h : (oTab tb F l).P w) => (by
      obtain ⟨vl, vc, vs, hb, h1, h2, h3, _⟩ := h
      obtain ⟨g, cap, rfl⟩ := own_at h2 (by omega)
      exact ⟨g, l.length, cap, cellOf hb 1, hk, ownsRow_at h2 (by rw [List.getElem?_map, hck]; rfl)⟩ : ∃ g n cap, w.cell? ⟨tb, 1, none⟩ = some (.slice (some ⟨g, 0, none⟩) n cap) ∧ k < n ∧ w.cell? ⟨g, k, none⟩ = some (u32v c)))
    have hnn : ¬ ((n : Int) = 0) := by omega
    have HN := Lib.hid hnn
    have hnb : ((n : Int) == 0) = false := beq_eq_false_iff_ne.2 hnn
    clear S hT hW hc hr e e3 hx hck hs1 hlen hxr hR hRl h0 hnn
    go_enter Tryz.func41, Tryz.ntmps41
    go_wp2_with fail
    refine (HSZ.out _ (HS.out.get i HT.out)).mono ?_
    clear HSZ
    rintro e w1 ⟨rfl, hx1⟩
    have HS := Lib.hid (HS.out.quiet hx1)
    clear hx1
    go_wp2_with fail
    clear hnb
    go_loopg [8] n (fun g iv wr => ∃ (x : Int) (Fw' bl' : List Nat), x = (g : Int) - 1 ∧ g ≤ n ∧ iv = .int .i64 x ∧ bl' ++ cbits c g = R ∧ Sep w0 wr (L.set j (oW b Fw' hi bl')))
    case atStart => exact ⟨_, Fw, bl, rfl, Nat.le_refl _, by go_num, HR.out.1, by rw [set_same HW.out]; exact HS.out⟩
    case round =>
      clear HS
      obtain ⟨x, Fw', bl', hx, hgn, rfl, hR, S⟩ := hrel
      cases gk with
      | zero =>
        obtain rfl : x = -1 := by omega
        clear hx hgn
        have HF := Lib.hid (⟨by rw [cbits, List.append_nil] at hR; exact hR, S⟩ : bl' = R ∧ Sep w0 wr (L.set j (oW b Fw' hi bl')))
        clear hR S
        go_wp2_with fail
        go_ret
        exact ⟨by first | rfl | simp, Fw', by have h := HF.out.2; rw [HF.out.1] at h; exact h⟩
      | succ m =>
        obtain rfl : x = (m : Int) := by omega
        clear hx
        obtain ⟨g, n2, cap, c1, hkn, c2⟩ := HCK.out wr (S.get i (set_get hij HT.out))
        have hbd : bl'.length < 2 ^ 39 := by
          have h1 := HR.out.2
          rw [← hR, List.length_append] at h1
          omega
        rw [cbits] at hR
        have hp : c / 2 ^ m < 65536 := Nat.lt_of_le_of_lt (Nat.div_le_self _ _) hc2
        have h16 := u32_and_one (c / 2 ^ m) (by omega)
        obtain ⟨q, hq⟩ : ∃ q, c / 2 ^ m % 2 = q := ⟨_, rfl⟩
        rw [hq] at hR h16
        rw [show ((c / 2 ^ m : Nat) : Int) = (c : Int) / 2 ^ m from by push_cast; rfl] at h16
        have hq1 : q ≤ 1 := by omega
        have HF := Lib.hid (⟨hR, S, hbd, hq1⟩ : _ ∧ _ ∧ _ ∧ _)
        clear hR S hbd hp hq hq1
        go_wp2_with fail
        refine (sPut j (n := 1) (v := q) HF.out.2.1 (set_self HW.out) HF.out.2.2.1 (by have := HF.out.2.2.2; omega) (by omega) (by have := HF.out.2.2.2; omega)).mono ?_
        rintro e w9 ⟨rfl, Fw2, S⟩
        rw [List.set_set, bitsOf_one hi q HF.out.2.2.2] at S
        have HS := Lib.hid S
        clear S
        go_wp2_with fail
        go_roundg m
        case measure => omega
        case rel => exact ⟨_, Fw2, bl' ++ [q], rfl, by omega, by go_num, by rw [← List.append_cons]; exact HF.out.1, HS.out⟩
end Go.Proofs.YtnapnaaejignaaaGreat.Hu

/-! HuU: huff's Table: Read walked. -/
namespace Go.Proofs.YtnapnaaejignaaaGreat.Hu
open Go.RowKit Bt

/-! ### plain -/
def rdF (cnt : Nat → Nat) (sy : List Nat) (bt : Nat → Nat) (N : Nat) : Nat → Nat → Nat → Nat → Nat → Nat × Int × Nat
  | 0, _, _, _, p => (0, 4, p)
  | g + 1, k, d, a, p => if p < N then (if 2 * d + bt p < cnt k then (sy.getD (a + (2 * d + bt p)) 0, 0, p + 1) else rdF cnt sy bt N g (k + 1) (2 * d + bt p - cnt k) (a + cnt k) (p + 1)) else (0, 8, p)
def readN (l : List Int) (bt : Nat → Nat) (N p : Nat) : Nat × Int × Nat := rdF (cntF l) (symsN l) bt N 15 1 0 0 p
def sumF (c : Nat → Nat) : Nat → Nat → Nat
  | _, 0 => 0
  | k, g + 1 => c k + sumF c (k + 1) g
theorem symF_cnt : ∀ (l : List Int) (i n : Nat), (symF l i n).length = cntI l n
  | [], _, _ => by simp [symF, cntI]
  | x :: l, i, n => by
    have e := symF_cnt l (i + 1) n
    rw [symF]
    unfold cntI at e ⊢
    rw [List.countP_cons]
    by_cases h : x = (n : Int)
    · rw [if_pos h, List.length_cons, e]; simp [h]
    · rw [if_neg h, e]; simp [h]
theorem symT_cnt (l : List Int) : ∀ g k, 0 < k → (symT l k g).length = sumF (cntF l) k g
  | 0, _, _ => rfl
  | g + 1, k, h => by
    rw [symT, List.length_append, symF_cnt, symT_cnt l g (k + 1) (by omega), sumF]
    unfold cntF
    rw [if_neg (by omega)]
theorem getv_one (s : ByteArray) (hi : Bool) (p : Nat) : getv s hi p 1 = bit s hi p := by
  rw [getv, getv]
  cases hi <;> simp
theorem tread_nil (v : Value) (w : World) (hv : ∃ p, v = .pointer p) : Calls Tryz.prog 108 #[.pointer none, v] w fun e w' => e = .returned (.tuple #[.int .i64 0, .int .i64 1]) ∧ w = w' := by
  obtain ⟨p, rfl⟩ := hv
  go_enter Tryz.func108, Tryz.ntmps108
  go_wp2_with fail
  exact bodyPost_ret (results_tmp2 rfl _ _ _) rfl ⟨rfl, rfl⟩
theorem tread_nil2 (tb : Nat) (w : World) : Calls Tryz.prog 108 #[.pointer (some ⟨tb, 0, none⟩), .pointer none] w fun e w' => e = .returned (.tuple #[.int .i64 0, .int .i64 1]) ∧ w = w' := by
  go_enter Tryz.func108, Tryz.ntmps108
  go_wp2_with fail
  exact bodyPost_ret (results_tmp2 rfl _ _ _) rfl ⟨rfl, rfl⟩
set_option maxRecDepth 100000 in
set_option maxHeartbeats 16000000 in
theorem sTRead (i j : Nat) (hij : i ≠ j) {w0 w : World} {L : List Ob} {tb : Nat} {F : List Nat} {l : List Int} {b : Nat} {t : ByteArray} {p0 : Nat} {hi : Bool} (S : Sep w0 w L) (hT : L[i]? = some (oTab tb F l)) (hR : L[j]? = some (oR b t p0 hi))
    (hl : l.length ≤ 288) (ht : t.size ≤ 140737488355328) (hp0 : p0 ≤ 8 * t.size) :
    Calls Tryz.prog 108 #[.pointer (some ⟨tb, 0, none⟩), .pointer (some ⟨b, 0, none⟩)] w fun e w' =>
      e = .returned (.tuple #[.int .i64 (readN l (bit t hi) (8 * t.size) p0).1, .int .i64 (readN l (bit t hi) (8 * t.size) p0).2.1]) ∧ Sep w0 w' (L.set j (oR b t (readN l (bit t hi) (8 * t.size) p0).2.2 hi)) := by
  obtain ⟨R, hRR⟩ : ∃ R, readN l (bit t hi) (8 * t.size) p0 = R := ⟨_, rfl⟩
  rw [hRR]
  have hsl : (symsN l).length = sumF (cntF l) 1 15 := symT_cnt l 15 1 (by omega)
  have hcl := cntF_le l
  have hsy : (symsN l).length ≤ 5000 := by have := symT_len l 1 15; unfold symsN; omega
  have HTAB := Lib.hid (fun (w : World) (h : (oTab tb F l).P w) => (by
      obtain ⟨vl, vc, vs, hb, h1, h2, h3, _⟩ := h
      refine ⟨fun k hk => (cellOf hb (2 + k)).trans (tabC_at _ _ _ _ k hk), fun q hq => ?_⟩
      obtain ⟨g, cap, rfl⟩ := own_at h3 (by omega)
      exact ⟨g, _, cap, cellOf hb 18, hq, ownsRow_at h3 (by rw [List.getElem?_map, List.getElem?_eq_getElem hq, List.getD_eq_getElem?_getD, List.getElem?_eq_getElem hq]; rfl)⟩ :
      (∀ k, k < 16 → w.cell? ⟨tb, 2 + k, none⟩ = some (iz (cntF l k))) ∧ ∀ q, q < (symsN l).length → ∃ g n cap, w.cell? ⟨tb, 18, none⟩ = some (.slice (some ⟨g, 0, none⟩) n cap) ∧ q < n ∧ w.cell? ⟨g, q, none⟩ = some (iz ((symsN l).getD q 0 : Nat))))
  have HT := Lib.hid hT
  have HR := Lib.hid hR
  have HS := Lib.hid S
  have H0 := Lib.hid hRR
  unfold readN at H0
  generalize symsN l = sy at *
  generalize cntF l = c at *
  have HCL := Lib.hid (⟨hcl, hsl, hsy⟩ : _ ∧ _ ∧ _)
  clear hT hR S hRR hcl hsl hsy
  have hS0 : L.set j (oR b t p0 hi) = L := set_same HR.out
  have HS0 := Lib.hid hS0
  clear hS0
  go_enter Tryz.func108, Tryz.ntmps108
  go_wp2_with fail
  go_loopg [6, 7, 8, 9] 15 (fun g cv fv av kv wr => ∃ k cc f d a p : Nat, g + k = 16 ∧ 1 ≤ k ∧ cv = .int .i64 cc ∧ fv = .int .i64 f ∧ av = .int .i64 a ∧ kv = .int .i64 k ∧ cc = f + d ∧ cc < 2 ^ (k - 1) ∧ p ≤ 8 * t.size ∧ a + sumF c k g = sy.length ∧ rdF c sy (bit t hi) (8 * t.size) g k d a p = R ∧ Sep w0 wr (L.set j (oR b t p hi)))
  case atStart => exact ⟨1, 0, 0, 0, 0, p0, rfl, by omega, rfl, rfl, rfl, rfl, rfl, by decide, hp0, by rw [Nat.zero_add]; exact HCL.out.2.1.symm, H0.out, by rw [HS0.out]; exact HS.out⟩
  case round =>
    clear HS HS0 H0 hp0
    obtain ⟨k, cc, f, d, a, p, hgk, hk1, rfl, rfl, rfl, rfl, hcc, hc2, hp, hsum, hrd, S⟩ := hrel
    have HS := Lib.hid S
    have HQ := Lib.hid (⟨hcc, hc2, hsum, hrd⟩ : _ ∧ _ ∧ _ ∧ _)
    clear S hcc hc2 hsum hrd
    cases gk with
    | zero =>
      obtain rfl : k = 16 := by omega
      go_wp2_with fail
      have hrd := HQ.out.2.2.2
      rw [rdF] at hrd
      subst hrd
      refine bodyPost_ret (results_tmp2 rfl _ _ _) rfl ⟨rfl, HS.out⟩
    | succ g =>
      have hk15 : k ≤ 15 := by omega
      have hk15' : (k : Int) ≤ 15 := by omega
      go_wp2_with fail
      clear hk15'
      by_cases hpt : p < 8 * t.size
      · refine (sGet j (n := 1) HS.out (set_self HR.out) ht (by omega) (by omega)).mono ?_
        rintro e w9 ⟨rfl, S⟩
        rw [getv_one]
        rw [List.set_set] at S
        have hb1 := bit_le t hi p
        have hrd := HQ.out.2.2.2
        rw [rdF, if_pos hpt] at hrd
        obtain ⟨u, hu⟩ : ∃ u, bit t hi p = u := ⟨_, rfl⟩
        rw [hu] at hrd hb1 ⊢
        obtain ⟨hcc, hc2, hsum, _⟩ := HQ.out
        have hp2 : 2 ^ (k - 1) ≤ 2 ^ 14 := Nat.pow_le_pow_right (by omega) (by omega)
        have hcb : cc < 16384 := by omega
        have hor := i64_or_bit cc u (by omega) hb1
        have hfb : f ≤ cc := by omega
        obtain ⟨hn1, hn2⟩ := HTAB.out w9 (S.get i (set_get hij HT.out))
        have c1 := hn1 k (by omega)
        have hck : c k ≤ 288 := by have := HCL.out.1 k; omega
        obtain ⟨ck, hckk⟩ : ∃ ck, c k = ck := ⟨_, rfl⟩
        rw [hckk] at c1 hck hrd
        rw [sumF, hckk] at hsum
        have hsub : ((cc : Int) * 2 + (u : Int)) - (f : Int) * 2 = ((2 * d + u : Nat) : Int) := by omega
        obtain ⟨d2, hd2⟩ : ∃ d2, 2 * d + u = d2 := ⟨_, rfl⟩
        rw [hd2] at hsub hrd
        have hsy := HCL.out.2.2
        have ha5 : a ≤ 5000 := by omega
        by_cases hlt : d2 < ck
        · rw [if_pos hlt] at hrd
          have hlt' : (d2 : Int) < (ck : Int) := by omega
          obtain ⟨g9, n9, cap9, e1, e2, e3⟩ := hn2 (a + d2) (by omega)
          obtain ⟨z, hz⟩ : ∃ z, sy.getD (a + d2) 0 = z := ⟨_, rfl⟩
          rw [hz] at e3 hrd
          have HF := Lib.hid (⟨hrd, S⟩ : _ ∧ _)
          have hd5 : d2 ≤ 288 := by omega
          clear hrd S hcc hc2 hsum hn1 hn2 hckk hd2 hz hp2 hu hsy HS HQ
          go_wp2_with fail
          have hrd := HF.out.1
          subst hrd
          exact bodyPost_ret (results_tmp2 rfl _ _ _) rfl ⟨rfl, HF.out.2⟩
        · rw [if_neg hlt] at hrd
          have hlt' : ¬ (d2 : Int) < (ck : Int) := by omega
          have HF := Lib.hid (⟨hrd, S, hcc, hc2, hsum, hd2⟩ : _ ∧ _ ∧ _ ∧ _ ∧ _ ∧ _)
          clear hrd S hcc hc2 hsum hn1 hn2 hckk hd2 hp2 hu hsy HS HQ
          go_wp2_with fail
          go_roundg g
          case measure => omega
          case rel =>
            obtain ⟨hrd, S, hcc, hc2, hsum, hd2⟩ := HF.out
            refine ⟨k + 1, 2 * cc + u, 2 * f + ck, d2 - ck, a + ck, p + 1, by omega, by omega, by go_num, by go_num, by go_num, by go_num, by omega, ?_, by omega, by omega, hrd, S⟩
            have e : 2 ^ (k + 1 - 1) = 2 * 2 ^ (k - 1) := by
              rw [show k + 1 - 1 = (k - 1) + 1 by omega, Nat.pow_succ, Nat.mul_comm]
            rw [e]
            omega
      · obtain rfl : p = 8 * t.size := by omega
        refine (sGetMore j (n := 1) HS.out (set_self HR.out) ht (by omega) (by omega) (by omega)).mono ?_
        rintro e w9 ⟨rfl, S⟩
        have HS := Lib.hid S
        clear S
        go_wp2_with fail
        have hrd := HQ.out.2.2.2
        rw [rdF, if_neg (by omega)] at hrd
        subst hrd
        refine bodyPost_ret (results_tmp2 rfl _ _ _) rfl ⟨rfl, HS.out⟩
end Go.Proofs.YtnapnaaejignaaaGreat.Hu

/-! HuW: Plain: the leaves of the merged tree and their depths; counts that are all one. -/
namespace Go.Proofs.YtnapnaaejignaaaGreat.Hu
open Nd

/-- a tree's leaves: count, symbol, depth -/
def lvs : Nd → Nat → List (Int × Nat × Nat)
  | .leaf c s, d => [(c, s, d)]
  | .join _ _ a b, d => lvs a (d + 1) ++ lvs b (d + 1)
def setAll (L : List Int) (T : List (Int × Nat × Nat)) : List Int := T.foldl (fun L t => L.set t.2.1 (t.2.2 : Int)) L
theorem setD_all : ∀ (x : Nd) (d : Nat) (L : List Int), setD x d L = setAll L (lvs x d)
  | .leaf _ _, _, _ => rfl
  | .join _ _ a b, d, L => by
    rw [setD, lvs, setAll, List.foldl_append, setD_all b, setD_all a]
    rfl
/-- a tree's leaves: count, symbol -/
def lfs : Nd → List (Int × Nat)
  | .leaf c s => [(c, s)]
  | .join _ _ a b => lfs a ++ lfs b
theorem lvs_lfs : ∀ (x : Nd) (d : Nat), (lvs x d).map (fun t => (t.1, t.2.1)) = lfs x
  | .leaf _ _, _ => rfl
  | .join _ _ a b, d => by rw [lvs, List.map_append, lvs_lfs a, lvs_lfs b, lfs]
def lfsL (L : List Nd) : List (Int × Nat) := L.flatMap lfs
theorem lfsL_ins (x : Nd) (L : List Nd) : (lfsL (insS x L)).Perm (lfs x ++ lfsL L) := by
  have := (insS_perm x L).flatMap_right lfs
  simpa [lfsL] using this
theorem lfsL_srt (L : List Nd) : (lfsL (srtS L)).Perm (lfsL L) := (srtS_perm L).flatMap_right lfs
theorem lfsL_mrg : ∀ (k g : Nat) (L : List Nd), (lfsL (mrgF k g L)).Perm (lfsL L)
  | 0, _, _ => List.Perm.refl _
  | k + 1, _, [] => List.Perm.refl _
  | k + 1, _, [_] => List.Perm.refl _
  | k + 1, g, a :: b :: L => by
    rw [mrgF]
    refine (lfsL_mrg k (g + 1) _).trans ((lfsL_ins _ _).trans ?_)
    simp [lfsL, lfs]
theorem mrgF_one : ∀ (k g : Nat) (L : List Nd), 0 < L.length → L.length ≤ k + 1 → ∃ x, mrgF k g L = [x]
  | 0, _, [x], _, _ => ⟨x, rfl⟩
  | k + 1, _, [x], _, _ => ⟨x, rfl⟩
  | k + 1, g, a :: b :: L, _, h => by
    rw [mrgF]
    refine mrgF_one k (g + 1) _ (by rw [insS_len]; omega) (by rw [insS_len]; simp at h; omega)
  | 0, _, a :: b :: L, _, h => by simp at h
/-- the leaves, symbol by symbol -/
theorem leavesF_lfs : ∀ (l : List Int) (k : Nat), lfsL (leavesF l k) = ((l.zipIdx k).filter fun p => decide (0 < p.1)).map fun p => (p.1, p.2)
  | [], _ => rfl
  | c :: l, k => by
    rw [leavesF, List.zipIdx_cons, List.filter_cons]
    by_cases h : 0 < c
    · rw [if_pos h]
      simp only [decide_eq_true h, if_true, List.map_cons]
      rw [← leavesF_lfs l (k + 1)]
      rfl
    · rw [if_neg h]
      simp only [decide_eq_false h]
      exact leavesF_lfs l (k + 1)
theorem zip_pos (l : List Int) (k : Nat) (c : Int) (s : Nat) : (c, s) ∈ ((l.zipIdx k).filter fun p => decide (0 < p.1)).map (fun p => (p.1, p.2)) ↔ k ≤ s ∧ l[s - k]? = some c ∧ 0 < c := by
  simp only [List.mem_map, List.mem_filter, decide_eq_true_eq, Prod.mk.injEq, Prod.exists]
  constructor
  · rintro ⟨a, b, ⟨h, hp⟩, rfl, rfl⟩
    have := List.mem_zipIdx_iff_le_and_getElem?_sub.1 h
    exact ⟨this.1, this.2, hp⟩
  · rintro ⟨h1, h2, h3⟩
    exact ⟨c, s, ⟨List.mem_zipIdx_iff_le_and_getElem?_sub.2 ⟨h1, h2⟩, h3⟩, rfl, rfl⟩
theorem zip_nodup : ∀ (l : List Int) (k : Nat), ((((l.zipIdx k).filter fun p => decide (0 < p.1)).map fun p => (p.1, p.2)).map (·.2)).Nodup
  | [], _ => List.nodup_nil
  | c :: l, k => by
    have ih := zip_nodup l (k + 1)
    rw [List.zipIdx_cons, List.filter_cons]
    by_cases h : 0 < c
    · simp only [decide_eq_true h, if_true, List.map_cons]
      refine List.nodup_cons.2 ⟨fun hm => ?_, ih⟩
      obtain ⟨⟨a, b⟩, hp, hb⟩ := List.mem_map.1 hm
      have := (zip_pos l (k + 1) a b).1 hp
      simp at hb
      omega
    · simp only [decide_eq_false h]
      exact ih
/-- what is set, where symbols are apart -/
theorem setAll_at : ∀ (T : List (Int × Nat × Nat)) (L : List Int) (s : Nat), (T.map (·.2.1)).Nodup → s < L.length →
    ((∀ c d, (c, s, d) ∉ T) ∧ (setAll L T)[s]? = L[s]?) ∨ ∃ c d, (c, s, d) ∈ T ∧ (setAll L T)[s]? = some (d : Int)
  | [], L, s, _, _ => .inl ⟨by simp, rfl⟩
  | (c, s', d) :: T, L, s, hn, hs => by
    rw [List.map_cons, List.nodup_cons] at hn
    have ih := setAll_at T (L.set s' d) s hn.2 (by rw [List.length_set]; exact hs)
    have e : setAll L ((c, s', d) :: T) = setAll (L.set s' d) T := rfl
    rw [e]
    rcases ih with ⟨h1, h2⟩ | ⟨c2, d2, h1, h2⟩
    · by_cases hss : s' = s
      · subst hss
        exact .inr ⟨c, d, by simp, by rw [h2, List.getElem?_set_self hs]⟩
      · refine .inl ⟨fun c3 d3 hm => ?_, by rw [h2, List.getElem?_set_ne hss]⟩
        rcases List.mem_cons.1 hm with h | h
        · injection h with _ h; injection h with h _; exact hss h.symm
        · exact h1 c3 d3 h
    · exact .inr ⟨c2, d2, by simp [h1], h2⟩
/-- the tree of two counts or more -/
def treeN (l : List Int) : Nd := ((mrgF (leavesF l 0).length 0 (srtS (leavesF l 0)))[0]?).getD default
theorem tree_mrg (l : List Int) (h : 0 < (leavesF l 0).length) : mrgF (leavesF l 0).length 0 (srtS (leavesF l 0)) = [treeN l] := by
  have hl : (srtS (leavesF l 0)).length = (leavesF l 0).length := (srtS_perm _).length_eq
  obtain ⟨x, hx⟩ := mrgF_one (leavesF l 0).length 0 (srtS (leavesF l 0)) (by omega) (by omega)
  unfold treeN
  rw [hx]
  rfl
theorem tree_lfs (l : List Int) (h : 0 < (leavesF l 0).length) : (lfs (treeN l)).Perm (((l.zipIdx 0).filter fun p => decide (0 < p.1)).map fun p => (p.1, p.2)) := by
  have h1 := lfsL_mrg (leavesF l 0).length 0 (srtS (leavesF l 0))
  rw [tree_mrg l h] at h1
  have h2 := h1.trans (lfsL_srt _)
  rw [leavesF_lfs] at h2
  simpa [lfsL] using h2
theorem deepN_tree (l : List Int) (h : 2 ≤ (leavesF l 0).length) : deepN l = setAll (zers l.length) (lvs (treeN l) 0) := by
  rw [deepN_more (by omega), tree_mrg l (by omega), topD, setD_all]
theorem tree_nodup (l : List Int) (h : 0 < (leavesF l 0).length) : ((lvs (treeN l) 0).map (·.2.1)).Nodup := by
  have h1 : (lvs (treeN l) 0).map (·.2.1) = (lfs (treeN l)).map (·.2) := by rw [← lvs_lfs (treeN l) 0, List.map_map]; rfl
  rw [h1]
  exact (((tree_lfs l h).map (·.2)).nodup_iff).2 (zip_nodup l 0)
/-- each positive count has its depth; none else -/
theorem deepN_at (l : List Int) (h : 2 ≤ (leavesF l 0).length) (s : Nat) (c : Int) (hs : l[s]? = some c) :
    (c ≤ 0 ∧ (deepN l)[s]? = some 0) ∨ (0 < c ∧ ∃ d : Nat, (c, s, d) ∈ lvs (treeN l) 0 ∧ (deepN l)[s]? = some (d : Int)) := by
  have hsl := (List.getElem?_eq_some_iff.1 hs).1
  have hmem : ∀ c' d, (c', s, d) ∈ lvs (treeN l) 0 → c' = c ∧ 0 < c := fun c' d hm => by
    have h1 : (c', s) ∈ lfs (treeN l) := by rw [← lvs_lfs (treeN l) 0]; exact List.mem_map.2 ⟨_, hm, rfl⟩
    have h2 := (zip_pos l 0 c' s).1 ((tree_lfs l (by omega)).mem_iff.1 h1)
    rw [Nat.sub_zero, hs] at h2
    have := Option.some.inj h2.2.1
    subst this
    exact ⟨rfl, h2.2.2⟩
  rw [deepN_tree l h]
  rcases setAll_at (lvs (treeN l) 0) (zers l.length) s (tree_nodup l (by omega)) (by rw [zers, List.length_replicate]; exact hsl) with ⟨h1, h2⟩ | ⟨c2, d, h1, h2⟩
  · refine .inl ⟨?_, by rw [h2, zers, List.getElem?_replicate, if_pos hsl]⟩
    refine Int.not_lt.1 (fun hc => ?_)
    have h3 : (c, s) ∈ lfs (treeN l) := (tree_lfs l (by omega)).mem_iff.2 ((zip_pos l 0 c s).2 ⟨Nat.zero_le _, by simpa using hs, hc⟩)
    rw [← lvs_lfs (treeN l) 0] at h3
    obtain ⟨⟨c3, s3, d3⟩, h4, h5⟩ := List.mem_map.1 h3
    simp at h5
    obtain ⟨rfl, rfl⟩ := h5
    exact h1 _ _ h4
  · obtain ⟨rfl, hc⟩ := hmem c2 d h1
    exact .inr ⟨hc, d, h1, h2⟩
theorem lvs_hgt : ∀ (x : Nd) (d : Nat) (t : Int × Nat × Nat), t ∈ lvs x d → t.2.2 ≤ d + hgt x
  | .leaf _ _, d, t, h => by rw [lvs, List.mem_singleton] at h; subst h; simp [hgt]
  | .join _ _ a b, d, t, h => by
    rw [lvs] at h
    rcases List.mem_append.1 h with h | h
    · have := lvs_hgt a (d + 1) t h; rw [hgt]; omega
    · have := lvs_hgt b (d + 1) t h; rw [hgt]; omega
theorem lvs_pos : ∀ (x : Nd) (d : Nat) (t : Int × Nat × Nat), t ∈ lvs x d → d ≤ t.2.2
  | .leaf _ _, d, t, h => by rw [lvs, List.mem_singleton] at h; subst h; simp
  | .join _ _ a b, d, t, h => by
    rw [lvs] at h
    rcases List.mem_append.1 h with h | h
    · have := lvs_pos a (d + 1) t h; omega
    · have := lvs_pos b (d + 1) t h; omega
end Go.Proofs.YtnapnaaejignaaaGreat.Hu

/-! HuX: Plain: counts that are all one make no tree deeper than need be; halving ends ('fitB'). -/
namespace Go.Proofs.YtnapnaaejignaaaGreat.Hu
open Nd

/-- sorted by count -/
def CS (L : List Nd) : Prop := L.Pairwise fun x y => x.cnt ≤ y.cnt
theorem insS_cs (x : Nd) : ∀ L, CS L → CS (insS x L)
  | [], _ => List.pairwise_singleton _ _
  | y :: L, h => by
    obtain ⟨h1, h2⟩ := List.pairwise_cons.1 h
    rw [insS]
    split
    · rename_i hlt
      have hxy : x.cnt ≤ y.cnt := by have := (ndLt_iff x y).1 hlt; omega
      refine List.pairwise_cons.2 ⟨fun z hz => ?_, h⟩
      rcases List.mem_cons.1 hz with rfl | hz
      · exact hxy
      · exact Int.le_trans hxy (h1 z hz)
    · rename_i hlt
      have hyx : y.cnt ≤ x.cnt := by have := (ndLt_false x y).1 (by simpa using hlt); omega
      refine List.pairwise_cons.2 ⟨fun z hz => ?_, insS_cs x L h2⟩
      rcases List.mem_cons.1 ((insS_perm x L).mem_iff.1 hz) with rfl | hz
      · exact hyx
      · exact h1 z hz
theorem srtS_cs : ∀ L, CS (srtS L)
  | [] => List.Pairwise.nil
  | x :: L => insS_cs x _ (srtS_cs L)
theorem sumC_mrg : ∀ (k g : Nat) (L : List Nd), sumC (mrgF k g L) = sumC L
  | 0, _, _ => rfl
  | k + 1, _, [] => rfl
  | k + 1, _, [_] => rfl
  | k + 1, g, a :: b :: L => by
    rw [mrgF, sumC_mrg k (g + 1), sumC_ins, sumC, sumC, cnt]
    omega
def full (t : Int) (x : Nd) : Prop := x.cnt = t ∨ x.cnt = 2 * t
structure Ph (h : Nat) (t : Int) (L : List Nd) : Prop where
  ht : t = 2 ^ h
  each : ∀ x ∈ L, (hgt x ≤ h ∧ t < 2 * x.cnt ∧ x.cnt ≤ t) ∨ (hgt x ≤ h + 1 ∧ t < x.cnt ∧ x.cnt ≤ 2 * t)
  odd : L.Pairwise fun x y => full t x ∨ full t y
  srt : CS L
theorem Ph.small {h : Nat} {t : Int} {a b : Nd} {L : List Nd} (p : Ph h t (a :: b :: L)) (g : Nat) (ha : a.cnt ≤ t) (hb : b.cnt ≤ t) : Ph h t (insS (.join (a.cnt + b.cnt) g a b) L) := by
  have ea := p.each a (by simp)
  have eb := p.each b (by simp)
  obtain ⟨o1, o2⟩ := List.pairwise_cons.1 p.odd
  obtain ⟨o3, o4⟩ := List.pairwise_cons.1 o2
  obtain ⟨s1, s2⟩ := List.pairwise_cons.1 p.srt
  obtain ⟨s3, s4⟩ := List.pairwise_cons.1 s2
  have hab := s1 b (by simp)
  have hbt : b.cnt = t := by
    rcases o1 b (by simp) with h | h
    · unfold full at h; omega
    · unfold full at h; omega
  refine ⟨p.ht, fun x hx => ?_, ?_, insS_cs _ _ s4⟩
  · rcases List.mem_cons.1 ((insS_perm _ L).mem_iff.1 hx) with rfl | hx
    · refine .inr ⟨?_, ?_, ?_⟩
      · rw [hgt]; omega
      · rw [cnt]; omega
      · rw [cnt]; omega
    · exact p.each x (by simp [hx])
  · refine ((insS_perm _ L).pairwise_iff (fun {x y} h => h.symm)).2 (List.pairwise_cons.2 ⟨fun y hy => ?_, o4⟩)
    rcases o1 y (by simp [hy]) with h | h
    · refine .inl (.inr ?_)
      rw [cnt]
      unfold full at h
      omega
    · exact .inr h
theorem Ph.up {h : Nat} {t : Int} {L : List Nd} (p : Ph h t L) (hb : ∀ x ∈ L, t < x.cnt) : Ph (h + 1) (2 * t) L := by
  refine ⟨by rw [p.ht, Int.pow_succ, Int.mul_comm], fun x hx => ?_, ?_, p.srt⟩
  · have := hb x hx
    rcases p.each x hx with h | h
    · omega
    · exact .inl ⟨h.1, by omega, h.2.2⟩
  · refine p.odd.imp_of_mem (fun {x y} hx hy h => ?_)
    have h1 := hb x hx
    have h2 := hb y hy
    rcases h with h | h
    · exact .inl (.inl (h.resolve_left (by omega)))
    · exact .inr (.inl (h.resolve_left (by omega)))
theorem Ph.step {h : Nat} {t : Int} {a b : Nd} {L : List Nd} (p : Ph h t (a :: b :: L)) (g : Nat) : ∃ h' t', Ph h' t' (insS (.join (a.cnt + b.cnt) g a b) L) := by
  have ea := p.each a (by simp)
  have eb := p.each b (by simp)
  obtain ⟨o1, o2⟩ := List.pairwise_cons.1 p.odd
  obtain ⟨o3, o4⟩ := List.pairwise_cons.1 o2
  obtain ⟨s1, s2⟩ := List.pairwise_cons.1 p.srt
  obtain ⟨s3, s4⟩ := List.pairwise_cons.1 s2
  have hab := s1 b (by simp)
  by_cases hb : b.cnt ≤ t
  · exact ⟨h, t, p.small g (by omega) hb⟩
  · by_cases ha : a.cnt ≤ t
    · have big : ∀ y ∈ L, hgt y ≤ h + 1 ∧ t < y.cnt ∧ y.cnt ≤ 2 * t := fun y hy => by
        have h1 := s3 y hy
        rcases p.each y (by simp [hy]) with h2 | h2
        · omega
        · exact h2
      have eb' : hgt b ≤ h + 1 ∧ t < b.cnt ∧ b.cnt ≤ 2 * t := eb.resolve_left (by omega)
      have ea' : hgt a ≤ h ∧ t < 2 * a.cnt ∧ a.cnt ≤ t := ea.resolve_right (by omega)
      have ful : ∀ y ∈ L, full (2 * t) y := fun y hy => by
        have h1 := s3 y hy
        have h2 := big y hy
        refine .inl ?_
        rcases o3 y hy with h3 | h3 <;> unfold full at h3 <;> omega
      refine ⟨h + 1, 2 * t, by rw [p.ht, Int.pow_succ, Int.mul_comm], fun x hx => ?_, ?_, insS_cs _ _ s4⟩
      · rcases List.mem_cons.1 ((insS_perm _ L).mem_iff.1 hx) with rfl | hx
        · refine .inr ⟨?_, ?_, ?_⟩
          · rw [hgt]; omega
          · rw [cnt]
            rcases o1 b (by simp) with h3 | h3 <;> unfold full at h3 <;> omega
          · rw [cnt]; omega
        · have := big x hx
          exact .inl ⟨this.1, by omega, this.2.2⟩
      · refine ((insS_perm _ L).pairwise_iff (fun {x y} h => h.symm)).2 (List.pairwise_cons.2 ⟨fun y hy => .inr (ful y hy), ?_⟩)
        exact o4.imp_of_mem (fun {x y} hx _ _ => .inl (ful x hx))
    · have all : ∀ x ∈ a :: b :: L, t < x.cnt := fun x hx => by
        rcases List.mem_cons.1 hx with rfl | hx
        · omega
        · have := s1 x hx; omega
      exact ⟨h + 1, 2 * t, (p.up all).small g (by omega) (by omega)⟩
theorem Ph.mrg : ∀ (k g : Nat) (h : Nat) (t : Int) (L : List Nd), Ph h t L → ∃ h' t', Ph h' t' (mrgF k g L)
  | 0, _, h, t, _, p => ⟨h, t, p⟩
  | k + 1, _, h, t, [], p => ⟨h, t, p⟩
  | k + 1, _, h, t, [_], p => ⟨h, t, p⟩
  | k + 1, g, h, t, a :: b :: L, p => by
    rw [mrgF]
    obtain ⟨h', t', p'⟩ := p.step g
    exact Ph.mrg k (g + 1) h' t' _ p'
/-- all counts are nought or one -/
def Ones (l : List Int) : Prop := ∀ c ∈ l, c = 0 ∨ c = 1
theorem ones_leaf {l : List Int} (h : Ones l) : ∀ x ∈ leavesF l 0, x.cnt = 1 ∧ hgt x = 0 := fun x hx => by
  obtain ⟨c, s, rfl, _, _, hc, hs⟩ := leavesF_mem l 0 x hx
  have := h c (List.mem_of_getElem? hs)
  exact ⟨by rw [cnt]; omega, rfl⟩
theorem leaves_some : ∀ (l : List Int) (k : Nat), (leavesF l k).length = someN l
  | [], _ => rfl
  | c :: l, k => by
    have ih := leaves_some l (k + 1)
    unfold someN at ih ⊢
    rw [leavesF, List.countP_cons]
    by_cases h : 0 < c
    · rw [if_pos h, List.length_cons, ih]; simp [h]
    · rw [if_neg h, ih]; simp [h]
theorem sumC_ones : ∀ L : List Nd, (∀ x ∈ L, x.cnt = 1) → sumC L = L.length
  | [], _ => rfl
  | x :: L, h => by
    rw [sumC, h x (by simp), sumC_ones L (fun y hy => h y (by simp [hy])), List.length_cons]
    omega
theorem foldl_max_le : ∀ (l : List Int) (x m : Int), x ≤ m → (∀ y ∈ l, y ≤ m) → l.foldl max x ≤ m
  | [], _, _, h, _ => h
  | y :: l, x, m, h, hl => foldl_max_le l (max x y) m (by have := hl y (by simp); omega) (fun z hz => hl z (by simp [hz]))
theorem maxL_le : ∀ (l : List Int) (m : Int), 0 < l.length → (∀ x ∈ l, x ≤ m) → maxL l ≤ m
  | [], _, h, _ => by simp at h
  | x :: l, m, _, hx => foldl_max_le l x m (hx x (by simp)) (fun y hy => hx y (by simp [hy]))
theorem foldl_max_ge : ∀ (l : List Int) (x : Int), x ≤ l.foldl max x ∧ ∀ y ∈ l, y ≤ l.foldl max x
  | [], x => ⟨Int.le_refl _, by simp⟩
  | y :: l, x => by
    have ih := foldl_max_ge l (max x y)
    rw [List.foldl_cons]
    refine ⟨by omega, fun z hz => ?_⟩
    rcases List.mem_cons.1 hz with rfl | hz
    · omega
    · exact ih.2 z hz
theorem le_maxL : ∀ (l : List Int) (y : Int), y ∈ l → y ≤ maxL l
  | [], _, h => by cases h
  | x :: l, y, h => by
    rcases List.mem_cons.1 h with rfl | h
    · exact (foldl_max_ge l y).1
    · exact (foldl_max_ge l x).2 y h
theorem mem_set_cases {l : List Int} {i : Nat} {x y : Int} (h : y ∈ l.set i x) : y ∈ l ∨ y = x := by
  obtain ⟨j, hj⟩ := List.getElem?_of_mem h
  rw [List.getElem?_set] at hj
  split at hj
  · split at hj
    · exact .inr (Option.some.inj hj).symm
    · cases hj
  · exact .inl (List.mem_of_getElem? hj)
theorem ones_fit (l : List Int) (mm : Nat) (h : Ones l) (hs : someN l ≤ 2 ^ mm) (h1 : 1 ≤ mm) : okB mm l = true := by
  unfold okB
  refine decide_eq_true ?_
  by_cases h0 : l.length = 0
  · exact .inl h0
  · refine .inr (maxL_le _ _ (by rw [deepN_len]; omega) (fun y hy => ?_))
    have hsome := leaves_some l 0
    by_cases hk : 2 ≤ (leavesF l 0).length
    · obtain ⟨s, hys⟩ := List.getElem?_of_mem hy
      have hsl : s < l.length := by have := (List.getElem?_eq_some_iff.1 hys).1; rw [deepN_len] at this; exact this
      rcases deepN_at l hk s _ (List.getElem?_eq_getElem hsl) with ⟨_, h2⟩ | ⟨_, d, h2, h3⟩
      · rw [hys] at h2
        have := Option.some.inj h2
        omega
      · rw [hys] at h3
        have hyd := Option.some.inj h3
        have hd := lvs_hgt _ _ _ h2
        simp only [Nat.zero_add] at hd
        have hL : ∀ x ∈ srtS (leavesF l 0), x.cnt = 1 ∧ hgt x = 0 := fun x hx => ones_leaf h x ((srtS_perm _).mem_iff.1 hx)
        have p0 : Ph 0 1 (srtS (leavesF l 0)) := by
          refine ⟨rfl, fun x hx => ?_, ?_, srtS_cs _⟩
          · have := hL x hx
            exact .inl ⟨by omega, by omega, by omega⟩
          · have hp : (srtS (leavesF l 0)).Pairwise fun _ _ => True := List.pairwise_of_forall (fun _ _ => trivial)
            exact hp.imp_of_mem (fun {x y} hx _ _ => .inl (.inl (hL x hx).1))
        obtain ⟨h', t', p⟩ := Ph.mrg (leavesF l 0).length 0 0 1 _ p0
        have hsum := sumC_mrg (leavesF l 0).length 0 (srtS (leavesF l 0))
        rw [tree_mrg l (by omega)] at p hsum
        rw [sumC_srt, sumC_ones _ (fun x hx => (ones_leaf h x hx).1), sumC, sumC, hsome, Int.add_zero] at hsum
        have hh : (2 : Int) ^ hgt (treeN l) < 2 * (treeN l).cnt := by
          have ht := p.ht
          rcases p.each (treeN l) (by simp) with ⟨e1, e2, e3⟩ | ⟨e1, e2, e3⟩
          · have hp : (2 : Nat) ^ hgt (treeN l) ≤ 2 ^ h' := Nat.pow_le_pow_right (by omega) e1
            have hp2 : (2 : Int) ^ hgt (treeN l) ≤ 2 ^ h' := by exact_mod_cast hp
            omega
          · have hp : (2 : Nat) ^ hgt (treeN l) ≤ 2 ^ (h' + 1) := Nat.pow_le_pow_right (by omega) e1
            have hp2 : (2 : Int) ^ hgt (treeN l) ≤ 2 ^ (h' + 1) := by exact_mod_cast hp
            rw [Int.pow_succ] at hp2
            omega
        have hs2 : ((someN l : Nat) : Int) ≤ ((2 ^ mm : Nat) : Int) := by exact_mod_cast hs
        have hh2 : (2 : Nat) ^ hgt (treeN l) < 2 ^ (mm + 1) := by
          rw [Nat.pow_succ]
          have : ((2 ^ hgt (treeN l) : Nat) : Int) < ((2 ^ mm * 2 : Nat) : Int) := by push_cast; push_cast at hs2; omega
          exact_mod_cast this
        have hlt := (Nat.pow_lt_pow_iff_right (by omega : 1 < 2)).1 hh2
        omega
    · match hleaf : leavesF l 0, hk with
      | [], _ =>
        rw [deepN_more (by rw [hleaf]; simp), hleaf] at hy
        have hy0 : y = 0 := List.eq_of_mem_replicate hy
        omega
      | [x], _ =>
        rw [deepN_one hleaf] at hy
        rcases mem_set_cases hy with hy | hy
        · have hy0 : y = 0 := List.eq_of_mem_replicate hy
          omega
        · omega
      | x :: z :: L, hk => exact absurd (by simp) hk
theorem some_half : ∀ l : List Int, (∀ c ∈ l, 0 ≤ c) → someN (halfL l) = someN l
  | [], _ => rfl
  | c :: l, h => by
    have ih := some_half l (fun d hd => h d (by simp [hd]))
    have hc := h c (by simp)
    unfold someN halfL at ih ⊢
    rw [List.map_cons, List.countP_cons, List.countP_cons, ih]
    by_cases h0 : 0 < c
    · rw [decide_eq_true h0, decide_eq_true (show 0 < (c + 1) / 2 by omega)]
    · rw [decide_eq_false h0, decide_eq_false (show ¬ 0 < (c + 1) / 2 by omega)]
theorem fit_pow (mm : Nat) (h1 : 1 ≤ mm) : ∀ (K : Nat) (l : List Int), (∀ c ∈ l, 0 ≤ c ∧ c ≤ 2 ^ K) → someN l ≤ 2 ^ mm → fitB K mm l = true
  | 0, l, h, hs => ones_fit l mm (fun c hc => by have := h c hc; simp at this; omega) hs h1
  | K + 1, l, h, hs => by
    rw [fitB, fit_pow mm h1 K (halfL l) (fun c hc => ?_) (by rw [some_half l (fun c hc => (h c hc).1)]; exact hs), Bool.or_true]
    obtain ⟨x, hx, rfl⟩ := List.mem_map.1 hc
    have := h x hx
    rw [Int.pow_succ] at this
    omega
theorem fit_all {l : List Int} {m : Int} (he : lensErr l m = false) : fitB 40 m l = true := by
  obtain ⟨hx, hl, hm1, hm15, hs⟩ := lensErr_false he
  obtain ⟨mm, rfl⟩ : ∃ mm : Nat, m = mm := ⟨m.toNat, by omega⟩
  exact fit_pow mm (by omega) 40 l (fun c hc => by have := hx c hc; omega) (by simpa using hs)
end Go.Proofs.YtnapnaaejignaaaGreat.Hu

/-! HuY: The document's State and Codes (chapter 7) walked. -/
namespace Go.Proofs.YtnapnaaejignaaaGreat.Hu
open Go.RowKit

/-! ### plain -/
def kraS : List Int → Nat
  | [] => 0
  | x :: l => (if 0 < x then 2 ^ (15 - x.toNat) else 0) + kraS l
theorem kraF_add (c d e : Nat → Nat) (h : ∀ j, c j = d j + e j) : ∀ k, kraF c k = kraF d k + kraF e k
  | 0 => rfl
  | k + 1 => by rw [kraF, kraF, kraF, kraF_add c d e h k, h, Nat.add_mul]; omega
theorem kraF_one (m : Nat) : ∀ k, kraF (fun j => if j = m then 1 else 0) k = if m < k then 2 ^ (15 - m) else 0
  | 0 => rfl
  | k + 1 => by
    rw [kraF, kraF_one m k]
    by_cases h : k = m
    · subst h; rw [if_neg (by omega), if_pos rfl, if_pos (by omega)]; omega
    · rw [if_neg h]
      by_cases h2 : m < k
      · rw [if_pos h2, if_pos (by omega)]; omega
      · rw [if_neg h2, if_neg (by omega)]; omega
theorem kraF_zero (c : Nat → Nat) (h : ∀ j, c j = 0) : ∀ k, kraF c k = 0
  | 0 => rfl
  | k + 1 => by rw [kraF, kraF_zero c h k, h]; omega
theorem kra_sum : ∀ l : List Int, (∀ x ∈ l, 0 ≤ x ∧ x ≤ 15) → kraF (cntF l) 16 = kraS l
  | [], _ => kraF_zero _ (fun j => by unfold cntF cntI; split <;> simp) 16
  | x :: l, h => by
    have hx := h x (by simp)
    have ih := kra_sum l (fun y hy => h y (by simp [hy]))
    rw [kraS, ← ih]
    by_cases h0 : 0 < x
    · obtain ⟨m, rfl⟩ : ∃ m : Nat, x = m := ⟨x.toNat, by omega⟩
      rw [if_pos h0, Int.toNat_natCast]
      have e := kraF_add (cntF ((m : Int) :: l)) (fun j => if j = m then 1 else 0) (cntF l) (fun j => by
        unfold cntF cntI
        by_cases hj : j = 0
        · rw [if_pos hj, if_pos hj, if_neg (by omega)]
        · rw [if_neg hj, if_neg hj, List.countP_cons]
          by_cases hjm : j = m
          · subst hjm; simp; omega
          · rw [if_neg hjm, decide_eq_false (show ¬ (m : Int) = (j : Int) by omega)]; simp) 16
      rw [e, kraF_one, if_pos (by omega)]
    · rw [if_neg h0, Nat.zero_add]
      congr 1
      funext j
      unfold cntF cntI
      by_cases hj : j = 0
      · rw [if_pos hj, if_pos hj]
      · rw [if_neg hj, if_neg hj, List.countP_cons, decide_eq_false (show ¬ x = (j : Int) by omega)]
        rfl
theorem codesF_at : ∀ (l : List Int) (nx : Nat → Nat) (j : Nat) (x : Int), l[j]? = some x → (codesF l nx)[j]? = some (if 0 < x then nx x.toNat + cntI (l.take j) x.toNat else 0)
  | [], _, _, _, h => by simp at h
  | y :: l, nx, 0, x, h => by
    simp at h
    subst h
    rw [codesF]
    split <;> simp [cntI]
  | y :: l, nx, j + 1, x, h => by
    rw [List.getElem?_cons_succ] at h
    rw [codesF, List.take_succ_cons]
    unfold cntI
    rw [List.countP_cons]
    by_cases hy : 0 < y
    · rw [if_pos hy, List.getElem?_cons_succ, codesF_at l _ j x h]
      by_cases hx : 0 < x
      · rw [if_pos hx, if_pos hx]
        unfold up1 cntI
        by_cases hxy : x = y
        · subst hxy
          rw [if_pos rfl, decide_eq_true (show x = ((x.toNat : Nat) : Int) by omega)]
          simp; omega
        · rw [if_neg (by omega), decide_eq_false (show ¬ y = ((x.toNat : Nat) : Int) by omega)]
          simp
      · rw [if_neg hx, if_neg hx]
    · rw [if_neg hy, List.getElem?_cons_succ, codesF_at l _ j x h]
      by_cases hx : 0 < x
      · rw [if_pos hx, if_pos hx, decide_eq_false (show ¬ y = ((x.toNat : Nat) : Int) by omega)]
        simp [cntI]
      · rw [if_neg hx, if_neg hx]
end Go.Proofs.YtnapnaaejignaaaGreat.Hu

/-! HuZ: The document's Codes (chapter 7) walked. -/
namespace Go.Proofs.YtnapnaaejignaaaGreat.Hu
open Go.RowKit

/-- codes so far: of lengths below n, and of length n below the i-th -/
def outF (l : List Int) (n i : Nat) : List Nat := (List.range l.length).map fun j => if 0 < l.getD j 0 ∧ (l.getD j 0 < (n : Int) ∨ (l.getD j 0 = (n : Int) ∧ j < i)) then (codesN l).getD j 0 else 0
theorem outF_len (l : List Int) (n i : Nat) : (outF l n i).length = l.length := by simp [outF]
theorem outF_at (l : List Int) (n i j : Nat) (h : j < l.length) : (outF l n i)[j]? = some (if 0 < l.getD j 0 ∧ (l.getD j 0 < (n : Int) ∨ (l.getD j 0 = (n : Int) ∧ j < i)) then (codesN l).getD j 0 else 0) := by
  unfold outF
  rw [List.getElem?_map, List.getElem?_range h]
  rfl
theorem outF_start (l : List Int) : outF l 1 0 = List.replicate l.length 0 := by
  apply List.ext_getElem?
  intro j
  by_cases h : j < l.length
  · rw [outF_at _ _ _ _ h, List.getElem?_replicate, if_pos h, if_neg (by omega)]
  · rw [List.getElem?_eq_none (by rw [outF_len]; omega), List.getElem?_eq_none (by simp; omega)]
theorem outF_next (l : List Int) (n : Nat) : outF l n l.length = outF l (n + 1) 0 := by
  apply List.ext_getElem?
  intro j
  by_cases h : j < l.length
  · rw [outF_at _ _ _ _ h, outF_at _ _ _ _ h]
    congr 1
    have : (0 < l.getD j 0 ∧ (l.getD j 0 < (n : Int) ∨ (l.getD j 0 = (n : Int) ∧ j < l.length))) ↔ (0 < l.getD j 0 ∧ (l.getD j 0 < ((n + 1 : Nat) : Int) ∨ (l.getD j 0 = ((n + 1 : Nat) : Int) ∧ j < 0))) := by omega
    simp only [this]
  · rw [List.getElem?_eq_none (by rw [outF_len]; omega), List.getElem?_eq_none (by rw [outF_len]; omega)]
theorem outF_skip (l : List Int) (n i : Nat) (h : l.getD i 0 ≠ (n : Int)) : outF l n (i + 1) = outF l n i := by
  apply List.ext_getElem?
  intro j
  by_cases hj : j < l.length
  · rw [outF_at _ _ _ _ hj, outF_at _ _ _ _ hj]
    congr 1
    by_cases hji : j = i
    · subst hji
      have : (0 < l.getD j 0 ∧ (l.getD j 0 < (n : Int) ∨ (l.getD j 0 = (n : Int) ∧ j < j + 1))) ↔ (0 < l.getD j 0 ∧ (l.getD j 0 < (n : Int) ∨ (l.getD j 0 = (n : Int) ∧ j < j))) := by omega
      simp only [this]
    · have : (j < i + 1) ↔ (j < i) := by omega
      simp only [this]
  · rw [List.getElem?_eq_none (by rw [outF_len]; omega), List.getElem?_eq_none (by rw [outF_len]; omega)]
theorem outF_set (l : List Int) (n i : Nat) (hi : i < l.length) (hn : 0 < n) (h : l.getD i 0 = (n : Int)) : (outF l n i).set i ((codesN l).getD i 0) = outF l n (i + 1) := by
  apply List.ext_getElem?
  intro j
  by_cases hj : j < l.length
  · rw [outF_at _ _ _ _ hj, List.getElem?_set]
    by_cases hji : i = j
    · subst hji
      rw [if_pos rfl, if_pos (by rw [outF_len]; exact hi), if_pos ⟨by omega, .inr ⟨h, by omega⟩⟩]
    · rw [if_neg hji, outF_at _ _ _ _ hj]
      have : (j < i + 1) ↔ (j < i) := by omega
      simp only [this]
  · rw [List.getElem?_eq_none (by rw [List.length_set, outF_len]; omega), List.getElem?_eq_none (by rw [outF_len]; omega)]
theorem codesN_at (l : List Int) (j : Nat) (h : j < l.length) : (codesN l).getD j 0 = if 0 < l.getD j 0 then nxN (cntF l) (l.getD j 0).toNat + cntI (l.take j) (l.getD j 0).toNat else 0 := by
  have h1 := codesF_at l (nxN (cntF l)) j _ (List.getElem?_eq_getElem h)
  rw [List.getD_eq_getElem?_getD, List.getD_eq_getElem?_getD, List.getElem?_eq_getElem h]
  unfold codesN
  rw [h1]
  rfl
theorem outF_end (l : List Int) (hr : ∀ x ∈ l, 0 ≤ x ∧ x ≤ 15) : outF l 16 0 = codesN l := by
  have hlen : (codesN l).length = l.length := codesF_len l _
  apply List.ext_getElem?
  intro j
  by_cases hj : j < l.length
  · rw [outF_at _ _ _ _ hj, List.getElem?_eq_getElem (by omega)]
    congr 1
    have hx := hr (l.getD j 0) (by rw [List.getD_eq_getElem?_getD, List.getElem?_eq_getElem hj]; exact List.getElem_mem hj)
    by_cases h0 : 0 < l.getD j 0
    · rw [if_pos ⟨h0, .inl (by omega)⟩, List.getD_eq_getElem?_getD, List.getElem?_eq_getElem (by omega)]
      rfl
    · rw [if_neg (by omega)]
      have := codesN_at l j hj
      rw [if_neg h0, List.getD_eq_getElem?_getD, List.getElem?_eq_getElem (by omega)] at this
      exact this.symm
  · rw [List.getElem?_eq_none (by rw [outF_len]; omega), List.getElem?_eq_none (by omega)]
theorem cntI_take_le (l : List Int) (i n : Nat) : cntI (l.take i) n ≤ cntI l n := by
  unfold cntI
  exact (List.take_sublist i l).countP_le
end Go.Proofs.YtnapnaaejignaaaGreat.Hu

/-! HvA: The document's nodes (chapter 7): 'ahead' walked; the least node, plain. -/
namespace Go.Proofs.YtnapnaaejignaaaGreat.Hu
open Go.RowKit

/-- a node's value -/
def rnV (x : Nd) (pv : Value) : Value := .agg #[iz x.cnt, .bool x.mk, iz x.age, pv]
end Go.Proofs.YtnapnaaejignaaaGreat.Hu

/-! HvB: The document's 'take' (chapter 7) walked. -/
namespace Go.Proofs.YtnapnaaejignaaaGreat.Hu
open Go.RowKit

/-! ### plain: where the least node stands -/
def mnF (L : List Nd) : Nat → Nat → Nat → Nat
  | 0, _, k => k
  | g + 1, i, k => mnF L g (i + 1) (if ndLt (L.getD i default) (L.getD k default) = true then i else k)
def mnI (L : List Nd) : Nat := mnF L (L.length - 1) 1 0
theorem mnF_spec (L : List Nd) : ∀ (g i k : Nat), i + g = L.length → k < i → (∀ j, j < i → ndLt (L.getD j default) (L.getD k default) = false) →
    mnF L g i k < L.length ∧ ∀ j, j < L.length → ndLt (L.getD j default) (L.getD (mnF L g i k) default) = false
  | 0, i, k, hi, hk, h => ⟨by rw [mnF]; omega, fun j hj => h j (by omega)⟩
  | g + 1, i, k, hi, hk, h => by
    rw [mnF]
    by_cases hlt : ndLt (L.getD i default) (L.getD k default) = true
    · rw [if_pos hlt]
      refine mnF_spec L g (i + 1) i (by omega) (by omega) (fun j hj => ?_)
      by_cases hji : j = i
      · subst hji; exact ndLt_irr _
      · exact ndLt_trans _ _ _ (h j (by omega)) (ndLt_asymm _ _ hlt)
    · rw [if_neg hlt]
      refine mnF_spec L g (i + 1) k (by omega) (by omega) (fun j hj => ?_)
      by_cases hji : j = i
      · subst hji; simpa using hlt
      · exact h j (by omega)
theorem mnI_spec (L : List Nd) (h0 : 0 < L.length) : mnI L < L.length ∧ ∀ j, j < L.length → ndLt (L.getD j default) (L.getD (mnI L) default) = false :=
  mnF_spec L _ 1 0 (by omega) (by omega) (fun j hj => (show j = 0 by omega) ▸ ndLt_irr _)
theorem perm_erase : ∀ (L : List Nd) (r : Nat), r < L.length → L.Perm (L.getD r default :: L.eraseIdx r)
  | a :: L, 0, _ => List.Perm.refl _
  | a :: L, r + 1, h => by
    have ih := perm_erase L r (by simpa using h)
    rw [List.eraseIdx_cons_succ]
    exact (ih.cons a).trans (List.Perm.swap _ _ _)
theorem mn_take {L S : List Nd} {a : Nd} (hp : L.Perm (a :: S)) (hs : Srt (a :: S)) : mnI L < L.length ∧ L.getD (mnI L) default = a ∧ (L.eraseIdx (mnI L)).Perm S := by
  have hl : 0 < L.length := by rw [hp.length_eq]; simp
  obtain ⟨h1, h2⟩ := mnI_spec L hl
  have he := perm_erase L (mnI L) h1
  have hm : L.getD (mnI L) default ∈ a :: S := hp.mem_iff.1 (he.mem_iff.2 (by simp))
  have ha : L.getD (mnI L) default = a := by
    rcases List.mem_cons.1 hm with h | h
    · exact h
    · have hlt : ndLt a (L.getD (mnI L) default) = true := (List.pairwise_cons.1 hs).1 _ h
      obtain ⟨j, hj⟩ := List.getElem?_of_mem (hp.mem_iff.2 (List.mem_cons_self (a := a) (l := S)))
      have hjl := (List.getElem?_eq_some_iff.1 hj).1
      have := h2 j hjl
      rw [show L.getD j default = a by rw [List.getD_eq_getElem?_getD, hj]; rfl, hlt] at this
      cases this
  refine ⟨h1, ha, ?_⟩
  rw [ha] at he
  exact (he.symm.trans hp).cons_inv
/-! ### nodes in memory -/
abbrev Zn := Nd × Value
def rowC (Z : List Zn) : List Value := Z.flatMap fun p => [iz p.1.cnt, .bool p.1.mk, iz p.1.age, p.2]
theorem rowC_len : ∀ Z : List Zn, (rowC Z).length = Z.length * 4
  | [] => rfl
  | p :: Z => by
    have e : rowC (p :: Z) = iz p.1.cnt :: .bool p.1.mk :: iz p.1.age :: p.2 :: rowC Z := by simp [rowC]
    rw [e]
    have := rowC_len Z
    simp only [List.length_cons]
    omega
theorem rowC_app (Z Y : List Zn) : rowC (Z ++ Y) = rowC Z ++ rowC Y := by simp [rowC]
theorem rowC_at (Z : List Zn) : ∀ (i : Nat) (p : Zn), Z[i]? = some p → (rowC Z)[i * 4]? = some (iz p.1.cnt) ∧ (rowC Z)[i * 4 + 1]? = some (.bool p.1.mk) ∧ (rowC Z)[i * 4 + 2]? = some (iz p.1.age) ∧ (rowC Z)[i * 4 + 3]? = some p.2 := by
  induction Z with
  | nil => intro i p h; simp at h
  | cons a Z ih =>
    intro i p h
    have e : rowC (a :: Z) = iz a.1.cnt :: .bool a.1.mk :: iz a.1.age :: a.2 :: rowC Z := by simp [rowC]
    rw [e]
    cases i with
    | zero => simp at h; subst h; simp
    | succ i =>
      have := ih i p (by simpa using h)
      rw [show (i + 1) * 4 = i * 4 + 4 by omega]
      exact this
theorem rowC_take (Z : List Zn) (k : Nat) : (rowC Z).take (k * 4) = rowC (Z.take k) := by
  by_cases h : k ≤ Z.length
  · have e : rowC Z = rowC (Z.take k) ++ rowC (Z.drop k) := by rw [← rowC_app, List.take_append_drop]
    rw [e, List.take_left' (by rw [rowC_len, List.length_take]; omega)]
  · rw [List.take_of_length_le (by rw [rowC_len]; omega), List.take_of_length_le (by omega)]
theorem rowC_drop (Z : List Zn) (k : Nat) : (rowC Z).drop (k * 4) = rowC (Z.drop k) := by
  by_cases h : k ≤ Z.length
  · have e : rowC Z = rowC (Z.take k) ++ rowC (Z.drop k) := by rw [← rowC_app, List.take_append_drop]
    rw [e, List.drop_left' (by rw [rowC_len, List.length_take]; omega)]
  · rw [List.drop_eq_nil_of_le (by rw [rowC_len]; omega), List.drop_eq_nil_of_le (by omega)]; rfl
def isSl (v : Value) : Prop := ∃ a n c, v = .slice a n c
theorem rowC_one {Z : List Zn} (h : ∀ p ∈ Z, isSl p.2) : ∀ u ∈ rowC Z, u.oneCell' = true := fun u hu => by
  obtain ⟨p, hp, hu⟩ := List.mem_flatMap.1 hu
  obtain ⟨a, n, c, e⟩ := h p hp
  simp at hu
  rcases hu with rfl | rfl | rfl | rfl
  · rfl
  · rfl
  · rfl
  · rw [e]; rfl
end Go.Proofs.YtnapnaaejignaaaGreat.Hu

/-! HvC: Plain: the depths, counted up as the document does; nodes in memory as an object. -/
namespace Go.Proofs.YtnapnaaejignaaaGreat.Hu
open Go.RowKit

def syms (x : Nd) : List Nat := (lfs x).map (·.2)
/-- the depths of a wood's leaves; nought where there is none -/
def DepM (n : Nat) (L : List Nd) (M : List Int) : Prop :=
  M.length = n ∧ ∀ s, s < n → (∀ x ∈ L, ∀ t ∈ lvs x 0, t.2.1 = s → M[s]? = some (t.2.2 : Int)) ∧ ((∀ x ∈ L, s ∉ syms x) → M[s]? = some 0)
theorem DepM.perm {n : Nat} {L L' : List Nd} {M : List Int} (h : DepM n L M) (hp : ∀ x, x ∈ L' ↔ x ∈ L) : DepM n L' M :=
  ⟨h.1, fun s hs => ⟨fun x hx => (h.2 s hs).1 x ((hp x).1 hx), fun hn => (h.2 s hs).2 (fun x hx => hn x ((hp x).2 hx))⟩⟩
theorem lvs_shift : ∀ (x : Nd) (d e : Nat), lvs x (d + e) = (lvs x d).map fun t => (t.1, t.2.1, t.2.2 + e)
  | .leaf _ _, d, e => rfl
  | .join _ _ a b, d, e => by
    rw [lvs, lvs, List.map_append, show d + e + 1 = (d + 1) + e by omega, lvs_shift a (d + 1) e, lvs_shift b (d + 1) e]
theorem syms_lvs (x : Nd) (d : Nat) : (lvs x d).map (·.2.1) = syms x := by
  unfold syms
  rw [← lvs_lfs x d, List.map_map]
  rfl
theorem mem_syms (x : Nd) (d s : Nat) : s ∈ syms x ↔ ∃ c e, (c, s, e) ∈ lvs x d := by
  rw [← syms_lvs x d, List.mem_map]
  constructor
  · rintro ⟨⟨c, s', e⟩, h, rfl⟩; exact ⟨c, e, h⟩
  · rintro ⟨c, e, h⟩; exact ⟨_, h, rfl⟩
def incF (M : List Int) : List Nat → List Int
  | [] => M
  | s :: T => incF (M.set s (M.getD s 0 + 1)) T
theorem incF_len : ∀ (T : List Nat) (M : List Int), (incF M T).length = M.length
  | [], _ => rfl
  | s :: T, M => by rw [incF, incF_len T, List.length_set]
theorem incF_at : ∀ (T : List Nat) (M : List Int) (s : Nat), T.Nodup → s < M.length → (incF M T)[s]? = some (M.getD s 0 + if s ∈ T then 1 else 0)
  | [], M, s, _, hs => by
    rw [incF, List.getD_eq_getElem?_getD, List.getElem?_eq_getElem hs]; simp
  | u :: T, M, s, hn, hs => by
    rw [List.nodup_cons] at hn
    rw [incF, incF_at T _ s hn.2 (by rw [List.length_set]; exact hs)]
    by_cases hus : u = s
    · subst hus
      rw [if_neg hn.1, if_pos (by simp), List.getD_eq_getElem?_getD, List.getElem?_set_self hs]
      simp
    · rw [List.getD_eq_getElem?_getD, List.getElem?_set_ne hus, ← List.getD_eq_getElem?_getD]
      have : (s ∈ u :: T) ↔ s ∈ T := by rw [List.mem_cons]; exact ⟨fun h => h.resolve_left (fun e => hus e.symm), .inr⟩
      simp only [this]
theorem DepM.join {n : Nat} {L : List Nd} {M : List Int} {a b : Nd} {c : Int} {g : Nat} (h : DepM n (a :: b :: L) M) (hnd : ((a :: b :: L).flatMap syms).Nodup) :
    DepM n (.join c g a b :: L) (incF M (syms (.join c g a b))) := by
  have hsy : syms (.join c g a b) = syms a ++ syms b := by simp [syms, lfs]
  have hnd2 : (syms a ++ syms b).Nodup := by
    rw [List.flatMap_cons, List.flatMap_cons, ← List.append_assoc] at hnd
    exact (List.nodup_append.1 hnd).1
  have hdis : ∀ x ∈ L, ∀ s ∈ syms x, s ∉ syms a ++ syms b := fun x hx s hs hm => by
    rw [List.flatMap_cons, List.flatMap_cons, ← List.append_assoc] at hnd
    exact (List.nodup_append.1 hnd).2.2 s hm s (List.mem_flatMap.2 ⟨x, hx, hs⟩) rfl
  refine ⟨by rw [incF_len]; exact h.1, fun s hs => ⟨fun x hx t ht hts => ?_, fun hn => ?_⟩⟩
  · rw [hsy, incF_at _ _ s hnd2 (by rw [h.1]; exact hs)]
    rcases List.mem_cons.1 hx with rfl | hx
    · have hin : s ∈ syms a ++ syms b := by
        rw [← hsy]
        exact (mem_syms _ 0 s).2 ⟨t.1, t.2.2, by rw [← hts]; exact ht⟩
      rw [if_pos hin]
      rw [lvs, lvs_shift a 0 1, lvs_shift b 0 1] at ht
      have key : ∀ y, y = a ∨ y = b → ∀ u ∈ lvs y 0, (u.1, u.2.1, u.2.2 + 1) = t → some (M.getD s 0 + 1) = some ((t.2.2 : Nat) : Int) := fun y hy u hu e => by
        subst e
        have h1 := (h.2 s hs).1 y (by rcases hy with rfl | rfl <;> simp) u hu hts
        rw [List.getD_eq_getElem?_getD, h1]
        simp
      rcases List.mem_append.1 ht with ht | ht
      · obtain ⟨u, hu, e⟩ := List.mem_map.1 ht
        exact key a (.inl rfl) u hu e
      · obtain ⟨u, hu, e⟩ := List.mem_map.1 ht
        exact key b (.inr rfl) u hu e
    · have hin : s ∈ syms x := (mem_syms _ 0 s).2 ⟨t.1, t.2.2, by rw [← hts]; exact ht⟩
      rw [if_neg (hdis x hx s hin)]
      have h1 := (h.2 s hs).1 x (by simp [hx]) t ht hts
      rw [List.getD_eq_getElem?_getD, h1]
      simp
  · have hna : s ∉ syms a ++ syms b := by rw [← hsy]; exact hn _ (by simp)
    have h1 := (h.2 s hs).2 (fun x hx => by
      rcases List.mem_cons.1 hx with rfl | hx
      · exact fun hm => hna (List.mem_append_left _ hm)
      · rcases List.mem_cons.1 hx with rfl | hx
        · exact fun hm => hna (List.mem_append_right _ hm)
        · exact hn x (by simp [hx]))
    rw [hsy, incF_at _ _ s hnd2 (by rw [h.1]; exact hs), if_neg hna, List.getD_eq_getElem?_getD, h1]
    simp
theorem DepM.start (l : List Int) : DepM l.length (leavesF l 0) (zers l.length) := by
  refine ⟨by simp [zers], fun s hs => ⟨fun x hx t ht hts => ?_, fun _ => by rw [zers, List.getElem?_replicate, if_pos hs]⟩⟩
  obtain ⟨c, u, rfl, _⟩ := leavesF_mem l 0 x hx
  rw [lvs, List.mem_singleton] at ht
  subst ht
  rw [zers, List.getElem?_replicate, if_pos hs]
  rfl
theorem DepM.uniq {n : Nat} {x : Nd} {M : List Int} (h : DepM n [x] M) (hnd : (syms x).Nodup) : M = setAll (zers n) (lvs x 0) := by
  apply List.ext_getElem?
  intro s
  by_cases hs : s < n
  · rcases setAll_at (lvs x 0) (zers n) s (by rw [syms_lvs]; exact hnd) (by simpa [zers] using hs) with ⟨h1, h2⟩ | ⟨c, d, h1, h2⟩
    · rw [h2, (h.2 s hs).2 (fun y hy => by
        rw [List.mem_singleton] at hy
        subst hy
        intro hm
        obtain ⟨c, e, hce⟩ := (mem_syms y 0 s).1 hm
        exact h1 c e hce), zers, List.getElem?_replicate, if_pos hs]
    · rw [h2, (h.2 s hs).1 x (by simp) _ h1 rfl]
  · have hl : (setAll (zers n) (lvs x 0)).length = n := by
      rw [← setD_all, setD_len]; simp [zers]
    rw [List.getElem?_eq_none (by rw [h.1]; omega), List.getElem?_eq_none (by rw [hl]; omega)]
theorem syms_flat (L : List Nd) : L.flatMap syms = (lfsL L).map (·.2) := by
  unfold lfsL syms
  rw [List.map_flatMap]
theorem leaves_nodup (l : List Int) : ((leavesF l 0).flatMap syms).Nodup := by
  rw [syms_flat, leavesF_lfs]
  exact zip_nodup l 0
/-! ### nodes in memory -/
def PartIn (w : World) (N : List Nat) (p : Zn) : Prop :=
  ∃ b cap, p.2 = .slice (some ⟨b, 0, none⟩) (syms p.1).length cap ∧ b ∈ N ∧ ∀ i s, (syms p.1)[i]? = some s → w.cell? ⟨b, i, none⟩ = some (iz (s : Nat))
theorem PartIn.ext {S : List Nat} {w w' : World} {N : List Nat} {p : Zn} (h : PartIn w N p) (hx : Ext S w w') (hS : ∀ k ∈ N, k ∉ S) : PartIn w' N p := by
  obtain ⟨b, cap, e, hb, hc⟩ := h
  exact ⟨b, cap, e, hb, fun i s hi => (World.cell?_of_block (hx.block b (World.block_lt_of_cell? w _ (hc i s hi)) (hS b hb))).trans (hc i s hi)⟩
theorem PartIn.more {w : World} {N N' : List Nat} {p : Zn} (h : PartIn w N p) (hN : ∀ k ∈ N, k ∈ N') : PartIn w N' p := by
  obtain ⟨b, cap, e, hb, hc⟩ := h
  exact ⟨b, cap, e, hN b hb, hc⟩
theorem PartIn.sl {w : World} {N : List Nat} {p : Zn} (h : PartIn w N p) : isSl p.2 := by
  obtain ⟨b, cap, e, _⟩ := h
  exact ⟨_, _, _, e⟩
end Go.Proofs.YtnapnaaejignaaaGreat.Hu

/-! HvCb: The document's 'deep' (chapter 7): its parts: two nodes taken, two lists of symbols put together, counting up. -/
namespace Go.Proofs.YtnapnaaejignaaaGreat.Hu
open Go.RowKit

theorem two_least {Z : List Zn} {a b : Nd} {S2 : List Nd} (hp : (Z.map (·.1)).Perm (a :: b :: S2)) (hs : Srt (a :: b :: S2)) :
    ∃ pa pb Z1 Z2, Z.getD (mnI (Z.map (·.1))) default = (a, pa) ∧ Z.eraseIdx (mnI (Z.map (·.1))) = Z1 ∧ Z1.getD (mnI (Z1.map (·.1))) default = (b, pb) ∧ Z1.eraseIdx (mnI (Z1.map (·.1))) = Z2 ∧
      (Z2.map (·.1)).Perm S2 ∧ Z.Perm ((a, pa) :: (b, pb) :: Z2) ∧ Z1.length + 1 = Z.length ∧ Z2.length + 1 = Z1.length := by
  have one : ∀ {Z : List Zn} {a : Nd} {S : List Nd}, (Z.map (·.1)).Perm (a :: S) → Srt (a :: S) → ∃ pa Z1, Z.getD (mnI (Z.map (·.1))) default = (a, pa) ∧ Z.eraseIdx (mnI (Z.map (·.1))) = Z1 ∧ (Z1.map (·.1)).Perm S ∧ Z.Perm ((a, pa) :: Z1) ∧ Z1.length + 1 = Z.length := by
    intro Z a S hp hs
    obtain ⟨h1, h2, h3⟩ := mn_take hp hs
    obtain ⟨k, hk⟩ : ∃ k, mnI (Z.map (·.1)) = k := ⟨_, rfl⟩
    rw [hk] at h1 h2 h3 ⊢
    have h1' : k < Z.length := by simpa using h1
    have e : Z[k].1 = a := by
      rw [List.getD_eq_getElem?_getD, List.getElem?_map, List.getElem?_eq_getElem h1'] at h2
      simpa using h2
    have hg : Z.getD k default = Z[k] := by rw [List.getD_eq_getElem?_getD, List.getElem?_eq_getElem h1']; rfl
    refine ⟨Z[k].2, Z.eraseIdx k, by rw [hg, ← e], rfl, by rw [List.eraseIdx_eq_take_drop_succ, ← List.map_take, ← List.map_drop, ← List.map_append, ← List.eraseIdx_eq_take_drop_succ] at h3; exact h3, ?_, by rw [List.length_eraseIdx_of_lt h1']; omega⟩
    have h4 : (a, Z[k].2) = Z[k] := by rw [← e]
    rw [h4]
    have h5 : Z = Z.take k ++ Z[k] :: Z.drop (k + 1) := by rw [List.getElem_cons_drop h1', List.take_append_drop]
    rw [List.eraseIdx_eq_take_drop_succ]
    exact (List.Perm.of_eq h5).trans List.perm_middle
  obtain ⟨pa, Z1, g1, g2, g3, g4, g5⟩ := one hp hs
  obtain ⟨pb, Z2, k1, k2, k3, k4, k5⟩ := one g3 (List.pairwise_cons.1 hs).2
  exact ⟨pa, pb, Z1, Z2, g1, g2, k1, k2, k3, g4.trans (k4.cons _), g5, k5⟩
theorem syms_ne : ∀ x : Nd, 0 < (syms x).length
  | .leaf _ _ => by simp [syms, lfs]
  | .join _ _ a b => by
    have := syms_ne a
    simp [syms, lfs] at this ⊢
    omega
theorem syms_leaf' (c : Int) (s : Nat) : syms (.leaf c s) = [s] := rfl
theorem syms_join (c : Int) (g : Nat) (a b : Nd) : syms (.join c g a b) = syms a ++ syms b := by simp [syms, lfs]
theorem incF_bd (T : List Nat) (M : List Int) (B : Int) (hn : T.Nodup) (hM : ∀ y ∈ M, 0 ≤ y ∧ y ≤ B) : ∀ y ∈ incF M T, 0 ≤ y ∧ y ≤ B + 1 := fun y hy => by
  obtain ⟨s, hs⟩ := List.getElem?_of_mem hy
  have hsl : s < M.length := by have := (List.getElem?_eq_some_iff.1 hs).1; rw [incF_len] at this; exact this
  rw [incF_at T M s hn hsl] at hs
  have := Option.some.inj hs
  have h2 := hM (M.getD s 0) (by rw [List.getD_eq_getElem?_getD, List.getElem?_eq_getElem hsl]; exact List.getElem_mem hsl)
  split at this <;> omega
theorem incF_app : ∀ (T U : List Nat) (M : List Int), incF M (T ++ U) = incF (incF M T) U
  | [], _, _ => rfl
  | s :: T, U, M => by rw [List.cons_append, incF, incF, incF_app T U]
theorem incF_snoc (M : List Int) (T : List Nat) (i s : Nat) (h : T[i]? = some s) : incF M (T.take (i + 1)) = (incF M (T.take i)).set s ((incF M (T.take i)).getD s 0 + 1) := by
  rw [List.take_add_one, h, Option.toList_some, incF_app, incF, incF]
theorem row_keep {w w' : World} {E : TypeId} {k n : Nat} {v : Value} {xs : List Value} (hx : Ext [] w w') (h : w.ownsRow 0 E k v n xs) : w'.ownsRow 0 E k v n xs := ownsRow_ext h hx (by simp)
theorem leaves_le : ∀ (l : List Int) (k : Nat), (leavesF l k).length ≤ l.length
  | [], _ => Nat.le_refl _
  | c :: l, k => by
    have := leaves_le l (k + 1)
    rw [leavesF]
    split <;> simp <;> omega
theorem syms_lt (n : Nat) : ∀ x : Nd, NdS n x → ∀ s ∈ syms x, s < n
  | .leaf c u, h, s, hs => by rw [syms_leaf', List.mem_singleton] at hs; subst hs; exact h
  | .join c g a b, h, s, hs => by
    rw [syms_join, List.mem_append] at hs
    rcases hs with hs | hs
    · exact syms_lt n a h.1 s hs
    · exact syms_lt n b h.2 s hs
theorem nodup_le : ∀ (n : Nat) (L : List Nat), L.Nodup → (∀ x ∈ L, x < n) → L.length ≤ n
  | 0, [], _, _ => Nat.le_refl _
  | 0, x :: _, _, h => absurd (h x (by simp)) (by omega)
  | n + 1, L, hn, h => by
    have h1 := nodup_le n (L.erase n) (hn.erase n) (fun x hx => by
      have h2 := (List.Nodup.mem_erase_iff hn).1 hx
      have := h x h2.2
      have := h2.1
      omega)
    rw [List.length_erase] at h1
    split at h1 <;> omega
theorem tri_srt {g : Nat} {c : Int} {a b : Nd} {S : List Nd} (hs : Srt (a :: b :: S)) (hy : Young g (a :: b :: S)) : Srt (insS (.join c g a b) S) :=
  insS_srt _ _ (List.pairwise_cons.1 (List.pairwise_cons.1 hs).2).2 (tri_join (fun y h hm => hy y (by simp [h]) hm))
end Go.Proofs.YtnapnaaejignaaaGreat.Hu
