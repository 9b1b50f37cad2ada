/-
  huff.New, Size walked: the table.
-/
import Derived.Test.YtchhgbhbldfofaaHuM
import Derived.Deep.MidRow
namespace Go.Proofs.Ytchhgbhbldfofaa.Hu
open Go.RowKit

/-! ### plain: symbols by length, then by number -/
def symF : List Int → Nat → Int → List Nat
  | [], _, _ => []
  | x :: l, i, n => if x = n then i :: symF l (i + 1) n else symF l (i + 1) n
def symT (l : List Int) : Nat → Nat → List Nat
  | _, 0 => []
  | k, g + 1 => symF l 0 k ++ symT l (k + 1) g
def symsN (l : List Int) : List Nat := symT l 1 15
theorem symF_len : ∀ (l : List Int) (i : Nat) (n : Int), (symF l i n).length ≤ l.length
  | [], _, _ => Nat.le_refl _
  | x :: l, i, n => by
    rw [symF]
    split
    · exact Nat.succ_le_succ (symF_len l (i + 1) n)
    · exact Nat.le_succ_of_le (symF_len l (i + 1) n)
theorem symT_len (l : List Int) : ∀ k g, (symT l k g).length ≤ g * l.length
  | k, 0 => by simp [symT]
  | k, g + 1 => by
    rw [symT, List.length_append, Nat.succ_mul]
    have := symF_len l 0 k
    have := symT_len l (k + 1) g
    omega
/-! ### the table's cells -/
def tabC (vl vc : Value) (c : Nat → Nat) (vs : Value) : Array Value :=
  #[vl, vc, iz (c 0), iz (c 1), iz (c 2), iz (c 3), iz (c 4), iz (c 5), iz (c 6), iz (c 7), iz (c 8), iz (c 9), iz (c 10), iz (c 11), iz (c 12), iz (c 13), iz (c 14), iz (c 15), vs]
theorem tabC_at (vl vc : Value) (c : Nat → Nat) (vs : Value) (j : Nat) (h : j < 16) : (tabC vl vc c vs)[2 + j]? = some (iz (c j)) := by
  match j, h with
  | 0, _ | 1, _ | 2, _ | 3, _ | 4, _ | 5, _ | 6, _ | 7, _ | 8, _ | 9, _ | 10, _ | 11, _ | 12, _ | 13, _ | 14, _ | 15, _ => rfl
  | n + 16, h => exact absurd h (by omega)
def setA : Array Value → Nat → List Value → Array Value
  | cs, _, [] => cs
  | cs, o, v :: r => setA (cs.setIfInBounds o v) (o + 1) r
theorem setCells_heap (b : Nat) {T : TypeId} : ∀ (vs : List Value) (o : Nat) (w : World) (cs : Array Value), w.heap[b]? = some (.cells cs T (0, 0)) → (w.setCells b o vs).heap[b]? = some (.cells (setA cs o vs) T (0, 0))
  | [], _, _, _, h => h
  | v :: r, o, w, cs, h => by
    rw [World.setCells, setA]
    exact setCells_heap b r (o + 1) _ _ (heap_setCell_same h v)
theorem setCells_ext {S : List Nat} {a : World} (b : Nat) (hp : b ∈ S ∨ a.heap.size ≤ b) : ∀ (vs : List Value) (o : Nat) (w : World), Ext S a w → Ext S a (w.setCells b o vs)
  | [], _, _, h => h
  | v :: r, o, w, h => by
    rw [World.setCells]
    exact setCells_ext b hp r (o + 1) _ (h.setCell _ _ hp)
theorem arrC_list (c : Nat → Nat) : (arrC c).toList = [iz (c 0), iz (c 1), iz (c 2), iz (c 3), iz (c 4), iz (c 5), iz (c 6), iz (c 7), iz (c 8), iz (c 9), iz (c 10), iz (c 11), iz (c 12), iz (c 13), iz (c 14), iz (c 15)] := rfl
theorem tabC_count (vl vc : Value) (c : Nat → Nat) (vs : Value) : setA (tabC vl vc (fun _ => 0) vs) 2 (arrC c).toList = tabC vl vc c vs := by
  rw [arrC_list]
  simp [setA, tabC]
theorem there_tab {w : World} {b : Nat} {vl vc : Value} {c : Nat → Nat} {vs : Value} {T : TypeId} (h : w.heap[b]? = some (.cells (tabC vl vc c vs) T (0, 0))) (d : Nat → Nat) : w.there b 2 (arrC d).size := fun j hj => by
  rw [arrC_size] at hj
  exact ⟨by rw [cellOf h (2 + j), tabC_at _ _ _ _ j hj]; rfl, freeOf h (2 + j)⟩
/-- the table's own block with its symbols -/
def oFld (tb : Nat) (F : List Nat) (vl vc : Value) (c : Nat → Nat) (P : List Nat) : Ob where
  F := F
  P := fun w => ∃ vs, w.heap[tb]? = some (.cells (tabC vl vc c vs) 75 (0, 0)) ∧ w.ownsRow 0 3 1 vs P.length (P.map fun n : Nat => iz n) ∧ F = tb :: vs.ownBlock.toList ∧ vs.ownBlock ≠ some tb
  ok := fun h hx hS => by
    obtain ⟨v, hb, hown, rfl, hne⟩ := h
    exact ⟨v, hx.keep hb (hS tb (by simp)), ownsRow_ext hown hx (fun g hg => hS g (by simp [hg])), rfl, hne⟩
  lt := fun h => by
    obtain ⟨v, hb, hown, rfl, hne⟩ := h
    intro k hk
    rcases List.mem_cons.1 hk with rfl | hk
    · exact lt_of_block hb
    · exact (hown.lt k (by simpa using hk)).2
/-- a table of lengths l -/
def oTab (tb : Nat) (F : List Nat) (l : List Int) : Ob where
  F := F
  P := fun w => ∃ vl vc vs, w.heap[tb]? = some (.cells (tabC vl vc (cntF l) vs) 75 (0, 0)) ∧ w.ownsRow 0 3 1 vl l.length (l.map iz) ∧ w.ownsRow 0 34 1 vc l.length ((codesN l).map u32v) ∧ w.ownsRow 0 3 1 vs (symsN l).length ((symsN l).map fun n : Nat => iz n) ∧ F = tb :: (vl.ownBlock.toList ++ vc.ownBlock.toList ++ vs.ownBlock.toList)
  ok := fun h hx hS => by
    obtain ⟨vl, vc, vs, hb, h1, h2, h3, rfl⟩ := h
    exact ⟨vl, vc, vs, hx.keep hb (hS tb (by simp)), ownsRow_ext h1 hx (fun g hg => hS g (by simp [hg])), ownsRow_ext h2 hx (fun g hg => hS g (by simp [hg])), ownsRow_ext h3 hx (fun g hg => hS g (by simp [hg])), rfl⟩
  lt := fun h => by
    obtain ⟨vl, vc, vs, hb, h1, h2, h3, rfl⟩ := h
    intro k hk
    rcases List.mem_cons.1 hk with rfl | hk
    · exact lt_of_block hb
    · rcases List.mem_append.1 hk with hk | hk
      · rcases List.mem_append.1 hk with hk | hk
        · exact (h1.lt k (by simpa using hk)).2
        · exact (h2.lt k (by simpa using hk)).2
      · exact (h3.lt k (by simpa using hk)).2
theorem own_slice {w : World} {E : TypeId} {k n : Nat} {v : Value} {xs : List Value} (h : w.ownsRow 0 E k v n xs) : ∃ ao cap, v = .slice ao n cap := by
  rcases h.2 with ⟨rfl, rfl⟩ | ⟨g, cap, cur, rfl, _⟩
  · exact ⟨none, 0, rfl⟩
  · exact ⟨_, cap, rfl⟩
def NewTab (w : World) (l : List Int) (e : Ending) (w' : World) : Prop :=
  ∃ tb F, e = .returned (.tuple #[.pointer (some ⟨tb, 0, none⟩), .int .i64 0]) ∧ Ext [] w w' ∧ (oTab tb F l).P w' ∧ ∀ k ∈ F, w.heap.size ≤ k
set_option maxRecDepth 100000 in
set_option maxHeartbeats 4000000 in
theorem new_err (v : Value) (l : List Int) (w : World) (hv : IntsAt w v l) (hl : l.length ≤ 1048576) (he : codesE l ≠ 0) :
    Calls Try.prog 20 #[v] w fun e w' => e = .returned (.tuple #[.pointer none, .int .i64 (codesE l)]) ∧ Ext [] w w' := by
  have hc := codes_err v l w hv hl he
  have h24 : codesE l = 2 ∨ codesE l = 4 := by
    unfold codesE at he ⊢
    split
    · exact .inl rfl
    · split
      · exact .inr rfl
      · rename_i h1 h2; rw [if_neg h1, if_neg h2] at he; exact absurd rfl he
  generalize codesE l = ce at *
  have HC := Lib.hid hc
  clear hc hv hl
  go_enter Try.func20, Try.ntmps20
  go_wp2_with fail
  refine HC.out.mono ?_
  clear HC
  rintro e w1 ⟨rfl, hx1⟩
  have HX := Lib.hid hx1
  clear hx1
  rcases h24 with rfl | rfl
  · go_wp2_with fail
    exact bodyPost_ret (results_tmp2 rfl _ _ _) rfl ⟨rfl, HX.out⟩
  · go_wp2_with fail
    exact bodyPost_ret (results_tmp2 rfl _ _ _) rfl ⟨rfl, HX.out⟩
set_option maxRecDepth 100000 in
set_option maxHeartbeats 16000000 in
theorem new_walk (v : Value) (l : List Int) (w : World) (hv : IntsArg w v l) (he : codesE l = 0) :
    Calls Try.prog 20 #[v] w (NewTab w l) := by
  have hb : badL l = false := by
    unfold codesE at he
    cases h : badL l
    · rfl
    · rw [if_pos h] at he; cases he
  have hk : kra l ≤ 32768 := by
    unfold codesE at he
    rw [hb, if_neg (by decide)] at he
    split at he
    · cases he
    · omega
  obtain ⟨hl2, hrg⟩ := bad_false hb
  obtain ⟨i0, hif, hz0, hz1, hz2⟩ := info_parts infoInt7
  have hcod := codes_ok v l w hv.1 (by omega) hb hk
  have hcln := fun w h => clone_walk v l w h (by omega)
  have hcnt := fun w h => counts_good v l w h hb
  have hcl := codesF_len l (nxN (cntF l))
  obtain ⟨R, hR⟩ : ∃ R, symsN l = R := ⟨_, rfl⟩
  have hRL : R.length ≤ 5000 := by rw [← hR]; have := symT_len l 1 15; unfold symsN; omega
  have HKEEP := Lib.hid (⟨hR, hRL⟩ : symsN l = R ∧ R.length ≤ 5000)
  have HCOD := Lib.hid hcod
  have HCLN := Lib.hid hcln
  have HCNT := Lib.hid hcnt
  have HV := Lib.hid hv
  obtain ⟨hA, ao, cap, rfl, hcap, hcm, hnil⟩ := hv
  obtain ⟨aov, capv, hev, hc⟩ := hA
  injection hev with h1 _ h3
  subst h1 h3
  have HC := Lib.hid hc
  clear hc hcap hcm hnil hcod hcln hcnt hk hb he hR hRL hrg hcl
  go_enter Try.func20, Try.ntmps20
  go_wp2_with fail
  refine HCOD.out.mono ?_
  clear HCOD
  rintro e w1 ⟨vc, rfl, hx1, hp1, hn1⟩
  obtain ⟨aoc, capc, rfl⟩ := own_slice hp1
  have HS := Lib.hid ((Sep.start w).new hx1 (oSl 34 1 (.slice aoc l.length capc) l.length ((codesN l).map u32v)) hp1 hn1)
  clear hx1 hp1 hn1
  go_wp2_with fail
  refine (HCLN.out _ (HV.out.ext HS.out.ext)).mono ?_
  clear HCLN
  rintro e w2 ⟨vl, rfl, hx2, hp2, hn2⟩
  obtain ⟨aol, capl, rfl⟩ := own_slice hp2
  have HS := Lib.hid (HS.out.new hx2 (oSl 3 1 (.slice aol l.length capl) l.length (l.map iz)) hp2 hn2)
  clear hx2 hp2 hn2
  have S := HS.out.new ((Ext.refl [] w2).alloc (.cells (tabC (.slice aol l.length capl) (.slice aoc l.length capc) (fun _ => 0) (.slice none 0 0)) 75)) (oFld w2.heap.size [w2.heap.size] (.slice aol l.length capl) (.slice aoc l.length capc) (fun _ => 0) []) ⟨.slice none 0 0, heap_alloc_at _, World.ownsRow_nil _ _ _ _, rfl, by simp [Value.ownBlock]⟩ (fun k hk => by rw [List.mem_singleton.1 hk]; exact Nat.le_refl _)
  have HS := Lib.hid S
  clear S
  go_wp2_with fail
  refine (HCNT.out _ (HV.out.1.ext HS.out.ext)).mono ?_
  clear HCNT
  rintro e w3 ⟨rfl, hx3⟩
  have HS := Lib.hid (HS.out.quiet hx3)
  clear hx3
  obtain ⟨c, hcc⟩ : ∃ c, cntF l = c := ⟨_, rfl⟩
  rw [hcc]
  have HCC := Lib.hid hcc
  clear hcc
  obtain ⟨vs, htab, _⟩ : ∃ vs, w3.heap[w2.heap.size]? = some (.cells (tabC (.slice aol l.length capl) (.slice aoc l.length capc) (fun _ => 0) vs) 75 (0, 0)) ∧ True := by
    obtain ⟨vs, h, _⟩ := HS.out.get 0 rfl
    exact ⟨vs, h, trivial⟩
  have HT := Lib.hid htab
  clear htab
  go_wp2_with (first | (refine wpList_store_mid rfl 68 _ _ rfl w2.heap.size 2 (arrC c) rfl rfl (there_tab HT.out c) (info16c c) (arrC_one c) ?_))
  have S := HS.out.upd 0 (oFld w2.heap.size [w2.heap.size] (.slice aol l.length capl) (.slice aoc l.length capc) c []) rfl (setCells_ext (S := [w2.heap.size]) w2.heap.size (.inl (by simp)) (arrC c).toList 2 _ (Ext.refl [w2.heap.size] w3)) (Fr.refl _ _) (by
    obtain ⟨vs, h1, h2, h3, h4⟩ := HS.out.get 0 rfl
    refine ⟨vs, ?_, ?_, h3, h4⟩
    · have h := setCells_heap w2.heap.size (arrC c).toList 2 w3 _ h1
      rw [tabC_count] at h
      exact h
    · exact ownsRow_ext h2 (setCells_ext (S := [w2.heap.size]) w2.heap.size (.inl (by simp)) (arrC c).toList 2 _ (Ext.refl [w2.heap.size] w3)) (fun g hg hm => by rw [List.mem_singleton] at hm; subst hm; exact h4 hg))
  obtain ⟨W, hW⟩ : ∃ W, w3.setCells w2.heap.size 2 (arrC c).toList = W := ⟨_, rfl⟩
  obtain ⟨tb, htb⟩ : ∃ tb, w2.heap.size = tb := ⟨_, rfl⟩
  rw [htb] at hW S
  rw [hW] at S
  rw [htb, hW]
  have HS := Lib.hid S
  clear S HT hW htb
  have HR0 := Lib.hid (show ([] : List Nat) ++ symT l 1 15 = R from HKEEP.out.1)
  go_loopg [7] 15 (fun g iv wr => ∃ (k : Nat) (P F : List Nat), g + k = 16 ∧ 1 ≤ k ∧ iv = .int .i64 k ∧ P ++ symT l k g = R ∧ Sep w wr [oFld tb F (.slice aol l.length capl) (.slice aoc l.length capc) c P, oSl 3 1 (.slice aol l.length capl) l.length (l.map iz), oSl 34 1 (.slice aoc l.length capc) l.length ((codesN l).map u32v)])
  case atStart => exact ⟨1, [], _, by omega, by omega, rfl, HR0.out, HS.out⟩
  case round =>
    clear HS HR0
    obtain ⟨k, P, F, hk, hk1, rfl, hR, S⟩ := hrel
    have HS := Lib.hid S
    have HR := Lib.hid hR
    clear S hR
    by_cases hlt : k ≤ 15
    · obtain ⟨g, rfl⟩ : ∃ g, gk = g + 1 := ⟨gk - 1, by omega⟩
      have HR2 := Lib.hid (show P ++ (symF (l.drop 0) 0 k ++ symT l (k + 1) g) = R from HR.out)
      obtain ⟨T, hT⟩ : ∃ T, symT l (k + 1) g = T := ⟨_, rfl⟩
      have HT := Lib.hid hT
      have HR3 := Lib.hid (show P ++ (symF (l.drop 0) 0 k ++ T) = R from by rw [← hT]; exact HR2.out)
      clear hT HR2 HR
      have hkd : (k : Int) ≤ 15 := by omega
      go_wp2_with fail
      clear hkd
      go_loopg [37] l.length (fun q iv wr => ∃ (i : Nat) (P F : List Nat), q + i = l.length ∧ iv = .int .i64 i ∧ P ++ (symF (l.drop i) i k ++ T) = R ∧ Sep w wr [oFld tb F (.slice aol l.length capl) (.slice aoc l.length capc) c P, oSl 3 1 (.slice aol l.length capl) l.length (l.map iz), oSl 34 1 (.slice aoc l.length capc) l.length ((codesN l).map u32v)])
      case atStart => exact ⟨0, P, F, by omega, rfl, HR3.out, HS.out⟩
      case round =>
        clear HS HR3
        obtain ⟨i, P, F, hi, rfl, hR, S⟩ := hrel
        have HS := Lib.hid S
        by_cases hil : i < l.length
        · obtain ⟨b, off, rfl, hcell⟩ := HC.out (by omega)
          obtain ⟨x, hck⟩ : ∃ x, l[i]? = some x := ⟨_, List.getElem?_eq_getElem hil⟩
          have d0 := Ext.cell S.ext (hcell i x hck)
          have hdr : l.drop i = x :: l.drop (i + 1) := by
            obtain ⟨h1, h2⟩ := List.getElem?_eq_some_iff.1 hck
            rw [List.drop_eq_getElem_cons h1, h2]
          rw [hdr, symF] at hR
          clear hdr hcell hck S
          by_cases hx : x = (k : Int)
          · rw [if_pos hx] at hR
            have hPl : P.length ≤ 5000 := by
              have h1 := HKEEP.out.2
              rw [← hR, List.length_append] at h1
              omega
            have HR := Lib.hid hR
            clear hR
            subst hx
            obtain ⟨vs, hb, hown, hF, hne⟩ := HS.out.get 0 rfl
            obtain ⟨n0, hn0⟩ : ∃ n0, P.length = n0 := ⟨_, rfl⟩
            rw [hn0] at hown hPl
            have HF := Lib.hid hF
            have HN := Lib.hid hn0
            clear hF hn0
            have c0 : wr.cell? ⟨tb, 18, none⟩ = some vs := cellOf hb 18
            have f0 := freeOf hb 18
            have HB := Lib.hid (⟨hb, hne⟩ : _ ∧ _)
            clear hb hne
            go_wp2_with (first | (at_builtin; refine wpList_append_lies _ rfl _ _ 22 rfl 0 3 i0 _ 1 8 Try.underlying22 hif hz0 hz1 hz2 rfl (by decide) vs n0 _ rfl (hown.alloc _) ⟨wr.heap.size, 0, none⟩ 1 1 [iz i] rfl rfl (cell_one_new _ _ _) (by simp [Value.oneCell']) (by decide) (by unfold maxLen; omega) (by omega) (by omega) (wr.heap.size + 1) (by simp) ?_; intro g2 cap2 w9 hown1 hgrow hat hlt2; have hb1 : w9.heap[tb]? = some (.cells (tabC (.slice aol l.length capl) (.slice aoc l.length capc) c vs) 75 (0, 0)) := grown_keep hgrow (heap_alloc_old _ HB.out.1) HB.out.2; have HP := Lib.hid (push_field HB.out.1 HB.out.2 hown1 hgrow hat 18); have k0 := cellOf hb1 18; have k1 := freeOf hb1 18; clear c0 f0 hgrow hat hlt2 hb1))
            go_roundg (l.length - (i + 1))
            case measure => omega
            case rel =>
              obtain ⟨p1, p2, p3, p4, p5⟩ := HP.out
              have e := HF.out
              subst e
              refine ⟨i + 1, P ++ [i], [tb, g2], by omega, by go_num, by rw [← List.append_cons]; exact HR.out, HS.out.upd 0 (oFld tb [tb, g2] (.slice aol l.length capl) (.slice aoc l.length capc) c (P ++ [i])) rfl p3 p5 ⟨.slice (some ⟨g2, 0, none⟩) (n0 + 1) cap2, p1, ?_, rfl, fun e => p4 (by simpa [Value.ownBlock] using e)⟩⟩
              rw [List.length_append, HN.out, List.map_append]
              exact p2
          · rw [if_neg hx] at hR
            have HR := Lib.hid hR
            clear hR
            go_wp2_with fail
            go_roundg (l.length - (i + 1))
            case measure => omega
            case rel => exact ⟨i + 1, P, F, by omega, by go_num, HR.out, HS.out⟩
        · obtain rfl : i = l.length := by omega
          rw [List.drop_length] at hR
          have HR := Lib.hid hR
          clear hR S
          go_wp2_with fail
          go_roundg g
          case measure => omega
          case rel => exact ⟨k + 1, P, F, by omega, by omega, by go_num, by rw [HT.out]; exact HR.out, HS.out⟩
    · obtain rfl : k = 16 := by omega
      obtain rfl : gk = 0 := by omega
      have hPR : P = R := by have h := HR.out; rw [symT, List.append_nil] at h; exact h
      go_wp2_with fail
      obtain ⟨vs, h1, h2, h3, h4⟩ := HS.out.get 0 rfl
      have hl1 := HS.out.get 1 rfl
      have hc1 := HS.out.get 2 rfl
      refine bodyPost_ret (results_tmp2 rfl _ _ _) rfl ⟨tb, tb :: ((Value.slice aol l.length capl).ownBlock.toList ++ (Value.slice aoc l.length capc).ownBlock.toList ++ vs.ownBlock.toList), rfl, HS.out.ext, ⟨_, _, vs, by rw [HCC.out]; exact h1, hl1, hc1, ?_, rfl⟩, ?_⟩
      · rw [HKEEP.out.1, ← hPR]; exact h2
      · intro q hq
        have b0 := HS.out.base _ (List.mem_cons_self ..)
        have b1 := HS.out.base _ (List.mem_cons_of_mem _ (List.mem_cons_self ..))
        have b2 := HS.out.base _ (List.mem_cons_of_mem _ (List.mem_cons_of_mem _ (List.mem_cons_self ..)))
        rcases List.mem_cons.1 hq with rfl | hq
        · exact b0 _ (by show q ∈ F; rw [h3]; simp)
        · rcases List.mem_append.1 hq with hq | hq
          · rcases List.mem_append.1 hq with hq | hq
            · exact b1 _ hq
            · exact b2 _ hq
          · exact b0 _ (by show q ∈ F; rw [h3]; exact List.mem_cons_of_mem _ hq)
end Go.Proofs.Ytchhgbhbldfofaa.Hu
