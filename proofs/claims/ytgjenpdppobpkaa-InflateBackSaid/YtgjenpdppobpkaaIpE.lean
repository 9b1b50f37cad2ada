/-
  inflate: the document's Order, dists, Fixed, stored walked; rows beside the run.
-/
import Derived.Test.YtgjenpdppobpkaaIpD
namespace Go.Proofs.Ytgjenpdppobpkaa.If
open Go.RowKit Bt Hu

/-- the first of three objects put third -/
theorem Sep.third {w0 w : World} {o a b : Ob} {L : List Ob} (h : Sep w0 w (o :: a :: b :: L)) : Sep w0 w (a :: b :: o :: L) := by
  have hm : ∀ c, c ∈ a :: b :: o :: L → c ∈ o :: a :: b :: L := fun c hc => by
    simp only [List.mem_cons] at hc ⊢
    rcases hc with h | h | h | h
    · exact .inr (.inl h)
    · exact .inr (.inr (.inl h))
    · exact .inl h
    · exact .inr (.inr (.inr h))
  let f : Nat → Nat := fun i => if i = 0 then 1 else if i = 1 then 2 else if i = 2 then 0 else i
  have hf : ∀ i c, (a :: b :: o :: L)[i]? = some c → (o :: a :: b :: L)[f i]? = some c := fun i c hi => by
    match i with
    | 0 => exact hi
    | 1 => exact hi
    | 2 => exact hi
    | n + 3 =>
      have e : f (n + 3) = n + 3 := by simp only [f]; rw [if_neg (by omega), if_neg (by omega), if_neg (by omega)]
      rw [e]
      simpa using hi
  have fi : ∀ i j, f i = f j → i = j := fun i j e => by
    simp only [f] at e
    split at e <;> split at e <;> (try split at e) <;> (try split at e) <;> (try split at e) <;> (try split at e) <;> omega
  exact ⟨h.ext, fun c hc => h.each c (hm c hc), fun c hc => h.base c (hm c hc), fun i j c d hi hj hij => h.apart (f i) (f j) c d (hf i c hi) (hf j d hj) (fun e => hij (fi i j e))⟩
section
variable {w0 w : World} {ub rb : Nat} {Fr' : List Nat} {s : ByteArray} {B : Nat} {t : St} {L : List Ob}
theorem DS.new {w' : World} (S : DS w0 w ub rb Fr' s B t L) (o : Ob) (hx : Ext [] w w') (ho : o.P w') (hb : ∀ k ∈ o.F, w.heap.size ≤ k) : DS w0 w' ub rb Fr' s B t (o :: L) := by
  obtain ⟨hp, F, S⟩ := S
  exact ⟨hp, F, Sep.third (S.new hx o ho hb)⟩
theorem DS.row {w' : World} {o o' : Ob} (S : DS w0 w ub rb Fr' s B t (o :: L)) (hx : Ext o.F w w') (hf : Fr w o.F o'.F) (ho : o'.P w') : DS w0 w' ub rb Fr' s B t (o' :: L) := by
  obtain ⟨hp, F, S⟩ := S
  exact ⟨hp, F, S.upd 2 o' rfl hx hf ho⟩
set_option maxRecDepth 100000 in
set_option maxHeartbeats 4000000 in
theorem d_align (hs : s.size ≤ 1048576) (S : DS w0 w ub rb Fr' s B t L) :
    Calls Try.prog 52 #[.pointer (some ⟨rb, 0, none⟩)] w fun e w' => e = .returned (.int .i64 (gap t.p)) ∧ DS w0 w' ub rb Fr' s B ⟨t.p + gap t.p, t.out, t.e⟩ L := by
  obtain ⟨hp, F, S⟩ := S
  refine (rfalign rb Fr' (allBits s false (8 * s.size)) t.p w (by omega) (S.get 0 rfl)).mono ?_
  rintro e w' ⟨rfl, h, hx⟩
  exact ⟨rfl, gap_in t.p s.size hp, F, S.upd 0 (oRf rb Fr' (allBits s false (8 * s.size)) (t.p + gap t.p)) rfl hx (Fr.refl _ _) h⟩
set_option maxRecDepth 100000 in
set_option maxHeartbeats 8000000 in
theorem d_stored (hs : s.size ≤ 1048576) (hB : B ≤ 1099511627776) (S : DS w0 w ub rb Fr' s B t L) :
    Calls Try.prog 40 #[.pointer (some ⟨ub, 0, none⟩)] w fun e w' => e = .returned (.tuple #[]) ∧ DS w0 w' ub rb Fr' s B (dstored s B t) L := by
  obtain ⟨ao, cap, c0, _, _, _, _⟩ := S.cells
  have HS := Lib.hid S
  obtain ⟨R, hR⟩ : ∃ R, dstored s B t = R := ⟨_, rfl⟩
  rw [hR]
  unfold dstored at hR
  have HR := Lib.hid hR
  clear S hR
  go_enter Try.func40, Try.ntmps40
  go_wp2_with fail
  refine (d_align hs HS.out).mono ?_
  rintro e w1 ⟨rfl, S⟩
  have HS := Lib.hid S
  clear S c0
  go_wp2_with fail
  refine (d_get 16 (Nat.le_refl _) hs HS.out).mono ?_
  rintro e w2 ⟨rfl, S⟩
  have HS := Lib.hid S
  have hn := dget_lt (s := s) 16 (Nat.le_refl _) ⟨t.p + gap t.p, t.out, t.e⟩
  have hR := HR.out
  clear S HR
  generalize dget s 16 ⟨t.p + gap t.p, t.out, t.e⟩ = D1 at *
  obtain ⟨n, t1⟩ := D1
  simp only at HS hn hR ⊢
  unfold dstA at hR
  have HR := Lib.hid hR
  clear hR
  go_wp2_with fail
  refine (d_get 16 (Nat.le_refl _) hs HS.out).mono ?_
  rintro e w3 ⟨rfl, S⟩
  have HS := Lib.hid S
  have hm := dget_lt (s := s) 16 (Nat.le_refl _) t1
  have hR := HR.out
  clear S HR
  generalize dget s 16 t1 = D1 at *
  obtain ⟨m, t2⟩ := D1
  simp only at HS hm hR ⊢
  unfold dstB2 at hR
  by_cases hne : (m : Int) ≠ 65535 - (n : Int)
  · rw [if_pos hne] at hR
    have HR := Lib.hid hR
    have hb : ((m : Int) != 65535 - (n : Int)) = true := bne_iff_ne.2 hne
    clear hR hne
    go_wp2_with fail
    refine (d_fail 4 HS.out).mono ?_
    rintro e w4 ⟨rfl, S⟩
    have HS := Lib.hid S
    clear S hb
    go_wp2_with fail
    go_loopg [3] n (fun g iv wr => ∃ (k : Nat) (t : St), g + k = n ∧ iv = .int .i64 k ∧ dstoreL s B g t = R ∧ DS w0 wr ub rb Fr' s B t L)
    case atStart => exact ⟨0, _, by omega, by go_num, HR.out, HS.out⟩
    case round =>
      clear HS HR
      obtain ⟨k, t, hk, rfl, hR, S⟩ := hrel
      obtain ⟨ao, cap, _, _, _, c3, _⟩ := S.cells
      have HS := Lib.hid S
      clear S
      cases gk with
      | zero =>
        obtain rfl : k = n := by omega
        rw [dstoreL] at hR
        subst hR
        go_wp2_with fail
        go_end0
        exact ⟨rfl, HS.out⟩
      | succ g =>
        have hkn : (k : Int) < (n : Int) := by omega
        rw [dstoreL] at hR
        by_cases h0 : t.e = 0
        · rw [if_neg (fun h => h h0)] at hR
          rw [h0] at c3
          have HR := Lib.hid hR
          clear hR h0
          go_wp2_with fail
          refine (d_get 8 (by omega) hs HS.out).mono ?_
          rintro e w4 ⟨rfl, S⟩
          have HS := Lib.hid S
          have hb := dget_lt2 (s := s) 8 t
          have hR := HR.out
          clear S HR c3
          generalize dget s 8 t = D1 at *
          obtain ⟨b, t4⟩ := D1
          simp only at HS hb hR ⊢
          have HR := Lib.hid hR
          clear hR
          have hb : b < 256 := hb
          go_wp2_with fail
          refine (d_put b hB HS.out).mono ?_
          rintro e w5 ⟨rfl, S⟩
          have HS := Lib.hid S
          clear S
          go_wp2_with fail
          go_roundg g
          case measure => omega
          case rel => exact ⟨k + 1, _, by omega, by go_num, HR.out, HS.out⟩
        · rw [if_pos h0] at hR
          have hb : (t.e == 0) = false := beq_eq_false_iff_ne.2 h0
          subst hR
          generalize t.e = te at *
          clear h0
          go_wp2_with fail
          go_end0
          exact ⟨rfl, HS.out⟩
  · rw [if_neg hne] at hR
    have HR := Lib.hid hR
    have hb : ((m : Int) != 65535 - (n : Int)) = false := by simpa using hne
    clear hR hne
    go_wp2_with fail
    clear hb
    go_loopg [3] n (fun g iv wr => ∃ (k : Nat) (t : St), g + k = n ∧ iv = .int .i64 k ∧ dstoreL s B g t = R ∧ DS w0 wr ub rb Fr' s B t L)
    case atStart => exact ⟨0, _, by omega, by go_num, HR.out, HS.out⟩
    case round =>
      clear HS HR
      obtain ⟨k, t, hk, rfl, hR, S⟩ := hrel
      obtain ⟨ao, cap, _, _, _, c3, _⟩ := S.cells
      have HS := Lib.hid S
      clear S
      cases gk with
      | zero =>
        obtain rfl : k = n := by omega
        rw [dstoreL] at hR
        subst hR
        go_wp2_with fail
        go_end0
        exact ⟨rfl, HS.out⟩
      | succ g =>
        have hkn : (k : Int) < (n : Int) := by omega
        rw [dstoreL] at hR
        by_cases h0 : t.e = 0
        · rw [if_neg (fun h => h h0)] at hR
          rw [h0] at c3
          have HR := Lib.hid hR
          clear hR h0
          go_wp2_with fail
          refine (d_get 8 (by omega) hs HS.out).mono ?_
          rintro e w4 ⟨rfl, S⟩
          have HS := Lib.hid S
          have hb := dget_lt2 (s := s) 8 t
          have hR := HR.out
          clear S HR c3
          generalize dget s 8 t = D1 at *
          obtain ⟨b, t4⟩ := D1
          simp only at HS hb hR ⊢
          have HR := Lib.hid hR
          clear hR
          have hb : b < 256 := hb
          go_wp2_with fail
          refine (d_put b hB HS.out).mono ?_
          rintro e w5 ⟨rfl, S⟩
          have HS := Lib.hid S
          clear S
          go_wp2_with fail
          go_roundg g
          case measure => omega
          case rel => exact ⟨k + 1, _, by omega, by go_num, HR.out, HS.out⟩
        · rw [if_pos h0] at hR
          have hb : (t.e == 0) = false := beq_eq_false_iff_ne.2 h0
          subst hR
          generalize t.e = te at *
          clear h0
          go_wp2_with fail
          go_end0
          exact ⟨rfl, HS.out⟩
end
set_option maxRecDepth 100000 in
set_option maxHeartbeats 4000000 in
theorem dorder_walk (w : World) : Calls Try.prog 55 #[] w fun e w' => ∃ g, e = .returned (.slice (some ⟨g, 0, none⟩) 19 19) ∧ Ext [] w w' ∧ ∀ k, k < 19 → w'.cell? ⟨g, k, none⟩ = some (iz ((ordN.getD k 0 : Nat) : Int)) := by
  go_enter Try.func55, Try.ntmps55
  go_wp2_with fail
  go_ret
  refine ⟨w.heap.size, rfl, (Ext.refl _ _).alloc _, fun k hk => ?_⟩
  have := cellOf (heap_alloc_at (w := w) (.cells ord19 3)) k
  rw [ord19_at k hk] at this
  exact this
theorem some_snoc (l : List Int) (x : Int) : someN9 (l ++ [x]) = someN9 l + if 0 < x then 1 else 0 := by unfold someN9; rw [List.countP_append, List.countP_singleton]; simp
theorem one_snoc (l : List Int) (x : Int) : oneN9 (l ++ [x]) = oneN9 l + if x = 1 then 1 else 0 := by unfold oneN9; rw [List.countP_append, List.countP_singleton]; simp
set_option maxRecDepth 100000 in
set_option maxHeartbeats 8000000 in
theorem ddists_walk (v : Value) (l : List Int) (w : World) (hv : IntsAt w v l) (hl : l.length ≤ 1048576) :
    Calls Try.prog 58 #[v] w fun e w' => e = .returned (.bool (distB l)) ∧ w = w' := by
  have HST := Lib.hid (rstate_walk v l w hv hl)
  obtain ⟨ao, cap, rfl, hc⟩ := hv
  have HC := Lib.hid hc
  clear hc
  obtain ⟨R, hR⟩ : ∃ R, distB l = R := ⟨_, rfl⟩
  rw [hR]
  unfold distB at hR
  have HR := Lib.hid hR
  clear hR
  go_enter Try.func58, Try.ntmps58
  go_wp2_with fail
  go_loopg [3, 4, 5] l.length (fun g sv ov iv wr => ∃ k : Nat, g + k = l.length ∧ sv = .int .i64 (someN9 (l.take k) : Nat) ∧ ov = .int .i64 (oneN9 (l.take k) : Nat) ∧ iv = .int .i64 k ∧ w = wr)
  case atStart => exact ⟨0, by omega, rfl, rfl, rfl, rfl⟩
  case round =>
    obtain ⟨k, hk, rfl, rfl, rfl, rfl⟩ := hrel
    by_cases hlt : k < l.length
    · obtain ⟨b, off, rfl, hcell⟩ := HC.out (by omega)
      obtain ⟨x, hx⟩ : ∃ x, l[k]? = some x := ⟨_, List.getElem?_eq_getElem hlt⟩
      have c0 := hcell k x hx
      have hs1 : someN9 (l.take (k + 1)) = someN9 (l.take k) + if 0 < x then 1 else 0 := by rw [take_snoc10 l k x hx, some_snoc]
      have hs2 : oneN9 (l.take (k + 1)) = oneN9 (l.take k) + if x = 1 then 1 else 0 := by rw [take_snoc10 l k x hx, one_snoc]
      have b1 : someN9 (l.take k) ≤ 1048576 := Nat.le_trans List.countP_le_length (by rw [List.length_take]; omega)
      have b2 : oneN9 (l.take k) ≤ 1048576 := Nat.le_trans List.countP_le_length (by rw [List.length_take]; omega)
      generalize someN9 (l.take k) = A at *
      generalize oneN9 (l.take k) = C at *
      have hk1 : (k : Int) < (l.length : Int) := by omega
      clear hcell hx
      by_cases h0 : 0 < x
      · rw [if_pos h0] at hs1
        by_cases h1 : x = 1
        · rw [if_pos h1] at hs2
          subst h1
          have H1 := Lib.hid (⟨hs1, hs2⟩ : _ ∧ _)
          clear hs1 hs2
          go_wp2_with fail
          go_roundg (l.length - (k + 1))
          case measure => omega
          case rel => exact ⟨k + 1, by omega, by rw [H1.out.1]; go_num, by rw [H1.out.2]; go_num, by go_num, rfl⟩
        · rw [if_neg h1] at hs2
          have j1 : (x == 1) = false := beq_eq_false_iff_ne.2 h1
          have H1 := Lib.hid (⟨hs1, hs2⟩ : _ ∧ _)
          clear hs1 hs2 h1
          go_wp2_with fail
          go_roundg (l.length - (k + 1))
          case measure => omega
          case rel => exact ⟨k + 1, by omega, by rw [H1.out.1]; go_num, by rw [H1.out.2]; rfl, by go_num, rfl⟩
      · rw [if_neg h0] at hs1
        rw [if_neg (by omega)] at hs2
        have j1 : (x == 1) = false := beq_eq_false_iff_ne.2 (by omega)
        have H1 := Lib.hid (⟨hs1, hs2⟩ : _ ∧ _)
        clear hs1 hs2
        go_wp2_with fail
        go_roundg (l.length - (k + 1))
        case measure => omega
        case rel => exact ⟨k + 1, by omega, by rw [H1.out.1]; rfl, by rw [H1.out.2]; rfl, by go_num, rfl⟩
    · obtain rfl : k = l.length := by omega
      rw [List.take_length]
      have hR := HR.out
      have b1 : someN9 l ≤ 1048576 := Nat.le_trans List.countP_le_length hl
      have b2 : oneN9 l ≤ 1048576 := Nat.le_trans List.countP_le_length hl
      have hST := HST.out
      clear HR HST
      generalize stateN l = SS at *
      generalize someN9 l = A at *
      generalize oneN9 l = C at *
      obtain ⟨s1, s2⟩ := SS
      simp only at hST hR
      have HST := Lib.hid hST
      clear hST
      go_wp2_with fail
      refine HST.out.mono ?_
      clear HST
      rintro e w1 ⟨rfl, rfl⟩
      by_cases q1 : s1 = 0
      · subst q1
        rw [decide_eq_true rfl, Bool.true_or] at hR
        subst hR
        go_wp2_with fail
        go_ret
        exact ⟨rfl, rfl⟩
      · have j1 : (s1 == 0) = false := beq_eq_false_iff_ne.2 q1
        rw [decide_eq_false q1, Bool.false_or] at hR
        by_cases q2 : A = 0
        · subst q2
          rw [decide_eq_true rfl, Bool.true_or] at hR
          subst hR
          clear q1
          go_wp2_with fail
          go_ret
          exact ⟨rfl, rfl⟩
        · have j2 : (A == 0) = false := beq_eq_false_iff_ne.2 q2
          have j2' : ((A : Int) == 0) = false := beq_eq_false_iff_ne.2 (by omega)
          rw [decide_eq_false q2, Bool.false_or] at hR
          by_cases q3 : A = 1
          · subst q3
            rw [decide_eq_true rfl, Bool.true_and] at hR
            by_cases q4 : C = 1
            · subst q4
              rw [decide_eq_true rfl] at hR
              subst hR
              clear q1 q2
              go_wp2_with fail
              go_ret
              exact ⟨rfl, rfl⟩
            · have j3 : (C == 1) = false := beq_eq_false_iff_ne.2 q4
              have j3' : ((C : Int) == 1) = false := beq_eq_false_iff_ne.2 (by omega)
              rw [decide_eq_false q4] at hR
              subst hR
              clear q1 q2 q4
              go_wp2_with fail
              go_ret
              exact ⟨rfl, rfl⟩
          · have j3 : (A == 1) = false := beq_eq_false_iff_ne.2 q3
            have j3' : ((A : Int) == 1) = false := beq_eq_false_iff_ne.2 (by omega)
            rw [decide_eq_false q3, Bool.false_and] at hR
            subst hR
            clear q1 q2 q3
            go_wp2_with fail
            go_ret
            exact ⟨rfl, rfl⟩
theorem fix_at8 : ∀ i, i < 288 → fixL[i]? = some (if i < 144 then 8 else if i ≤ 255 then 9 else if i ≤ 279 then 7 else 8) := by decide +kernel
theorem fix_take (k : Nat) (h : k < 288) : fixL.take (k + 1) = fixL.take k ++ [if k < 144 then 8 else if k ≤ 255 then 9 else if k ≤ 279 then 7 else 8] := take_snoc10 _ _ _ (fix_at8 k h)
theorem fixD_take (k : Nat) (h : k < 30) : fixD.take (k + 1) = fixD.take k ++ [5] := take_snoc10 _ _ _ (by unfold fixD; rw [List.getElem?_replicate, if_pos h])
set_option maxRecDepth 100000 in
set_option maxHeartbeats 16000000 in
theorem dfixed_walk (w : World) : Calls Try.prog 23 #[] w (NewPair w fixL fixD) := by
  have hL : fixL.length = 288 := by decide +kernel
  have hDl : fixD.length = 30 := by decide +kernel
  obtain ⟨i0, hif, hz0, hz1, hz2⟩ := info_parts infoInt7
  have HS := Lib.hid ((Sep.start w).new (Ext.refl _ _) (oIn none 0 []) (World.ownsRow_nil _ _ _ _) (by simp [oIn, oSl, Value.ownBlock]))
  go_enter Try.func23, Try.ntmps23
  go_wp2_with fail
  go_loopg [2, 4] 288 (fun g lv iv wr => ∃ (k : Nat) (ao : Option Addr) (cap : Nat) (l : List Int), g + k = 288 ∧ l.length = k ∧ l = fixL.take k ∧ lv = .slice ao l.length cap ∧ iv = .int .i64 k ∧ Sep w wr [oIn ao cap l])
  case atStart => exact ⟨0, none, 0, [], by omega, rfl, rfl, rfl, rfl, HS.out⟩
  case round =>
    clear HS
    obtain ⟨k, ao, cap, l, hk, hlk, hl, rfl, rfl, S⟩ := hrel
    have hown : wr.ownsRow 0 3 1 (.slice ao l.length cap) l.length (l.map iz) := S.get 0 rfl
    have HS := Lib.hid S
    have HL := Lib.hid hl
    have HLK := Lib.hid hlk
    have hlb : l.length ≤ 288 := by omega
    clear S hl hlk
    by_cases hlt : k < 288
    · have hft := fix_take k hlt
      have hk8 : (k : Int) < 288 := by omega
      by_cases g1 : k < 144
      · rw [if_pos g1] at hft
        have g1' : (k : Int) < 144 := by omega
        rw [← HL.out] at hft
        have HFT := Lib.hid hft
        clear hft HL
        go_wp2_with (at_builtin; refine wpList_append_lies _ rfl _ _ 42 rfl 0 3 i0 _ 1 8 Try.underlying42 hif hz0 hz1 hz2 rfl (by decide) (.slice ao l.length cap) l.length (l.map iz) rfl (World.ownsRow.alloc hown _) ⟨wr.heap.size, 0, none⟩ 1 1 [iz 8] rfl rfl (cell_one_new _ _ _) (by simp [Value.oneCell']) (by decide) (by unfold maxLen; omega) (by omega) (by omega) (wr.heap.size + 1) (by simp) ?_; intro g1 cap1 w2 hown1 hgrow1 hat1 hlt1; have P1 := push_local (cap := cap1) (n := l.length + 1) hgrow1 hat1; have S2 := HS.out.upd 0 (oSl 3 1 (.slice (some ⟨g1, 0, none⟩) (l.length + 1) cap1) (l ++ [8]).length ((l ++ [8]).map iz)) rfl P1.1 P1.2 (by rw [List.map_append, List.length_append]; exact hown1); have H2 := Lib.hid S2; clear S2 P1 hown1 hgrow1 hat1 hown)
        go_roundg (288 - (k + 1))
        case measure => omega
        case rel => exact ⟨k + 1, _, cap1, l ++ [8], by omega, by rw [List.length_append, HLK.out]; rfl, HFT.out.symm, by rw [List.length_append]; rfl, by go_num, by have S := H2.out; simpa only [oIn, List.length_append, List.length_singleton, List.set_cons_zero] using S⟩
      · rw [if_neg g1] at hft
        have g1' : (144 : Int) ≤ (k : Int) := by omega
        by_cases g2 : k ≤ 255
        · rw [if_pos g2] at hft
          have g2' : (k : Int) ≤ 255 := by omega
          rw [← HL.out] at hft
          have HFT := Lib.hid hft
          clear hft HL
          go_wp2_with (at_builtin; refine wpList_append_lies _ rfl _ _ 42 rfl 0 3 i0 _ 1 8 Try.underlying42 hif hz0 hz1 hz2 rfl (by decide) (.slice ao l.length cap) l.length (l.map iz) rfl (World.ownsRow.alloc hown _) ⟨wr.heap.size, 0, none⟩ 1 1 [iz 9] rfl rfl (cell_one_new _ _ _) (by simp [Value.oneCell']) (by decide) (by unfold maxLen; omega) (by omega) (by omega) (wr.heap.size + 1) (by simp) ?_; intro g1 cap1 w2 hown1 hgrow1 hat1 hlt1; have P1 := push_local (cap := cap1) (n := l.length + 1) hgrow1 hat1; have S2 := HS.out.upd 0 (oSl 3 1 (.slice (some ⟨g1, 0, none⟩) (l.length + 1) cap1) (l ++ [9]).length ((l ++ [9]).map iz)) rfl P1.1 P1.2 (by rw [List.map_append, List.length_append]; exact hown1); have H2 := Lib.hid S2; clear S2 P1 hown1 hgrow1 hat1 hown)
          go_roundg (288 - (k + 1))
          case measure => omega
          case rel => exact ⟨k + 1, _, cap1, l ++ [9], by omega, by rw [List.length_append, HLK.out]; rfl, HFT.out.symm, by rw [List.length_append]; rfl, by go_num, by have S := H2.out; simpa only [oIn, List.length_append, List.length_singleton, List.set_cons_zero] using S⟩
        · rw [if_neg g2] at hft
          have g2' : (256 : Int) ≤ (k : Int) := by omega
          by_cases g3 : k ≤ 279
          · rw [if_pos g3] at hft
            have g3' : (k : Int) ≤ 279 := by omega
            rw [← HL.out] at hft
            have HFT := Lib.hid hft
            clear hft HL
            go_wp2_with (at_builtin; refine wpList_append_lies _ rfl _ _ 42 rfl 0 3 i0 _ 1 8 Try.underlying42 hif hz0 hz1 hz2 rfl (by decide) (.slice ao l.length cap) l.length (l.map iz) rfl (World.ownsRow.alloc hown _) ⟨wr.heap.size, 0, none⟩ 1 1 [iz 7] rfl rfl (cell_one_new _ _ _) (by simp [Value.oneCell']) (by decide) (by unfold maxLen; omega) (by omega) (by omega) (wr.heap.size + 1) (by simp) ?_; intro g1 cap1 w2 hown1 hgrow1 hat1 hlt1; have P1 := push_local (cap := cap1) (n := l.length + 1) hgrow1 hat1; have S2 := HS.out.upd 0 (oSl 3 1 (.slice (some ⟨g1, 0, none⟩) (l.length + 1) cap1) (l ++ [7]).length ((l ++ [7]).map iz)) rfl P1.1 P1.2 (by rw [List.map_append, List.length_append]; exact hown1); have H2 := Lib.hid S2; clear S2 P1 hown1 hgrow1 hat1 hown)
            go_roundg (288 - (k + 1))
            case measure => omega
            case rel => exact ⟨k + 1, _, cap1, l ++ [7], by omega, by rw [List.length_append, HLK.out]; rfl, HFT.out.symm, by rw [List.length_append]; rfl, by go_num, by have S := H2.out; simpa only [oIn, List.length_append, List.length_singleton, List.set_cons_zero] using S⟩
          · rw [if_neg g3] at hft
            have g3' : (280 : Int) ≤ (k : Int) := by omega
            rw [← HL.out] at hft
            have HFT := Lib.hid hft
            clear hft HL
            go_wp2_with (at_builtin; refine wpList_append_lies _ rfl _ _ 42 rfl 0 3 i0 _ 1 8 Try.underlying42 hif hz0 hz1 hz2 rfl (by decide) (.slice ao l.length cap) l.length (l.map iz) rfl (World.ownsRow.alloc hown _) ⟨wr.heap.size, 0, none⟩ 1 1 [iz 8] rfl rfl (cell_one_new _ _ _) (by simp [Value.oneCell']) (by decide) (by unfold maxLen; omega) (by omega) (by omega) (wr.heap.size + 1) (by simp) ?_; intro g1 cap1 w2 hown1 hgrow1 hat1 hlt1; have P1 := push_local (cap := cap1) (n := l.length + 1) hgrow1 hat1; have S2 := HS.out.upd 0 (oSl 3 1 (.slice (some ⟨g1, 0, none⟩) (l.length + 1) cap1) (l ++ [8]).length ((l ++ [8]).map iz)) rfl P1.1 P1.2 (by rw [List.map_append, List.length_append]; exact hown1); have H2 := Lib.hid S2; clear S2 P1 hown1 hgrow1 hat1 hown)
            go_roundg (288 - (k + 1))
            case measure => omega
            case rel => exact ⟨k + 1, _, cap1, l ++ [8], by omega, by rw [List.length_append, HLK.out]; rfl, HFT.out.symm, by rw [List.length_append]; rfl, by go_num, by have S := H2.out; simpa only [oIn, List.length_append, List.length_singleton, List.set_cons_zero] using S⟩
    · obtain rfl : k = 288 := by omega
      have hl := HL.out
      rw [List.take_of_length_le (by omega)] at hl
      clear HL
      have hlk := HLK.out
      clear HLK hlb
      clear hown
      have HS1 := Lib.hid HS.out
      have HS := Lib.hid (HS1.out.new (Ext.refl _ _) (oIn none 0 []) (World.ownsRow_nil _ _ _ _) (by simp [oIn, oSl, Value.ownBlock]))
      have HLL := Lib.hid (⟨hl, hlk⟩ : _ ∧ _)
      clear hl hlk HS1
      obtain ⟨LL, hLL⟩ : ∃ LL, l = LL := ⟨_, rfl⟩
      subst hLL
      obtain ⟨LL, hLL⟩ : ∃ LL, LL = l := ⟨_, rfl⟩
      rw [← hLL] at HS HLL ⊢
      clear hLL
      go_wp2_with fail
      go_loopg [3, 6] 30 (fun g dv jv wr => ∃ (k : Nat) (ao2 : Option Addr) (cap2 : Nat) (l : List Int), g + k = 30 ∧ l.length = k ∧ l = fixD.take k ∧ dv = .slice ao2 l.length cap2 ∧ jv = .int .i64 k ∧ Sep w wr [oIn ao2 cap2 l, oIn ao cap LL])
      case atStart => exact ⟨0, none, 0, [], by omega, rfl, rfl, rfl, rfl, HS.out⟩
      case round =>
        clear HS
        obtain ⟨k, ao2, cap2, l, hk, hlk, hl, rfl, rfl, S⟩ := hrel
        have hown : wr.ownsRow 0 3 1 (.slice ao2 l.length cap2) l.length (l.map iz) := S.get 0 rfl
        have HS := Lib.hid S
        have HL := Lib.hid hl
        have HLK := Lib.hid hlk
        have hlb : l.length ≤ 30 := by omega
        clear S hl hlk
        by_cases hlt : k < 30
        · have hft := fixD_take k hlt
          have hk8 : (k : Int) < 30 := by omega
          rw [← HL.out] at hft
          have HFT := Lib.hid hft
          clear hft HL
          go_wp2_with (at_builtin; refine wpList_append_lies _ rfl _ _ 42 rfl 0 3 i0 _ 1 8 Try.underlying42 hif hz0 hz1 hz2 rfl (by decide) (.slice ao2 l.length cap2) l.length (l.map iz) rfl (World.ownsRow.alloc hown _) ⟨wr.heap.size, 0, none⟩ 1 1 [iz 5] rfl rfl (cell_one_new _ _ _) (by simp [Value.oneCell']) (by decide) (by unfold maxLen; omega) (by omega) (by omega) (wr.heap.size + 1) (by simp) ?_; intro g1 cap1 w2 hown1 hgrow1 hat1 hlt1; have P1 := push_local (cap := cap1) (n := l.length + 1) hgrow1 hat1; have S2 := HS.out.upd 0 (oSl 3 1 (.slice (some ⟨g1, 0, none⟩) (l.length + 1) cap1) (l ++ [5]).length ((l ++ [5]).map iz)) rfl P1.1 P1.2 (by rw [List.map_append, List.length_append]; exact hown1); have H2 := Lib.hid S2; clear S2 P1 hown1 hgrow1 hat1 hown)
          go_roundg (30 - (k + 1))
          case measure => omega
          case rel => exact ⟨k + 1, _, cap1, l ++ [5], by omega, by rw [List.length_append, HLK.out]; rfl, HFT.out.symm, by rw [List.length_append]; rfl, by go_num, by have S := H2.out; simpa only [oIn, List.length_append, List.length_singleton, List.set_cons_zero] using S⟩
        · obtain rfl : k = 30 := by omega
          have hl := HL.out
          rw [List.take_of_length_le (by omega)] at hl
          clear HL hown
          go_wp2_with fail
          have S := HS.out
          have e1 := HLL.out.1
          subst e1 hl
          refine bodyPost_ret (results_tmp2 rfl _ _ _) rfl ?_
          refine ⟨ao, cap, ao2, cap2, by rw [hL]; rfl, S.ext, S.get 1 rfl, S.get 0 rfl, fun q hq => S.base (oIn ao cap fixL) (by simp) q hq, fun q hq => S.base (oIn ao2 cap2 fixD) (by simp) q hq⟩
end Go.Proofs.Ytgjenpdppobpkaa.If
