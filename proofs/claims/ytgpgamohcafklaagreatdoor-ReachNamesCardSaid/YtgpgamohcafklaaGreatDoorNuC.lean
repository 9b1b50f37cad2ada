/-
  number: cut walked.
-/
import Derived.Test.YtgpgamohcafklaaGreatDoorNuB
import Derived.Deep.CutBlock
import Derived.Deep.DeepCutAuto
namespace Go.Proofs.YtgpgamohcafklaaGreatDoor.Nu
open Go.RowKit

def nvs (p : Num) : Array Value := #[.int .i64 (p.kind : Nat), .bool p.neg, .string (S p.a), .string (S p.b)]
def nv (p : Num) : Value := .agg (nvs p)
set_option maxRecDepth 100000 in
set_option maxHeartbeats 4000000 in
theorem stcut_walk (s : ByteArray) (w : World) (hs : s.size ≤ 9223372036854775807) :
    Calls Tryz.prog 79 #[.string s, .string ⟨#[46]⟩] w fun e w' => e = .returned (.tuple #[.string (S (befL (B s))), .string (S (aftL (B s))), .bool (hasL (B s))]) ∧ Ext [] w w' := by
  have H := Lib.hid (slcut_walk s w hs)
  go_enter Tryz.func79, Tryz.ntmps79
  go_wp2_with fail
  refine H.out.mono ?_
  rintro e w1 ⟨rfl, hx⟩
  have HX := Lib.hid hx
  clear hx
  go_wp2_with fail
  exact bodyPost_ret (results_tmp3 rfl _ _) rfl ⟨rfl, HX.out⟩
theorem results_cell1 {P : Program} {fn : Func} {p : Tmp} {t : TypeId} (h : fn.results = #[.cell p t]) (tmps : Array Value) (w : World) (g : Nat) (v : Value) (h1 : tmps.getD p undef = .pointer (some ⟨g, 0, none⟩)) (hl : (loadVar t ⟨g, 0, none⟩).run P w = .ok v w) :
    (results fn tmps).run P w = .ok v w := by
  have e1 : tmps[p]?.getD undef = .pointer (some ⟨g, 0, none⟩) := by simpa using h1
  simp [results, h, e1, asAddr, hl]
theorem take_le (l : List UInt8) : (befL l).length ≤ l.length := by
  unfold befL
  exact (List.takeWhile_sublist _).length_le
theorem bef_sum (l : List UInt8) : (befL l).length + (aftL l).length ≤ l.length := by
  unfold befL aftL
  have h := List.takeWhile_append_dropWhile (p := (· != 46)) (l := l)
  have h2 := congrArg List.length h
  rw [List.length_append] at h2
  rw [List.length_drop]
  omega
theorem aft_le (l : List UInt8) : (aftL l).length ≤ l.length := by
  unfold aftL
  rw [List.length_drop]
  have := (List.dropWhile_sublist (l := l) (· != 46)).length_le
  omega
theorem alloc2 (w : World) (o o' : Obj) : ((w.alloc o).alloc o').heap[w.heap.size + 1]? = some o' := by
  have h := heap_alloc_at (w := w.alloc o) o'
  rw [show (w.alloc o).heap.size = w.heap.size + 1 by simp] at h
  exact h
/-- how a text begins: nothing, or a byte -/
theorem head_parts (s : ByteArray) : (s.size = 0 ∧ B s = [] ∧ s.toList.isEmpty = true) ∨ (s.toList.isEmpty = false ∧ ∃ (h : 0 < s.size) (x : Nat) (t : List UInt8), (s[0]'h).toNat = x ∧ x < 256 ∧ B s = UInt8.ofNat x :: t ∧ s.extract 1 s.size = S t) := by
  by_cases h0 : s.size = 0
  · have hB : B s = [] := List.eq_nil_of_length_eq_zero h0
    refine .inl ⟨h0, hB, ?_⟩
    rw [ByteArray.toList_eq, show s.data.toList = [] from hB]
    rfl
  · refine .inr ⟨?_, by omega, ?_⟩
    · rw [ByteArray.toList_eq]
      cases h : s.data.toList with
      | nil => exact absurd (show (B s).length = 0 by unfold B; rw [h]; rfl) h0
      | cons a l => rfl
    · cases h : B s with
      | nil => exact absurd (show (B s).length = 0 by rw [h]; rfl) h0
      | cons a l =>
        refine ⟨a.toNat, l, ?_, a.toNat_lt, by simp, ?_⟩
        · have h2 := B_at s 0 (by omega)
          rw [List.drop_zero, h] at h2
          rw [(List.cons.inj h2).1]
        · rw [S_tail, h]
          rfl
theorem infoParts : (Tryz.prog.info? 110).map (·.size) = some 4 := by kernel_rfl
theorem load_parts {W : World} {g : Nat} {p : Num} {t : TypeId} {fr : Nat × Nat} (h : W.heap[g]? = some (.cells (nvs p) t fr)) : (loadVar 110 ⟨g, 0, none⟩).run Tryz.prog W = .ok (nv p) W :=
  run_loadVar_row W g t 110 (nvs p) fr _ h Tryz.underlying110 rfl infoParts
/-- a number stored into a block of the call's own -/
def set4 (W : World) (g : Nat) (p : Num) : World := (((W.setCell ⟨g, 0, none⟩ (.int .i64 (p.kind : Nat))).setCell ⟨g, 1, none⟩ (.bool p.neg)).setCell ⟨g, 2, none⟩ (.string (S p.a))).setCell ⟨g, 3, none⟩ (.string (S p.b))
theorem set4_heap {W : World} {g : Nat} {p q : Num} {t : TypeId} (h : W.heap[g]? = some (.cells (nvs q) t (0, 0))) : (set4 W g p).heap[g]? = some (.cells (nvs p) t (0, 0)) := by
  unfold set4
  rw [heap_setCell_same (heap_setCell_same (heap_setCell_same (heap_setCell_same h _) _) _) _]
  rfl
theorem set4_ext (W : World) (g : Nat) (p : Num) : Ext [g] W (set4 W g p) :=
  ((((Ext.refl [g] W).setCell ⟨g, 0, none⟩ _ (.inl (by simp))).setCell ⟨g, 1, none⟩ _ (.inl (by simp))).setCell ⟨g, 2, none⟩ _ (.inl (by simp))).setCell ⟨g, 3, none⟩ _ (.inl (by simp))
theorem set4_sep {w W : World} {L : List Ob} {g : Nat} {q p : Num} {t : TypeId} (S : Sep w W L) (i : Nat) (hi : L[i]? = some (Ob.one g (.cells (nvs q) t (0, 0)))) : Sep w (set4 W g p) (L.set i (Ob.one g (.cells (nvs p) t (0, 0)))) :=
  S.upd i (Ob.one g (.cells (nvs p) t (0, 0))) hi (set4_ext W g p) (Fr.refl _ _) (set4_heap (S.get i hi))
theorem ret_parts {fn : Func} {q : Tmp} {t : TypeId} (h : fn.results = #[.cell q 110]) (tmps : Array Value) (W : World) (g : Nat) (p p0 : Num) (h1 : tmps.getD q undef = .pointer (some ⟨g, 0, none⟩)) (hg : W.heap[g]? = some (.cells (nvs p0) t (0, 0))) :
    (results fn tmps).run Tryz.prog (set4 W g p) = .ok (nv p) (set4 W g p) :=
  results_cell1 h tmps _ g _ h1 (load_parts (set4_heap hg))
set_option maxRecDepth 100000 in
set_option maxHeartbeats 4000000 in
theorem cut_walk (s : ByteArray) (w : World) (hs : s.size ≤ 9223372036854775807) :
    Calls Tryz.prog 68 #[.string s] w fun e w' => e = .returned (nv (cutN (B s))) ∧ Ext [] w w' := by
  obtain ⟨r, hr⟩ : ∃ r, sgnR (B s) = r := ⟨_, rfl⟩
  obtain ⟨ng, hng⟩ : ∃ ng, sgnB (B s) = ng := ⟨_, rfl⟩
  obtain ⟨R, hR⟩ : ∃ R, cutN (B s) = R := ⟨_, rfl⟩
  rw [hR]
  unfold cutN at hR
  rw [hr, hng] at hR
  have hrl : r.length ≤ s.size := by
    rw [← hr]
    unfold sgnR
    split
    · rw [List.length_drop, B_len]; omega
    · rw [B_len]; exact Nat.le_refl _
  have HR := Lib.hid hR
  have HSG := Lib.hid (⟨hr, hng⟩ : _ ∧ _)
  obtain ⟨sg, hsg⟩ : ∃ sg : Bool, decide ((B s).head? = some 43 ∨ (B s).head? = some 45) = sg := ⟨_, rfl⟩
  have HS := Lib.hid hsg
  clear hR hr hng hsg
  have HHD := Lib.hid (head_parts s)
  go_enter Tryz.func68, Tryz.ntmps68
  go_upto_region 2 with fail
  go_cut [17] from 6 to 17 (fun c wx => c = .bool sg ∧ wx = (w.alloc (.cells #[.int .i64 0, .bool false, .string ⟨#[]⟩, .string ⟨#[]⟩] 110)).alloc (.cells #[.int .i64 1, .bool false, .string ⟨#[]⟩, .string ⟨#[]⟩] 110))
  case first =>
    rcases HHD.out with ⟨h0, hB, he⟩ | ⟨he, h0, x, t, hx0, hx, hB, hT⟩
    · have hsg := HS.out
      rw [hB] at hsg
      obtain rfl : false = sg := hsg
      clear h0 hB HR HS
      go_wp2_with fail
      go_meet
      exact ⟨rfl, rfl⟩
    · have h0z : (0 : Int) < (s.size : Int) := by omega
      have hsg := HS.out
      rw [hB, List.head?_cons] at hsg
      by_cases x1 : x = 43
      · subst x1
        obtain rfl : true = sg := by rw [← hsg]; rfl
        clear hsg hB hT HR HS
        go_wp2_with fail
        go_meet
        exact ⟨rfl, rfl⟩
      · by_cases x2 : x = 45
        · subst x2
          obtain rfl : true = sg := by rw [← hsg]; rfl
          clear hsg hB hT HR HS
          go_wp2_with fail
          go_meet
          exact ⟨rfl, rfl⟩
        · have d1 : ((x : Int) == 43) = false := beq_eq_false_iff_ne.2 (by omega)
          have d2 : ((x : Int) == 45) = false := beq_eq_false_iff_ne.2 (by omega)
          obtain rfl : false = sg := by
            rw [← hsg]
            refine (decide_eq_false (fun h => ?_)).symm
            rcases h with h | h
            · have := congrArg UInt8.toNat (Option.some.inj h)
              simp at this
              omega
            · have := congrArg UInt8.toNat (Option.some.inj h)
              simp at this
              omega
          clear hsg hB hT HR HS x1 x2
          go_wp2_with fail
          go_meet
          exact ⟨rfl, rfl⟩
  case rest =>
    obtain ⟨rfl, rfl⟩ := hcut
    go_upto_if 17 with fail
    go_cut [0] from 18 to 24 (fun c wx => c = .string (S r) ∧ Sep w wx [Ob.one (w.heap.size + 1) (.cells (nvs ⟨1, ng, [], []⟩) 110 (0, 0)), Ob.one w.heap.size (.cells (nvs ⟨0, false, [], []⟩) 110 (0, 0))])
    case first =>
      have HST := Lib.hid (fun (x : Num) => ((Sep.start w).new ((Ext.refl _ w).alloc (.cells (nvs ⟨0, false, [], []⟩) 110)) (Ob.one w.heap.size (.cells (nvs ⟨0, false, [], []⟩) 110 (0, 0))) (heap_alloc_at _) (fun q hq => by rw [List.mem_singleton.1 hq]; exact Nat.le_refl _)).new ((Ext.refl _ _).alloc (.cells (nvs x) 110)) (Ob.one (w.heap.size + 1) (.cells (nvs x) 110 (0, 0))) (alloc2 _ _ _) (fun q hq => by rw [List.mem_singleton.1 hq]; simp))
      cases sg with
      | false =>
        obtain ⟨rfl, rfl⟩ : B s = r ∧ false = ng := by
          obtain ⟨h1, h2⟩ := HSG.out
          have h3 := of_decide_eq_false HS.out
          rw [← h1, ← h2]
          refine ⟨?_, ?_⟩
          · unfold sgnR
            rw [if_neg h3]
          · unfold sgnB
            exact (beq_eq_false_iff_ne.2 (fun h => h3 (.inr h))).symm
        clear HHD HR HS HSG
        go_wp2_with fail
        go_meet
        exact ⟨congrArg Value.string (S_B s).symm, HST.out ⟨1, false, [], []⟩⟩
      | true =>
        rcases HHD.out with ⟨h0, hB, he⟩ | ⟨he, h0, x, t, hx0, hx, hB, hT⟩
        · exact absurd (of_decide_eq_true HS.out) (by rw [hB]; simp)
        · have h0z : (0 : Int) < (s.size : Int) := by omega
          have h1z : (1 : Int) ≤ (s.size : Int) := by omega
          have h3 := of_decide_eq_true HS.out
          have hb : ((x : Int) == 45) = ng := by
            rw [← HSG.out.2]
            unfold sgnB
            rw [hB, List.head?_cons]
            by_cases x2 : x = 45
            · subst x2; rfl
            · rw [beq_eq_false_iff_ne.2 (show (x : Int) ≠ 45 by omega)]
              refine (beq_eq_false_iff_ne.2 (fun h => ?_)).symm
              have := congrArg UInt8.toNat (Option.some.inj h)
              simp at this
              omega
          have ht : S t = S r := by
            rw [← HSG.out.1]
            unfold sgnR
            rw [if_pos h3, hB]
            rfl
          rw [ht] at hT
          have HT := Lib.hid hT
          clear h3 hB hT ht HR HS HSG
          go_wp2_with fail
          go_region
          go_wp2_with fail
          go_meet
          exact ⟨congrArg Value.string HT.out, (HST.out ⟨1, ng, [], []⟩).quiet ((Ext.refl _ _).drew)⟩
    case rest =>
      obtain ⟨rfl, hS⟩ := hcut
      obtain ⟨g, hg⟩ : ∃ g, w.heap.size = g := ⟨_, rfl⟩
      rw [hg] at hS ⊢
      have HS := Lib.hid hS
      clear hS hg HHD HSG
      go_wp2_with fail
      refine (stcut_walk (S r) wc (by rw [S_size]; omega)).mono ?_
      rw [B_S]
      rintro e w5 ⟨rfl, hx⟩
      have HS := Lib.hid (HS.out.quiet hx)
      clear hx
      have h0 := HS.out.get 0 rfl
      have c0 : w5.cell? ⟨g + 1, 0, none⟩ = some (.int .i64 1) := cellOf h0 0
      have c1 : w5.cell? ⟨g + 1, 1, none⟩ = some (.bool ng) := cellOf h0 1
      have c2 : w5.cell? ⟨g + 1, 2, none⟩ = some (.string (S [])) := cellOf h0 2
      have c3 : w5.cell? ⟨g + 1, 3, none⟩ = some (.string (S [])) := cellOf h0 3
      have f0 : w5.frozen? ⟨g + 1, 0, none⟩ = false := freeOf h0 0
      have f1 : w5.frozen? ⟨g + 1, 1, none⟩ = false := freeOf h0 1
      have f2 : w5.frozen? ⟨g + 1, 2, none⟩ = false := freeOf h0 2
      have f3 : w5.frozen? ⟨g + 1, 3, none⟩ = false := freeOf h0 3
      clear h0
      generalize hbf : befL r = bf
      generalize haf : aftL r = af
      have hlb : bf.length ≤ 9223372036854775807 := by rw [← hbf]; have := take_le r; omega
      have hla : af.length ≤ 9223372036854775807 := by rw [← haf]; have := aft_le r; omega
      have hR := HR.out
      unfold goodL at hR
      rw [hbf, haf] at hR
      have HDB := Lib.hid (fun w => digits_walk (S bf) w (by rw [S_size]; omega))
      have HDA := Lib.hid (fun w => digits_walk (S af) w (by rw [S_size]; omega))
      rw [B_S] at HDB HDA
      have HCAT := Lib.hid (S_app bf af)
      have hsb : (S bf).size ≤ 9223372036854775807 := by rw [S_size]; omega
      have hsa : (S af).size ≤ 9223372036854775807 := by rw [S_size]; omega
      have hem : (S bf ++ S af).toList.isEmpty = (bf ++ af).isEmpty := by rw [ByteArray.toList_eq, S_app]; rfl
      have hsum : (S bf).size + (S af).size ≤ 9223372036854775807 := by rw [S_size, S_size, ← hbf, ← haf]; have := bef_sum r; omega
      have hsumz : ((S bf).size : Int) + ((S af).size : Int) ≤ 9223372036854775807 := by omega
      clear hbf haf HR hrl hlb hla
      cases hh : hasL r with
      | true =>
        rw [hh] at hR
        clear hh
        have h6 : (((w5.setCell ⟨g + 1, 2, none⟩ (.string (S bf))).setCell ⟨g + 1, 3, none⟩ (.string (S af))).setCell ⟨g + 1, 0, none⟩ (.int .i64 2)).heap[g + 1]? = some (.cells (nvs ⟨2, ng, bf, af⟩) 110 (0, 0)) := by
          have h1 := HS.out.get 0 rfl
          have h2 := heap_setCell_same (i := 2) h1 (.string (S bf))
          have h3 := heap_setCell_same (i := 3) h2 (.string (S af))
          have h4 := heap_setCell_same (i := 0) h3 (.int .i64 2)
          exact h4
        have S1 := HS.out.upd 0 (Ob.one (g + 1) (.cells (nvs ⟨2, ng, bf, af⟩) 110 (0, 0))) rfl ((((Ext.refl [g + 1] w5).setCell ⟨g + 1, 2, none⟩ (.string (S bf)) (.inl (by simp))).setCell ⟨g + 1, 3, none⟩ (.string (S af)) (.inl (by simp))).setCell ⟨g + 1, 0, none⟩ (.int .i64 2) (.inl (by simp))) (Fr.refl _ _) h6
        obtain ⟨W6, hW6⟩ : ∃ W6, ((w5.setCell ⟨g + 1, 2, none⟩ (.string (S bf))).setCell ⟨g + 1, 3, none⟩ (.string (S af))).setCell ⟨g + 1, 0, none⟩ (.int .i64 2) = W6 := ⟨_, rfl⟩
        rw [hW6] at S1 h6
        have HS6 := Lib.hid S1
        clear S1
        have hg0 := HS6.out.get 1 rfl
        have c2b : W6.cell? ⟨g + 1, 2, none⟩ = some (.string (S bf)) := cellOf h6 2
        have c3b : W6.cell? ⟨g + 1, 3, none⟩ = some (.string (S af)) := cellOf h6 3
        have c0b : W6.cell? ⟨g + 1, 0, none⟩ = some (.int .i64 2) := cellOf h6 0
        have c1b : W6.cell? ⟨g + 1, 1, none⟩ = some (.bool ng) := cellOf h6 1
        have d0 : W6.cell? ⟨g, 0, none⟩ = some (.int .i64 0) := cellOf hg0 0
        have d1 : W6.cell? ⟨g, 1, none⟩ = some (.bool false) := cellOf hg0 1
        have d2 : W6.cell? ⟨g, 2, none⟩ = some (.string (S [])) := cellOf hg0 2
        have d3 : W6.cell? ⟨g, 3, none⟩ = some (.string (S [])) := cellOf hg0 3
        have e0 : W6.frozen? ⟨g, 0, none⟩ = false := freeOf hg0 0
        have e1 : W6.frozen? ⟨g, 1, none⟩ = false := freeOf hg0 1
        have e2 : W6.frozen? ⟨g, 2, none⟩ = false := freeOf hg0 2
        have e3 : W6.frozen? ⟨g, 3, none⟩ = false := freeOf hg0 3
        go_wp2_with fail
        clear hW6 c0 c1 c2 c3 f0 f1 f2 f3 HS
        refine (HDB.out _).mono ?_
        rintro e w7 ⟨rfl, rfl⟩
        clear HDB
        cases hdb : bf.all digB with
        | false =>
          rw [hdb] at hR
          obtain rfl : (⟨0, false, [], []⟩ : Num) = R := hR
          have HF := Lib.hid (set4_sep (p := ⟨0, false, [], []⟩) HS6.out 1 rfl).ext
          have HG := Lib.hid hg0
          go_wp2_with fail
          exact bodyPost_ret (ret_parts rfl _ W6 g ⟨0, false, [], []⟩ _ rfl HG.out) rfl ⟨rfl, HF.out⟩
        | true =>
          rw [hdb] at hR
          go_wp2_with fail
          refine (HDA.out _).mono ?_
          rintro e w7 ⟨rfl, rfl⟩
          clear HDA
          cases hda : af.all digB with
          | false =>
            rw [hda] at hR
            obtain rfl : (⟨0, false, [], []⟩ : Num) = R := hR
            have HF := Lib.hid (set4_sep (p := ⟨0, false, [], []⟩) HS6.out 1 rfl).ext
            have HG := Lib.hid hg0
            go_wp2_with fail
            exact bodyPost_ret (ret_parts rfl _ W6 g ⟨0, false, [], []⟩ _ rfl HG.out) rfl ⟨rfl, HF.out⟩
          | true =>
            rw [hda] at hR
            cases hme : (bf ++ af).isEmpty with
            | true =>
              rw [hme] at hR hem
              obtain rfl : (⟨0, false, [], []⟩ : Num) = R := hR
              have HF := Lib.hid (set4_sep (p := ⟨0, false, [], []⟩) HS6.out 1 rfl).ext
              have HG := Lib.hid hg0
              go_wp2_with fail
              exact bodyPost_ret (ret_parts rfl _ W6 g ⟨0, false, [], []⟩ _ rfl HG.out) rfl ⟨rfl, HF.out⟩
            | false =>
              rw [hme] at hR hem
              obtain rfl : (⟨2, ng, bf, af⟩ : Num) = R := hR
              have HF := Lib.hid (set4_sep (p := ⟨2, ng, bf, af⟩) HS6.out 1 rfl).ext
              have HG := Lib.hid hg0
              go_wp2_with fail
              exact bodyPost_ret (ret_parts rfl _ W6 g ⟨2, ng, bf, af⟩ _ rfl HG.out) rfl ⟨rfl, HF.out⟩
      | false =>
        rw [hh] at hR
        clear hh
        have h6 : ((w5.setCell ⟨g + 1, 2, none⟩ (.string (S bf))).setCell ⟨g + 1, 3, none⟩ (.string (S af))).heap[g + 1]? = some (.cells (nvs ⟨1, ng, bf, af⟩) 110 (0, 0)) := by
          have h1 := HS.out.get 0 rfl
          have h2 := heap_setCell_same (i := 2) h1 (.string (S bf))
          have h3 := heap_setCell_same (i := 3) h2 (.string (S af))
          exact h3
        have S1 := HS.out.upd 0 (Ob.one (g + 1) (.cells (nvs ⟨1, ng, bf, af⟩) 110 (0, 0))) rfl ((((Ext.refl [g + 1] w5).setCell ⟨g + 1, 2, none⟩ (.string (S bf)) (.inl (by simp))).setCell ⟨g + 1, 3, none⟩ (.string (S af)) (.inl (by simp)))) (Fr.refl _ _) h6
        obtain ⟨W6, hW6⟩ : ∃ W6, (w5.setCell ⟨g + 1, 2, none⟩ (.string (S bf))).setCell ⟨g + 1, 3, none⟩ (.string (S af)) = W6 := ⟨_, rfl⟩
        rw [hW6] at S1 h6
        have HS6 := Lib.hid S1
        clear S1
        have hg0 := HS6.out.get 1 rfl
        have c2b : W6.cell? ⟨g + 1, 2, none⟩ = some (.string (S bf)) := cellOf h6 2
        have c3b : W6.cell? ⟨g + 1, 3, none⟩ = some (.string (S af)) := cellOf h6 3
        have c0b : W6.cell? ⟨g + 1, 0, none⟩ = some (.int .i64 1) := cellOf h6 0
        have c1b : W6.cell? ⟨g + 1, 1, none⟩ = some (.bool ng) := cellOf h6 1
        have d0 : W6.cell? ⟨g, 0, none⟩ = some (.int .i64 0) := cellOf hg0 0
        have d1 : W6.cell? ⟨g, 1, none⟩ = some (.bool false) := cellOf hg0 1
        have d2 : W6.cell? ⟨g, 2, none⟩ = some (.string (S [])) := cellOf hg0 2
        have d3 : W6.cell? ⟨g, 3, none⟩ = some (.string (S [])) := cellOf hg0 3
        have e0 : W6.frozen? ⟨g, 0, none⟩ = false := freeOf hg0 0
        have e1 : W6.frozen? ⟨g, 1, none⟩ = false := freeOf hg0 1
        have e2 : W6.frozen? ⟨g, 2, none⟩ = false := freeOf hg0 2
        have e3 : W6.frozen? ⟨g, 3, none⟩ = false := freeOf hg0 3
        go_wp2_with fail
        clear hW6 c0 c1 c2 c3 f0 f1 f2 f3 HS
        refine (HDB.out _).mono ?_
        rintro e w7 ⟨rfl, rfl⟩
        clear HDB
        cases hdb : bf.all digB with
        | false =>
          rw [hdb] at hR
          obtain rfl : (⟨0, false, [], []⟩ : Num) = R := hR
          have HF := Lib.hid (set4_sep (p := ⟨0, false, [], []⟩) HS6.out 1 rfl).ext
          have HG := Lib.hid hg0
          go_wp2_with fail
          exact bodyPost_ret (ret_parts rfl _ W6 g ⟨0, false, [], []⟩ _ rfl HG.out) rfl ⟨rfl, HF.out⟩
        | true =>
          rw [hdb] at hR
          go_wp2_with fail
          refine (HDA.out _).mono ?_
          rintro e w7 ⟨rfl, rfl⟩
          clear HDA
          cases hda : af.all digB with
          | false =>
            rw [hda] at hR
            obtain rfl : (⟨0, false, [], []⟩ : Num) = R := hR
            have HF := Lib.hid (set4_sep (p := ⟨0, false, [], []⟩) HS6.out 1 rfl).ext
            have HG := Lib.hid hg0
            go_wp2_with fail
            exact bodyPost_ret (ret_parts rfl _ W6 g ⟨0, false, [], []⟩ _ rfl HG.out) rfl ⟨rfl, HF.out⟩
          | true =>
            rw [hda] at hR
            cases hme : (bf ++ af).isEmpty with
            | true =>
              rw [hme] at hR hem
              obtain rfl : (⟨0, false, [], []⟩ : Num) = R := hR
              have HF := Lib.hid (set4_sep (p := ⟨0, false, [], []⟩) HS6.out 1 rfl).ext
              have HG := Lib.hid hg0
              go_wp2_with fail
              exact bodyPost_ret (ret_parts rfl _ W6 g ⟨0, false, [], []⟩ _ rfl HG.out) rfl ⟨rfl, HF.out⟩
            | false =>
              rw [hme] at hR hem
              obtain rfl : (⟨1, ng, bf, af⟩ : Num) = R := hR
              have HF := Lib.hid (set4_sep (p := ⟨1, ng, bf, af⟩) HS6.out 1 rfl).ext
              have HG := Lib.hid hg0
              go_wp2_with fail
              exact bodyPost_ret (ret_parts rfl _ W6 g ⟨1, ng, bf, af⟩ _ rfl HG.out) rfl ⟨rfl, HF.out⟩
end Go.Proofs.YtgpgamohcafklaaGreatDoor.Nu
