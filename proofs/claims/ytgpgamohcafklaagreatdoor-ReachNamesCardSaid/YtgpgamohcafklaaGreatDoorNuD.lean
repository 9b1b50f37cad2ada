/-
  number: long, bare, Kind, cmp.Or walked.
-/
import Derived.Test.YtgpgamohcafklaaGreatDoorNuC
namespace Go.Proofs.YtgpgamohcafklaaGreatDoor.Nu
open Go.RowKit

theorem load_parts_ex {w : World} {g : Nat} {p : Num} {t : TypeId} {fr : Nat × Nat} (h : w.heap[g]? = some (.cells (nvs p) t fr)) (y : Ex w) : y.w.heap[g]? = some (.cells (nvs p) t fr) := y.ext.keep h (by simp)
set_option maxRecDepth 100000 in
set_option maxHeartbeats 4000000 in
theorem long_walk (p : Num) (w : World) (ha : p.a.length ≤ 1048576) (hb : p.b.length ≤ 1048576) :
    Calls Tryz.prog 69 #[nv p] w fun e w' => e = .returned (.bool (longN p)) ∧ Ext [] w w' := by
  obtain ⟨k, ng, a, b⟩ := p
  show Calls Tryz.prog 69 #[.agg #[.int .i64 (k : Nat), .bool ng, .string (S a), .string (S b)]] w fun e w' => e = .returned (.bool (decide (64 < a.length + b.length))) ∧ Ext [] w w'
  have hz : decide ((64 : Int) < (a.length : Int) + (b.length : Int)) = decide (64 < a.length + b.length) := by
    by_cases h : 64 < a.length + b.length
    · rw [decide_eq_true h, decide_eq_true (by omega)]
    · rw [decide_eq_false h, decide_eq_false (by omega)]
  have HX := Lib.hid (fun o => (Ext.refl [] w).alloc o)
  have hw : wrap64 ((a.length : Int) + (b.length : Int)) = (a.length : Int) + (b.length : Int) := by
    have h1 : a.length ≤ 1048576 := ha
    have h2 : b.length ≤ 1048576 := hb
    unfold wrap64
    omega
  have hv : Value.bool (decide ((64 : Int) < wrap64 ((a.length : Int) + (b.length : Int)))) = .bool (decide (64 < a.length + b.length)) := by rw [hw, hz]
  have HV := Lib.hid hv
  clear hw hv hz
  go_enter Tryz.func69, Tryz.ntmps69
  go_wp2_with fail
  go_ret
  exact ⟨congrArg Ending.returned HV.out, HX.out _⟩
theorem upd3 {w W : World} {L : List Ob} {g : Nat} {k : Nat} {ng v : Bool} {a b ta tb : List UInt8} {t : TypeId} (S : Sep w W L) (i : Nat) (hi : L[i]? = some (Ob.one g (.cells (nvs ⟨k, ng, a, b⟩) t (0, 0)))) :
    Sep w (((W.setCell ⟨g, 2, none⟩ (.string (Nu.S ta))).setCell ⟨g, 3, none⟩ (.string (Nu.S tb))).setCell ⟨g, 1, none⟩ (.bool v)) (L.set i (Ob.one g (.cells (nvs ⟨k, v, ta, tb⟩) t (0, 0)))) := by
  refine S.upd i (Ob.one g (.cells (nvs ⟨k, v, ta, tb⟩) t (0, 0))) hi ((((Ext.refl [g] W).setCell ⟨g, 2, none⟩ _ (.inl (by simp))).setCell ⟨g, 3, none⟩ _ (.inl (by simp))).setCell ⟨g, 1, none⟩ _ (.inl (by simp))) (Fr.refl _ _) ?_
  have h := S.get i hi
  show _ = _
  rw [heap_setCell_same (heap_setCell_same (heap_setCell_same h _) _) _]
  rfl
set_option maxRecDepth 100000 in
set_option maxHeartbeats 4000000 in
theorem bare_walk (p : Num) (w : World) (ha : p.a.length ≤ 1048576) (hb : p.b.length ≤ 1048576) :
    Calls Tryz.prog 70 #[nv p] w fun e w' => e = .returned (nv (bareN p)) ∧ Ext [] w w' := by
  obtain ⟨k, ng, a, b⟩ := p
  have HL := Lib.hid (fun w => Tryz.strings_TrimLeft_one (S a) 48 (by decide) w)
  have HR := Lib.hid (fun w => Tryz.strings_TrimRight_one (S b) 48 (by decide) w (by rw [S_size]; exact Nat.le_trans hb (by decide)))
  have hR : bareN ⟨k, ng, a, b⟩ = ⟨k, ng && !(tl a ++ tr b).isEmpty, tl a, tr b⟩ := rfl
  have hla : (tl a).length ≤ 1048576 := Nat.le_trans (List.dropWhile_sublist _).length_le ha
  have hlb : (tr b).length ≤ 1048576 := by
    unfold tr Lib.trimRightB
    rw [List.length_reverse]
    refine Nat.le_trans (List.dropWhile_sublist _).length_le ?_
    rw [List.length_reverse]
    exact hb
  rw [hR]
  replace HL := Lib.hid (show ∀ w, Calls Tryz.prog 81 #[.string (S a), .string ⟨#[48]⟩] w fun e w' => e = .returned (.string (S (tl a))) ∧ w' = w from HL.out)
  replace HR := Lib.hid (show ∀ w, Calls Tryz.prog 82 #[.string (S b), .string ⟨#[48]⟩] w fun e w' => e = .returned (.string (S (tr b))) ∧ w' = w from HR.out)
  generalize tl a = ta at *
  generalize tr b = tb at *
  have hem : (S ta ++ S tb).toList.isEmpty = (ta ++ tb).isEmpty := by rw [ByteArray.toList_eq, S_app]; rfl
  generalize (ta ++ tb).isEmpty = em at *
  have hsa : (S ta).size ≤ 1048576 := by rw [S_size]; exact hla
  have hsb : (S tb).size ≤ 1048576 := by rw [S_size]; exact hlb
  show Calls Tryz.prog 70 #[.agg #[.int .i64 (k : Nat), .bool ng, .string (S a), .string (S b)]] w _
  go_enter Tryz.func70, Tryz.ntmps70
  go_wp2_with fail
  obtain ⟨g, hg⟩ : ∃ g, w.heap.size = g := ⟨_, rfl⟩
  have S0 := ((Sep.start w).new ((Ext.refl _ w).alloc (.cells (nvs ⟨k, ng, a, b⟩) 110)) (Ob.one w.heap.size (.cells (nvs ⟨k, ng, a, b⟩) 110 (0, 0))) (heap_alloc_at _) (fun q hq => by rw [List.mem_singleton.1 hq]; exact Nat.le_refl _)).new ((Ext.refl _ _).alloc (.cells (nvs ⟨0, false, [], []⟩) 110)) (Ob.one (w.heap.size + 1) (.cells (nvs ⟨0, false, [], []⟩) 110 (0, 0))) (alloc2 _ _ _) (fun q hq => by rw [List.mem_singleton.1 hq]; simp)
  obtain ⟨W, hW⟩ : ∃ W, (w.alloc (.cells #[.int .i64 (k : Nat), .bool ng, .string (S a), .string (S b)] 110)).alloc (.cells #[.int .i64 0, .bool false, .string ⟨#[]⟩, .string ⟨#[]⟩] 110) = W := ⟨_, rfl⟩
  replace S0 : Sep w W [Ob.one (w.heap.size + 1) (.cells (nvs ⟨0, false, [], []⟩) 110 (0, 0)), Ob.one w.heap.size (.cells (nvs ⟨k, ng, a, b⟩) 110 (0, 0))] := by rw [← hW]; exact S0
  rw [hW]
  rw [hg] at S0 ⊢
  have HS := Lib.hid S0
  clear S0 hW hg hR
  have h0 := HS.out.get 1 rfl
  have c1 : ∀ y : Ex W, y.w.cell? ⟨g, 1, none⟩ = some (.bool ng) := fun y => cellOf (load_parts_ex h0 y) 1
  have c2 : ∀ y : Ex W, y.w.cell? ⟨g, 2, none⟩ = some (.string (S a)) := fun y => cellOf (load_parts_ex h0 y) 2
  have c3 : ∀ y : Ex W, y.w.cell? ⟨g, 3, none⟩ = some (.string (S b)) := fun y => cellOf (load_parts_ex h0 y) 3
  refine wp_region_quiet_tail (C := fun w' => ∃ x : Ex W, w' = x.w) 7 (by kernel_rfl) (by kernel_rfl) ⟨Ex.mk _ ((Ext.refl [] W).drew), rfl⟩ ?_
  simp only [List.take_succ_cons, List.take_zero, List.drop_succ_cons, List.drop_zero]
  repeat (go_big_quiet_step (first | (go_at_call 81; refine Calls.ext_of ((HL.out _).mono (fun e w' h => ⟨h.1, h.2 ▸ Ext.refl _ _⟩))) | (go_at_call 82; refine Calls.ext_of ((HR.out _).mono (fun e w' h => ⟨h.1, h.2 ▸ Ext.refl _ _⟩)))))
  refine wpQuiet_nil ?_
  rintro _ ⟨y, rfl⟩
  clear c1 c2 c3 h0
  obtain ⟨W1, hW1⟩ : ∃ W1, y.w = W1 := ⟨_, rfl⟩
  have hx1 := y.ext
  rw [hW1] at hx1
  rw [hW1]
  have HS := Lib.hid (HS.out.quiet hx1)
  clear hx1 hW1 y HL HR
  have h1 := HS.out.get 1 rfl
  have h2 := HS.out.get 0 rfl
  have c0 : W1.cell? ⟨g, 0, none⟩ = some (.int .i64 (k : Nat)) := cellOf h1 0
  have c1 : W1.cell? ⟨g, 1, none⟩ = some (.bool ng) := cellOf h1 1
  have c2 : W1.cell? ⟨g, 2, none⟩ = some (.string (S a)) := cellOf h1 2
  have c3 : W1.cell? ⟨g, 3, none⟩ = some (.string (S b)) := cellOf h1 3
  have f1 : W1.frozen? ⟨g, 1, none⟩ = false := freeOf h1 1
  have f2 : W1.frozen? ⟨g, 2, none⟩ = false := freeOf h1 2
  have f3 : W1.frozen? ⟨g, 3, none⟩ = false := freeOf h1 3
  have d0 : W1.cell? ⟨g + 1, 0, none⟩ = some (.int .i64 0) := cellOf h2 0
  have d1 : W1.cell? ⟨g + 1, 1, none⟩ = some (.bool false) := cellOf h2 1
  have d2 : W1.cell? ⟨g + 1, 2, none⟩ = some (.string (S [])) := cellOf h2 2
  have d3 : W1.cell? ⟨g + 1, 3, none⟩ = some (.string (S [])) := cellOf h2 3
  have e0 : W1.frozen? ⟨g + 1, 0, none⟩ = false := freeOf h2 0
  have e1 : W1.frozen? ⟨g + 1, 1, none⟩ = false := freeOf h2 1
  have e2 : W1.frozen? ⟨g + 1, 2, none⟩ = false := freeOf h2 2
  have e3 : W1.frozen? ⟨g + 1, 3, none⟩ = false := freeOf h2 3
  cases ng with
  | true =>
    have S2 := upd3 (v := !em) (ta := ta) (tb := tb) HS.out 1 rfl
    have HF := Lib.hid (set4_sep (p := ⟨k, !em, ta, tb⟩) S2 0 rfl).ext
    have HG := Lib.hid (S2.get 0 rfl)
    clear S2 h1 h2
    go_wp2_with fail
    exact bodyPost_ret (ret_parts rfl _ _ (g + 1) ⟨k, !em, ta, tb⟩ _ rfl HG.out) rfl ⟨rfl, HF.out⟩
  | false =>
    have S2 := upd3 (v := false) (ta := ta) (tb := tb) HS.out 1 rfl
    have HF := Lib.hid (set4_sep (p := ⟨k, false, ta, tb⟩) S2 0 rfl).ext
    have HG := Lib.hid (S2.get 0 rfl)
    clear S2 h1 h2
    go_wp2_with fail
    exact bodyPost_ret (ret_parts rfl _ _ (g + 1) ⟨k, false, ta, tb⟩ _ rfl HG.out) rfl ⟨rfl, HF.out⟩
theorem field_kind (k : Nat) (ng : Bool) (a b : ByteArray) (w : World) : (Instr.field 110 (.agg #[.int .i64 (k : Int), .bool ng, .string a, .string b]) 0).run Tryz.prog w = .ok (.int .i64 (k : Int)) w := by kernel_rfl
/-! ### cmp.Or -/
def orL (l : List Int) : Int := match l with | [] => 0 | x :: l => orI x (orL l)
theorem orL_drop (l : List Int) (k : Nat) (h : k < l.length) : orL (l.drop k) = orI (l[k]'h) (orL (l.drop (k + 1))) := by
  rw [List.drop_eq_getElem_cons h]
  rfl
set_option maxRecDepth 100000 in
set_option maxHeartbeats 4000000 in
theorem orInt_walk (l : List Int) (g cap : Nat) (w : World) (hl : l.length ≤ 1048576) (hc : ∀ k (h : k < l.length), w.cell? ⟨g, k, none⟩ = some (.int .i64 (l[k]'h))) :
    Calls Tryz.prog 33 #[.slice (some ⟨g, 0, none⟩) l.length cap] w fun e w' => e = .returned (.int .i64 (orL l)) ∧ w = w' := by
  obtain ⟨R, hR⟩ : ∃ R, orL l = R := ⟨_, rfl⟩
  rw [hR]
  have HR := Lib.hid hR
  have HC := Lib.hid hc
  clear hR hc
  go_enter Tryz.func33, Tryz.ntmps33
  go_wp2_with fail
  go_loopg [5, 8] l.length (fun g nv iv wr => ∃ k : Nat, g + k = l.length ∧ iv = .int .i64 k ∧ orL (l.drop k) = R ∧ wr = w)
  case atStart => exact ⟨0, by omega, rfl, HR.out, rfl⟩
  case round =>
    obtain ⟨k, hgk, rfl, hd, rfl⟩ := hrel
    by_cases hlt : k < l.length
    · obtain ⟨g', rfl⟩ : ∃ g', gk = g' + 1 := ⟨gk - 1, by omega⟩
      have hltz : (k : Int) < (l.length : Int) := by omega
      have hc := HC.out k hlt
      rw [orL_drop l k hlt] at hd
      obtain ⟨x, hx⟩ : ∃ x, l[k]'hlt = x := ⟨_, rfl⟩
      rw [hx] at hc hd
      clear hx
      by_cases hx0 : x = 0
      · subst hx0
        have hd : orL (l.drop (k + 1)) = R := hd
        have HD := Lib.hid hd
        clear hd
        go_wp2_with fail
        go_roundg g'
        case measure => omega
        case rel => exact ⟨k + 1, by omega, by go_num, HD.out, rfl⟩
      · have hxb : (x == 0) = false := beq_eq_false_iff_ne.2 hx0
        unfold orI at hd
        rw [if_neg hx0] at hd
        subst hd
        clear HR
        go_wp2_with fail
        go_ret
        exact ⟨rfl, rfl⟩
    · obtain rfl : k = l.length := by omega
      rw [List.drop_of_length_le (Nat.le_refl _)] at hd
      obtain rfl : 0 = R := hd
      clear HR HC
      go_wp2_with fail
      go_ret
      exact ⟨rfl, rfl⟩
set_option maxRecDepth 100000 in
set_option maxHeartbeats 4000000 in
/-- two texts: the first one that is not empty -/
theorem orStr_walk (a : List UInt8) (g : Nat) (w : World) (h0 : w.cell? ⟨g, 0, none⟩ = some (.string (S a))) (h1 : w.cell? ⟨g, 1, none⟩ = some (.string ⟨#[48]⟩)) :
    Calls Tryz.prog 71 #[.slice (some ⟨g, 0, none⟩) 2 2] w fun e w' => e = .returned (.string (S (orS a))) ∧ w = w' := by
  cases hE : a.isEmpty with
  | true =>
    have ho : S (orS a) = (⟨#[48]⟩ : ByteArray) := by unfold orS; rw [hE]; rfl
    obtain rfl : a = [] := List.isEmpty_iff.1 hE
    rw [ho]
    clear hE ho
    replace h0 : w.cell? ⟨g, 0, none⟩ = some (.string ⟨#[]⟩) := h0
    go_enter Tryz.func71, Tryz.ntmps71
    go_wp2_with fail
    go_loopg [5, 8] 2 (fun g' nv iv wr => (g' = 2 ∧ iv = .int .i64 0 ∨ g' = 1 ∧ iv = .int .i64 1) ∧ wr = w)
    case atStart => exact ⟨.inl ⟨rfl, rfl⟩, rfl⟩
    case round =>
      obtain ⟨⟨rfl, rfl⟩ | ⟨rfl, rfl⟩, rfl⟩ := hrel
      · go_wp2_with fail
        go_roundg 1
        case measure => omega
        case rel => exact ⟨.inr ⟨rfl, rfl⟩, rfl⟩
      · go_wp2_with fail
        go_ret
        exact ⟨rfl, rfl⟩
  | false =>
    have ho : S (orS a) = S a := by unfold orS; rw [hE]; rfl
    have he : (S a).toList.isEmpty = false := by rw [ByteArray.toList_eq]; exact hE
    rw [ho]
    clear hE ho
    go_enter Tryz.func71, Tryz.ntmps71
    go_wp2_with fail
    go_loopg [5, 8] 2 (fun g' nv iv wr => (g' = 2 ∧ iv = .int .i64 0) ∧ wr = w)
    case atStart => exact ⟨⟨rfl, rfl⟩, rfl⟩
    case round =>
      obtain ⟨⟨rfl, rfl⟩, rfl⟩ := hrel
      go_wp2_with fail
      go_ret
      exact ⟨rfl, rfl⟩
end Go.Proofs.YtgpgamohcafklaaGreatDoor.Nu
