/-
  inflate: row walked.
-/
import Derived.Test.YtgjenpdppobpkaaInL
namespace Go.Proofs.Ytgjenpdppobpkaa.If
open Go.RowKit Bt Hu

abbrev oIn (ao : Option Addr) (cap : Nat) (l : List Int) : Ob := oSl 3 1 (.slice ao l.length cap) l.length (l.map iz)
/-- what a call on the run leaves that makes a row of numbers -/
def PstI (w0 : World) (L : List Ob) (j ub rb : Nat) (s : ByteArray) (B : Nat) (R : Rs (List Int)) (e : Ending) (w' : World) : Prop :=
  match R with
  | .ok l p out => ∃ ao cap, e = .returned (.slice ao l.length cap) ∧ ∃ F, Sep w0 w' (oIn ao cap l :: L.set j (oRun ub rb F s B p out))
  | .er er out => e = .panicked [giveV er] ∧ ∃ F p, Sep w0 w' (L.set j (oRun ub rb F s B p out))
theorem PstI.ok {w0 w' : World} {L : List Ob} {j ub rb : Nat} {s : ByteArray} {B : Nat} {R : Rs (List Int)} {l : List Int} {p : Nat} {out : List Nat} {e : Ending} {ao : Option Addr} {cap : Nat} (hR : R = .ok l p out) (he : e = .returned (.slice ao l.length cap)) (F : List Nat) (S : Sep w0 w' (oIn ao cap l :: L.set j (oRun ub rb F s B p out))) : PstI w0 L j ub rb s B R e w' := by
  subst hR; exact ⟨ao, cap, he, F, S⟩
theorem PstI.er {w0 w' : World} {L : List Ob} {j ub rb : Nat} {s : ByteArray} {B : Nat} {R : Rs (List Int)} {er : Int} {p : Nat} {out : List Nat} {e : Ending} (hR : R = .er er out) (he : e = .panicked [giveV er]) (F : List Nat) (S : Sep w0 w' (L.set j (oRun ub rb F s B p out))) : PstI w0 L j ub rb s B R e w' := by
  subst hR; exact ⟨he, F, p, S⟩
/-- more numbers behind a row that stands first -/
theorem sep_more {w0 w w2 : World} {l : List Int} {ao : Option Addr} {cap : Nat} {L : List Ob} (S : Sep w0 w (oIn ao cap l :: L)) {ao2 : Option Addr} {cap2 : Nat} {m : List Int}
    (ho : w2.ownsRow 0 3 1 (.slice ao2 m.length cap2) m.length (m.map iz)) (hx : Ext (Value.slice ao l.length cap).ownBlock.toList w w2) (hf : Fr w (Value.slice ao l.length cap).ownBlock.toList (Value.slice ao2 m.length cap2).ownBlock.toList) : Sep w0 w2 (oIn ao2 cap2 m :: L) :=
  S.upd 0 (oIn ao2 cap2 m) rfl hx hf ho
section
variable {w0 w : World} {L : List Ob} {j ub rb : Nat} {F : List Nat} {s : ByteArray} {B p : Nat} {out : List Nat}
set_option maxRecDepth 100000 in
set_option maxHeartbeats 16000000 in
theorem a_row (i n : Nat) {tb : Nat} {Ft : List Nat} {D : List Int} (hij : i ≠ j) (hj : j < L.length) (hT : L[i]? = some (oTab tb Ft D)) (S : Sep w0 w (L.set j (oRun ub rb F s B p out))) (hD : D.length ≤ 288) (hs : s.size ≤ 1048576) (hp : p ≤ 8 * s.size) (hn : n ≤ 1000) :
    Calls Try.prog 79 #[.pointer (some ⟨ub, 0, none⟩), .pointer (some ⟨tb, 0, none⟩), .int .i64 n] w (PstI w0 L j ub rb s B (rowF s D n (8 * s.size - p + 2) [] p out)) := by
  have HS := Lib.hid (S.new (Ext.refl _ _) (oIn none 0 []) (World.ownsRow_nil _ _ _ _) (by simp [oIn, oSl, Value.ownBlock]))
  have HT := Lib.hid hT
  obtain ⟨R, hR⟩ : ∃ R, rowF s D n (8 * s.size - p + 2) [] p out = R := ⟨_, rfl⟩
  rw [hR]
  have HR := Lib.hid hR
  clear S hT hR
  go_enter Try.func79, Try.ntmps79
  go_wp2_with fail
  go_loopg [7] (8 * s.size - p + 2) (fun g lv wr => ∃ (p : Nat) (F' out : List Nat) (ao : Option Addr) (cap : Nat) (l : List Int), p ≤ 8 * s.size ∧ 8 * s.size - p < g ∧ lv = .slice ao l.length cap ∧ l.length ≤ n + 138 ∧ rowF s D n g l p out = R ∧ Sep w0 wr (oIn ao cap l :: L.set j (oRun ub rb F' s B p out)))
  case atStart => exact ⟨p, F, out, none, 0, [], hp, by omega, rfl, by simp, HR.out, HS.out⟩
  case round =>
    clear HS HR hp
    obtain ⟨p, F', out, ao, cap, l, hp, hpg, rfl, hl, hR, S⟩ := hrel
    have HS := Lib.hid S
    clear S
    obtain ⟨g, rfl⟩ : ∃ g, gk = g + 1 := ⟨gk - 1, by omega⟩
    rw [rowF] at hR
    by_cases hlt : l.length < n
    · rw [if_pos hlt] at hR
      have k1 : (l.length : Int) < (n : Int) := by omega
      cases h1 : symR s D p out with
      | er e1 o1 =>
        rw [h1, Rs.bind_er] at hR
        have HH := Lib.hid (⟨h1, hR⟩ : _ ∧ _)
        clear h1 hR
        go_wp2_with fail
        refine (a_sym (L := oIn ao cap l :: L) (j := j + 1) (i + 1) (by omega) (by simp; omega) (by simpa using HT.out) HS.out hD hs hp).mono ?_
        rw [HH.out.1]
        rintro e w2 ⟨rfl, F2, p', S⟩
        go_wp2_with fail
        exact ⟨rfl, PstI.er HH.out.2.symm rfl F2 S.tl⟩
      | ok x p2 o2 =>
        obtain ⟨hp1, hp2, hx288, rfl⟩ := symR_ok h1
        rw [h1, Rs.bind_ok] at hR
        have HH := Lib.hid h1
        have HR := Lib.hid hR
        clear h1 hR
        go_wp2_with fail
        refine (a_sym (L := oIn ao cap l :: L) (j := j + 1) (i + 1) (by omega) (by simp; omega) (by simpa using HT.out) HS.out hD hs hp).mono ?_
        rw [HH.out]
        rintro e w2 ⟨rfl, F3, S⟩
        rw [izN_eq]
        have HS : Hid (Sep w0 w2 (oIn ao cap l :: L.set j (oRun ub rb F3 s B p2 o2))) := Lib.hid S
        have hR := HR.out
        clear S HR HH
        by_cases h16 : x = 16
        · rw [if_pos h16] at hR
          subst h16
          by_cases h0 : l.length = 0
          · rw [if_pos h0] at hR
            have HR := Lib.hid hR
            clear hR
            have j2 : decide ((0 : Int) < (l.length : Int)) = false := decide_eq_false (by omega)
            go_wp2_with fail
            refine (must_er w2).mono ?_
            rintro e w3 ⟨rfl, rfl⟩
            go_wp2_with fail
            exact ⟨rfl, PstI.er HR.out.symm rfl F3 HS.out.tl⟩
          · rw [if_neg h0] at hR
            have HR := Lib.hid hR
            clear hR
            have j2 : 0 < l.length := by omega
            go_wp2_with fail
            refine (must_ok w2).mono ?_
            rintro e w3 ⟨rfl, rfl⟩
            go_wp2_with fail
            obtain ⟨gb, cap', hgb⟩ := own_at (HS.out.get 0 rfl : w2.ownsRow 0 3 1 (.slice ao l.length cap) l.length (l.map iz)) j2
            injection hgb with e1 _ e3
            subst e1 e3
            obtain ⟨cs9, _, hcap1, hcap2, _, _⟩ := ownsRow_open (HS.out.get 0 rfl : w2.ownsRow 0 3 1 (.slice (some ⟨gb, 0, none⟩) l.length cap) l.length (l.map iz))
            obtain ⟨q, hq⟩ : ∃ q, l.length = q + 1 := ⟨l.length - 1, by omega⟩
            unfold maxLen at hcap2
            rw [hq] at hcap1 ⊢
            have y1 : IntKind.i64.wrap (((q + 1 : Nat) : Int) - 1) = (q : Int) := by rw [IntKind.wrap_i64]; omega
            have y2 : ((q + 1 : Nat) : Int) - 1 = (q : Int) := by omega
            have y3 : (q : Int) ≤ ((q + 1 : Nat) : Int) := by omega
            have HQ := Lib.hid hq
            clear hq
            refine wp_region_midP (C := fun w' => ∃ x : World, w' = x) 7 3 (by kernel_rfl) (by kernel_rfl) ⟨_, rfl⟩ ?_
            simp only [List.take_succ_cons, List.take_zero, List.drop_succ_cons, List.drop_zero]
            repeat (go_big_quiet_step (fail))
            refine wpQuiet_nil ?_
            refine midW_step rfl (fun K hK => ?_)
            clear y1 y2 y3
            have hR := HR.out
            clear HR
            cases h3 : getR s 2 p2 o2 with
            | er e1 o1 =>
              rw [h3, Rs.bind_er] at hR
              have H2 := Lib.hid (⟨h3, hR⟩ : _ ∧ _)
              clear h3 hR
              go_wp2_with fail
              refine (a_get (L := oIn (some ⟨gb, 0, none⟩) cap l :: L) (j := j + 1) 2 (by simp; omega) (HS.out.quiet (Ext.refl [] w2).drew) hs hp2 (by omega)).mono ?_
              rw [H2.out.1]
              rintro e w3 ⟨rfl, F4, p', S⟩
              go_wp2_with fail
              intro a' ha'
              refine ⟨ha', PstI.er H2.out.2.symm rfl F4 S.tl⟩
            | ok k p3 o3 =>
              obtain ⟨hk, rfl, rfl, hp3⟩ := getR_ok h3
              have hk8 : k < 2 ^ 2 := by rw [hk]; exact getv_lt s false p2 2
              rw [h3, Rs.bind_ok] at hR
              have H2 := Lib.hid (⟨h3, hR⟩ : _ ∧ _)
              clear h3 hR hk
              go_wp2_with fail
              refine (a_get (L := oIn (some ⟨gb, 0, none⟩) cap l :: L) (j := j + 1) 2 (by simp; omega) (HS.out.quiet (Ext.refl [] w2).drew) hs hp2 (by omega)).mono ?_
              rw [H2.out.1]
              rintro e w3 ⟨rfl, F4, S⟩
              rw [izN_eq]
              have S : Sep w0 w3 (oIn (some ⟨gb, 0, none⟩) cap l :: L.set j (oRun ub rb F4 s B (p2 + 2) o3)) := S
              have HS := Lib.hid S
              clear S
              go_wp2_with fail
              refine ⟨⟨_, rfl⟩, ?_⟩
              refine midW_step rfl (fun K2 hK2 => ?_)
              go_wp2_with fail
              refine ⟨⟨_, rfl⟩, ?_⟩
              refine midW_step rfl (fun K3 hK3 => ?_)
              obtain ⟨x, hx9⟩ : ∃ x, l[q]? = some x := ⟨_, List.getElem?_eq_getElem (by have := HQ.out; omega)⟩
              have hgd : l.getD (l.length - 1) 0 = x := by rw [HQ.out, Nat.add_sub_cancel, List.getD_eq_getElem?_getD, hx9]; rfl
              have hc9 : w3.cell? ⟨gb, q, none⟩ = some (iz x) := ownsRow_at (HS.out.get 0 rfl : w3.ownsRow 0 3 1 (.slice (some ⟨gb, 0, none⟩) l.length cap) l.length (l.map iz)) (by rw [List.getElem?_map, hx9]; rfl)
              have hrep := repeat1_walk x (k + 3) ⟨gb, q, none⟩ (cap - q) w3 (by omega) (by omega) hc9
              have hrep : Calls Try.prog 36 #[.slice (some ⟨gb, q, none⟩) 1 (cap - q), .int .i64 ((k : Int) + 3)] w3 (NewInts w3 (List.replicate (k + 3) x)) := hrep
              rw [hgd] at H2
              have HRP := Lib.hid hrep
              clear hx9 hgd hc9 hrep hcap1 hcap2
              go_wp2_with fail
              refine HRP.out.mono ?_
              rintro e w4 ⟨v4, rfl, hx, hp4, hf⟩
              obtain ⟨a4, k4, rfl⟩ := own_slice hp4
              obtain ⟨ao2, cap2, w5, hr, ho, hx5, hf5⟩ := app_ints w4 _ l (List.replicate (k + 3) x) a4 k4 (ownsRow_ext (HS.out.get 0 rfl : w3.ownsRow 0 3 1 (.slice (some ⟨gb, 0, none⟩) l.length cap) l.length (l.map iz)) hx (by simp)) (IntsAt.of_own hp4) (by simp) (by simp; omega)
              have HS5 := Lib.hid (sep_more (HS.out.quiet hx) ho hx5 hf5)
              rw [HQ.out, List.length_replicate] at hr
              have HRN := Lib.hid hr
              clear hx hp4 hf hr ho hx5 hf5 HS HRP
              go_wp2_with fail
              refine ⟨⟨_, rfl⟩, ?_⟩
              refine midW_nil ?_
              go_wp2_with (at_builtin; refine wpList_plain rfl (fun K9 hK9 => wp_append_run _ _ _ _ rfl rfl rfl (HRN.out _) (hK9 _ _ ?_)))
              refine PanicAny.normal ?_
              go_wp2_with fail
              go_roundg g
              case measure => omega
              case rel => exact ⟨_, F4, _, ao2, cap2, _, hp3, by omega, by have := HQ.out; simp; try omega, by have := HQ.out; simp; omega, H2.out.2, HS5.out⟩
        · rw [if_neg h16] at hR
          have j16 : ((x : Int) == 16) = false := beq_eq_false_iff_ne.2 (by omega)
          by_cases h17 : x = 17
          · rw [if_pos h17] at hR
            subst h17
            cases h3 : getR s 3 p2 o2 with
            | er e1 o1 =>
              rw [h3, Rs.bind_er] at hR
              have H2 := Lib.hid (⟨h3, hR⟩ : _ ∧ _)
              clear h3 hR
              go_wp2_with fail
              refine (a_get (L := oIn ao cap l :: L) (j := j + 1) 3 (by simp; omega) HS.out hs hp2 (by omega)).mono ?_
              rw [H2.out.1]
              rintro e w3 ⟨rfl, F4, p', S⟩
              go_wp2_with fail
              exact ⟨rfl, PstI.er H2.out.2.symm rfl F4 S.tl⟩
            | ok k p3 o3 =>
              obtain ⟨hk, rfl, rfl, hp3⟩ := getR_ok h3
              have hk8 : k < 2 ^ 3 := by rw [hk]; exact getv_lt s false p2 3
              rw [h3, Rs.bind_ok] at hR
              have H2 := Lib.hid (⟨h3, hR⟩ : _ ∧ _)
              clear h3 hR hk
              go_wp2_with fail
              refine (a_get (L := oIn ao cap l :: L) (j := j + 1) 3 (by simp; omega) HS.out hs hp2 (by omega)).mono ?_
              rw [H2.out.1]
              rintro e w3 ⟨rfl, F4, S⟩
              rw [izN_eq]
              have S : Sep w0 w3 (oIn ao cap l :: L.set j (oRun ub rb F4 s B (p2 + 3) o3)) := S
              obtain ⟨ao2, cap2, w4, hr, ho, hx, hf⟩ := app_zeros w3 _ l (k + 3) (S.get 0 rfl) (by omega) (by omega)
              have HS := Lib.hid (sep_more S ho hx hf)
              have hr : ∀ ty, (Builtin.append_ #[42, 3] ty #[.slice ao l.length cap, .int .i64 ((k : Int) + 3)]).run Try.prog w3 = .ok (.slice ao2 (l ++ List.replicate (k + 3) 0).length cap2) w4 := hr
              have HRN := Lib.hid hr
              clear ho hx hf S hr
              go_wp2_with (at_builtin; refine wpList_plain rfl (fun K9 hK9 => wp_append_run _ _ _ _ rfl rfl rfl (HRN.out _) (hK9 _ _ ?_)))
              go_roundg g
              case measure => omega
              case rel => exact ⟨_, F4, _, ao2, cap2, _, hp3, by omega, by simp, by simp; omega, H2.out.2, HS.out⟩
          · rw [if_neg h17] at hR
            have j17 : ((x : Int) == 17) = false := beq_eq_false_iff_ne.2 (by omega)
            by_cases h18 : x = 18
            · rw [if_pos h18] at hR
              subst h18
              cases h3 : getR s 7 p2 o2 with
              | er e1 o1 =>
                rw [h3, Rs.bind_er] at hR
                have H2 := Lib.hid (⟨h3, hR⟩ : _ ∧ _)
                clear h3 hR
                go_wp2_with fail
                refine (a_get (L := oIn ao cap l :: L) (j := j + 1) 7 (by simp; omega) HS.out hs hp2 (by omega)).mono ?_
                rw [H2.out.1]
                rintro e w3 ⟨rfl, F4, p', S⟩
                go_wp2_with fail
                exact ⟨rfl, PstI.er H2.out.2.symm rfl F4 S.tl⟩
              | ok k p3 o3 =>
                obtain ⟨hk, rfl, rfl, hp3⟩ := getR_ok h3
                have hk8 : k < 2 ^ 7 := by rw [hk]; exact getv_lt s false p2 7
                rw [h3, Rs.bind_ok] at hR
                have H2 := Lib.hid (⟨h3, hR⟩ : _ ∧ _)
                clear h3 hR hk
                go_wp2_with fail
                refine (a_get (L := oIn ao cap l :: L) (j := j + 1) 7 (by simp; omega) HS.out hs hp2 (by omega)).mono ?_
                rw [H2.out.1]
                rintro e w3 ⟨rfl, F4, S⟩
                rw [izN_eq]
                have S : Sep w0 w3 (oIn ao cap l :: L.set j (oRun ub rb F4 s B (p2 + 7) o3)) := S
                obtain ⟨ao2, cap2, w4, hr, ho, hx, hf⟩ := app_zeros w3 _ l (k + 11) (S.get 0 rfl) (by omega) (by omega)
                have HS := Lib.hid (sep_more S ho hx hf)
                have hr : ∀ ty, (Builtin.append_ #[42, 3] ty #[.slice ao l.length cap, .int .i64 ((k : Int) + 11)]).run Try.prog w3 = .ok (.slice ao2 (l ++ List.replicate (k + 11) 0).length cap2) w4 := hr
                have HRN := Lib.hid hr
                clear ho hx hf S hr
                go_wp2_with (at_builtin; refine wpList_plain rfl (fun K9 hK9 => wp_append_run _ _ _ _ rfl rfl rfl (HRN.out _) (hK9 _ _ ?_)))
                go_roundg g
                case measure => omega
                case rel => exact ⟨_, F4, _, ao2, cap2, _, hp3, by omega, by simp, by simp; omega, H2.out.2, HS.out⟩
            · rw [if_neg h18] at hR
              have j18 : ((x : Int) == 18) = false := beq_eq_false_iff_ne.2 (by omega)
              obtain ⟨ao2, cap2, w4, hr, ho, hx, hf⟩ := app_ints (w2.alloc (.cells #[iz x] 3)) _ l [(x : Int)] (some ⟨w2.heap.size, 0, none⟩) 1 (ownsRow_ext (HS.out.get 0 rfl : w2.ownsRow 0 3 1 (.slice ao l.length cap) l.length (l.map iz)) ((Ext.refl [] w2).alloc _) (by simp))
                (IntsAt.of_block _ 1 rfl (heap_alloc_at _) rfl) (by simp) (by simp; omega)
              have HS5 := Lib.hid (sep_more (HS.out.quiet ((Ext.refl [] w2).alloc _)) ho hx hf)
              have HRN := Lib.hid hr
              have HR := Lib.hid hR
              clear hR hr ho hx hf HS
              go_wp2_with (at_builtin; refine wpList_plain rfl (fun K9 hK9 => wp_append_run _ _ _ _ rfl rfl rfl (HRN.out _) (hK9 _ _ ?_)))
              go_roundg g
              case measure => omega
              case rel => exact ⟨_, F3, _, ao2, cap2, _, hp2, by omega, by simp, by simp; omega, HR.out, HS5.out⟩
    · rw [if_neg hlt] at hR
      have k1 : ¬ (l.length : Int) < (n : Int) := by omega
      by_cases he : l.length = n
      · rw [if_pos he] at hR
        have HR := Lib.hid hR
        have j2 : ((l.length : Int) == (n : Int)) = true := beq_iff_eq.2 (by omega)
        clear hR he
        go_wp2_with fail
        refine (must_ok wr).mono ?_
        rintro e w3 ⟨rfl, rfl⟩
        go_wp2_with fail
        go_ret
        exact PstI.ok HR.out.symm rfl F' HS.out
      · rw [if_neg he] at hR
        have HR := Lib.hid hR
        clear hR
        have j2 : ((l.length : Int) == (n : Int)) = false := beq_eq_false_iff_ne.2 (by omega)
        go_wp2_with fail
        refine (must_er wr).mono ?_
        rintro e w3 ⟨rfl, rfl⟩
        go_wp2_with fail
        exact ⟨rfl, PstI.er HR.out.symm rfl F' HS.out.tl⟩
end
end Go.Proofs.Ytgjenpdppobpkaa.If
