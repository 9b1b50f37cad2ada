/-
  inflate: a region whose middle may panic; table, full, few, order, fixed walked.
-/
import Derived.Test.YtgjenpdppobpkaaInJ
namespace Go.Proofs.Ytgjenpdppobpkaa
open Go.RowKit
/-- a post that asks nothing of a panicking frame's slots -/
def PanicAny (Q : Exit → Act → World → Prop) : Exit → Act → World → Prop
  | .panic c, a, w => ∀ a' : Act, a'.defers = a.defers → Q (.panic c) a' w
  | e, a, w => Q e a w
theorem PanicAny.normal {Q : Exit → Act → World → Prop} {a : Act} {w : World} (h : Q .normal a w) : PanicAny Q .normal a w := h
theorem PanicAny.imp {Q : Exit → Act → World → Prop} : ∀ (e : Exit) (a : Act) (w : World), PanicAny Q e a w → Q e a w := fun e a w h => by
  cases e <;> first | exact h | exact h a rfl
theorem PanicAny.put {Q : Exit → Act → World → Prop} : ∀ c a d v w, PanicAny Q (.panic c) (Act.put a d v) w → PanicAny Q (.panic c) a w := fun c a d v w h a' ha => h a' (by rw [ha]; cases d <;> rfl)
section
variable {P : Program} {C : World → Prop} {Q : Exit → Act → World → Prop}
theorem wpAny_midP {a : Act} {w : World} {l : List Oper} (n r : Nat) (hB : midB l.toArray n r = true) (hC : C { w with drawn := w.drawn + 1 })
    (h : wpQuiet P l.toArray C (fun a' => midW P l.toArray (PanicAny Q) C (l.drop (n + r)) ((l.drop n).take r) a' w.drew) (l.take n) a) : wpAny P .any l.toArray (PanicAny Q) l.toArray.size (Array.replicate l.toArray.size false) a { w with drawn := w.drawn + 1 } := by
  simp only [midB, Bool.and_eq_true, decide_eq_true_eq] at hB
  obtain ⟨⟨⟨⟨⟨hsel, hn⟩, hs⟩, hc⟩, hno⟩, hlex⟩ := hB
  have hn' : n + r < l.length := by simpa using hn
  have htl : (l.take n).length = n := by simp; omega
  have hml : ((l.drop n).take r).length = r := by simp; omega
  have hdl : (l.drop (n + r)).length = l.toArray.size - (n + r) := by simp
  have H := anyC_lex (P := P) (ops := l.toArray) (md := .any) (Q := PanicAny Q) (C := C) (m := n + r) (r := r)
    (L := fun listed' a' w' => Region.seqB .any l.toArray (l.toArray.size - (n + r)) (n + r) listed' = true ∧ wpList P l.toArray (PanicAny Q) (l.drop (n + r)) a' w')
    hC PanicAny.put hsel hs hc hn (fun _ _ _ hL => seqB_ready hL.1) (r + (l.toArray.size - (n + r)))
    (fun listed a' hB' h' => by
      have := anyC_mid (P := P) (ops := l.toArray) (md := .any) (Q := PanicAny Q) (C := C) (m := n + r) (g := l.toArray.size - (n + r)) (late := l.drop (n + r)) ((l.drop n).take r) n listed a' { w with drawn := w.drawn + 1 }
        (fun j hj => by rw [hml] at hj; simp [hj, List.getElem?_drop]) (by rw [hml]) (by rw [hml]; rw [show n + r - r = n by omega] at hB'; exact hB') h'
      rw [hml] at this
      exact this)
    (l.take n) 0 (Array.replicate l.toArray.size false) a (fun j hj => by rw [htl] at hj; simp [hj]) (fun o ho => List.all_eq_true.1 hno o (by simpa using ho)) (by rw [htl]; omega) (headInv_start l (n + r)) (by rw [htl]; exact hlex) h
  have := wpAny_of_anyC (Q := PanicAny Q) (g := l.toArray.size - (n + r)) (fun listed a' w' hL => by
    have := wpAny_of_seq (md := .any) (Q' := PanicAny Q) (l.drop (n + r)) (n + r) listed a' w' (fun j => by simp [List.getElem?_drop]) (by rw [hdl]; exact hL.1) hL.2
    rwa [hdl] at this) _ _ _ _ H
  rw [htl, show n + r + (l.toArray.size - (n + r)) = l.toArray.size by omega] at this
  exact this
theorem wp_region_midP {id : Nat} {a : Act} {w : World} {l : List Oper} (n r : Nat) (hm : P.follows .mixedOrders = true) (hB : midB l.toArray n r = true) (hC : C { w with drawn := w.drawn + 1 })
    (h : wpQuiet P l.toArray C (fun a' => midW P l.toArray (PanicAny Q) C (l.drop (n + r)) ((l.drop n).take r) a' w.drew) (l.take n) a) : (Code.region id l.toArray true).wp P Q a w :=
  Code.wp_mono PanicAny.imp (wp_region_any hm (wpAny_midP n r hB hC h))
end
theorem Sep.tl {w0 w : World} {a : Ob} {l : List Ob} (h : Sep w0 w (a :: l)) : Sep w0 w l :=
  ⟨h.ext, fun o ho => h.each o (List.mem_cons_of_mem _ ho), fun o ho => h.base o (List.mem_cons_of_mem _ ho), fun i j o o' hi hj hij => h.apart (i + 1) (j + 1) o o' (by simpa using hi) (by simpa using hj) (by omega)⟩
end Go.Proofs.Ytgjenpdppobpkaa
namespace Go.Proofs.Ytgjenpdppobpkaa.If
open Go.RowKit Bt Hu

def GotTab (w : World) (l : List Int) (e : Ending) (w' : World) : Prop :=
  ∃ tb F, e = .returned (.pointer (some ⟨tb, 0, none⟩)) ∧ Ext [] w w' ∧ (oTab tb F l).P w' ∧ ∀ k ∈ F, w.heap.size ≤ k
set_option maxRecDepth 100000 in
set_option maxHeartbeats 4000000 in
theorem table_walk (v : Value) (l : List Int) (w : World) (hv : IntsArg w v l) (he : codesE l = 0) :
    Calls Try.prog 76 #[v] w (GotTab w l) := by
  have HN := Lib.hid (new_walk v l w hv he)
  clear hv he
  go_enter Try.func76, Try.ntmps76
  go_wp2_with fail
  refine HN.out.mono ?_
  rintro e w1 ⟨tb, F, rfl, hx, hp, hf⟩
  have HH := Lib.hid (⟨hx, hp, hf⟩ : _ ∧ _ ∧ _)
  clear hx hp hf
  go_wp2_with fail
  refine (check_ok w1).mono ?_
  rintro e w2 ⟨rfl, rfl⟩
  go_wp2_with fail
  go_ret
  exact ⟨tb, F, rfl, HH.out⟩
set_option maxRecDepth 100000 in
set_option maxHeartbeats 4000000 in
theorem full_walk (v : Value) (l : List Int) (w : World) (hv : IntsAt w v l) (hl : l.length ≤ 1048576) :
    Calls Try.prog 78 #[v] w fun e w' => e = .returned (.bool (fullB l)) ∧ Ext [] w w' := by
  have HN := state_walk v l w hv hl
  obtain ⟨S, hS⟩ : ∃ S, stateN l = S := ⟨_, rfl⟩
  have hfb : fullB l = (decide (S.2 = 0) && decide (S.1 = 0)) := by
    unfold fullB
    rw [hS, ← Bool.decide_and]
    exact decide_eq_decide.2 ⟨fun h => by subst h; exact ⟨rfl, rfl⟩, fun h => Prod.ext h.2 h.1⟩
  rw [hS] at HN
  rw [hfb]
  have HN := Lib.hid HN
  obtain ⟨s1, s2⟩ := S
  clear hv hfb hS
  simp only at HN ⊢
  by_cases h2 : s2 = 0
  · subst h2
    by_cases h1 : s1 = 0
    · subst h1
      go_enter Try.func78, Try.ntmps78
      go_wp2_with fail
      refine HN.out.mono ?_
      rintro e w1 ⟨rfl, hx⟩
      go_wp2_with fail
      go_ret
      exact ⟨by simp, hx⟩
    · have hb : (s1 == 0) = false := beq_eq_false_iff_ne.2 h1
      go_enter Try.func78, Try.ntmps78
      go_wp2_with fail
      refine HN.out.mono ?_
      rintro e w1 ⟨rfl, hx⟩
      go_wp2_with fail
      go_ret
      exact ⟨by simp [h1], hx⟩
  · have hb : (s2 == 0) = false := beq_eq_false_iff_ne.2 h2
    go_enter Try.func78, Try.ntmps78
    go_wp2_with fail
    refine HN.out.mono ?_
    rintro e w1 ⟨rfl, hx⟩
    go_wp2_with fail
    go_ret
    exact ⟨by simp [h2], hx⟩
theorem sum_bd (l : List Int) (h : ∀ x ∈ l, 0 ≤ x ∧ x ≤ 1000) : 0 ≤ l.sum ∧ l.sum ≤ 1000 * (l.length : Int) := by
  induction l with
  | nil => simp
  | cons x l ih =>
    have h1 := h x (by simp)
    have h2 := ih fun y hy => h y (by simp [hy])
    simp only [List.sum_cons, List.length_cons]
    omega
set_option maxRecDepth 100000 in
set_option maxHeartbeats 4000000 in
theorem few_walk (v : Value) (l : List Int) (w : World) (hv : IntsAt w v l) (hl : l.length ≤ 1000) (hb : ∀ x ∈ l, 0 ≤ x ∧ x ≤ 1000) :
    Calls Try.prog 80 #[v] w fun e w' => e = .returned (.bool (fewB l)) ∧ w = w' := by
  have hbd : ∀ k, 0 ≤ (l.take k).sum ∧ (l.take k).sum ≤ 1000000 := fun k => by
    have := sum_bd (l.take k) fun x hx => hb x (List.mem_of_mem_take hx)
    have h2 : (l.take k).length ≤ l.length := by rw [List.length_take]; omega
    omega
  obtain ⟨ao, cap, rfl, hc⟩ := hv
  have HB := Lib.hid hbd
  have HC := Lib.hid hc
  clear hb hbd hc
  go_enter Try.func80, Try.ntmps80
  go_wp2_with fail
  go_loopg [3, 8] l.length (fun g sv iv wr => ∃ k : Nat, g + k = l.length ∧ iv = .int .i64 k ∧ sv = .int .i64 (l.take k).sum ∧ w = wr)
  case atStart => exact ⟨0, by omega, rfl, rfl, rfl⟩
  case round =>
    obtain ⟨k, hk, rfl, rfl, rfl⟩ := hrel
    by_cases hlt : k < l.length
    · obtain ⟨b, off, rfl, hcell⟩ := HC.out (by omega)
      obtain ⟨x, hx⟩ : ∃ x, l[k]? = some x := ⟨_, List.getElem?_eq_getElem hlt⟩
      have c0 := hcell k x hx
      have hs : (l.take (k + 1)).sum = (l.take k).sum + x := by rw [take_snoc10 l k x hx, List.sum_append]; simp
      have h1 := HB.out k
      have h2 := HB.out (k + 1)
      rw [hs] at h2
      have HS := Lib.hid hs
      clear hcell hx hs
      obtain ⟨y, hy⟩ : ∃ y, (l.take k).sum = y := ⟨_, rfl⟩
      rw [hy] at h1 h2 ⊢
      have HY := Lib.hid hy
      clear hy
      have k1 : (k : Int) < (l.length : Int) := by omega
      go_wp2_with fail
      go_roundg (l.length - (k + 1))
      case measure => omega
      case rel => exact ⟨k + 1, by omega, by go_num, by rw [HS.out, HY.out], rfl⟩
    · obtain rfl : k = l.length := by omega
      rw [List.take_length]
      by_cases h1 : l.sum ≤ 1
      · go_wp2_with fail
        go_ret
        exact ⟨by unfold fewB; simp [h1], rfl⟩
      · have h1' : 1 < l.sum := by omega
        go_wp2_with fail
        go_ret
        exact ⟨by unfold fewB; simp [h1], rfl⟩
theorem fix_codes : codesE fixL = 0 ∧ codesE fixD = 0 := by decide +kernel
theorem fix_len : fixL.length = 288 ∧ fixD.length = 30 := by decide +kernel
section
variable {w0 w : World} {L : List Ob} {j ub rb : Nat} {F : List Nat} {s : ByteArray} {B p : Nat} {out : List Nat}
theorem Pst.drop {α : Type} {o : Ob} {e : Ending} {w' : World} {enc : α → Value} {R : Rs α} (h : Pst w0 (o :: L) (j + 1) ub rb s B enc R e w') : Pst w0 L j ub rb s B enc R e w' := by
  cases R with
  | ok a p out => obtain ⟨h1, F, S⟩ := h; exact ⟨h1, F, S.tl⟩
  | er er out => obtain ⟨h1, F, p, S⟩ := h; exact ⟨h1, F, p, S.tl⟩
set_option maxRecDepth 100000 in
set_option maxHeartbeats 8000000 in
theorem a_fixed (hj : j < L.length) (S : Sep w0 w (L.set j (oRun ub rb F s B p out))) (hs : s.size ≤ 1048576) (hp : p ≤ 8 * s.size) (hB : B ≤ 1099511627776) :
    Calls Try.prog 62 #[.pointer (some ⟨ub, 0, none⟩)] w (Pst w0 L j ub rb s B unit9 (codedR s B fixL fixD p out)) := by
  obtain ⟨hc1, hc2⟩ := fix_codes
  obtain ⟨hl1, hl2⟩ := fix_len
  have HS := Lib.hid S
  obtain ⟨X, hX⟩ : ∃ X, fixL = X := ⟨_, rfl⟩
  obtain ⟨Y, hY⟩ : ∃ Y, fixD = Y := ⟨_, rfl⟩
  have hfw := fixed_walk w
  rw [hX, hY] at hfw
  rw [hX] at hc1 hl1 ⊢
  rw [hY] at hc2 hl2 ⊢
  have HW := Lib.hid (⟨hfw, hc1, hc2, hl1, hl2⟩ : _ ∧ _ ∧ _ ∧ _ ∧ _)
  clear S hX hY hfw hc1 hc2 hl1 hl2
  go_enter Try.func62, Try.ntmps62
  go_wp2_with fail
  refine HW.out.1.mono ?_
  rintro e w1 ⟨a1, k1, a2, k2, rfl, hx, h1, h2, h3, h4⟩
  have HS := Lib.hid (HS.out.quiet hx)
  have H1 := Lib.hid (⟨IntsArg.of_own h1, IntsArg.of_own h2⟩ : _ ∧ _)
  clear hx h1 h2 h3 h4
  go_wp2_with fail
  refine (table_walk _ X w1 H1.out.1 HW.out.2.1).mono ?_
  rintro e w2 ⟨t1, F1, rfl, hx, hp1, hf1⟩
  have HS := Lib.hid (HS.out.new hx (oTab t1 F1 X) hp1 hf1)
  have H2 := Lib.hid (H1.out.2.ext hx)
  clear hx hp1 hf1
  go_wp2_with fail
  refine (table_walk _ Y w2 H2.out HW.out.2.2.1).mono ?_
  rintro e w3 ⟨t2, F2, rfl, hx, hp1, hf1⟩
  have HS := Lib.hid (HS.out.new hx (oTab t2 F2 Y) hp1 hf1)
  clear hx hp1 hf1
  go_wp2_with fail
  refine (a_coded (L := oTab t2 F2 Y :: oTab t1 F1 X :: L) (j := j + 2) 1 0 (by omega) (by omega) (by simp; omega) rfl rfl HS.out (by have := HW.out.2.2.2.1; omega) (by have := HW.out.2.2.2.2; omega) hs hp hB).mono ?_
  intro e w4 h
  have h := Pst.drop (Pst.drop h)
  cases hR : codedR s B X Y p out with
  | er er o =>
    rw [hR] at h
    obtain ⟨rfl, F', p', S⟩ := h
    have HR := Lib.hid hR
    clear hR
    go_wp2_with fail
    exact ⟨rfl, Pst.er rfl rfl F' S⟩
  | ok u q o =>
    rw [hR] at h
    obtain ⟨rfl, F', S⟩ := h
    have HS := Lib.hid S
    have HR := Lib.hid hR
    clear S hR
    go_wp2_with fail
    go_end0
    exact Pst.ok HR.out rfl F' HS.out
end
end Go.Proofs.Ytgjenpdppobpkaa.If
