/-
  xstream.Put walked.
-/
import Derived.Test.YtkaimeogebgofaaDoorXsB
namespace Go.Proofs.YtkaimeogebgofaaDoor.Xs
open Go.RowKit
open Go.Proofs.YtkaimeogebgofaaDoor.Tr

def S8 (l : List UInt8) : ByteArray := ⟨l.toArray⟩
abbrev c8 (b : UInt8) : Value := .int .u8 ((b.toNat : Nat) : Int)
theorem infoB21 : (Tryd.prog.info? 5).map (fun i => (i.zero, i.size, i.bytes)) = some (some (.int .u8 0), 1, 1) := by kernel_rfl
set_option maxRecDepth 100000 in
theorem run_text21 {w : World} {v : Value} {n : Nat} {l : List UInt8} (h : w.ownsRow 0 5 1 v n (l.map c8)) : (convert 38 9 v).run Tryd.prog w = .ok (.string (S8 l)) w := by
  rcases h.2 with ⟨rfl, h0⟩ | ⟨g, cap, cur, rfl, _, hg, hnc, _, hcs, htake⟩
  · have hx : l = [] := by have := h.1; simp [h0] at this; exact this
    subst hx
    exact run_convert_bytes_nil w 38 5 Tryd.underlying38 Tryd.underlying5 0 0 9 Tryd.underlying9
  · have hl : l.length = n := by have := h.1; simpa using this
    have := run_convert_bytes_arg w 38 5 Tryd.underlying38 Tryd.underlying5 g 0 n cap (l.map fun b => ((b.toNat : Nat) : Int)) (by simpa using hl) (fun i hi => by
      have := ownsRow_at (i := i) (u := c8 (l.getD i 0)) h (by rw [List.getElem?_map, List.getElem?_eq_getElem (by omega), List.getD_eq_getElem?_getD, List.getElem?_eq_getElem (by omega)]; rfl)
      rw [Nat.zero_add, this]
      simp [c8, List.getD_eq_getElem?_getD]
      cases l[i]? <;> rfl) 9 Tryd.underlying9
    have e : strOfNums (l.map fun b => ((b.toNat : Nat) : Int)) = S8 l := by
      simp only [strOfNums, S8, List.map_map]
      congr 2
      refine (List.map_congr_left (fun b _ => ?_)).trans (List.map_id l)
      simp
    rw [e] at this
    exact this
def badE (size : Int) (x : En) : Bool := decide (size ≤ x.num) || decide (4294967295 < x.a)
def badI (size : Int) : List En → Nat → Int
  | [], _ => -1
  | x :: r, k => if badE size x then k else badI size r (k + 1)
theorem badI_any (size : Int) : ∀ (l : List En) (k : Nat), decide (0 ≤ badI size l k) = l.any (badE size)
  | [], k => by simp [badI]
  | x :: r, k => by
    rw [badI, List.any_cons]
    cases h : badE size x
    · rw [if_neg (by simp), badI_any size r, Bool.false_or]
    · rw [if_pos rfl, Bool.true_or]
      simp
set_option maxRecDepth 100000 in
set_option maxHeartbeats 2000000 in
theorem put1_walk (x : En) (size : Int) (q : Nat) (w : World) (hq : w.cell? ⟨q, 0, none⟩ = some (.int .i64 size)) :
    Calls Tryd.prog 11 #[enV x, .pointer (some ⟨q, 0, none⟩)] w fun e w' => e = .returned (.bool (badE size x)) ∧ Ext [] w w' := by
  obtain ⟨num, kind, a, b⟩ := x
  have hq1 := ((Ext.refl [] w).alloc (.cells #[.int .i64 num, .int .i64 kind, .int .i64 a, .int .i64 b] 32)).cell hq
  by_cases h1 : size ≤ num
  · have hR : badE size ⟨num, kind, a, b⟩ = true := by simp [badE, h1]
    rw [hR]
    clear hR hq
    go_enter Tryd.func11, Tryd.ntmps11
    go_wp2_with fail
    go_ret
    exact ⟨rfl, (Ext.refl [] w).alloc _⟩
  by_cases h2 : 4294967295 < a
  · have hR : badE size ⟨num, kind, a, b⟩ = true := by simp [badE, h2]
    rw [hR]
    clear hR hq
    go_enter Tryd.func11, Tryd.ntmps11
    go_wp2_with fail
    go_ret
    exact ⟨rfl, (Ext.refl [] w).alloc _⟩
  have hR : badE size ⟨num, kind, a, b⟩ = false := by simp [badE]; omega
  rw [hR]
  have hd : decide (4294967295 < a) = false := decide_eq_false h2
  clear hR hq
  go_enter Tryd.func11, Tryd.ntmps11
  go_wp2_with fail
  go_ret
  exact ⟨rfl, (Ext.refl [] w).alloc _⟩
set_option maxRecDepth 100000 in
set_option maxHeartbeats 8000000 in
theorem idx21_walk (v : Value) (l : List En) (size : Int) (q : Nat) (w : World) (h : EnsAt w v l) (hq : w.cell? ⟨q, 0, none⟩ = some (.int .i64 size)) (hl : l.length ≤ 1048576) :
    Calls Tryd.prog 23 #[v, .func (.func 11) #[] #[.pointer (some ⟨q, 0, none⟩)]] w fun e w' => e = .returned (.int .i64 (badI size l 0)) ∧ Ext [] w w' := by
  obtain ⟨base, cap, rfl, -, hT⟩ := h
  obtain ⟨n, hln⟩ : ∃ n, l.length = n := ⟨_, rfl⟩
  obtain ⟨R, hR⟩ : ∃ R, badI size l 0 = R := ⟨_, rfl⟩
  have HH := Lib.hid (⟨hT, hln, hR, hq⟩ : _ ∧ _ ∧ _ ∧ _)
  rw [hR]
  rw [hln] at hl ⊢
  clear hT hln hR hq
  go_enter Tryd.func23, Tryd.ntmps23
  go_wp2_with fail
  go_loopg [4, 5, 8] n (fun g v4 v5 iv wr => ∃ i : Nat, g + i = n ∧ iv = .int .i64 i ∧ badI size (l.drop i) i = R ∧ Ext [] w wr)
  case atStart => exact ⟨0, by omega, rfl, HH.out.2.2.1, Ext.refl _ _⟩
  case round =>
    obtain ⟨i, hgi, rfl, hR, hx⟩ := hrel
    by_cases hlt : i < n
    · obtain ⟨g, rfl⟩ : ∃ g, gk = g + 1 := ⟨gk - 1, by omega⟩
      have hltz : (i : Int) < (n : Int) := by omega
      have hil : i < l.length := by rw [HH.out.2.1]; exact hlt
      rw [drop_at l i hil, badI] at hR
      obtain ⟨b, o, rfl, n1, n2, n3, n4⟩ := HH.out.1.ext hx i hil
      generalize l[i]'hil = x at *
      have H := Lib.hid (put1_walk x size q wr (hx.cell HH.out.2.2.2))
      have HX := Lib.hid (⟨hx, hR⟩ : _ ∧ _)
      clear hx hR
      cases hb : badE size x with
      | false =>
        rw [hb] at H HX
        go_wp2_with fail
        refine H.out.mono ?_
        rintro ee w2 ⟨rfl, hx2⟩
        have HX2 := Lib.hid (HX.out.1.trans hx2)
        clear hx2 H n1 n2 n3 n4
        go_wp2_with fail
        go_roundg g
        case measure => omega
        case rel => exact ⟨i + 1, by omega, by go_num, by simpa using HX.out.2, HX2.out⟩
      | true =>
        rw [hb] at H HX
        have hRi : R = (i : Int) := by have := HX.out.2; rw [if_pos rfl] at this; exact this.symm
        subst hRi
        go_wp2_with fail
        refine H.out.mono ?_
        rintro ee w2 ⟨rfl, hx2⟩
        have HX2 := Lib.hid (HX.out.1.trans hx2)
        clear hx2 H n1 n2 n3 n4
        go_wp2_with fail
        go_ret
        exact ⟨rfl, HX2.out⟩
    · obtain rfl : gk = 0 := by omega
      have hR0 : R = -1 := by rw [← hR, List.drop_eq_nil_of_le (by rw [HH.out.2.1]; omega)]; rfl
      subst hR0
      have HX := Lib.hid hx
      clear hx hR
      go_wp2_with fail
      go_ret
      exact ⟨rfl, HX.out⟩
set_option maxRecDepth 100000 in
set_option maxHeartbeats 2000000 in
theorem cont21_walk (v : Value) (l : List En) (size : Int) (q : Nat) (w : World) (h : EnsAt w v l) (hq : w.cell? ⟨q, 0, none⟩ = some (.int .i64 size)) (hl : l.length ≤ 1048576) :
    Calls Tryd.prog 10 #[v, .func (.func 11) #[] #[.pointer (some ⟨q, 0, none⟩)]] w fun e w' => e = .returned (.bool (l.any (badE size))) ∧ Ext [] w w' := by
  have HI := Lib.hid (idx21_walk v l size q w h hq hl)
  rw [← badI_any size l 0]
  obtain ⟨base, cap, rfl, -, -⟩ := h
  generalize badI size l 0 = R at *
  clear hq
  go_enter Tryd.func10, Tryd.ntmps10
  go_wp2_with fail
  refine HI.out.mono ?_
  rintro ee w2 ⟨rfl, hx2⟩
  have HX := Lib.hid hx2
  clear hx2 HI
  go_wp2_with fail
  go_ret
  exact ⟨rfl, HX.out⟩
/-! ### seven cells -/
theorem set7 {α : Type} (a b c d e f g : α) : ∀ (p : Nat) (xs : List α), p + 7 ≤ xs.length → xs.take p ++ [a, b, c, d, e, f, g] ++ xs.drop (p + 7) = ((((((xs.set p a).set (p + 1) b).set (p + 2) c).set (p + 3) d).set (p + 4) e).set (p + 5) f).set (p + 6) g
  | 0, x0 :: x1 :: x2 :: x3 :: x4 :: x5 :: x6 :: r, _ => rfl
  | 0, [], h | 0, [_], h | 0, [_, _], h | 0, [_, _, _], h | 0, [_, _, _, _], h | 0, [_, _, _, _, _], h | 0, [_, _, _, _, _, _], h => by simp at h
  | p + 1, [], h => by simp at h
  | p + 1, x :: r, h => by
    have ih := set7 a b c d e f g p r (by simpa using h)
    show x :: (r.take p ++ [a, b, c, d, e, f, g] ++ r.drop (p + 7)) = x :: _
    rw [ih]
    try rfl
theorem u8_val (n : Int) : c8 (u8n (n % 256)) = .int .u8 (n % 256) := by
  have : ((u8n (n % 256)).toNat : Int) = n % 256 := by
    have h2 : (n % 256).toNat < 256 := by omega
    have : (u8n (n % 256)).toNat = (n % 256).toNat := by simp [u8n, Nat.mod_eq_of_lt h2]
    rw [this]
    omega
  show Value.int .u8 (((u8n (n % 256)).toNat : Nat) : Int) = _
  rw [this]
end Go.Proofs.YtkaimeogebgofaaDoor.Xs
