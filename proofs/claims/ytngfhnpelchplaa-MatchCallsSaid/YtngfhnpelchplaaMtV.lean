/-
  The document's answer (pagemenderref09): All, Check, Size, Expand walked; pagemenderkit.Own.
-/
import Derived.Test.YtngfhnpelchplaaMtU
namespace Go.Proofs.Ytngfhnpelchplaa.Mt
open Go.RowKit

set_option maxRecDepth 100000 in
set_option maxHeartbeats 8000000 in
theorem rAll_walk (s : ByteArray) (w : World) (hs : s.size ≤ 1048576) :
    Calls Try.prog 22 #[.string s] w fun e w' => ∃ v, e = .returned v ∧ Ext [] w w' ∧ PcAt w' v (allN s) := by
  obtain ⟨i0, hif, hz0, hz1, hz2⟩ := info_parts infoPiece
  obtain ⟨R, hR⟩ : ∃ R, allN s = R := ⟨_, rfl⟩
  rw [hR]
  unfold allN at hR
  have HR := Lib.hid hR
  clear hR
  go_enter Try.func22, Try.ntmps22
  go_wp2_with fail
  have HS := Lib.hid ((Sep.start w).new (Ext.refl _ _) (oSl 34 3 (.slice none 0 0) 0 (pcC [])) (World.ownsRow_nil _ _ _ _) (fun q hq => by simp [oSl, Value.ownBlock] at hq))
  go_loopg [3, 4] (s.size + 1) (fun g ov iv wr => ∃ (p : Nat) (L : List Pc), iv = .int .i64 p ∧ p ≤ s.size ∧ s.size < p + g ∧ L.length ≤ p ∧ L ++ allF s g p = R ∧ Sep w wr [oSl 34 3 ov L.length (pcC L)])
  case atStart => exact ⟨0, [], rfl, by omega, by omega, by simp, HR.out, HS.out⟩
  case round =>
    clear HS HR
    obtain ⟨p, L, rfl, hp, hg, hLp, hR, S⟩ := hrel
    have HR := Lib.hid hR
    clear hR
    by_cases hlt : p < s.size
    · obtain ⟨g', rfl⟩ : ∃ g', gk = g' + 1 := ⟨gk - 1, by omega⟩
      have hfit := findN_fit s p hp
      have hR := HR.out
      rw [allF, if_pos hlt] at hR
      have HR := Lib.hid hR
      clear hR
      have HS := Lib.hid S
      clear S
      go_wp2_with fail
      refine (rFind_walk s p wr hs hlt).mono ?_
      rw [rfN_eq s p hp]
      rintro e w2 ⟨rfl, hx2⟩
      have HS := Lib.hid (HS.out.quiet hx2)
      clear hx2
      obtain ⟨n, hn⟩ : ∃ n, (findN s p).1 = n := ⟨_, rfl⟩
      obtain ⟨d, hd⟩ : ∃ d, (findN s p).2 = d := ⟨_, rfl⟩
      rw [hn] at hfit
      rw [hn, hd] at HR
      rw [hn, hd]
      clear hn hd
      have hown : w2.ownsRow 0 34 3 u3 L.length (pcC L) := HS.out.get 0 rfl
      by_cases h0 : 0 < n
      · have q0 : ((n : Int) == 0) = false := beq_eq_false_iff_ne.2 (by omega)
        have hR := HR.out
        rw [if_pos h0] at hR
        have HR := Lib.hid hR
        clear hR
        go_wp2_with (first | (at_builtin; refine wpList_append_lies _ rfl _ _ 23 rfl 0 34 i0 _ 3 24 Try.underlying23 hif hz0 hz1 hz2 rfl (by decide) u3 L.length _ rfl (World.ownsRow.alloc hown _) ⟨w2.heap.size, 0, none⟩ 1 1 (pcC [(0, (n : Int), (d : Int))]) rfl rfl (cells_pc w2 0 n d _) (by simp [pcC, Value.oneCell']) (by decide) (by unfold maxLen; omega) (by omega) (by omega) (w2.heap.size + 1) (by simp) ?_; intro g cap2 w6 hown1 hgrow hat hlt6))
        go_roundg g'
        case measure => omega
        case rel =>
          have P := push_local (cap := cap2) (n := L.length + 1) hgrow hat
          have Q := HS.out.upd 0 (oSl 34 3 (.slice (some ⟨g, 0, none⟩) (L.length + 1) cap2) (L.length + 1) (pcC (L ++ [((0 : UInt8), (n : Int), (d : Int))]))) rfl P.1 P.2 (by rw [pcC_append]; have hown2 := hown1; simpa [oSl] using hown2)
          refine ⟨p + n, L ++ [((0 : UInt8), (n : Int), (d : Int))], by go_num, by omega, by omega, by simp; omega, ?_, by simpa using Q⟩
          rw [List.append_assoc]
          exact HR.out
      · obtain rfl : n = 0 := by omega
        have hR := HR.out
        rw [if_neg h0, ← bget s p hlt] at hR
        have hlt2 : (p : Int) < (s.size : Int) := by omega
        obtain ⟨x, hx⟩ : ∃ x, s[p]'hlt = x := ⟨_, rfl⟩
        rw [hx] at hR
        have HR := Lib.hid hR
        clear hR hfit
        go_wp2_with (first | (at_builtin; refine wpList_append_lies _ rfl _ _ 23 rfl 0 34 i0 _ 3 24 Try.underlying23 hif hz0 hz1 hz2 rfl (by decide) u3 L.length _ rfl (World.ownsRow.alloc hown _) ⟨w2.heap.size, 0, none⟩ 1 1 (pcC [(x, 0, 0)]) rfl rfl (cells_pc w2 x 0 0 _) (by simp [pcC, Value.oneCell']) (by decide) (by unfold maxLen; omega) (by omega) (by omega) (w2.heap.size + 1) (by simp) ?_; intro g cap2 w6 hown1 hgrow hat hlt6))
        go_roundg g'
        case measure => omega
        case rel =>
          have P := push_local (cap := cap2) (n := L.length + 1) hgrow hat
          have Q := HS.out.upd 0 (oSl 34 3 (.slice (some ⟨g, 0, none⟩) (L.length + 1) cap2) (L.length + 1) (pcC (L ++ [(x, (0 : Int), (0 : Int))]))) rfl P.1 P.2 (by rw [pcC_append]; have hown2 := hown1; simpa [oSl] using hown2)
          refine ⟨p + 1, L ++ [(x, (0 : Int), (0 : Int))], by go_num, by omega, by omega, by simp; omega, ?_, by simpa using Q⟩
          rw [List.append_assoc]
          exact HR.out
    · obtain rfl : p = s.size := by omega
      have hR := HR.out
      have e : allF s gk s.size = [] := by cases gk <;> simp [allF]
      rw [e, List.append_nil] at hR
      subst hR
      have HS := Lib.hid S
      clear S HR e
      go_wp2_with fail
      go_ret
      exact ⟨_, rfl, HS.out.ext, PcAt.of_own (HS.out.get 0 rfl)⟩
theorem mayP_not (p : Pc) (h : mayP p = false) : (p.2.1 = 0 ∧ p.2.2 ≠ 0) ∨ (p.2.1 ≠ 0 ∧ p.1 ≠ 0) ∨ (p.2.1 ≠ 0 ∧ p.1 = 0 ∧ p.2.1 < 3) ∨ (p.1 = 0 ∧ 3 ≤ p.2.1 ∧ 258 < p.2.1) ∨ (p.1 = 0 ∧ 3 ≤ p.2.1 ∧ p.2.1 ≤ 258 ∧ p.2.2 < 1) ∨ (p.1 = 0 ∧ 3 ≤ p.2.1 ∧ p.2.1 ≤ 258 ∧ 1 ≤ p.2.2 ∧ 32768 < p.2.2) := by
  unfold mayP mayB at h
  split at h
  · rename_i h0
    exact .inl ⟨h0, by simpa using h⟩
  · rename_i h0
    have h := of_decide_eq_false h
    by_cases h1 : p.1 = 0
    · by_cases h2 : 3 ≤ p.2.1
      · by_cases h3 : p.2.1 ≤ 258
        · by_cases h4 : 1 ≤ p.2.2
          · exact .inr (.inr (.inr (.inr (.inr ⟨h1, h2, h3, h4, by have : ¬ p.2.2 ≤ 32768 := fun h5 => h ⟨h1, h2, h3, h4, h5⟩; omega⟩))))
          · exact .inr (.inr (.inr (.inr (.inl ⟨h1, h2, h3, by omega⟩))))
        · exact .inr (.inr (.inr (.inl ⟨h1, h2, by omega⟩)))
      · exact .inr (.inr (.inl ⟨h0, h1, by omega⟩))
    · exact .inr (.inl ⟨h0, h1⟩)
set_option maxRecDepth 100000 in
set_option maxHeartbeats 8000000 in
theorem rCheck_walk (v : Value) (l : List Pc) (w : World) (hv : PcAt w v l) (hl : l.length ≤ 1048576) :
    Calls Try.prog 23 #[v] w fun e w' => e = .returned (.int .i64 (chkN l)) ∧ Ext [] w w' := by
  obtain ⟨ao, cap, rfl, hc⟩ := hv
  have HC := Lib.hid hc
  clear hc
  cases hb : badN l
  · obtain ⟨R, hR⟩ : ∃ R, chkL l 0 = R := ⟨_, rfl⟩
    have e : chkN l = R := by unfold chkN; rw [hb]; exact hR
    rw [e]
    have HB := Lib.hid hb
    have HR := Lib.hid hR
    clear hb hR e
    go_enter Try.func23, Try.ntmps23
    go_wp2_with fail
    go_loopg [3] l.length (fun g iv wr => ∃ k : Nat, g + k = l.length ∧ iv = .int .i64 k ∧ Ext [] w wr)
    case atStart => exact ⟨0, by omega, rfl, Ext.refl _ _⟩
    case round =>
      obtain ⟨k, hk, rfl, hx⟩ := hrel
      have HX := Lib.hid hx
      clear hx
      by_cases hlt : k < l.length
      · obtain ⟨b, off, rfl, hcell⟩ := HC.out (by omega)
        obtain ⟨x, hxk⟩ : ∃ x, l[k]? = some x := ⟨_, List.getElem?_eq_getElem hlt⟩
        obtain ⟨c0, c1, c2⟩ := hcell k x hxk
        have d0 := Ext.cell HX.out c0
        have d1 := Ext.cell HX.out c1
        have d2 := Ext.cell HX.out c2
        have hm : mayP x = true := by
          have h := HB.out
          unfold badN at h
          rw [List.any_eq_false] at h
          simpa using h x (List.mem_of_getElem? hxk)
        have hm := mayP_iff x hm
        obtain ⟨xb, xl, xd⟩ := x
        simp only at d0 d1 d2 hm
        clear hcell c0 c1 c2 hxk
        rcases hm with ⟨rfl, rfl⟩ | ⟨rfl, hl3, hl4, hd3, hd4⟩
        · go_wp2_with fail
          all_goals
            go_roundg (l.length - (k + 1))
            case measure => omega
            case rel => exact ⟨k + 1, by omega, by go_num, HX.out.alloc _⟩
        · have hl0 : (xl == 0) = false := beq_eq_false_iff_ne.2 (by omega)
          have d0' : wr.cell? ⟨b, off + k * 3, none⟩ = some (.int .u8 0) := d0
          clear d0
          go_wp2_with fail
          go_roundg (l.length - (k + 1))
          case measure => omega
          case rel => exact ⟨k + 1, by omega, by go_num, HX.out.alloc _⟩
      · obtain rfl : k = l.length := by omega
        go_wp2_with fail
        go_loopg [7, 8] l.length (fun g nv iv wr => ∃ (k : Nat) (n : Int), g + k = l.length ∧ iv = .int .i64 k ∧ nv = .int .i64 n ∧ 0 ≤ n ∧ n ≤ 258 * k ∧ chkL (l.drop k) n = R ∧ Ext [] w wr)
        case atStart => exact ⟨0, 0, by omega, rfl, rfl, by omega, by omega, HR.out, HX.out⟩
        case round =>
          clear HR HX
          obtain ⟨k, n, hk, rfl, rfl, hn0, hn1, hR, hx⟩ := hrel
          have HX := Lib.hid hx
          clear hx
          by_cases hlt : k < l.length
          · obtain ⟨b, off, rfl, hcell⟩ := HC.out (by omega)
            obtain ⟨x, hxk⟩ : ∃ x, l[k]? = some x := ⟨_, List.getElem?_eq_getElem hlt⟩
            obtain ⟨c0, c1, c2⟩ := hcell k x hxk
            have d0 := Ext.cell HX.out c0
            have d1 := Ext.cell HX.out c1
            have d2 := Ext.cell HX.out c2
            have hm : mayP x = true := by
              have h := HB.out
              unfold badN at h
              rw [List.any_eq_false] at h
              simpa using h x (List.mem_of_getElem? hxk)
            have hm := mayP_iff x hm
            rw [drop_at hxk, chkL] at hR
            obtain ⟨xb, xl, xd⟩ := x
            simp only at d0 d1 d2 hm hR
            clear hcell c0 c1 c2 hxk
            by_cases hd : n < xd
            · rw [if_pos hd] at hR
              subst hR
              clear hm
              go_wp2_with fail
              go_ret
              exact ⟨rfl, HX.out⟩
            · rw [if_neg hd] at hR
              have hd' : xd ≤ n := by omega
              rcases hm with ⟨rfl, _⟩ | ⟨_, hl3, hl4, _⟩
              · have HR := Lib.hid hR
                clear hR hd
                go_wp2_with fail
                go_roundg (l.length - (k + 1))
                case measure => omega
                case rel => exact ⟨k + 1, n + 1, by omega, by go_num, rfl, by omega, by omega, HR.out, HX.out⟩
              · rw [Int.max_eq_right (by omega : (1 : Int) ≤ xl)] at hR
                have HR := Lib.hid hR
                have hl1 : 1 ≤ xl := by omega
                clear hR hd
                go_wp2_with fail
                go_roundg (l.length - (k + 1))
                case measure => omega
                case rel => exact ⟨k + 1, n + xl, by omega, by go_num, by (first | rfl | rw [Int.max_eq_right hl1]), by omega, by omega, HR.out, HX.out⟩
          · obtain rfl : k = l.length := by omega
            rw [List.drop_length] at hR
            have HR := Lib.hid hR
            clear hR
            go_wp2_with fail
            go_ret
            exact ⟨by rw [← HR.out]; rfl, HX.out⟩
  · have e : chkN l = 2 := by unfold chkN; rw [hb]; rfl
    rw [e]
    have HB := Lib.hid hb
    clear hb e
    go_enter Try.func23, Try.ntmps23
    go_wp2_with fail
    go_loopg [3] l.length (fun g iv wr => ∃ k : Nat, g + k = l.length ∧ iv = .int .i64 k ∧ badN (l.drop k) = true ∧ Ext [] w wr)
    case atStart => exact ⟨0, by omega, rfl, HB.out, Ext.refl _ _⟩
    case round =>
      clear HB
      obtain ⟨k, hk, rfl, hb, hx⟩ := hrel
      have HX := Lib.hid hx
      clear hx
      by_cases hlt : k < l.length
      · obtain ⟨b, off, rfl, hcell⟩ := HC.out (by omega)
        obtain ⟨x, hxk⟩ : ∃ x, l[k]? = some x := ⟨_, List.getElem?_eq_getElem hlt⟩
        obtain ⟨c0, c1, c2⟩ := hcell k x hxk
        have d0 := Ext.cell HX.out c0
        have d1 := Ext.cell HX.out c1
        have d2 := Ext.cell HX.out c2
        rw [drop_at hxk] at hb
        obtain ⟨xb, xl, xd⟩ := x
        simp only at d0 d1 d2
        clear hcell c0 c1 c2 hxk
        cases hm : mayP (xb, xl, xd)
        · have hm := mayP_not _ hm
          simp only at hm
          clear hb
          rcases hm with ⟨rfl, h1⟩ | ⟨h0, h1⟩ | ⟨h0, rfl, h1⟩ | ⟨rfl, h1, h2⟩ | ⟨rfl, h1, h2, h3⟩ | ⟨rfl, h1, h2, h3, h4⟩
          · have q1 : (xd == 0) = false := beq_eq_false_iff_ne.2 h1
            by_cases hx : xb = 0
            · subst hx
              have d0' : wr.cell? ⟨b, off + k * 3, none⟩ = some (.int .u8 0) := d0
              clear d0 h1
              go_wp2_with fail
              go_ret
              exact ⟨rfl, HX.out.alloc _⟩
            · have q2 : (((xb.toNat : Nat) : Int) == 0) = false := beq_eq_false_iff_ne.2 (fun h => hx (UInt8.toNat_inj.1 (by simpa using h)))
              clear h1 hx
              go_wp2_with fail
              go_ret
              exact ⟨rfl, HX.out.alloc _⟩
          · have q1 : (xl == 0) = false := beq_eq_false_iff_ne.2 h0
            have q2 : (((xb.toNat : Nat) : Int) == 0) = false := beq_eq_false_iff_ne.2 (fun h => h1 (UInt8.toNat_inj.1 (by simpa using h)))
            clear h1 h0
            go_wp2_with fail
            go_ret
            exact ⟨rfl, HX.out.alloc _⟩
          all_goals
            have q1 : (xl == 0) = false := beq_eq_false_iff_ne.2 (by omega)
            have d0' : wr.cell? ⟨b, off + k * 3, none⟩ = some (.int .u8 0) := d0
            try have q9 : decide (xd ≤ 32768) = false := decide_eq_false (by omega)
            clear d0
            go_wp2_with fail
            go_ret
            exact ⟨rfl, HX.out.alloc _⟩
        · have hb' : badN (l.drop (k + 1)) = true := by
            unfold badN at hb ⊢
            rw [List.any_cons, hm] at hb
            simpa using hb
          have HB := Lib.hid hb'
          have hm := mayP_iff _ hm
          simp only at hm
          clear hb hb'
          rcases hm with ⟨rfl, rfl⟩ | ⟨rfl, hl3, hl4, hd3, hd4⟩
          · go_wp2_with fail
            all_goals
              go_roundg (l.length - (k + 1))
              case measure => omega
              case rel => exact ⟨k + 1, by omega, by go_num, HB.out, HX.out.alloc _⟩
          · have hl0 : (xl == 0) = false := beq_eq_false_iff_ne.2 (by omega)
            have d0' : wr.cell? ⟨b, off + k * 3, none⟩ = some (.int .u8 0) := d0
            clear d0
            go_wp2_with fail
            go_roundg (l.length - (k + 1))
            case measure => omega
            case rel => exact ⟨k + 1, by omega, by go_num, HB.out, HX.out.alloc _⟩
      · obtain rfl : k = l.length := by omega
        rw [List.drop_length] at hb
        cases hb
set_option maxRecDepth 100000 in
set_option maxHeartbeats 8000000 in
theorem rSize_walk (v : Value) (l : List Pc) (w : World) (hv : PcAt w v l) (hl : l.length ≤ 1048576) :
    Calls Try.prog 24 #[v] w fun e w' => e = .returned (.int .i64 (sizN l)) ∧ Ext [] w w' := by
  have HI := Lib.hid (rCheck_walk v l w hv hl)
  obtain ⟨ao, cap, rfl, hc⟩ := hv
  have HC := Lib.hid hc
  clear hc
  by_cases h0 : chkN l = 0
  · obtain ⟨R, hR⟩ : ∃ R, sumL l 0 = R := ⟨_, rfl⟩
    have e : sizN l = R := by unfold sizN; rw [if_pos h0]; exact hR
    rw [e]
    obtain ⟨hb, _⟩ := chk_zero h0
    have HB := Lib.hid hb
    have HR := Lib.hid hR
    rw [h0] at HI
    clear hb hR e h0
    go_enter Try.func24, Try.ntmps24
    go_wp2_with fail
    refine HI.out.mono ?_
    rintro e w1 ⟨rfl, hx1⟩
    have HX1 := Lib.hid hx1
    clear hx1
    go_wp2_with fail
    go_loopg [3, 4] l.length (fun g nv iv wr => ∃ (k : Nat) (n : Int), g + k = l.length ∧ iv = .int .i64 k ∧ nv = .int .i64 n ∧ 0 ≤ n ∧ n ≤ 258 * k ∧ sumL (l.drop k) n = R ∧ Ext [] w wr)
    case atStart => exact ⟨0, 0, by omega, rfl, rfl, by omega, by omega, HR.out, HX1.out⟩
    case round =>
      clear HR HX1
      obtain ⟨k, n, hk, rfl, rfl, hn0, hn1, hR, hx⟩ := hrel
      have HX := Lib.hid hx
      clear hx
      by_cases hlt : k < l.length
      · obtain ⟨b, off, rfl, hcell⟩ := HC.out (by omega)
        obtain ⟨x, hxk⟩ : ∃ x, l[k]? = some x := ⟨_, List.getElem?_eq_getElem hlt⟩
        obtain ⟨c0, c1, c2⟩ := hcell k x hxk
        have d0 := Ext.cell HX.out c0
        have d1 := Ext.cell HX.out c1
        have d2 := Ext.cell HX.out c2
        have hm : mayP x = true := by
          have h := HB.out
          unfold badN at h
          rw [List.any_eq_false] at h
          simpa using h x (List.mem_of_getElem? hxk)
        have hm := mayP_iff x hm
        rw [drop_at hxk, sumL] at hR
        obtain ⟨xb, xl, xd⟩ := x
        simp only at d0 d1 d2 hm hR
        clear hcell c0 c1 c2 hxk
        rcases hm with ⟨rfl, _⟩ | ⟨_, hl3, hl4, _⟩
        · have HR := Lib.hid hR
          clear hR
          go_wp2_with fail
          go_roundg (l.length - (k + 1))
          case measure => omega
          case rel => exact ⟨k + 1, n + 1, by omega, by go_num, rfl, by omega, by omega, HR.out, HX.out⟩
        · rw [Int.max_eq_right (by omega : (1 : Int) ≤ xl)] at hR
          have HR := Lib.hid hR
          have hl1 : 1 ≤ xl := by omega
          clear hR
          go_wp2_with fail
          go_roundg (l.length - (k + 1))
          case measure => omega
          case rel => exact ⟨k + 1, n + xl, by omega, by go_num, by (first | rfl | rw [Int.max_eq_right hl1]), by omega, by omega, HR.out, HX.out⟩
      · obtain rfl : k = l.length := by omega
        rw [List.drop_length] at hR
        have HR := Lib.hid hR
        clear hR
        go_wp2_with fail
        go_ret
        exact ⟨by rw [← HR.out]; rfl, HX.out⟩
  · have e : sizN l = 0 := by unfold sizN; rw [if_neg h0]
    rw [e]
    generalize chkN l = c at *
    have h0' : (c == 0) = false := beq_eq_false_iff_ne.2 h0
    have h0'' : (c != 0) = true := by simpa using h0
    clear e
    go_enter Try.func24, Try.ntmps24
    go_wp2_with fail
    refine HI.out.mono ?_
    rintro e w1 ⟨rfl, hx1⟩
    have HX1 := Lib.hid hx1
    clear hx1
    go_wp2_with fail
    go_ret
    exact ⟨rfl, HX1.out⟩
end Go.Proofs.Ytngfhnpelchplaa.Mt
