/-
  The document's answer (pagemenderref09): All, Check, Size, Expand walked; pagemenderkit.Own.
-/
import Derived.Test.YtapcfffmgdpmcaaMtU
namespace Go.Proofs.Ytapcfffmgdpmcaa.Mt
open Go.RowKit

set_option maxRecDepth 100000 in
set_option maxHeartbeats 8000000 in
theorem rAll_walk (s : ByteArray) (w : World) (hs : s.size ≤ 1048576) :
    Calls Try.prog 8 #[.string s] w fun e w' => ∃ v, e = .returned v ∧ Ext [] w w' ∧ PcAt w' v (allN s) := by
  obtain ⟨i0, hif, hz0, hz1, hz2⟩ := info_parts infoPiece
  obtain ⟨R, hR⟩ : ∃ R, allN s = R := ⟨_, rfl⟩
  rw [hR]
  unfold allN at hR
  have HR := Lib.hid hR
  clear hR
  go_enter Try.func8, Try.ntmps8
  go_wp2_with fail
  have HS := Lib.hid ((Sep.start w).new (Ext.refl _ _) (oSl 30 3 (.slice none 0 0) 0 (pcC [])) (World.ownsRow_nil _ _ _ _) (fun q hq => by simp [oSl, Value.ownBlock] at hq))
  go_loopg [3, 4] (s.size + 1) (fun g ov iv wr => ∃ (p : Nat) (L : List Pc), iv = .int .i64 p ∧ p ≤ s.size ∧ s.size < p + g ∧ L.length ≤ p ∧ L ++ allF s g p = R ∧ Sep w wr [oSl 30 3 ov L.length (pcC L)])
  case atStart => exact ⟨0, [], rfl, by omega, by omega, by simp, HR.out, HS.out⟩
  case round =>
    clear HS HR
    obtain ⟨p, L, rfl, hp, hg, hLp, hR, S⟩ := hrel
    have HR := Lib.hid hR
    clear hR
    by_cases hlt : p < s.size
    · obtain ⟨g', rfl⟩ : ∃ g', gk = g' + 1 := ⟨gk - 1, by omega⟩
      have hfit := findN_fit s p hp
      have hR := HR.out
      rw [allF, if_pos hlt] at hR
      have HR := Lib.hid hR
      clear hR
      have HS := Lib.hid S
      clear S
      go_wp2_with fail
      refine (rFind_walk s p wr hs hlt).mono ?_
      rw [rfN_eq s p hp]
      rintro e w2 ⟨rfl, hx2⟩
      have HS := Lib.hid (HS.out.quiet hx2)
      clear hx2
      obtain ⟨n, hn⟩ : ∃ n, (findN s p).1 = n := ⟨_, rfl⟩
      obtain ⟨d, hd⟩ : ∃ d, (findN s p).2 = d := ⟨_, rfl⟩
      rw [hn] at hfit
      rw [hn, hd] at HR
      rw [hn, hd]
      clear hn hd
      have hown : w2.ownsRow 0 30 3 u3 L.length (pcC L) := HS.out.get 0 rfl
      by_cases h0 : 0 < n
      · have q0 : ((n : Int) == 0) = false := beq_eq_false_iff_ne.2 (by omega)
        have hR := HR.out
        rw [if_pos h0] at hR
        have HR := Lib.hid hR
        clear hR
        go_wp2_with (first | (at_builtin; refine wpList_append_lies _ rfl _ _ 23 rfl 0 30 i0 _ 3 24 Try.underlying23 hif hz0 hz1 hz2 rfl (by decide) u3 L.length _ rfl (World.ownsRow.alloc hown _) ⟨w2.heap.size, 0, none⟩ 1 1 (pcC [(0, (n : Int), (d : Int))]) rfl rfl (cells_pc w2 0 n d _) (by simp [pcC, Value.oneCell']) (by decide) (by unfold maxLen; omega) (by omega) (by omega) (w2.heap.size + 1) (by simp) ?_; intro g cap2 w6 hown1 hgrow hat hlt6))
        go_roundg g'
        case measure => omega
        case rel =>
          have P := push_local (cap := cap2) (n := L.length + 1) hgrow hat
          have Q := HS.out.upd 0 (oSl 30 3 (.slice (some ⟨g, 0, none⟩) (L.length + 1) cap2) (L.length + 1) (pcC (L ++ [((0 : UInt8), (n : Int), (d : Int))]))) rfl P.1 P.2 (by rw [pcC_append]; have hown2 := hown1; simpa [oSl] using hown2)
          refine ⟨p + n, L ++ [((0 : UInt8), (n : Int), (d : Int))], by go_num, by omega, by omega, by simp; omega, ?_, by simpa using Q⟩
          rw [List.append_assoc]
          exact HR.out
      · obtain rfl : n = 0 := by omega
        have hR := HR.out
        rw [if_neg h0, ← bget s p hlt] at hR
        have hlt2 : (p : Int) < (s.size : Int) := by omega
        obtain ⟨x, hx⟩ : ∃ x, s[p]'hlt = x := ⟨_, rfl⟩
        rw [hx] at hR
        have HR := Lib.hid hR
        clear hR hfit
        go_wp2_with (first | (at_builtin; refine wpList_append_lies _ rfl _ _ 23 rfl 0 30 i0 _ 3 24 Try.underlying23 hif hz0 hz1 hz2 rfl (by decide) u3 L.length _ rfl (World.ownsRow.alloc hown _) ⟨w2.heap.size, 0, none⟩ 1 1 (pcC [(x, 0, 0)]) rfl rfl (cells_pc w2 x 0 0 _) (by simp [pcC, Value.oneCell']) (by decide) (by unfold maxLen; omega) (by omega) (by omega) (w2.heap.size + 1) (by simp) ?_; intro g cap2 w6 hown1 hgrow hat hlt6))
        go_roundg g'
        case measure => omega
        case rel =>
          have P := push_local (cap := cap2) (n := L.length + 1) hgrow hat
          have Q := HS.out.upd 0 (oSl 30 3 (.slice (some ⟨g, 0, none⟩) (L.length + 1) cap2) (L.length + 1) (pcC (L ++ [(x, (0 : Int), (0 : Int))]))) rfl P.1 P.2 (by rw [pcC_append]; have hown2 := hown1; simpa [oSl] using hown2)
          refine ⟨p + 1, L ++ [(x, (0 : Int), (0 : Int))], by go_num, by omega, by omega, by simp; omega, ?_, by simpa using Q⟩
          rw [List.append_assoc]
          exact HR.out
    · obtain rfl : p = s.size := by omega
      have hR := HR.out
      have e : allF s gk s.size = [] := by cases gk <;> simp [allF]
      rw [e, List.append_nil] at hR
      subst hR
      have HS := Lib.hid S
      clear S HR e
      go_wp2_with fail
      go_ret
      exact ⟨_, rfl, HS.out.ext, PcAt.of_own (HS.out.get 0 rfl)⟩
theorem mayP_not (p : Pc) (h : mayP p = false) : (p.2.1 = 0 ∧ p.2.2 ≠ 0) ∨ (p.2.1 ≠ 0 ∧ p.1 ≠ 0) ∨ (p.2.1 ≠ 0 ∧ p.1 = 0 ∧ p.2.1 < 3) ∨ (p.1 = 0 ∧ 3 ≤ p.2.1 ∧ 258 < p.2.1) ∨ (p.1 = 0 ∧ 3 ≤ p.2.1 ∧ p.2.1 ≤ 258 ∧ p.2.2 < 1) ∨ (p.1 = 0 ∧ 3 ≤ p.2.1 ∧ p.2.1 ≤ 258 ∧ 1 ≤ p.2.2 ∧ 32768 < p.2.2) := by
  unfold mayP mayB at h
  split at h
  · rename_i h0
    exact .inl ⟨h0, by simpa using h⟩
  · rename_i h0
    have h := of_decide_eq_false h
    by_cases h1 : p.1 = 0
    · by_cases h2 : 3 ≤ p.2.1
      · by_cases h3 : p.2.1 ≤ 258
        · by_cases h4 : 1 ≤ p.2.2
          · exact .inr (.inr (.inr (.inr (.inr ⟨h1, h2, h3, h4, by have : ¬ p.2.2 ≤ 32768 := fun h5 => h ⟨h1, h2, h3, h4, h5⟩; omega⟩))))
          · exact .inr (.inr (.inr (.inr (.inl ⟨h1, h2, h3, by omega⟩))))
        · exact .inr (.inr (.inr (.inl ⟨h1, h2, by omega⟩)))
      · exact .inr (.inr (.inl ⟨h0, h1, by omega⟩))
    · exact .inr (.inl ⟨h0, h1⟩)
end Go.Proofs.Ytapcfffmgdpmcaa.Mt
