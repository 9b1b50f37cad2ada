/-
  The chapter's examples (match).
-/
import Derived.Test.YtngfhnpelchplaaMtL
namespace Go.Proofs.Ytngfhnpelchplaa.Mt
open Go.RowKit

theorem PcAt.of_block {w : World} {b cap : Nat} {cs : Array Value} {t : TypeId} {f : Nat × Nat} (l : List Pc) (n : Nat) (hn : l.length = n) (hb : w.heap[b]? = some (.cells cs t f)) (hc : cs.toList = pcC l) : PcAt w (.slice (some ⟨b, 0, none⟩) n cap) l := by
  subst hn
  refine ⟨_, cap, rfl, fun _ => ⟨b, 0, rfl, fun i x hi => ?_⟩⟩
  obtain ⟨h0, h1, h2⟩ := pcC_at l i x hi
  have e : ∀ j, cs[j]? = (pcC l)[j]? := fun j => by rw [← hc, Array.getElem?_toList]
  exact ⟨by rw [cellOf hb, Nat.zero_add, e, h0], by rw [cellOf hb, Nat.zero_add, e, h1], by rw [cellOf hb, Nat.zero_add, e, h2]⟩
def exS : ByteArray := ⟨#[97, 98, 97, 98, 97, 98, 99]⟩
def exL : List Pc := [(97, 0, 0), (98, 0, 0), (0, 4, 2), (99, 0, 0)]
theorem ex_all : allN exS = exL := by decide +kernel
theorem ex_exp : expN exL 9 = ([97, 98, 97, 98, 97, 98, 99], 0) := by decide +kernel
set_option maxRecDepth 100000 in
set_option maxHeartbeats 4000000 in
theorem lives09 (w : World) : Calls Try.prog 9 #[] w fun e w' => e = .returned (.bool true) ∧ Ext [] w w' := by
  have HA : Hid (Calls Try.prog 10 #[.string { data := #[97, 98, 97, 98, 97, 98, 99] }] w fun e w' => ∃ v, e = .returned v ∧ Ext [] w w' ∧ PcAt w' v exL) := by
    refine Lib.hid ((All_walk exS w (by decide)).mono ?_)
    rintro e w' ⟨v, rfl, hx, hP, _⟩
    rw [ex_all] at hP
    exact ⟨v, rfl, hx, PcAt.of_own hP⟩
  go_enter Try.func9, Try.ntmps9
  go_wp2_with fail
  refine HA.out.mono ?_
  clear HA
  rintro e w1 ⟨v, rfl, hx1, hP⟩
  have HX := Lib.hid hx1
  have HP := Lib.hid hP
  have hE := Expand_walk v exL 9 w1 hP (by decide)
  rw [ex_exp] at hE
  have HE := Lib.hid hE
  clear hx1 hP hE
  go_wp2_with fail
  refine HE.out.mono ?_
  clear HE
  rintro e w2 ⟨rfl, hx2⟩
  have HX2 := Lib.hid hx2
  clear hx2
  go_wp2_with fail
  have hb := heap_alloc_at (w := w2) (.cells #[.int .u8 97, .int .i64 0, .int .i64 0, .int .u8 98, .int .i64 0, .int .i64 0, .int .u8 0, .int .i64 4, .int .i64 2, .int .u8 99, .int .i64 0, .int .i64 0] 34)
  have hxa : Ext [] w2 _ := (Ext.refl [] w2).alloc (.cells #[.int .u8 97, .int .i64 0, .int .i64 0, .int .u8 98, .int .i64 0, .int .i64 0, .int .u8 0, .int .i64 4, .int .i64 2, .int .u8 99, .int .i64 0, .int .i64 0] 34)
  have hS := Same_walk v _ exL exL _ ((HP.out.ext HX2.out).ext hxa) (PcAt.of_block (cap := 4) exL 4 rfl hb rfl) (by decide) (by decide)
  rw [decide_eq_true rfl] at hS
  have HS := Lib.hid hS
  have HXA := Lib.hid hxa
  clear hb hxa hS
  refine HS.out.mono ?_
  clear HS
  rintro e w3 ⟨rfl, hx3⟩
  have HX3 := Lib.hid hx3
  clear hx3
  go_wp2_with fail
  go_ret
  exact ⟨rfl, ((HX.out.trans HX2.out).trans HXA.out).trans HX3.out⟩
end Go.Proofs.Ytngfhnpelchplaa.Mt
