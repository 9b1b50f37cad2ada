/-
  slices.Collect, slices.SortedFunc of refs.
-/
import Derived.Test.YtgpgamohcafklaaGreatDoorRcM
import Derived.Test.YtgpgamohcafklaaGreatDoorSoC
namespace Go.Proofs.YtgpgamohcafklaaGreatDoor.Rc
open Go.RowKit
open Go.Proofs.YtgpgamohcafklaaGreatDoor.Tr
open Go.Proofs.YtgpgamohcafklaaGreatDoor.So

set_option maxRecDepth 100000 in
set_option maxHeartbeats 4000000 in
theorem collectR_walk {gf : Nat} {lb : Array Value} {Nx : List Rf → Rf → Prop} {Dn : List Rf → Prop} {Kb : List Nat} {St : World → Prop} (w0 w : World) (M : List Ob)
    (S : Sep w0 w M) (hseq : SeqM Tryz.prog gf lb (fun x : Rf => #[mkR x]) Nx Dn (fun n => [n]) Kb St) (eg : ∀ args w, (callFunc gf args).run Tryz.prog w = .ok (.enter gf args) w) (hKb : ∀ k ∈ Kb, ∃ o ∈ M, k ∈ o.F)
    (hSt : ∀ W, Ext [] w W → St W) (hn : ∀ pre, Chn Nx pre → pre.length ≤ 1000000) :
    Calls Tryz.prog 42 #[.func (.func gf) #[] lb] w fun e w' => ∃ v2 ys, e = .returned v2 ∧ Chn Nx ys ∧ Dn ys ∧ Sep w0 w' (oSl 24 2 v2 ys.length (rfC ys) :: M) := by
  have HA := Lib.hid (appR_walk w0 w (.slice none 0 0) 0 [] M (S.new (Ext.refl _ _) (oSl 24 2 (.slice none 0 0) 0 []) (World.ownsRow_nil _ _ _ _) (fun q hq => by simp [oSl, Value.ownBlock] at hq)) hseq eg hKb hSt (fun pre hp => by rw [Nat.zero_add]; exact hn pre hp))
  clear S hseq eg hKb hSt hn
  go_enter Tryz.func42, Tryz.ntmps42
  go_wp2_with fail
  refine HA.out.mono ?_
  rintro e w2 ⟨v2, ys, rfl, h1, h2, S2⟩
  rw [Nat.zero_add, List.nil_append] at S2
  have HF := Lib.hid (⟨h1, h2, S2⟩ : _ ∧ _ ∧ _)
  clear h1 h2 S2 HA
  go_wp2_with fail
  go_ret
  exact ⟨_, ys, rfl, HF.out.1, HF.out.2.1, HF.out.2.2⟩
theorem rfC_flat (l : List Rf) : rfC l = l.flatMap encRf := rfl
set_option maxRecDepth 100000 in
set_option maxHeartbeats 4000000 in
theorem sortedR_walk {gf : Nat} {lb : Array Value} {Nx : List Rf → Rf → Prop} {Dn : List Rf → Prop} {Kb : List Nat} {St : World → Prop} (w0 w : World) (M : List Ob) (E : List Rf)
    (S : Sep w0 w M) (hseq : SeqM Tryz.prog gf lb (fun x : Rf => #[mkR x]) Nx Dn (fun n => [n]) Kb St) (eg : ∀ args w, (callFunc gf args).run Tryz.prog w = .ok (.enter gf args) w) (hKb : ∀ k ∈ Kb, ∃ o ∈ M, k ∈ o.F)
    (hSt : ∀ W, Ext [] w W → St W) (hn : ∀ pre, Chn Nx pre → pre.length ≤ 1000000) (hE : ∀ ys, Chn Nx ys → Dn ys → E.Perm ys) (hs : E.Pairwise fun x y => ltOf (cf2 r1 r2) x y = true) :
    Calls Tryz.prog 30 #[.func (.func gf) #[] lb, .func (.func 32) #[] #[]] w fun e w' => ∃ v2, e = .returned v2 ∧ Ext [] w0 w' ∧ Cells w' 2 encRf v2 E := by
  have HA := Lib.hid (collectR_walk w0 w M S hseq eg hKb hSt hn)
  have HH := Lib.hid (⟨hE, hs, hn⟩ : _ ∧ _ ∧ _)
  clear S hseq eg hKb hSt hn hE hs
  go_enter Tryz.func30, Tryz.ntmps30
  go_wp2_with fail
  refine HA.out.mono ?_
  rintro e w2 ⟨v2, ys, rfl, h1, h2, S2⟩
  have hr : w2.ownsRow 0 24 2 v2 ys.length (ys.flatMap encRf) := S2.get 0 rfl
  obtain ⟨sb, sc, rfl⟩ := row_slice hr
  have HB := Lib.hid (sortR ys E _ w2 hr (HH.out.1 ys h1 h2) HH.out.2.1 (Nat.le_trans (HH.out.2.2 ys h1) (by omega)))
  have HS := Lib.hid S2
  clear h1 h2 S2 hr HA
  go_wp2_with fail
  refine HB.out.mono ?_
  rintro e w3 ⟨rfl, hx3, hc⟩
  have S3 := HS.out.upd 0 (Ob.room (Value.slice sb ys.length sc).ownBlock.toList) rfl hx3 (Fr.refl _ _) (fun k hk => Nat.lt_of_lt_of_le ((oSl 24 2 (.slice sb ys.length sc) ys.length (rfC ys)).lt (HS.out.get 0 rfl) k hk) hx3.size)
  have HF := Lib.hid (⟨S3.ext, hc⟩ : _ ∧ _)
  clear S3 hx3 hc HS HB
  go_wp2_with fail
  go_ret
  exact ⟨_, rfl, HF.out.1, HF.out.2⟩
end Go.Proofs.YtgpgamohcafklaaGreatDoor.Rc
