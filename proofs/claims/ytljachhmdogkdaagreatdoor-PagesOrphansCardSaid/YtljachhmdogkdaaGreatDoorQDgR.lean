/-
 Texts DgR, as far as the statement needs them.
-/
import Derived.Test.YtljachhmdogkdaaGreatDoorQPkA
set_option maxRecDepth 100000
set_option maxHeartbeats 64000000
namespace Go.Proofs.YtljachhmdogkdaaGreatDoor
open Go.RowKit
section
variable {P:Program}
theorem wp_rangeA {α:Type} {g:Operand} {ps:Array Tmp} {assign body:Code} {Q:Exit→Go.Act→World→Prop} {a:Go.Act} {w:World}
  {gf:Nat} {lb:Array Value} (hg:a.eval g=.func (.func gf) #[] lb) (eg:∀ args w,(callFunc gf args).run P w=.ok (.enter gf args) w)
  {encs:α→Array Value} {xs:List α} {T Kb:List Nat} {St:World→Prop} (hseq:SeqX P gf lb encs xs T Kb St) (hps:∀ x,(encs x).size=ps.size)
  (D L:Nat) (hD:w.heap.size=D) (hL:w.heap.size+1=L) (hT:∀ k∈T,k<w.heap.size) (hK:∀ k∈Kb,k<w.heap.size)
  (hSt:∀ W,Ext [] w W→St W)
  (I:List α→World→Prop) (Ix:Code→List α→World→Prop) (hI:∀ p A B,I p A→Ext (D::L::T) A B→I p B) (hIx:∀ c p A B,Ix c p A→Ext (D::L::T) A B→Ix c p B)
  (h0:∀ W,Ext [] w W→W.heap.size=w.heap.size+2→I [] W)
  (hround:∀ (pre:List α) (x:α) (post:List α) (W:World),xs=pre++x::post→I pre W→L<W.heap.size→
   assign.wpIn (rnd L) 0 P (Exit.then (fun a' W'=>Ext [] W W'∧∀ o,body.wpIn (rnd L) 0 P (roundGo Kb I Ix D L (pre++[x]) (W'.putObj L o)) a' (W'.putObj L o)) (fun _ _ _=>False)) { tmps:=(ps.zip (encs x)).foldl (fun t (p,v)=>t.setIfInBounds p v) a.tmps,defers:=[]} W)
  (hdone:∀ (W:World),I xs W→W.heap[D]? = some (.deferred (some []))→Q .normal { a with defers:={ target:=.collected D,args:=#[]}::a.defers } W)
  (hstop:∀ (c:Code) (pre:List α) (x:α) (post:List α) (W:World),xs=pre++x::post→Ix c (pre++[x]) W→W.heap[D]? = some (.deferred (some []))→c.wp P Q { a with defers:={ target:=.collected D,args:=#[]}::a.defers } W) :
  (Code.rangeFunc g ps assign body).wp P Q a w:=by
 refine (wpIn_wide (n:=0)).1 (wpIn_rangeFunc ?_)
 intro fn hfn
 obtain⟨rec,hrec⟩:∃ rec:LoopState→Option Code→Loop,rec=fun st pe=>{ state:=st,pending:=pe,fn,tmps:=a.tmps,params:=ps,assign,body,defers:=w.heap.size }:=⟨_,rfl⟩
 obtain⟨W1,hW1⟩:∃ W1,(w.alloc (.deferred (some []))).alloc (.loop (rec .ready none))=W1:=⟨_,rfl⟩
 have hDL:D≠L:=by omega
 have hx1:Ext [] w W1:=by rw [←hW1]; exact ((Ext.refl [] w).alloc _).alloc _
 have hs1:W1.heap.size=w.heap.size+2:=by rw [←hW1]; simp
 have hL1:W1.heap[L]? = some (.loop (rec .ready none)):=by
  rw [←hW1,←hL]; have:=World.alloc_heap_new (w.alloc (.deferred (some []))) (.loop (rec .ready none)); rwa [World.size_alloc] at this
 have hK1:W1.heap[D]? = some (.deferred (some [])):=by
  rw [←hW1,←hD]; exact (Below.heap_alloc _ _ _ (by simp)).trans (World.alloc_heap_new w _)
 have hTD:D∉T:=fun q=>by have:=hT D q; omega
 have hTL:L∉T:=fun q=>by have:=hT L q; omega
 have hKD:D∉Kb:=fun q=>by have:=hK D q; omega
 have hKL:L∉Kb:=fun q=>by have:=hK L q; omega
 have weak:∀ {A B:World},Ext T A B→Ext (D::L::T) A B:=fun h=>h.mono (fun i _ hi=>by simp [hi])
 have wl:∀ {A:World} {o:Obj},Ext (D::L::T) A (A.putObj L o):=fun {A o}=>(Ext.putObj A L o).mono (fun i _ hi=>by simp at hi; simp [hi])
 refine⟨L,[{ target:=.collected D,args:=#[]}],W1,{ target:=.fn (.func gf) lb,args:=#[.func (.yield L) #[] #[]]},W1,gf,
  #[.func (.yield L) #[] #[]]++lb,W1,?_,?_,fun _ _=>trivial,?_,fun q=>by simp [Fence.wide] at q,?_⟩
 ·rw [←hW1,hrec,←hD,←hL]; exact run_enterLoop_outer _ _ _ _ _
 ·simp only [resolve,hg]
  simp [go_sem]
 ·simp [invoke,go_sem,eg]
 ·refine (hseq L
   (fun pre W=>I pre W∧W.heap[L]? = some (.loop (rec .ready none))∧W.heap[D]? = some (.deferred (some [])))
   (fun pre W=>∃ c,Ix c pre W∧W.heap[L]? = some (.loop (rec .done (some c)))∧W.heap[D]? = some (.deferred (some [])))
   W1 (hSt _ hx1)
   (fun p A B h hx=>⟨hI _ _ _ h.1 (weak hx),hx.keep h.2.1 hTL,hx.keep h.2.2 hTD⟩)
   (fun p A B h hx=>by obtain⟨c,h1,h2,h3⟩:=h; exact⟨c,hIx _ _ _ _ h1 (weak hx),hx.keep h2 hTL,hx.keep h3 hTD⟩)
   ?_ ⟨h0 _ hx1 hs1,hL1,hK1⟩).mono ?_
  ·rintro pre x post W hxs ⟨hi,hl,hk⟩
   have hlt:L<W.heap.size:=lt_of_block hl
   have hy:=run_yield (P:=P) (args:=encs x) hl (by rw [hrec]; exact hps x)
   rw [hrec] at hy
   refine⟨fn,_,assign,body,hy,roundIn_of_wpIn hfn (wpIn_mono (hround pre x post W hxs hi hlt) ?_)⟩
   rintro e a1 W0 h1
   cases e with
   | ret=>exact h1.elim
   | exit id=>exact h1.elim
   | goto t=>exact h1.elim
   | panic ch=>exact h1.elim
   | outgrown=>exact h1.elim
   | normal=>
   obtain⟨hx0,hbody⟩:=h1
   have hl0:=hx0.keep hl (by simp)
   have hk0:=hx0.keep hk (by simp)
   refine⟨_,run_beginRound hl0 (by rw [hrec]),?_⟩
   obtain⟨V,hV⟩:∃ V,W0.putObj L (.loop { rec .ready none with state:=.busy })=V:=⟨_,rfl⟩
   rw [hV]
   have hbody:=hbody (.loop { rec .ready none with state:=.busy })
   rw [hV] at hbody
   have hv:Ext [L] W0 V:=by rw [←hV]; exact Ext.putObj _ _ _
   have hl2:V.heap[L]? = some (.loop { rec .ready none with state:=.busy }):=by rw [←hV]; exact World.putObj_heap_same (Nat.lt_of_lt_of_le hlt hx0.size)
   have hk2:V.heap[D]? = some (.deferred (some [])):=hv.keep hk0 (by simpa using hDL)
   refine wpIn_mono hbody ?_
   have fin:∀ (jump:Option Code) (W3:World),KeepsT [D,L] V W3→
     (Instr.endRound L jump).run P W3=.ok (.bool jump.isNone) (W3.putObj L (.loop (rec (if jump.isNone then .ready else .done) jump)))∧
     (W3.putObj L (.loop (rec (if jump.isNone then .ready else .done) jump))).heap[L]? = some (.loop (rec (if jump.isNone then .ready else .done) jump))∧
     (W3.putObj L (.loop (rec (if jump.isNone then .ready else .done) jump))).heap[D]? = some (.deferred (some [])):=fun jump W3 hk3=>by
    have hl3:=(hk3.same L (by simp)).trans hl2
    have hd3:=(hk3.same D (by simp)).trans hk2
    have:=run_endRound (P:=P) jump hl3
    rw [hrec] at this ⊢
    exact⟨this,World.putObj_heap_same (lt_of_block hl3),(World.putObj_heap_other hDL).trans hd3⟩
   rintro e a3 W3 hp
   cases e with
   | normal=>
    obtain⟨hk3,hi3⟩:=hp
    obtain⟨hr,hl4,hk4⟩:=fin none W3 ⟨hk3.size,fun k hk=>hk3.same k (by simp at hk ⊢; rcases hk with h | h <;> simp [h])⟩
    refine⟨_,_,hr,.inl ⟨rfl,⟨hI _ _ _ hi3 wl,hl4,hk4⟩,?_⟩⟩
    have f1:∀ k∈Kb,k≠L:=fun k hk e=>hKL (e ▸ hk)
    exact⟨by have:=hv.size; have:=hk3.size; have:=hx0.size; simp; omega,fun k hk=>(((World.putObj_heap_other (f1 k hk)).trans (hk3.same k (by simp [hk]))).trans (by rw [←hV]; exact World.putObj_heap_other (f1 k hk))).trans (hx0.block k (by have:=hK k hk; omega) (by simp))⟩
   | ret=>
    obtain⟨hk3,hi3⟩:=hp
    obtain⟨hr,hl4,hk4⟩:=fin (some .ret) W3 hk3
    exact⟨_,_,hr,.inr ⟨rfl,.ret,hIx _ _ _ _ hi3 wl,hl4,hk4⟩⟩
   | exit id=>
    obtain⟨hk3,hi3⟩:=hp
    obtain⟨hr,hl4,hk4⟩:=fin (some (.exit id)) W3 hk3
    exact⟨_,_,hr,.inr ⟨rfl,.exit id,hIx _ _ _ _ hi3 wl,hl4,hk4⟩⟩
   | goto t=>
    obtain⟨hk3,hi3⟩:=hp
    obtain⟨hr,hl4,hk4⟩:=fin (some (.goto t)) W3 hk3
    exact⟨_,_,hr,.inr ⟨rfl,.goto t,hIx _ _ _ _ hi3 wl,hl4,hk4⟩⟩
   | panic ch=>exact hp.elim
   | outgrown=>exact hp.elim
  ·rintro e W2 ⟨⟨v,rfl⟩,(⟨hi,hl,hk⟩ | ⟨pre,x,post,hxs,c,hi,hl,hk⟩)⟩
   ·exact⟨none,_,by have:=run_endLoop (P:=P) hl (by rw [hrec]; simp); rw [hrec] at this; exact this,hdone _ (hI _ _ _ hi wl) ((World.putObj_heap_other hDL).trans hk)⟩
   ·exact⟨some c,_,by have:=run_endLoop (P:=P) hl (by rw [hrec]; simp); rw [hrec] at this; exact this,(wpIn_wide (n:=0)).2 (hstop c pre x post _ hxs (hIx _ _ _ _ hi wl) ((World.putObj_heap_other hDL).trans hk))⟩
end
end Go.Proofs.YtljachhmdogkdaaGreatDoor
