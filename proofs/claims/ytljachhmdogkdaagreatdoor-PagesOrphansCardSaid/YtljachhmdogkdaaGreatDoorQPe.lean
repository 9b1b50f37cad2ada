/-
 Texts PgE, PgF, PgG, PgH, PgHb, as far as the statement needs them.
-/
import Derived.Test.YtljachhmdogkdaaGreatDoorQPb
import Derived.Test.YtljachhmdogkdaaGreatDoorQSo
import Derived.Test.YtljachhmdogkdaaGreatDoorQDgR
import Derived.TacticsInMore
import Derived.LoopIn
import Derived.Sort.LoopGhostIn
import Derived.BigFrameIn
import Derived.BigGuardIn
set_option maxRecDepth 100000
set_option maxHeartbeats 64000000
namespace Go.Proofs.YtljachhmdogkdaaGreatDoor
namespace Pg
open Go.RowKit
open Tr
open Rc
open Go.Proofs.YtljachhmdogkdaaGreatDoor.So
attribute [local go_sem] Oper.semAt_some
@[simp, go_sem] theorem wide_fn2 (f : FuncId) : Fence.wide.fn f = True := rfl
@[simp, go_sem] theorem wide_depth2 : Fence.wide.depth = none := rfl
theorem range_split {j rows:Nat} (h:j<rows):∃ post,List.range rows=List.range j++j::post:=by
 refine⟨(List.range rows).drop (j+1),?_⟩
 have h1:=List.take_append_drop j (List.range rows)
 rw [List.take_range,Nat.min_eq_left (by omega),List.drop_eq_getElem_cons (by simpa using h)] at h1
 simpa using h1.symm
theorem backO_walk (p:Option Addr) (n cap:Nat) (w:World) :
  Calls Tryz.prog 56 #[.slice p n cap] w fun e w'=>e=.returned (.func (.func 90) #[] #[.pointer (some ⟨w.heap.size,0,none⟩)])∧w' = w.alloc (.cells #[.slice p n cap] 22):=by
 go_enter Tryz.func56,Tryz.ntmps56
 go_wp2_with fail
 go_ret
 exact⟨rfl,rfl⟩
def backO_iterE (n:Nat) (L:List (So.Os)) (j:Nat):Array Value:=#[.int .i64 ((n:Int) - 1 - (j:Int)),(fun x:So.Os=>osV x) (L.getD (n - 1 - j) (default))]
theorem backO_iter (n cap b1 g o:Nat) (p:Option Addr) (L:List (So.Os)) (w:World) (hn:n≤1048576) (hp:1≤n→p=some ⟨g,o,none⟩) (hcs:∀ j,j<n→∀ c u,(encO (L.getD j (default)))[c]? = some u→w.cell? ⟨g,o+j*5+c,none⟩=some u) :
  SeqX Tryz.prog 90 #[.pointer (some ⟨b1,0,none⟩)] (backO_iterE n L) (List.range n) [] [b1,g] (fun W=>W.heap[b1]? = some (.cells #[.slice p n cap] 22 (0,0))∧(1≤n→W.heap[g]? = w.heap[g]?)):=by
 intro l J Jx W hb hJ hJx hY h0
 obtain⟨hb1,hb2⟩:=hb
 have H0:=zz h0
 have HY:=zz hY
 have HJ:=zz hJ
 have HCS:=zz hcs
 have HPP:=zz hp
 have HB:=zz2 ⟨hb1,hb2⟩
 have c0:=cellOf hb1 0
 clear h0 hY hJ hJx hb1 hb2 hcs hp
 refine callsIn_of_wp Tryz.func90 rfl trivial ?_
 simp only [Tryz.ntmps90,List.size_toArray,List.length_cons,List.length_nil,Nat.reduceAdd,Nat.reduceSub,Array.replicate_succ,Array.replicate_zero,List.push_toArray,List.append_toArray,List.nil_append,List.cons_append]
 gi_wp2_with fail
 clear c0
 gi_loopg [3] n (fun k iv' wr=>∃ j:Nat,k+j=n∧iv' = .int .i64 ((n:Int) - 1 - (j:Int))∧wr.heap[b1]? = some (.cells #[.slice p n cap] 22 (0,0))∧(1≤n→wr.heap[g]? = w.heap[g]?)∧J (List.range j) wr)
 case atStart=>exact⟨0,by omega,by go_num,HB.out.1,HB.out.2,H0.out⟩
 case round=>
  obtain⟨j,hg,rfl,hb1,hb2,hj⟩:=hrel
  have HJ0:=zz hj
  have c1:=cellOf hb1 0
  clear hj
  by_cases hlt:j<n
  ·obtain rfl:=HPP.out (by omega)
   have hb2':=hb2 (by omega)
   obtain⟨u,hu⟩:∃ u,n - 1 - j=u:=⟨_,rfl⟩
   have hui:(n:Int) - 1 - (j:Int)=(u:Int):=by omega
   have hun:u<n:=by omega
   have hcs:=HCS.out u hun
   obtain⟨x,hx⟩:∃ x,L.getD u (default)=x:=⟨_,rfl⟩
   rw [hx] at hcs
   obtain⟨xn,xg,xb,xl,xc,xs,xd⟩:=x
   have hcw:∀ c v,w.cell? ⟨g,c,none⟩=some v→wr.cell? ⟨g,c,none⟩=some v:=fun c v h=>(World.cell?_of_block hb2').trans h
   have q0:=hcw _ _ (hcs 0 _ rfl)
   have q1:=hcw _ _ (hcs 1 _ rfl)
   have q2:=hcw _ _ (hcs 2 _ rfl)
   have q3:=hcw _ _ (hcs 3 _ rfl)
   have q4:=hcw _ _ (hcs 4 _ rfl)
   rw [Nat.add_zero] at q0
   obtain⟨post,hsp⟩:=range_split hlt
   have hy:=HY.out (List.range j) j post wr hsp HJ0.out
   have HSP:=zz hsp
   clear hsp hcs hcw
   obtain⟨fn,tmps,assign,body,hy,hR⟩:=hy
   unfold backO_iterE at hy
   rw [hui,hu,hx] at hy
   have HR:=zz hR
   have HB1:=zz2 ⟨hb1,hb2'⟩
   have i1:(0:Int)≤(u:Int):=by omega
   have i2:(u:Int)<(n:Int):=by omega
   clear hR hb1 hb2 hb2' hu hx
   rw [hui]
   gi_wp2_with fail
   refine HR.out.mono ?_
   clear hy HR c1 q0 q1 q2 q3 q4
   rintro e w4 (⟨rfl,hj3,hk3⟩ | ⟨rfl,hj3⟩)
   ·have hb3:=(hk3.same b1 (by simp)).trans HB1.out.1
    have hb4:=(hk3.same g (by simp)).trans HB1.out.2
    have HJ3:=zz hj3
    have HB3:=zz hb3
    have HB4:=zz hb4
    clear hj3 hb3 hb4 hk3
    gi_wp2_with fail
    gi_roundg (n - (j+1))
    case measure=>omega
    case rel=>exact⟨j+1,by omega,by go_num,HB3.out,fun _=>HB4.out,by rw [List.range_succ]; exact HJ3.out⟩
   ·gi_wp2_with fail
    refine bodyPost_ret (results_none rfl _ _ _) rfl ?_
    exact⟨⟨_,rfl⟩,.inr ⟨List.range j,j,post,HSP.out,hj3⟩⟩
  ·have e2:j=n:=by omega
   have HJ1:=zz (e2 ▸ HJ0.out)
   have i0:(n:Int) - 1 - (j:Int)<0:=by omega
   clear HJ0 e2 hb2 hb1
   gi_wp2_with fail
   go_end0
   exact⟨⟨_,rfl⟩,.inl HJ1.out⟩
theorem backR_walk (p:Option Addr) (n cap:Nat) (w:World) :
  Calls Tryz.prog 62 #[.slice p n cap] w fun e w'=>e=.returned (.func (.func 96) #[] #[.pointer (some ⟨w.heap.size,0,none⟩)])∧w' = w.alloc (.cells #[.slice p n cap] 36):=by
 go_enter Tryz.func62,Tryz.ntmps62
 go_wp2_with fail
 go_ret
 exact⟨rfl,rfl⟩
def backR_iterE (n:Nat) (L:List (Rf)) (j:Nat):Array Value:=#[.int .i64 ((n:Int) - 1 - (j:Int)),(fun x:Rf=>mkR x) (L.getD (n - 1 - j) (default))]
theorem backR_iter (n cap b1 g o:Nat) (p:Option Addr) (L:List (Rf)) (w:World) (hn:n≤1048576) (hp:1≤n→p=some ⟨g,o,none⟩) (hcs:∀ j,j<n→∀ c u,(encN (L.getD j (default)))[c]? = some u→w.cell? ⟨g,o+j*2+c,none⟩=some u) :
  SeqX Tryz.prog 96 #[.pointer (some ⟨b1,0,none⟩)] (backR_iterE n L) (List.range n) [] [b1,g] (fun W=>W.heap[b1]? = some (.cells #[.slice p n cap] 36 (0,0))∧(1≤n→W.heap[g]? = w.heap[g]?)):=by
 intro l J Jx W hb hJ hJx hY h0
 obtain⟨hb1,hb2⟩:=hb
 have H0:=zz h0
 have HY:=zz hY
 have HJ:=zz hJ
 have HCS:=zz hcs
 have HPP:=zz hp
 have HB:=zz2 ⟨hb1,hb2⟩
 have c0:=cellOf hb1 0
 clear h0 hY hJ hJx hb1 hb2 hcs hp
 refine callsIn_of_wp Tryz.func96 rfl trivial ?_
 simp only [Tryz.ntmps96,List.size_toArray,List.length_cons,List.length_nil,Nat.reduceAdd,Nat.reduceSub,Array.replicate_succ,Array.replicate_zero,List.push_toArray,List.append_toArray,List.nil_append,List.cons_append]
 gi_wp2_with fail
 clear c0
 gi_loopg [3] n (fun k iv' wr=>∃ j:Nat,k+j=n∧iv' = .int .i64 ((n:Int) - 1 - (j:Int))∧wr.heap[b1]? = some (.cells #[.slice p n cap] 36 (0,0))∧(1≤n→wr.heap[g]? = w.heap[g]?)∧J (List.range j) wr)
 case atStart=>exact⟨0,by omega,by go_num,HB.out.1,HB.out.2,H0.out⟩
 case round=>
  obtain⟨j,hg,rfl,hb1,hb2,hj⟩:=hrel
  have HJ0:=zz hj
  have c1:=cellOf hb1 0
  clear hj
  by_cases hlt:j<n
  ·obtain rfl:=HPP.out (by omega)
   have hb2':=hb2 (by omega)
   obtain⟨u,hu⟩:∃ u,n - 1 - j=u:=⟨_,rfl⟩
   have hui:(n:Int) - 1 - (j:Int)=(u:Int):=by omega
   have hun:u<n:=by omega
   have hcs:=HCS.out u hun
   obtain⟨x,hx⟩:∃ x,L.getD u (default)=x:=⟨_,rfl⟩
   rw [hx] at hcs
   obtain⟨x1,x2⟩:=x
   have hcw:∀ c v,w.cell? ⟨g,c,none⟩=some v→wr.cell? ⟨g,c,none⟩=some v:=fun c v h=>(World.cell?_of_block hb2').trans h
   have q0:=hcw _ _ (hcs 0 _ rfl)
   have q1:=hcw _ _ (hcs 1 _ rfl)
   rw [Nat.add_zero] at q0
   obtain⟨post,hsp⟩:=range_split hlt
   have hy:=HY.out (List.range j) j post wr hsp HJ0.out
   have HSP:=zz hsp
   clear hsp hcs hcw
   obtain⟨fn,tmps,assign,body,hy,hR⟩:=hy
   unfold backR_iterE at hy
   rw [hui,hu,hx] at hy
   have HR:=zz hR
   have HB1:=zz2 ⟨hb1,hb2'⟩
   have i1:(0:Int)≤(u:Int):=by omega
   have i2:(u:Int)<(n:Int):=by omega
   clear hR hb1 hb2 hb2' hu hx
   rw [hui]
   gi_wp2_with fail
   refine HR.out.mono ?_
   clear hy HR c1 q0 q1
   rintro e w4 (⟨rfl,hj3,hk3⟩ | ⟨rfl,hj3⟩)
   ·have hb3:=(hk3.same b1 (by simp)).trans HB1.out.1
    have hb4:=(hk3.same g (by simp)).trans HB1.out.2
    have HJ3:=zz hj3
    have HB3:=zz hb3
    have HB4:=zz hb4
    clear hj3 hb3 hb4 hk3
    gi_wp2_with fail
    gi_roundg (n - (j+1))
    case measure=>omega
    case rel=>exact⟨j+1,by omega,by go_num,HB3.out,fun _=>HB4.out,by rw [List.range_succ]; exact HJ3.out⟩
   ·gi_wp2_with fail
    refine bodyPost_ret (results_none rfl _ _ _) rfl ?_
    exact⟨⟨_,rfl⟩,.inr ⟨List.range j,j,post,HSP.out,hj3⟩⟩
  ·have e2:j=n:=by omega
   have HJ1:=zz (e2 ▸ HJ0.out)
   have i0:(n:Int) - 1 - (j:Int)<0:=by omega
   clear HJ0 e2 hb2 hb1
   gi_wp2_with fail
   go_end0
   exact⟨⟨_,rfl⟩,.inl HJ1.out⟩
end Pg
open Go.RowKit
section
variable {P:Program} {C:World→Prop} {Q:Exit→Go.Act→World→Prop}
theorem rnd_quiet_tl {lr k id:Nat} {a:Go.Act} {w:World} {l:List Oper} (m:Nat) (hm:P.follows .mixedOrders=true) (hB:Region.lexTailB .any l.toArray m=true) (hd:l.all noDefer=true) (hL:¬ LetsOut Q) (hC:C { w with drawn:=w.drawn+1 })
  (h:wpQuiet P l.toArray C (fun a'=>∀ w',C w'→wpList P l.toArray Q (l.drop m) a' w') (l.take m) a):(Code.region id l.toArray true).wpIn (rnd lr) k P Q a w:=by
 simp only [Region.lexTailB,Bool.and_eq_true,decide_eq_true_eq] at hB
 obtain⟨⟨⟨⟨hsel,hn⟩,hs⟩,hc⟩,hlex⟩:=hB
 have hn' : m<l.length:=by simpa using hn
 have htl:(l.take m).length=m:=by simp; omega
 have hdl:(l.drop m).length=l.toArray.size - m:=by simp
 have H:=anyB_lex (md:=.any) (g:=l.toArray.size - m) hsel hs hc hn (l.take m) 0 _ a (fun j hj=>by
  have hj' : j<m:=by rw [htl] at hj; exact hj
  simp [hj']) (by simpa using htl) (headInv_start l m) (by rw [htl]; exact hlex) h
 refine rnd_any hm hd hL ?_
 have:=wpAny_of_anyB (Q:=Q) (g:=l.toArray.size - m) (fun listed a' w' hw' hL=>by
  have:=wpAny_of_seq (md:=.any) (Q':=Q) (l.drop m) m listed a' w' (fun j=>by simp [List.getElem?_drop]) (by rw [hdl]; exact hL.1) (hL.2 w' hw')
  rwa [hdl] at this) _ _ _ _ hC H
 rw [htl,show m+(l.toArray.size - m)=l.toArray.size by omega] at this
 exact this
end
namespace Pg
open Go.RowKit
open Tr
open Rc
open Go.Proofs.YtljachhmdogkdaaGreatDoor.So
attribute [local go_sem] Oper.semAt_some
theorem range_pre {n x:Nat} {pre post:List Nat} (h:List.range n=pre++x::post):pre.length=x∧x<n:=by
 have hx:x∈List.range n:=by rw [h]; simp
 have hl:=List.mem_range.1 hx
 have h1:(List.range n)[pre.length]? = some x:=by rw [h,List.getElem?_append_right (Nat.le_refl _),Nat.sub_self]; rfl
 have h2:=(List.getElem?_eq_some_iff.1 h1).2
 rw [List.getElem_range] at h2
 exact⟨h2,hl⟩
def osOf (x:Om):So.Os:=match x.tv with
 | .slice b n c=>⟨x.num,x.gen,b,n,c,x.stream,x.data⟩
 | _=>default
theorem osOf_V {x:Om} (h:∃ b n c,x.tv=.slice b n c):osV (osOf x)=omV x∧encO (osOf x)=omC x:=by
 obtain⟨b,n,c,h⟩:=h
 unfold osOf
 rw [h]
 simp only
 exact⟨by rw [omV,h],by rw [omC,h]⟩
theorem idxF_front (x:Om) (L:List Om):(fun q=>if q=(x.num,x.gen) then some (omV x) else idxF L q)=idxF (x::L):=by
 funext q
 unfold idxF findO
 rw [List.find?_cons]
 by_cases h:q=(x.num,x.gen)
 ·subst h
  rw [if_pos rfl,isR_self]
  rfl
 ·rw [if_neg h]
  cases hi:isR q x with
  | true=>exact absurd (isR_eq hi) h
  | false=>rfl
theorem drop_back (L:List Om) (n j:Nat) (hn:L.length=n) (h:j<n):L.drop (n - (j+1))=(L[n - 1 - j]'(by omega))::L.drop (n - j):=by
 rw [List.drop_eq_getElem_cons (by omega)]
 congr 1
 ·congr 1
  omega
 ·congr 1
  omega
theorem sizePg:(Tryz.prog.info? 62).map (·.size)=some 4:=by kernel_rfl
theorem oms_cells' {w:World} {b o:Nat} {L:List Om} (h:OmsIn w (some ⟨b,o,none⟩) L):∀ j v,(omsC L)[j]? = some v→w.cell? ⟨b,o+j,none⟩=some v:=fun j v hv=>by
 have hj:j<L.length*5:=by rw [←omsC_len]; exact (List.getElem?_eq_some_iff.1 hv).1
 have hi:j / 5<L.length:=by omega
 obtain⟨b',o',he,hA⟩:=h (j / 5) hi
 obtain⟨rfl,rfl⟩:b=b'∧o=o':=by simpa using he
 obtain⟨n1,n2,n3,n4,n5,-⟩:=hA
 obtain⟨h0,h1,h2,h3,h4⟩:=omsC_at L (j / 5) hi
 have hm:j % 5=0∨j % 5=1∨j % 5=2∨j % 5=3∨j % 5=4:=by omega
 have hd:=Nat.div_add_mod j 5
 rw [Nat.mul_comm] at hd
 rcases hm with hm | hm | hm | hm | hm <;> rw [hm] at hd <;> rw [←hd] at hv ⊢
 ·rw [Nat.add_zero,h0] at hv; rw [←Option.some.inj hv,Nat.add_zero]; exact n1
 ·rw [h1] at hv; rw [←Option.some.inj hv,←Nat.add_assoc]; exact n2
 ·rw [h2] at hv; rw [←Option.some.inj hv,←Nat.add_assoc]; exact n3
 ·rw [h3] at hv; rw [←Option.some.inj hv,←Nat.add_assoc]; exact n4
 ·rw [h4] at hv; rw [←Option.some.inj hv,←Nat.add_assoc]; exact n5
theorem asked_walk (v:Value) (L:List Om) (m0 m1:Int) (w:World) (h:OmsAt w v L) (hw:∀ x∈L,OmWf x) (hl:L.length≤100000) :
  Calls Tryz.prog 21 #[.agg #[v,.int .i64 m0,.int .i64 m1]] w fun e w'=>∃ mb,e=.returned (.agg #[v,.int .i64 m0,.int .i64 m1,.map (some mb)])∧Sep w w' [Mp.oMp Tryz.prog 24 mkR mb L.length (idxF L)]:=by
 have hmm:=@run_makeMap Tryz.prog
 obtain⟨base,cap,rfl,-,hT⟩:=h
 obtain⟨n,hln⟩:∃ n,L.length=n:=⟨_,rfl⟩
 have HH:=zz3 ⟨hT,hln,hw⟩
 rw [hln] at hl ⊢
 clear hT hln hw
 refine (callsIn_wide (n:=0)).1 (callsIn_of_wp_marks Tryz.func21 rfl trivial ((wpIn_wide (n:=0)).2 ?_))
 simp only [Tryz.ntmps21,List.size_toArray,List.length_cons,List.length_nil,Nat.reduceAdd,Nat.reduceSub,Array.replicate_succ,Array.replicate_zero,List.push_toArray,List.append_toArray,List.nil_append,List.cons_append]
 go_upto_region 2 with (fail)
 obtain⟨p,hp⟩:∃ p,w.heap.size=p:=⟨_,rfl⟩
 obtain⟨W0,hW0⟩:∃ W0,(w.alloc (Obj.cells #[.slice base n cap,.int .i64 m0,.int .i64 m1] 26)).alloc (Obj.cells #[.slice none 0 0,.int .i64 0,.int .i64 0,.map none] 62)=W0:=⟨_,rfl⟩
 have hx0:Ext [] w W0:=by rw [←hW0]; exact ((Ext.refl [] w).alloc _).alloc _
 have hs0:W0.heap.size=p+2:=by rw [←hW0]; simp [hp]
 have hbA:W0.heap[p]? = some (.cells #[.slice base n cap,.int .i64 m0,.int .i64 m1] 26 (0,0)):=by rw [←hW0,←hp]; exact heap_alloc_old _ (heap_alloc_at _)
 have hbR:W0.heap[p+1]? = some (.cells #[.slice none 0 0,.int .i64 0,.int .i64 0,.map none] 62 (0,0)):=by
  have:=heap_alloc_at (w:=w.alloc (Obj.cells #[.slice base n cap,.int .i64 m0,.int .i64 m1] 26)) (.cells #[.slice none 0 0,.int .i64 0,.int .i64 0,.map none] 62)
  rw [show (w.alloc (Obj.cells #[.slice base n cap,.int .i64 m0,.int .i64 m1] 26)).heap.size=p+1 from by simp [hp],hW0] at this
  exact this
 have S1:=(Sep.start W0).new ((Ext.refl [] W0).alloc (.map #[] 0)) (Mp.oMp Tryz.prog 24 mkR W0.heap.size 0 (idxF [])) (idx_made _) (fun k hk=>by simp [Mp.oMp] at hk; omega)
 have S2:=S1.new ((Ext.refl _ _).alloc (.cells #[.map (some (p+2))] 60)) (Ob.one (p+3) (.cells #[.map (some (p+2))] 60)) (by
  have:=heap_alloc_at (w:=W0.alloc (.map #[] 0)) (.cells #[.map (some (p+2))] 60)
  rwa [show (W0.alloc (.map #[] 0)).heap.size=p+3 from by simp [hs0]] at this) (fun q hq=>by simp [Ob.one] at hq; simp; omega)
 rw [hW0,show w.heap.size+1+1=p+2 by omega,show w.heap.size+1=p+1 by omega,hp]
 rw [hs0] at S1 S2
 obtain⟨W2,hW2⟩:∃ W2,(W0.alloc (.map #[] 0)).alloc (.cells #[.map (some (p+2))] 60)=W2:=⟨_,rfl⟩
 have hs2:W2.heap.size=p+4:=by rw [←hW2]; simp [hs0]
 rw [hW2] at S2 ⊢
 have g0:=S2.ext.cell (cellOf hbA 0)
 have HB:=zz5 ⟨hx0,hs0,hbA,hbR,hp⟩
 have HS2:=zz2 ⟨S2,hs2⟩
 clear S1 S2 hW0 hW2 hx0 hs0 hbA hbR hs2 hp hmm
 go_wp2_with fail
 refine (backO_walk base n cap _).mono ?_
 rintro e w5 ⟨rfl,rfl⟩
 rw [HS2.out.2]
 obtain⟨w5,hw5⟩:∃ w5,W2.alloc (.cells #[.slice base n cap] 22)=w5:=⟨_,rfl⟩
 have hx5:Ext [] W2 w5:=by rw [←hw5]; exact (Ext.refl [] W2).alloc _
 have hb5:w5.heap[p+4]? = some (.cells #[.slice base n cap] 22 (0,0)):=by rw [←hw5,←HS2.out.2]; exact heap_alloc_at _
 have hs5:w5.heap.size=p+5:=by rw [←hw5]; simp [HS2.out.2]
 rw [hw5]
 have hsl:∀ x∈L,∃ b n c,x.tv=.slice b n c:=fun x hx=>by
  obtain⟨i,hi,rfl⟩:=List.getElem_of_mem hx
  obtain⟨b,o,-,hA⟩:=HH.out.1 i hi
  obtain⟨q,c,hq⟩:=tree_slice hA.nodes
  exact⟨_,_,_,hq⟩
 obtain⟨g,o,hgo,hgw⟩:∃ g o,(1≤n→base=some ⟨g,o,none⟩∧g<w.heap.size)∧(g<w.heap.size∨g=p+4):=by
  by_cases h1:1≤n
  ·obtain⟨b,o,hb,hA⟩:=HH.out.1 0 (by rw [HH.out.2.1]; omega)
   have:=World.block_lt_of_cell? w _ hA.num
   exact⟨b,o,fun _=>⟨hb,this⟩,.inl this⟩
  ·exact⟨p+4,0,fun h=>absurd h h1,.inr rfl⟩
 have hcs:∀ j,j<n→∀ c u,(encO ((L.map osOf).getD j default))[c]? = some u→w5.cell? ⟨g,o+j*5+c,none⟩=some u:=fun j hj c u hu=>by
  have hjL:j<L.length:=by rw [HH.out.2.1]; exact hj
  rw [List.getD_eq_getElem?_getD,List.getElem?_map,List.getElem?_eq_getElem hjL] at hu
  simp only [Option.map_some,Option.getD_some] at hu
  rw [(osOf_V (hsl _ (List.getElem_mem hjL))).2] at hu
  have hbe:=(hgo (by omega)).1
  have hIn:OmsIn w (some ⟨g,o,none⟩) L:=by rw [←hbe]; exact HH.out.1
  refine (HB.out.1.trans (HS2.out.1.ext.trans hx5)).cell ?_
  rw [Nat.add_assoc]
  refine oms_cells' hIn (j*5+c) u ?_
  have hc5:c<5:=(List.getElem?_eq_some_iff.1 hu).1
  obtain⟨h0,h1,h2,h3,h4⟩:=omsC_at L j hjL
  have hm:c=0∨c=1∨c=2∨c=3∨c=4:=by omega
  rcases hm with rfl | rfl | rfl | rfl | rfl
  ·rw [Nat.add_zero,h0]; exact hu
  ·rw [h1]; exact hu
  ·rw [h2]; exact hu
  ·rw [h3]; exact hu
  ·rw [h4]; exact hu
 have HG:=zz7 ⟨hx5,hb5,hs5,hgo,hgw,hcs,hsl⟩
 clear hx5 hb5 hs5 hgo hgw hcs hsl hw5 g0
 rw [show p+2+1=p+3 by omega]
 go_wp2_with fail
 refine wp_rangeA (gf:=90) (lb:=#[.pointer (some ⟨p+4,0,none⟩)]) rfl (Go.Proofs.enters_of Tryz.func90 (by kernel_rfl) rfl) (backO_iter n cap (p+4) g o base (L.map osOf) w5 (by omega) (fun h=>(HG.out.2.2.2.1 h).1) HG.out.2.2.2.2.2.1) (fun _=>rfl)
  (p+5) (p+6) HG.out.2.2.1 (by rw [HG.out.2.2.1]) (by simp) (fun k hk=>by
   have h1:=HG.out.2.2.1
   have h2:=HG.out.2.2.2.2.1
   have h3:=HB.out.2.2.2.2
   simp at hk
   omega) (fun W hx=>⟨hx.keep HG.out.2.1 (by simp),fun h=>hx.block g (by
    have h1:=HG.out.2.2.1
    have h2:=HG.out.2.2.2.2.1
    have h3:=HB.out.2.2.2.2
    omega) (by simp)⟩)
  (fun pre W=>pre.length≤n∧Sep W0 W [Ob.room [p+4,p+5,p+6],Ob.one (p+3) (.cells #[.map (some (p+2))] 60),Mp.oMp Tryz.prog 24 mkR (p+2) pre.length (idxF (L.drop (n - pre.length)))])
  (fun _ _ _=>False)
  (fun pre A B h hx=>⟨h.1,h.2.upd 0 (Ob.room [p+4,p+5,p+6]) rfl (hx.mono (fun i _ hi=>by simp at hi; simp [Ob.room]; omega)) (Fr.refl _ _) (fun k hk=>Nat.lt_of_lt_of_le (h.2.get 0 rfl k hk) hx.size)⟩)
  (fun _ _ _ _ h _=>h)
  (fun W hx hw2=>by
   have h1:=HG.out.2.2.1
   refine⟨Nat.zero_le _,?_⟩
   have hd:L.drop (n - ([]:List Nat).length)=[]:=List.drop_eq_nil_of_le (by rw [HH.out.2.1]; exact Nat.le_refl _)
   rw [hd]
   exact HS2.out.1.new (HG.out.1.trans hx) (Ob.room [p+4,p+5,p+6]) (fun k hk=>by simp at hk hw2; omega) (fun k hk=>by have:=HS2.out.2; simp [Ob.room] at hk; omega))
  ?round ?done ?stop
 case stop=>exact fun _ _ _ _ _ _ h _=>h.elim
 case round=>
  rintro pre x post W hxs ⟨hpl,S⟩ hlt
  obtain⟨rfl,hxn⟩:=range_pre hxs
  have HS:=zz S
  clear S hxs
  unfold backO_iterE
  obtain⟨j,hj⟩:∃ j,pre.length=j:=⟨_,rfl⟩
  rw [hj] at hxn hpl
  simp only [hj]
  have hdb:=drop_back L n j HH.out.2.1 hxn
  have hjL:n - 1 - j<L.length:=by rw [HH.out.2.1]; omega
  have hwx:=HH.out.2.2 _ (List.getElem_mem hjL)
  have hsx:=HG.out.2.2.2.2.2.2 _ (List.getElem_mem hjL)
  have hge:(L.map osOf).getD (n - 1 - j) default=osOf (L[n - 1 - j]'hjL):=by
   rw [List.getD_eq_getElem?_getD,List.getElem?_map,List.getElem?_eq_getElem hjL]
   rfl
  rw [hge]
  generalize L[n - 1 - j]'hjL=y at *
  rw [(osOf_V hsx).1]
  obtain⟨ynum,ygen,yv,yst,ydt,ytr⟩:=y
  obtain⟨yb,yn,yc,rfl⟩:∃ b n c,yv=.slice b n c:=hsx
  have HW:=zz3 ⟨hdb,lt_wf hwx,hj⟩
  clear hge hdb hwx hjL hj
  gi_wp2_with fail
  refine⟨(Ext.refl _ _).alloc _,fun ob=>?_⟩
  obtain⟨XW,hXW⟩:∃ XW,W.alloc (.cells #[.int .i64 ynum,.int .i64 ygen,.slice yb yn yc,.bool yst,.string ydt] 35)=XW:=⟨_,rfl⟩
  obtain⟨xb,hxb⟩:∃ xb,W.heap.size=xb:=⟨_,rfl⟩
  have hxa:Ext [] W XW:=by rw [←hXW]; exact (Ext.refl [] W).alloc _
  have hbx:XW.heap[xb]? = some (.cells #[.int .i64 ynum,.int .i64 ygen,.slice yb yn yc,.bool yst,.string ydt] 35 (0,0)):=by rw [←hXW,←hxb]; exact heap_alloc_at _
  simp only [hXW,hxb]
  obtain⟨V,hV⟩:∃ V,XW.putObj (p+6) ob=V:=⟨_,rfl⟩
  have hxv:Ext [p+6] XW V:=by rw [←hV]; exact Ext.putObj _ _ _
  rw [hV]
  have S:=(HS.out.quiet hxa).upd 0 (Ob.room [p+4,p+5,p+6]) rfl (hxv.mono (fun i _ hi=>by simp at hi; simp [Ob.room]; omega)) (Fr.refl _ _) (fun k hk=>Nat.lt_of_lt_of_le (HS.out.get 0 rfl k hk) (Nat.le_trans hxa.size hxv.size))
  have hbV:=hxv.keep hbx (by simp; omega)
  have hbm:V.heap[p+3]? = some (.cells #[.map (some (p+2))] 60 (0,0)):=S.get 1 rfl
  rw [HW.out.2.2] at S
  have k0:∀ y:Ex V,y.w.cell? ⟨xb,0,none⟩=some (.int .i64 ynum):=fun y=>y.cell (cellOf hbV 0)
  have k1:∀ y:Ex V,y.w.cell? ⟨xb,1,none⟩=some (.int .i64 ygen):=fun y=>y.cell (cellOf hbV 1)
  have k2:∀ y:Ex V,y.w.cell? ⟨xb,2,none⟩=some (.slice yb yn yc):=fun y=>y.cell (cellOf hbV 2)
  have k3:∀ y:Ex V,y.w.cell? ⟨xb,3,none⟩=some (.bool yst):=fun y=>y.cell (cellOf hbV 3)
  have k4:∀ y:Ex V,y.w.cell? ⟨xb,4,none⟩=some (.string ydt):=fun y=>y.cell (cellOf hbV 4)
  have m0' : ∀ y:Ex V,y.w.cell? ⟨p+3,0,none⟩=some (.map (some (p+2))):=fun y=>y.cell (cellOf hbm 0)
  have HOf:=zz (fun W=>of_walk ⟨ynum,ygen,.slice yb yn yc,yst,ydt,ytr⟩ W ⟨_,_,_,rfl⟩)
  obtain⟨kl,hkl⟩:=keyR HW.out.2.1
  have hgs:=HG.out.2.2.2.2.1
  have HS:=zz2 ⟨S,hkl⟩
  have hVs:W.heap.size≤V.heap.size:=Nat.le_trans hxa.size hxv.size
  have HZ:=zz3 ⟨hVs,hlt,hgs⟩
  clear S hXW hxa hbx hV hxv hbV hbm hkl hVs hgs hxb
  gi_wp2_with fail
  refine rnd_quiet_tl (C:=fun w'=>∃ x:Ex V,w' = x.w) 4 (by kernel_rfl) (by kernel_rfl) (by kernel_rfl) (fun⟨_,_,h⟩=>h) ⟨Ex.mk _ ((Ext.refl [] V).drew),rfl⟩ ?_
  simp only [List.take_succ_cons,List.take_zero,List.drop_succ_cons,List.drop_zero]
  repeat (go_big_quiet_step (fail))
  go_big_quiet_step ((go_at_call 29; refine Calls.ext_of (HOf.out _)))
  repeat (go_big_quiet_step (fail))
  refine wpQuiet_nil ?_
  rintro _ ⟨y,rfl⟩
  have HSy:=zz (HS.out.1.quiet y.ext)
  have HM:=zz (HSy.out.get 2 rfl:Mp.MapAt Tryz.prog 24 mkR y.w (p+2) j (idxF (L.drop (n - j))))
  clear k0 k1 k2 k3 k4 m0' HOf
  go_wp2_with (first | (at_mapUpdate; refine Mp.wpList_store_mp rfl _ _ _ 60 rfl 35 lawR mkR_inj Tryz.underlying60 rfl HM.out (by unfold maxLen; omega) (ynum,ygen) (omV ⟨ynum,ygen,.slice yb yn yc,yst,ydt,ytr⟩) kl rfl rfl HS.out.2 ?_; intro w7 hm7 hx7))
  rw [idxF_front ⟨ynum,ygen,.slice yb yn yc,yst,ydt,ytr⟩,←HW.out.1] at hm7
  have S7:=HSy.out.upd 2 (Mp.oMp Tryz.prog 24 mkR (p+2) (j+1) (idxF (L.drop (n - (j+1))))) rfl hx7 (Fr.refl _ _) hm7
  have HF:=zz2 ⟨S7,(y.ext.weak:Ext [p+2] V y.w).trans hx7⟩
  clear S7 hm7 hx7 HM
  (try gi_wp2_with fail)
  have hl1:(pre++[j]).length=j+1:=by rw [List.length_append,HW.out.2.2]; rfl
  refine⟨KeepsT.of_ext HF.out.2 (fun k hk=>?_),by rw [hl1]; omega,by rw [hl1]; exact HF.out.1⟩
  have h1:=HZ.out.1
  have h2:=HZ.out.2.1
  have h3:=HZ.out.2.2
  have h4:=HB.out.2.2.2.2
  simp at hk
  simp
  omega
 case done=>
  rintro W ⟨-,S⟩ hD
  rw [List.length_range,Nat.sub_self,List.drop_zero] at S
  have hbm:W.heap[p+3]? = some (.cells #[.map (some (p+2))] 60 (0,0)):=S.get 1 rfl
  have hbA:=S.ext.keep HB.out.2.2.1 (by simp)
  have hbR:=S.ext.keep HB.out.2.2.2.1 (by simp)
  have k0:=cellOf hbA 0
  have k1:=cellOf hbA 1
  have k2:=cellOf hbA 2
  have k3:=cellOf hbm 0
  have r0:=cellOf hbR 0
  have r1:=cellOf hbR 1
  have r2:=cellOf hbR 2
  have r3:=cellOf hbR 3
  have f0:=freeOf hbR 0
  have f1:=freeOf hbR 1
  have f2:=freeOf hbR 2
  have f3:=freeOf hbR 3
  have HF:=zz3 ⟨Sep.tail (Sep.tail S),hbR,hD⟩
  clear S hbm hbA hbR hD
  go_wp2_with fail
  have hne:p+5≠p+1:=by omega
  have hD' : (((W.setCell ⟨p+1,0,none⟩ (.slice base n cap)).setCell ⟨p+1,1,none⟩ (.int .i64 m0)).setCell ⟨p+1,2,none⟩ (.int .i64 m1)).setCell ⟨p+1,3,none⟩ (.map (some (p+2))) |>.heap[p+5]? = some (.deferred (some [])):=
   (heap_setCell_ne _ hne).trans ((heap_setCell_ne _ hne).trans ((heap_setCell_ne _ hne).trans ((heap_setCell_ne _ hne).trans HF.out.2.2)))
  refine⟨by simp,.inl ⟨_,_,rfl,run_takeDeferred hD',?_⟩⟩
  refine⟨_,results_cell_row rfl _ _ (p+1) 62 #[.slice base n cap,.int .i64 m0,.int .i64 m1,.map (some (p+2))] (0,0) _ rfl ((World.putObj_heap_other (Ne.symm hne)).trans (heap_setCell_same (heap_setCell_same (heap_setCell_same (heap_setCell_same HF.out.2.1 _) _) _) _)) Tryz.underlying62 rfl sizePg,?_⟩
  refine⟨p+2,rfl,(Sep.since HB.out.1 HF.out.1).extra (X:=[p+1,p+5]) (((((Ext.refl [p+1,p+5] W).setCell ⟨p+1,0,none⟩ _ (by simp)).setCell ⟨p+1,1,none⟩ _ (by simp)).setCell ⟨p+1,2,none⟩ _ (by simp)).setCell ⟨p+1,3,none⟩ _ (by simp) |>.trans ((Ext.putObj _ (p+5) _).mono (fun i _ hi=>by simp at hi; simp [hi]))) (fun k hk=>?_)⟩
  have h4:=HB.out.2.2.2.2
  refine⟨by simp at hk; omega,fun ob hob=>?_⟩
  obtain rfl:=List.mem_singleton.1 hob
  simp [Mp.oMp]
  simp at hk
  omega
end Pg
open Go.RowKit
section
variable {P:Program} {ops:Array Oper} {md:Region.Mode} {C:World→Prop} {Q:Exit→Act→World→Prop}
theorem anyC_oneG {m f i:Nat} {o:Oper} {L:Array Bool→Act→World→Prop} {listed:Array Bool} {a:Act} {w:World} (hr:Region.ready md ops listed=[i]) (hi:i<m) (ho:ops[i]? = some o) (hg:Region.wanted o (yielded ops a.tmps)=true)
  (h:∀ K:Act→World→Prop,(∀ a' w',C w'→anyC P md ops Q C m L f (listed.setIfInBounds i true) a' w'→K a' w')→o.wp P a w K Q):anyC P md ops Q C m L (f+1) listed a w:=by
 refine⟨by rw [hr]; simp,fun k hk=>?_⟩
 rw [hr] at hk
 obtain rfl:k=i:=by simpa using hk
 refine⟨hi,?_⟩
 unfold wpOp
 simp only [ho,hg,if_true]
 exact .inl (h _ fun a' w' h1 h2=>⟨h1,h2⟩)
end
namespace Pg
open Go.RowKit
open Tr
open Rc
structure AskAt (w:World) (mb n:Nat) (L:List Om):Prop where
 map:Mp.MapAt Tryz.prog 24 mkR w mb n (idxF L)
 nodes:∀ x∈L,NodesAt w x.tv x.tree
 wf:∀ x∈L,OmWf x
theorem AskAt.ext {w w' : World} {mb n:Nat} {L:List Om} (h:AskAt w mb n L) (hx:Ext [] w w'):AskAt w' mb n L:=⟨h.map.ext hx (by simp),fun x hm=>(h.nodes x hm).ext hx,h.wf⟩
def rootB (L:List Om) (r:Rf):Bool:=match findO L r with
 | some x=>catN x
 | none=>false
theorem root_walk (v:Value) (m0 m1:Int) (mb n:Nat) (L:List Om) (w:World) (hv:∃ b k c,v=.slice b k c) (hA:AskAt w mb n L) (hr:RfWf (m0,m1)) :
  Calls Tryz.prog 26 #[.agg #[v,.int .i64 m0,.int .i64 m1,.map (some mb)]] w fun e w'=>e=.returned (.tuple #[omVo (findO L (m0,m1)),.bool (rootB L (m0,m1))])∧Ext [] w w':=by
 obtain⟨vb,vn,vc,rfl⟩:=hv
 obtain⟨W0,hW0⟩:∃ W0,(w.alloc (.cells #[.slice vb vn vc,.int .i64 m0,.int .i64 m1,.map (some mb)] 62)).alloc (.cells #[.int .i64 0,.int .i64 0,.slice none 0 0,.bool false,.string ⟨#[]⟩] 35)=W0:=⟨_,rfl⟩
 obtain⟨p,hp⟩:∃ p,w.heap.size=p:=⟨_,rfl⟩
 have hx0:Ext [] w W0:=by rw [←hW0]; exact ((Ext.refl [] w).alloc _).alloc _
 have hbA:W0.heap[p]? = some (.cells #[.slice vb vn vc,.int .i64 m0,.int .i64 m1,.map (some mb)] 62 (0,0)):=by rw [←hW0,←hp]; exact heap_alloc_old _ (heap_alloc_at _)
 have hbR:W0.heap[p+1]? = some (.cells #[.int .i64 0,.int .i64 0,.slice none 0 0,.bool false,.string ⟨#[]⟩] 35 (0,0)):=by
  have:=heap_alloc_at (w:=w.alloc (.cells #[.slice vb vn vc,.int .i64 m0,.int .i64 m1,.map (some mb)] 62)) (.cells #[.int .i64 0,.int .i64 0,.slice none 0 0,.bool false,.string ⟨#[]⟩] 35)
  rw [show (w.alloc (.cells #[.slice vb vn vc,.int .i64 m0,.int .i64 m1,.map (some mb)] 62)).heap.size=p+1 from by simp [hp],hW0] at this
  exact this
 have hs0:W0.heap.size=p+2:=by rw [←hW0]; simp [hp]
 obtain⟨kl,hkl⟩:=keyR hr
 have hA0:=hA.ext hx0
 have hlook:=hA0.map.look_ok lawR Tryz.underlying60 (zeroObj W0) (x:=(m0,m1)) hkl
 have hbO:=heap_alloc_at (w:=W0)
 have HB:=zz5 ⟨hx0,hbR,hs0,hA0,hp⟩
 have k1:=cellOf hbA 1
 have k2:=cellOf hbA 2
 have k3:=cellOf hbA 3
 have HC:=zz (fun x (hx:x∈L) W (hW:Ext [] W0 W)=>cat_walk x W ((hA0.nodes x hx).ext hW) (hA.wf x hx).lt)
 clear hx0 hbA hbR hs0 hkl hA0 hA hbO
 cases hf:findO L (m0,m1) with
 | none=>
  rw [show idxF L (m0,m1)=none by unfold idxF; rw [hf]; rfl,Option.getD_none,Option.isSome_none] at hlook
  have hrb:rootB L (m0,m1)=false:=by unfold rootB; rw [hf]
  rw [hrb]
  clear hf hrb
  go_enter Tryz.func26,Tryz.ntmps26
  go_upto_region 1 with (fail)
  clear hW0 hp
  go_upto_region 2 with (fail)
  have S2:=heap_alloc_at (w:=W0) (.cells #[.int .i64 0,.int .i64 0,.slice none 0 0,.bool false,.string ⟨#[]⟩] 35)
  have hbR2:=heap_alloc_old (.cells #[.int .i64 0,.int .i64 0,.slice none 0 0,.bool false,.string ⟨#[]⟩] 35) HB.out.2.1
  obtain⟨W2,hW2⟩:∃ W2,W0.alloc (.cells #[.int .i64 0,.int .i64 0,.slice none 0 0,.bool false,.string ⟨#[]⟩] 35)=W2:=⟨_,rfl⟩
  have hx2:Ext [] W0 W2:=by rw [←hW2]; exact (Ext.refl [] W0).alloc _
  rw [hW2] at S2 hbR2 ⊢
  obtain⟨q,hq⟩:∃ q,W0.heap.size=q:=⟨_,rfl⟩
  rw [hq] at S2 ⊢
  have a0:=cellOf S2 0
  have a1:=cellOf S2 1
  have a2:=cellOf S2 2
  have a3:=cellOf S2 3
  have a4:=cellOf S2 4
  have f0:=freeOf hbR2 0
  have f1:=freeOf hbR2 1
  have f2:=freeOf hbR2 2
  have f3:=freeOf hbR2 3
  have f4:=freeOf hbR2 4
  have b0:=cellOf hbR2 0
  have b1:=cellOf hbR2 1
  have b2:=cellOf hbR2 2
  have b3:=cellOf hbR2 3
  have b4:=cellOf hbR2 4
  have mixed:Tryz.prog.follows .mixedOrders=true:=by kernel_rfl
  have HX:=zz2 ⟨HB.out.1.trans hx2,hbR2⟩
  clear S2 hbR2 hW2 hx2 hq hlook k1 k2 k3
  go_region
  go_wp2_with fail
  (try simp only [Exit.inBlock,Exit.then])
  refine bodyPost_ret (results_row_tmp rfl _ _ (p+1) 35 #[.int .i64 0,.int .i64 0,.slice none 0 0,.bool false,.string ⟨#[]⟩] (0,0) _ rfl (heap_drew.trans (heap_setCell_same (heap_setCell_same (heap_setCell_same (heap_setCell_same (heap_setCell_same HX.out.2 _) _) _) _) _)) Tryz.underlying35 rfl sizeObj) rfl ?_
  have hpw:w.heap.size≤p+1:=by have:=HB.out.2.2.2.2; omega
  exact⟨rfl,(((((HX.out.1.setCell _ _ (.inr hpw)).setCell _ _ (.inr hpw)).setCell _ _ (.inr hpw)).setCell _ _ (.inr hpw)).setCell _ _ (.inr hpw)).drew⟩
 | some x=>
  obtain⟨hxm,-⟩:=findO_mem hf
  obtain⟨xb,xc,hxv⟩:=tree_slice (HB.out.2.2.2.1.nodes x hxm)
  rw [show idxF L (m0,m1)=some (omV x) by unfold idxF; rw [hf]; rfl,Option.getD_some,Option.isSome_some] at hlook
  have hrb:rootB L (m0,m1)=catN x:=by unfold rootB; rw [hf]
  rw [hrb]
  have HCx:=zz (HC.out x hxm)
  obtain⟨xnum,xgen,xtv,xst,xdt,xtr⟩:=x
  have hxv:xtv=.slice xb xtr.length xc:=hxv
  subst hxv
  obtain⟨xn,hxn⟩:∃ xn,xtr.length=xn:=⟨_,rfl⟩
  rw [hxn] at hlook HCx ⊢
  show Calls _ _ _ _ fun e w'=>e=.returned (.tuple #[.agg #[.int .i64 xnum,.int .i64 xgen,.slice xb xn xc,.bool xst,.string xdt],_])∧_
  obtain⟨cb,hcb⟩:∃ cb,catN ⟨xnum,xgen,.slice xb xn xc,xst,xdt,xtr⟩=cb:=⟨_,rfl⟩
  rw [hcb] at HCx ⊢
  clear hf hrb HC hxm hxn hcb
  go_enter Tryz.func26,Tryz.ntmps26
  go_upto_region 1 with (fail)
  clear hW0 hp
  go_upto_region 2 with (fail)
  have S2:=heap_alloc_at (w:=W0) (.cells #[.int .i64 xnum,.int .i64 xgen,.slice xb xn xc,.bool xst,.string xdt] 35)
  have hbR2:=heap_alloc_old (.cells #[.int .i64 xnum,.int .i64 xgen,.slice xb xn xc,.bool xst,.string xdt] 35) HB.out.2.1
  obtain⟨W2,hW2⟩:∃ W2,W0.alloc (.cells #[.int .i64 xnum,.int .i64 xgen,.slice xb xn xc,.bool xst,.string xdt] 35)=W2:=⟨_,rfl⟩
  have hx2:Ext [] W0 W2:=by rw [←hW2]; exact (Ext.refl [] W0).alloc _
  rw [hW2] at S2 hbR2 ⊢
  obtain⟨q,hq⟩:∃ q,W0.heap.size=q:=⟨_,rfl⟩
  have hqp:q≠p+1:=by have:=HB.out.2.2.1; omega
  rw [hq] at S2 ⊢
  have hqS:q∉[p+1]:=by simpa using hqp
  have k0:∀ y:ExS [p+1] W2,y.w.cell? ⟨q,0,none⟩=some (.int .i64 xnum):=fun y=>y.cell (cellOf S2 0) hqS
  have j1:∀ y:ExS [p+1] W2,y.w.cell? ⟨q,1,none⟩=some (.int .i64 xgen):=fun y=>y.cell (cellOf S2 1) hqS
  have j2:∀ y:ExS [p+1] W2,y.w.cell? ⟨q,2,none⟩=some (.slice xb xn xc):=fun y=>y.cell (cellOf S2 2) hqS
  have j3:∀ y:ExS [p+1] W2,y.w.cell? ⟨q,3,none⟩=some (.bool xst):=fun y=>y.cell (cellOf S2 3) hqS
  have j4:∀ y:ExS [p+1] W2,y.w.cell? ⟨q,4,none⟩=some (.string xdt):=fun y=>y.cell (cellOf S2 4) hqS
  have HX:=zz3 ⟨HB.out.1.trans hx2,hbR2,hx2⟩
  clear S2 hbR2 hW2 hx2 hq hlook k1 k2 k3 hqS
  have HCy:=zz (fun (y:ExS [p+1] W2)=>HCx.out y.w)
  refine wp_region_perm (C:=fun w'=>∃ y:ExS [p+1] W2,w' = y.w) [0,1,2,3] 7 (by kernel_rfl) (by kernel_rfl) ⟨ExS.mk _ ((Ext.refl _ W2).drew),rfl⟩ ?_
  simp only [pick,List.getElem?_toArray,List.getElem?_cons_zero,List.getElem?_cons_succ,List.drop_succ_cons,List.drop_zero]
  repeat (go_big_quiet_step (fail))
  refine wpQuiet_nil ?_
  clear k0 j1 j2 j3 j4
  refine anyC_oneG (f:=2) (i:=4) (by kernel_rfl) (by decide) rfl rfl (fun K hK=>?_)
  go_wp2_with fail
  refine (HCx.out _ (HX.out.2.2.trans ((Ext.refl [] W2).drew))).mono ?_
  rintro e w3 ⟨rfl,hx3⟩
  have hb3:=hx3.keep (heap_drew.trans HX.out.2.1) (by simp)
  have HX3:=zz2 ⟨hx3,hb3⟩
  have b0:=cellOf hb3 0
  have b1:=cellOf hb3 1
  have b2:=cellOf hb3 2
  have b3:=cellOf hb3 3
  have b4:=cellOf hb3 4
  have f0:=freeOf hb3 0
  have f1:=freeOf hb3 1
  have f2:=freeOf hb3 2
  have f3:=freeOf hb3 3
  have f4:=freeOf hb3 4
  clear hx3 hb3
  go_wp2_with fail
  refine hK _ _ ⟨ExS.mk _ (((Ext.refl _ W2).drew).trans HX3.out.1.weak),rfl⟩ ?_
  clear hK K
  have hpw:w.heap.size≤p+1:=by have:=HB.out.2.2.2.2; omega
  have hx5:Ext [p+1] W2 ((((((w3.setCell ⟨p+1,0,none⟩ (.int .i64 xnum)).setCell ⟨p+1,1,none⟩ (.int .i64 xgen)).setCell ⟨p+1,2,none⟩ (.slice xb xn xc)).setCell ⟨p+1,3,none⟩ (.bool xst)).setCell ⟨p+1,4,none⟩ (.string xdt))):=((((((((Ext.refl [p+1] W2).drew).trans HX3.out.1.weak).setCell ⟨p+1,0,none⟩ _ (.inl (by simp))).setCell ⟨p+1,1,none⟩ _ (.inl (by simp))).setCell ⟨p+1,2,none⟩ _ (.inl (by simp))).setCell ⟨p+1,3,none⟩ _ (.inl (by simp))).setCell ⟨p+1,4,none⟩ _ (.inl (by simp)))
  have hxw:Ext [] w ((((((w3.setCell ⟨p+1,0,none⟩ (.int .i64 xnum)).setCell ⟨p+1,1,none⟩ (.int .i64 xgen)).setCell ⟨p+1,2,none⟩ (.slice xb xn xc)).setCell ⟨p+1,3,none⟩ (.bool xst)).setCell ⟨p+1,4,none⟩ (.string xdt))):=HX.out.1.trans' hx5 (fun i hi hk=>by simp at hk; omega)
  have hb5:((((((w3.setCell ⟨p+1,0,none⟩ (.int .i64 xnum)).setCell ⟨p+1,1,none⟩ (.int .i64 xgen)).setCell ⟨p+1,2,none⟩ (.slice xb xn xc)).setCell ⟨p+1,3,none⟩ (.bool xst)).setCell ⟨p+1,4,none⟩ (.string xdt))).heap[p+1]? = some (.cells #[.int .i64 xnum,.int .i64 xgen,.slice xb xn xc,.bool xst,.string xdt] 35 (0,0)):=heap_setCell_same (heap_setCell_same (heap_setCell_same (heap_setCell_same (heap_setCell_same HX3.out.2 _) _) _) _) _
  have HW5:=zz3 ⟨hxw,hx5,hb5⟩
  have hxm:Ext [p+1] W2 w3:=((Ext.refl [p+1] W2).drew).trans HX3.out.1.weak
  have HXM:=zz hxm
  clear hxw hx5 hb5 hxm hpw
  refine anyC_two (f:=1) (i:=5) (j:=6) (by kernel_rfl) (by decide) (by decide) rfl rfl rfl rfl (fun K hK=>?_) (fun K hK=>?_)
  ·go_wp2_with fail
   refine hK _ _ ⟨ExS.mk _ HXM.out,rfl⟩ ?_
   clear hK K
   refine anyC_one (f:=0) (i:=6) (by kernel_rfl) (by decide) rfl rfl (fun K hK=>?_)
   go_wp2_with fail
   refine hK _ _ ⟨ExS.mk _ HW5.out.2.1,rfl⟩ ?_
   clear hK K
   refine anyC_end (by kernel_rfl) ?_
   go_wp2_with fail
   refine NoPanic.normal ?_
   go_wp2_with fail
   (try simp only [Exit.inBlock,Exit.then])
   exact bodyPost_ret (results_row_tmp rfl _ _ (p+1) 35 #[.int .i64 xnum,.int .i64 xgen,.slice xb xn xc,.bool xst,.string xdt] (0,0) _ rfl HW5.out.2.2 Tryz.underlying35 rfl sizeObj) rfl ⟨rfl,HW5.out.1⟩
  ·go_wp2_with fail
   refine hK _ _ ⟨ExS.mk _ HW5.out.2.1,rfl⟩ ?_
   clear hK K
   refine anyC_one (f:=0) (i:=5) (by kernel_rfl) (by decide) rfl rfl (fun K hK=>?_)
   go_wp2_with fail
   refine hK _ _ ⟨ExS.mk _ HW5.out.2.1,rfl⟩ ?_
   clear hK K
   refine anyC_end (by kernel_rfl) ?_
   go_wp2_with fail
   refine NoPanic.normal ?_
   go_wp2_with fail
   (try simp only [Exit.inBlock,Exit.then])
   exact bodyPost_ret (results_row_tmp rfl _ _ (p+1) 35 #[.int .i64 xnum,.int .i64 xgen,.slice xb xn xc,.bool xst,.string xdt] (0,0) _ rfl HW5.out.2.2 Tryz.underlying35 rfl sizeObj) rfl ⟨rfl,HW5.out.1⟩
theorem sub_mem {l:List Nd} {k:Nat} {x:Nd} (h:x∈subN l k):∃ y∈l,x.kind=y.kind∧x.n=y.n∧x.gen=y.gen∧x.s=y.s:=by
 unfold subN at h
 split at h
 ·obtain⟨y,hy,rfl⟩:=List.mem_map.1 h
  exact⟨y,List.mem_of_mem_take (List.mem_of_mem_drop hy),rfl,rfl,rfl,rfl⟩
 ·cases h
theorem get_refs {l:List Nd} {s:ByteArray} {v:List Nd} (h:getN l s=some v):∀ r∈refsN v,r∈refsN l:=by
 obtain⟨his,k,hk,rfl⟩:=get_ok h
 intro r hr
 unfold refsN at hr ⊢
 rw [if_pos (is_facts his).1]
 split at hr
 ·obtain⟨x,hx,rfl⟩:=List.mem_map.1 hr
  obtain⟨hx1,hx2⟩:=List.mem_filter.1 hx
  obtain⟨y,hy,e1,e2,e3,-⟩:=sub_mem hx1
  refine List.mem_map.2 ⟨y,List.mem_filter.2 ⟨hy,?_⟩,by rw [e2,e3]⟩
  rw [←e1]
  exact hx2
 ·cases hr
theorem nd_mem {v:List Nd} {k:Int} (h0:0≤k) (h1:k<v.length):ndAt v k∈v:=by
 obtain⟨m,rfl⟩:∃ m:Nat,k=m:=⟨k.toNat,by omega⟩
 rw [ndAt_nat v m (by omega)]
 exact List.getElem_mem _
theorem link_ref {v:List Nd} (hc:checkN v=0) {k:Int} (h0:0≤k) (h1:k<v.length) (h:(linkN (ndAt v k)).2=true):(linkN (ndAt v k)).1∈refsN v:=by
 unfold refsN
 rw [if_pos hc]
 exact List.mem_map.2 ⟨ndAt v k,List.mem_filter.2 ⟨nd_mem h0 h1,by simpa [linkN] using h⟩,rfl⟩
theorem to_ref {l:List Nd} {s:ByteArray} (h:(toN l s).2=true):(toN l s).1∈refsN l:=by
 unfold toN at h ⊢
 cases hg:getN l s with
 | none=>rw [hg] at h; cases h
 | some v=>
  rw [hg] at h
  obtain⟨hc,h0,-⟩:=get_tree hg
  exact get_refs hg _ (link_ref hc (by omega) (by omega) h)
theorem kidF_mem {v:List Nd} (hc:checkN v=0):∀ (K:List Int),(∀ k∈K,0<k∧k<v.length)→∀ r∈(kidF v K).1,r∈refsN v:=by
 have h:∀ (K:List Int) (st:List Rf×Bool),(∀ k∈K,0<k∧k<v.length)→(∀ r∈st.1,r∈refsN v)→∀ r∈(K.foldl (fun st k=>if (linkN (ndAt v k)).2=true then (st.1++[(linkN (ndAt v k)).1],st.2) else (st.1,false)) st).1,r∈refsN v:=by
  intro K
  induction K with
  | nil=>intro st _ hs; exact hs
  | cons k K ih=>
   intro st hk hs
   rw [List.foldl_cons]
   refine ih _ (fun j hj=>hk j (by simp [hj])) ?_
   split
   ·rename_i hl
    intro r hr
    rcases List.mem_append.1 hr with hr | hr
    ·exact hs r hr
    ·obtain rfl:=List.mem_singleton.1 hr
     have h1:=hk k (by simp)
     exact link_ref hc (by omega) h1.2 hl
   ·exact hs
 intro K hk
 exact h K ([],true) hk (fun r hr=>by cases hr)
theorem kids_ref {l:List Nd} {r:Rf} (h:r∈(kidsN l).1):r∈refsN l:=by
 unfold kidsN at h
 cases hg:getN l kKids with
 | none=>rw [hg] at h; cases h
 | some v=>
  rw [hg] at h
  simp only at h
  split at h
  ·obtain⟨hc,h0,-⟩:=get_tree hg
   refine get_refs hg _ (kidF_mem hc _ (fun k hk=>?_) r h)
   obtain⟨i,hi,rfl⟩:=List.getElem_of_mem hk
   exact root_kids hc i _ (List.getElem?_eq_getElem hi)
  ·cases h
theorem kids_len (l:List Nd):(kidsN l).1.length≤65536:=by
 unfold kidsN
 cases hg:getN l kKids with
 | none=>exact Nat.zero_le _
 | some v=>
  simp only
  split
  ·obtain⟨hc,-⟩:=get_tree hg
   exact Nat.le_trans (kidF_len _ _) (root_len hc)
  ·exact Nat.zero_le _
def countN (t:List Nd) (sum:Int):Bool:=match getN t kCount with
 | some v=>((ndAt v 0).kind==3)&&((ndAt v 0).n==sum)
 | none=>false
abbrev Cnt:=(Int×Bool)×List Rf
def kidsL (F:List Rf→Rf→Cnt):List Rf→Int→List Rf→Option Int×List Rf
 | [],s,seen=>(some s,seen)
 | k::ks,s,seen=>if (F seen k).1.2=true then kidsL F ks (s+(F seen k).1.1) (F seen k).2 else (none,(F seen k).2)
def badP (o:Om) (parent:Rf) (top:Bool):Bool:=(top&&(getN o.tree kParent).isSome)||(!top&&(!(toN o.tree kParent).2||decide ((toN o.tree kParent).1≠parent)))
def pagesF (L:List Om):Nat→List Rf→Rf→Rf→Bool→Cnt
 | 0,seen,_,_,_=>((0,false),seen)
 | g+1,seen,r,parent,top=>match findO L r with
  | none=>((0,false),seen)
  | some o=>
   if r∈seen then ((0,false),seen) else
   if (!nodeN o&&(top || !pageN o))=true then ((0,false),seen) else
   if badP o parent top=true then ((0,false),seen++[r]) else
   if pageN o=true then ((1,true),seen++[r]) else
   if (kidsN o.tree).2.2=false then ((0,false),seen++[r]) else
   match kidsL (fun sn k=>pagesF L g sn k r false) (kidsN o.tree).1 0 (seen++[r]) with
   | (none,sn)=>((0,false),sn)
   | (some sum,sn)=>((sum,countN o.tree sum),sn)
structure CntOk (L:List Om) (seen:List Rf) (c:Cnt):Prop where
 ok:QOk L c.2
 more:seen.length≤c.2.length
 low:0≤c.1.1
 high:c.1.1≤(c.2.length:Int) - seen.length
theorem kidsL_ok {L:List Om} {F:List Rf→Rf→Cnt} (hF:∀ sn k,QOk L sn→CntOk L sn (F sn k)):∀ (ks:List Rf) (s:Int) (seen:List Rf),QOk L seen→QOk L (kidsL F ks s seen).2∧seen.length≤(kidsL F ks s seen).2.length∧∀ t,(kidsL F ks s seen).1=some t→s≤t∧t≤s+((kidsL F ks s seen).2.length:Int) - seen.length
 | [],s,seen,h=>⟨h,Nat.le_refl _,fun t ht=>by obtain rfl:=Option.some.inj ht; simp only [kidsL]; omega⟩
 | k::ks,s,seen,h=>by
  have h1:=hF seen k h
  rw [kidsL]
  split
  ·obtain⟨a,b,c⟩:=kidsL_ok hF ks (s+(F seen k).1.1) (F seen k).2 h1.ok
   refine⟨a,Nat.le_trans h1.more b,fun t ht=>?_⟩
   have:=c t ht
   have h2:=h1.low
   have h3:=h1.high
   omega
  ·exact⟨h1.ok,h1.more,fun t ht=>by cases ht⟩
theorem snoc_ok {L:List Om} {seen:List Rf} {r:Rf} (h:QOk L seen) (hr:hasO L r=true) (hn:r∉seen):QOk L (seen++[r]):=
 ⟨List.nodup_append.2 ⟨h.1,by simp,fun a ha b hb e=>by subst e; obtain rfl:=List.mem_singleton.1 hb; exact hn ha⟩,fun a ha=>by
  rcases List.mem_append.1 ha with ha | ha
  ·exact h.2 a ha
  ·obtain rfl:=List.mem_singleton.1 ha; exact hr⟩
theorem pagesF_ok (L:List Om):∀ (g:Nat) (seen:List Rf) (r parent:Rf) (top:Bool),QOk L seen→CntOk L seen (pagesF L g seen r parent top)
 | 0,seen,r,parent,top,h=>⟨h,Nat.le_refl _,Int.le_refl _,by simp [pagesF]⟩
 | g+1,seen,r,parent,top,h=>by
  have none' : CntOk L seen ((0,false),seen):=⟨h,Nat.le_refl _,Int.le_refl _,by simp⟩
  rw [pagesF]
  cases hf:findO L r with
  | none=>exact none'
  | some o=>
   simp only
   split
   ·exact none'
   rename_i hns
   split
   ·exact none'
   have h2:QOk L (seen++[r]):=snoc_ok h (by unfold hasO; rw [hf]; rfl) hns
   have hl:(seen++[r]).length=seen.length+1:=by simp
   have some' : CntOk L seen ((0,false),seen++[r]):=⟨h2,by rw [hl]; omega,Int.le_refl _,by simp only [hl]; omega⟩
   split
   ·exact some'
   split
   ·exact⟨h2,by rw [hl]; omega,by simp,by simp only [hl]; omega⟩
   split
   ·exact some'
   obtain⟨a,b,c⟩:=kidsL_ok (L:=L) (fun sn k hsn=>pagesF_ok L g sn k r false hsn) (kidsN o.tree).1 0 (seen++[r]) h2
   cases hk:kidsL (fun sn k=>pagesF L g sn k r false) (kidsN o.tree).1 0 (seen++[r]) with
   | mk t sn=>
    rw [hk] at a b c
    cases t with
    | none=>
     show CntOk L seen ((0,false),sn)
     have b:(seen++[r]).length≤sn.length:=b
     exact⟨a,by show seen.length≤sn.length; omega,Int.le_refl _,by show (0:Int)≤(sn.length:Int) - seen.length; omega⟩
    | some sum=>
     show CntOk L seen ((sum,countN o.tree sum),sn)
     have b:(seen++[r]).length≤sn.length:=b
     have c2:0≤sum∧sum≤0+(sn.length:Int) - (seen++[r]).length:=c sum rfl
     exact⟨a,by show seen.length≤sn.length; omega,c2.1,by show sum≤(sn.length:Int) - seen.length; omega⟩
section
variable {P:Program} {ops:Array Oper} {md:Region.Mode} {C:World→Prop} {Q:Exit→Act→World→Prop}
def noCallL (o:Oper):Bool:=noCall o||(match o.op with | .lookup ..=>true | _=>false)
theorem noCallL_vy {o:Oper} (hn:noCallL o=true) (ρ:Operand→Value):Vy (execOp ρ o):=by
 cases h:noCall o with
 | true=>exact noCall_vy h ρ
 | false=>
  obtain⟨dst,op,ty,pos,after,guard⟩:=o
  cases op
  case lookup=>
   simp only [execOp]
   first | exact Vy.bind fun _=>Vy.pure _ | exact Vy.bind fun _=>Vy.bind fun _=>Vy.pure _ | exact Vy.pure _
  all_goals (simp [noCallL,h] at hn)
theorem yieldsIf_of_inL {o:Oper} (hn:noCallL o=true) {v:Value} {a:Act} (h:YieldsIn P ops C o v a):YieldsIf P ops C o v a:=by
 rcases h with ⟨hw,h⟩ | h
 ·refine .inl ⟨hw,fun w hC=>?_⟩
  have h1:=h w hC
  have h2:=noCallL_vy hn a.eval P w
  unfold Oper.quietAt at h1
  cases hr:(execOp a.eval o).run P w with
  | ok n w'=>
   obtain⟨u,rfl⟩:=h2 w' n hr
   rw [hr] at h1
   obtain⟨rfl,rfl⟩:=h1
   rfl
  | halt x w'=>rw [hr] at h1; exact h1.elim
 ·exact .inr h
theorem anyC_permL {m r:Nat} {Lq:Act→Prop} {L:Array Bool→Act→World→Prop} {w:World} (hw:C w) (hQ:∀ c a d v w,Q (.panic c) (a.put d v) w→Q (.panic c) a w)
  (hsel:Region.noSelect ops=true) (hs:Region.sinkB md ops m=true) (hc:Region.chainB md ops m=true) (hm:m<ops.size) (hdone:∀ listed a w,L listed a w→∀ j∈Region.ready md ops listed,m≤j) (fin:Array Bool)
  (hL:∀ a,Lq a→anyC P md ops Q C m L r fin a w) :
  ∀ (π:List Nat) (listed:Array Bool) (a:Act),(∀ k∈π,k<m)→(∀ o∈pick ops π,noCallL o=true)→HeadInv md ops m listed→headP md ops π listed=true→listAll π listed=fin→
   wpQuiet P ops C Lq (pick ops π) a→anyC P md ops Q C m L (π.length+r) listed a w:=by
 intro π
 induction π with
 | nil=>
  intro listed a _ _ _ _ hf h
  rw [List.length_nil,Nat.zero_add]
  have:listed=fin:=hf
  exact this ▸ hL a h
 | cons k π ih=>
  intro listed a hlt hn inv hB hf h
  have hkm:k<m:=hlt k (by simp)
  obtain⟨o,h0⟩:∃ o,ops[k]? = some o:=⟨_,Array.getElem?_eq_getElem (by omega)⟩
  simp only [headP,Bool.and_eq_true] at hB
  have hr:k∈Region.ready md ops listed:=by simpa using hB.1.1
  have hp:pick ops (k::π)=o::pick ops π:=by simp [pick,h0]
  rw [hp] at h hn
  have hq:qOp P ops C k (wpQuiet P ops C Lq (pick ops π)) a:=by unfold qOp; simp only [h0]; exact h
  obtain⟨v,hy,hK⟩:=yieldsIn_of_qOp h0 hq
  rw [List.length_cons,show π.length+1+r=(π.length+r)+1 by omega]
  refine anyC_first h0 (Region.noSelect_spec hsel) (fun c a w=>hQ c a _ _ w) hs hc hm hkm hdone (π.length+r) listed a w hw inv (Region.free_spec h0 hB.1.2) hr (yieldsIf_of_inL (hn o (by simp)) hy) ?_
  exact ih _ _ (fun j hj=>hlt j (by simp [hj])) (fun o' ho'=>hn o' (by simp [ho'])) (inv.set hr hkm) hB.2 hf hK
def permBL (ops:Array Oper) (π:List Nat) (m:Nat):Bool:=
 Region.noSelect ops&&decide (m<ops.size)&&Region.sinkB .any ops m&&Region.chainB .any ops m&&decide (π.length≤m)&&π.all (fun k=>decide (k<m))&&(pick ops π).all noCallL&&headP .any ops π (Array.replicate ops.size false)
theorem wpAny_permL {a:Act} {w:World} {l:List Oper} (π:List Nat) (m:Nat) (hB:permBL l.toArray π m=true) (hC:C { w with drawn:=w.drawn+1 })
  (h:wpQuiet P l.toArray C (fun a'=>anyC P .any l.toArray (NoPanic Q) C m (TailW P l.toArray (NoPanic Q) m (l.drop m)) (m - π.length) (listAll π (Array.replicate l.toArray.size false)) a' w.drew) (pick l.toArray π) a) :
  wpAny P .any l.toArray (NoPanic Q) l.toArray.size (Array.replicate l.toArray.size false) a { w with drawn:=w.drawn+1 }:=by
 simp only [permBL,Bool.and_eq_true,decide_eq_true_eq] at hB
 obtain⟨⟨⟨⟨⟨⟨⟨hsel,hn⟩,hs⟩,hc⟩,hle⟩,hlt⟩,hno⟩,hhead⟩:=hB
 have hdl:(l.drop m).length=l.toArray.size - m:=by simp
 have H:=anyC_permL (P:=P) (ops:=l.toArray) (md:=.any) (Q:=NoPanic Q) (C:=C) (m:=m) (r:=m - π.length)
  (L:=TailW P l.toArray (NoPanic Q) m (l.drop m)) (w:={ w with drawn:=w.drawn+1 })
  hC (fun _ _ _ _ _ h=>h) hsel hs hc hn (fun _ _ _ hL=>seqB_ready hL.1) _ (fun a' h'=>h') π (Array.replicate l.toArray.size false) a
  (fun k hk=>by simpa using List.all_eq_true.1 hlt k hk) (fun o ho=>List.all_eq_true.1 hno o ho) (headInv_start l m) hhead rfl h
 have:=wpAny_of_anyC (Q:=NoPanic Q) (g:=l.toArray.size - m) (fun listed a' w' hL=>by
  have:=wpAny_of_seq (md:=.any) (Q':=NoPanic Q) (l.drop m) m listed a' w' (fun j=>by simp [List.getElem?_drop]) (by rw [hdl]; exact hL.1) hL.2
  rwa [hdl] at this) _ _ _ _ H
 rw [show π.length+(m - π.length)+(l.toArray.size - m)=l.toArray.size by omega] at this
 exact this
theorem wp_region_permL {id:Nat} {a:Act} {w:World} {l:List Oper} (π:List Nat) (m:Nat) (hm:P.follows .mixedOrders=true) (hB:permBL l.toArray π m=true) (hC:C { w with drawn:=w.drawn+1 })
  (h:wpQuiet P l.toArray C (fun a'=>anyC P .any l.toArray (NoPanic Q) C m (TailW P l.toArray (NoPanic Q) m (l.drop m)) (m - π.length) (listAll π (Array.replicate l.toArray.size false)) a' w.drew) (pick l.toArray π) a):(Code.region id l.toArray true).wp P Q a w:=
 wp_region_noPanic (wp_region_any hm (wpAny_permL π m hB hC h))
end
end Pg
end Go.Proofs.YtljachhmdogkdaaGreatDoor
