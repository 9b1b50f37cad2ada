/-
 Texts PmC, PmB, PmD, PmE, as far as the statement needs them.
-/
import Derived.Test.YtljachhmdogkdaaGreatDoorQPy
import Derived.Test.YtljachhmdogkdaaGreatDoorQTv
import Derived.Test.YtljachhmdogkdaaGreatDoorQPmA
set_option maxRecDepth 100000
set_option maxHeartbeats 64000000
namespace Go.Proofs.YtljachhmdogkdaaGreatDoor
namespace Pg
open Go.RowKit
open Tr
open Rc
theorem sameR28_walk (u v:Value) (a:List (Int×Int)) (w:World) (hu:RowAt w u a) (hv:RowAt w v a) (ha:a.length≤9223372036854775807) :
  Calls Tryz.prog 10 #[u,v] w fun e w'=>e=.returned (.bool true)∧Ext [] w w':=by
 obtain⟨ub,uc,rfl,hU⟩:=hu
 obtain⟨vb,vc,rfl,hV⟩:=hv
 obtain⟨n,hn⟩:∃ n,a.length=n:=⟨_,rfl⟩
 have HH:=zz3 ⟨hU,hV,hn⟩
 rw [hn] at ha ⊢
 have hbb:((n:Int) != (n:Int))=false:=bne_self_eq_false _
 clear hU hV hn
 go_enter Tryz.func10,Tryz.ntmps10
 go_wp2_with fail
 clear hbb
 go_loopg [4,5] n (fun g v4 iv wr=>∃ i:Nat,g+i=n∧iv=.int .i64 i∧Ext [] w wr)
 case atStart=>exact⟨0,by omega,rfl,Ext.refl _ _⟩
 case round=>
  obtain⟨i,hgi,rfl,hx⟩:=hrel
  by_cases hlt:i<n
  case neg=>
   obtain rfl:gk=0:=by omega
   have HX:=zz hx
   clear hx
   go_wp2_with fail
   go_ret
   exact⟨rfl,HX.out⟩
  case pos=>
  obtain⟨g,rfl⟩:∃ g,gk=g+1:=⟨gk - 1,by omega⟩
  have hltz:(i:Int)<(n:Int):=by omega
  have hia:i<a.length:=by rw [HH.out.2.2]; exact hlt
  obtain⟨d1,d2⟩:=rfC_at a i hia
  obtain⟨b1,rfl,x1⟩:=HH.out.1 _ _ d1
  obtain⟨b1',e1,x2⟩:=HH.out.1 _ _ d2
  cases e1
  obtain⟨b2,rfl,y1⟩:=HH.out.2.1 _ _ d1
  obtain⟨b2',e2,y2⟩:=HH.out.2.1 _ _ d2
  cases e2
  clear d1 d2
  have x1:=hx.cell x1
  have x2:=hx.cell x2
  have y1:=hx.cell y1
  have y2:=hx.cell y2
  generalize a[i]'hia=p at *
  have HX:=zz hx
  clear hx
  go_upto_region 6 with (fail)
  go_quiet (fail)
  go_wp2_with fail
  go_roundg g
  case measure=>omega
  case rel=>exact⟨i+1,by omega,by go_num,HX.out.drewN _⟩
theorem sameN28_walk (u v:Value) (a:List (Int×Int)) (w:World) (hu:RowAt w u a) (hv:RowAt w v a) (ha:a.length≤9223372036854775807) :
  Calls Tryz.prog 13 #[u,v] w fun e w'=>e=.returned (.bool true)∧Ext [] w w':=by
 obtain⟨ub,uc,rfl,hU⟩:=hu
 obtain⟨vb,vc,rfl,hV⟩:=hv
 obtain⟨n,hn⟩:∃ n,a.length=n:=⟨_,rfl⟩
 have HH:=zz3 ⟨hU,hV,hn⟩
 rw [hn] at ha ⊢
 have hbb:((n:Int) != (n:Int))=false:=bne_self_eq_false _
 clear hU hV hn
 go_enter Tryz.func13,Tryz.ntmps13
 go_wp2_with fail
 clear hbb
 go_loopg [4,5] n (fun g v4 iv wr=>∃ i:Nat,g+i=n∧iv=.int .i64 i∧Ext [] w wr)
 case atStart=>exact⟨0,by omega,rfl,Ext.refl _ _⟩
 case round=>
  obtain⟨i,hgi,rfl,hx⟩:=hrel
  by_cases hlt:i<n
  case neg=>
   obtain rfl:gk=0:=by omega
   have HX:=zz hx
   clear hx
   go_wp2_with fail
   go_ret
   exact⟨rfl,HX.out⟩
  case pos=>
  obtain⟨g,rfl⟩:∃ g,gk=g+1:=⟨gk - 1,by omega⟩
  have hltz:(i:Int)<(n:Int):=by omega
  have hia:i<a.length:=by rw [HH.out.2.2]; exact hlt
  obtain⟨d1,d2⟩:=rfC_at a i hia
  obtain⟨b1,rfl,x1⟩:=HH.out.1 _ _ d1
  obtain⟨b1',e1,x2⟩:=HH.out.1 _ _ d2
  cases e1
  obtain⟨b2,rfl,y1⟩:=HH.out.2.1 _ _ d1
  obtain⟨b2',e2,y2⟩:=HH.out.2.1 _ _ d2
  cases e2
  clear d1 d2
  have x1:=hx.cell x1
  have x2:=hx.cell x2
  have y1:=hx.cell y1
  have y2:=hx.cell y2
  generalize a[i]'hia=p at *
  have HX:=zz hx
  clear hx
  go_upto_region 6 with (fail)
  go_quiet (fail)
  go_wp2_with fail
  go_roundg g
  case measure=>omega
  case rel=>exact⟨i+1,by omega,by go_num,HX.out.drewN _⟩
theorem lname_walk (s:ByteArray) (hs:s.size≤1000000) (w:World):Calls Tryz.prog 19 #[.string s] w fun e w'=>∃ b c,e=.returned (.slice b 1 c)∧Ext [] w w'∧NodesAt w' (.slice b 1 c) [nameNd s]:=by
 have H:=zz hs
 clear hs
 go_enter Tryz.func19,Tryz.ntmps19
 go_wp2_with fail
 go_ret
 exact⟨_,_,rfl,(Ext.refl [] w).alloc _,one_nodes (x:=nameNd s) (heap_alloc_at _) rfl (by show (-9223372036854775808:Int)≤0∧(0:Int)≤9223372036854775807; omega) (by have:=H.out; show s.size≤_; omega)⟩
theorem lref_walk28 (n:Int) (hn : -9223372036854775808≤n∧n≤9223372036854775807) (w:World):Calls Tryz.prog 41 #[.int .i64 n] w fun e w'=>∃ b c,e=.returned (.slice b 1 c)∧Ext [] w w'∧NodesAt w' (.slice b 1 c) (refT (n,0)):=by
 have H:=zz hn
 clear hn
 go_enter Tryz.func41,Tryz.ntmps41
 go_wp2_with fail
 go_ret
 exact⟨_,_,rfl,(Ext.refl [] w).alloc _,one_nodes (x:=⟨9,n,0,⟨#[]⟩,[]⟩) (heap_alloc_at _) rfl H.out (by show (0:Nat)≤_; omega)⟩
def exA:List Nd:=(dictionN [kType,kPages] [[nameNd kCatalog],refT (2,0)]).1
def exK:List Nd:=(arrayN [refT (3,0)]).1
def exB (c:Int):List Nd:=(dictionN [kType,kKids,kCount,kRot] [[nameNd kPages],exK,intT c,intT 90]).1
def exC:List Nd:=(dictionN [kType,kParent] [[nameNd kPage],refT (2,0)]).1
def exG (a b d:Value) (c:Int):List Om:=[⟨1,0,a,false,⟨#[]⟩,exA⟩,⟨2,0,b,false,⟨#[]⟩,exB c⟩,⟨3,0,d,false,⟨#[]⟩,exC⟩]
theorem nodes_past28 {w w' : World} {b:Nat} {v:Value} {l:List Nd} {t:TypeId} {f:Nat×Nat} (h:NodesAt w v l) (hk:∀ x∈l,∀ k∈x.kids,k≠0) (hb:w.heap[b]? = some (.cells #[.slice none 0 0,.int .i64 0,.int .i64 0] t f)) (hx:Ext [b] w w'):NodesAt w' v l:=by
 obtain⟨base,cap,h1,h2,h3⟩:=h
 refine⟨base,cap,h1,h2,fun i hi=>?_⟩
 obtain⟨p,o,hp,n1,n2,n3,n4,nw,kb,kc,n5,hI⟩:=h3 i hi
 have hpb:p≠b:=fun e=>by
  subst e
  rw [cellOf hb] at n5
  simp [show o+i*5+4=(o+i*5+1)+3 by omega] at n5
 have hS:p∉[b]:=by simpa using hpb
 refine⟨p,o,hp,(ExS.mk _ hx).cell n1 hS,(ExS.mk _ hx).cell n2 hS,(ExS.mk _ hx).cell n3 hS,(ExS.mk _ hx).cell n4 hS,nw,kb,kc,(ExS.mk _ hx).cell n5 hS,fun j hj=>?_⟩
 obtain⟨q,r,hq,c1⟩:=hI j hj
 have hne:=hk _ (List.getElem_mem hi) _ (List.getElem_mem hj)
 have hqb:q≠b:=fun e=>by
  subst e
  rw [cellOf hb] at c1
  match hr:r+j with
  | 0=>rw [hr] at c1; simp at c1
  | 1=>rw [hr] at c1; simp at c1; exact hne c1.symm
  | 2=>rw [hr] at c1; simp at c1; exact hne c1.symm
  | m+3=>rw [hr] at c1; simp at c1
 exact⟨q,r,hq,(ExS.mk _ hx).cell c1 (by simpa using hqb)⟩
theorem gen_calls {P:Program} {f:Nat} {args:Array Value} {w:World} {Q:Ending→World→Prop} (h:∀ W,w=W→Calls P f args W Q):Calls P f args w Q:=h w rfl
theorem strs_lit {w:World} {g:Nat} {cs:Array Value} {t:TypeId} {f:Nat×Nat} (l:List ByteArray) (h:w.heap[g]? = some (.cells cs t f)) (he:cs=(l.map Value.string).toArray):StrsAt w (.slice (some ⟨g,0,none⟩) l.length l.length) l:=
 ⟨_,l.length,rfl,Nat.le_refl _,fun i hi=>⟨g,0,rfl,by rw [Nat.zero_add,cellOf h i,he]; simp [hi]⟩⟩
theorem trees_lit {w:World} {g:Nat} {cs:Array Value} {t:TypeId} {f:Nat×Nat} (Z:List (Value×List Nd)) (h:w.heap[g]? = some (.cells cs t f)) (he:cs=(Z.map (·.1)).toArray) (hn:∀ p∈Z,NodesAt w p.1 p.2):TreesAt w (.slice (some ⟨g,0,none⟩) Z.length Z.length) (Z.map (·.2)):=
 ⟨_,Z.length,by rw [List.length_map],by rw [List.length_map]; exact Nat.le_refl _,fun i hi=>by
  rw [List.length_map] at hi
  refine⟨g,0,(Z[i]'hi).1,rfl,by rw [Nat.zero_add,cellOf h i,he]; simp [hi],?_⟩
  rw [List.getElem_map]
  exact hn _ (List.getElem_mem hi)⟩
theorem oms_lit {w:World} {g:Nat} {cs:Array Value} {t:TypeId} {f:Nat×Nat} (L:List Om) (h:w.heap[g]? = some (.cells cs t f)) (he:cs=(omsC L).toArray) (hn:∀ y∈L,NodesAt w y.tv y.tree):OmsAt w (.slice (some ⟨g,0,none⟩) L.length L.length) L:=
 ⟨_,L.length,rfl,Nat.le_refl _,fun i hi=>by
  obtain⟨h0,h1,h2,h3,h4⟩:=omsC_at L i hi
  have key:∀ j v,(omsC L)[j]? = some v→w.cell? ⟨g,0+j,none⟩=some v:=fun j v hv=>by rw [Nat.zero_add,cellOf h j,he]; simpa using hv
  exact⟨g,0,rfl,key _ _ h0,key _ _ h1,key _ _ h2,key _ _ h3,key _ _ h4,hn _ (List.getElem_mem hi)⟩⟩
theorem sizeGraph28:(Tryz.prog.info? 26).map (·.size)=some 3:=by kernel_rfl
theorem lt_exK:Lt exK:=lt_array _ (fun l hl x hx=>by
 obtain rfl:=List.mem_singleton.1 hl
 exact (lt_ref _).s x hx)
theorem light_two {a b:List Nd} (ha:Lt a) (hb:Lt b):light6 [a,b]:=fun l hl=>by
 simp only [List.mem_cons,List.not_mem_nil,or_false] at hl
 rcases hl with rfl | rfl
 ·exact⟨ha.len,ha.s⟩
 ·exact⟨hb.len,hb.s⟩
theorem lt_name {s:ByteArray} (h:s.size≤1000000):Lt [nameNd s]:=⟨by show 1≤9223372036854775807; omega,fun x hx=>by
 obtain rfl:=List.mem_singleton.1 hx
 exact h⟩
theorem one_walk28 (c:Int) (hc : -9223372036854775808≤c∧c≤9223372036854775807) (hkA:∀ x∈exA,∀ k∈x.kids,k≠0) (hkB:∀ x∈exB c,∀ k∈x.kids,k≠0) (hkC:∀ x∈exC,∀ k∈x.kids,k≠0) (w:World) :
  Calls Tryz.prog 6 #[.int .i64 c] w fun e w'=>∃ v a b d,e=.returned (.agg #[v,.int .i64 1,.int .i64 0])∧Ext [] w w'∧OmsAt w' v (exG a b d c):=by
 have HR:=zz (fun n hn W=>lref_walk28 n hn W)
 have HN:=zz (fun s hs W=>lname_walk s hs W)
 have HA:=zz (fun v W (hv:TreesAt W v [refT (3,0)])=>array17_walk v _ W hv (by show 1≤65536; omega) (fun l hl=>by
  obtain rfl:=List.mem_singleton.1 hl
  exact⟨(lt_ref _).len,(lt_ref _).s⟩))
 have HD:=zz (fun u v names ls W (hu:StrsAt W u names) (hv:TreesAt W v ls) h1 h2 h3 h4=>dict17X_walk u v names ls W hu hv h1 h2 h3 h4)
 have HK:=zz4 ⟨hc,hkA,hkB,hkC⟩
 obtain⟨b,hb⟩:∃ p,w.heap.size=p:=⟨_,rfl⟩
 obtain⟨W0,hW0⟩:∃ W0,w.alloc (Obj.cells #[.slice none 0 0,.int .i64 0,.int .i64 0] 26)=W0:=⟨_,rfl⟩
 have hx0:Ext [] w W0:=by rw [←hW0]; exact (Ext.refl [] w).alloc _
 have hc0:W0.heap[b]? = some (.cells #[.slice none 0 0,.int .i64 0,.int .i64 0] 26 (0,0)):=by rw [←hW0,←hb]; exact heap_alloc_at _
 have H0:=zz3 ⟨hx0,hc0,hb⟩
 clear hx0 hc0 hc hkA hkB hkC
 go_enter Tryz.func6,Tryz.ntmps6
 go_upto_region 1 with (fail)
 refine gen_world (fun V hV=>?_)
 obtain rfl:W0=V:=by first | exact hV | exact hW0.symm.trans hV
 (try rw [hb])
 clear hV hW0 hb
 go_wp2_with fail
 refine (HR.out 3 (by decide) _).mono ?_
 rintro e w1 ⟨b1,c1,rfl,hx1,hN1⟩
 have HX1:=zz2 ⟨hx1,hN1⟩
 clear hx1 hN1
 go_wp2_with fail
 refine gen_calls (fun W2 hW2=>?_)
 have hx2:Ext [] w1 W2:=by rw [←hW2]; exact (Ext.refl [] w1).alloc _
 have hb2:W2.heap[w1.heap.size]? = some (.cells #[.slice b1 1 c1] 31 (0,0)):=by rw [←hW2]; exact heap_alloc_at _
 refine (HA.out _ W2 (trees_lit [(.slice b1 1 c1,refT (3,0))] hb2 rfl (fun p hp=>by
  obtain rfl:=List.mem_singleton.1 hp
  exact HX1.out.2.ext hx2))).mono ?_
 rintro e w3 ⟨v3,rfl,hx3,hN3⟩
 have HX3:=zz2 ⟨(HX1.out.1.trans hx2).trans hx3,(hN3:NodesAt w3 v3 exK)⟩
 obtain⟨kb,kl,kc,rfl⟩:∃ b n c,v3=.slice b n c:=by
  obtain⟨b,c,h,-⟩:=hN3
  exact⟨b,_,c,h⟩
 clear hx2 hb2 hx3 hN3 hW2 HX1 HA
 go_wp2_with fail
 refine gen_calls (fun Va4 hVa4=>?_)
 have hxa4:Ext [] w3 Va4:=by rw [←hVa4]; exact (Ext.refl [] w3).alloc _
 have hsa4:Va4.heap[w3.heap.size]? = some (.cells #[.string kType,.string kPages] 9 (0,0)):=by rw [←hVa4]; exact heap_alloc_at _
 obtain⟨pa4,hpa4⟩:∃ p,w3.heap.size=p:=⟨_,rfl⟩
 rw [hpa4] at hsa4 ⊢
 have HSa4:=zz2 ⟨hxa4,hsa4⟩
 clear hxa4 hsa4 hVa4 hpa4
 refine (HN.out kCatalog (by decide) _).mono ?_
 rintro e wa4n ⟨nba4,nca4,rfl,hx,hN⟩
 have HNa4:=zz2 ⟨hx,hN⟩
 clear hx hN
 go_wp2_with fail
 refine (HR.out 2 (by decide) _).mono ?_
 rintro e wa4r ⟨rba4,rca4,rfl,hx,hN⟩
 have HRa4:=zz2 ⟨hx,hN⟩
 clear hx hN
 go_wp2_with fail
 refine gen_calls (fun Ua4 hUa4=>?_)
 have hx:Ext [] wa4r Ua4:=by rw [←hUa4]; exact (Ext.refl [] wa4r).alloc _
 have hb:Ua4.heap[wa4r.heap.size]? = some (.cells #[.slice nba4 1 nca4,.slice rba4 1 rca4] 31 (0,0)):=by rw [←hUa4]; exact heap_alloc_at _
 refine (HD.out _ _ _ _ Ua4 (strs_lit [kType,kPages] (((HNa4.out.1.trans HRa4.out.1).trans hx).keep HSa4.out.2 (by simp)) rfl) (trees_lit [(.slice nba4 1 nca4,[nameNd kCatalog]),(.slice rba4 1 rca4,refT (2,0))] hb rfl (fun p hp=>by
  simp only [List.mem_cons,List.not_mem_nil,or_false] at hp
  rcases hp with rfl | rfl
  ·exact (HNa4.out.2.ext HRa4.out.1).ext hx
  ·exact HRa4.out.2.ext hx)) (by decide) (by show 2≤1048576; omega) (by decide) (light_two (lt_name (by decide)) (lt_ref _))).mono ?_
 rintro e wa4d ⟨va4,rfl,hxd,hNd⟩
 have HXa4:=zz3 ⟨(((((HX3.out.1).trans HSa4.out.1).trans HNa4.out.1).trans HRa4.out.1).trans hx).trans hxd,((((HSa4.out.1).trans HNa4.out.1).trans HRa4.out.1).trans hx).trans hxd,(hNd:NodesAt wa4d va4 exA)⟩
 obtain⟨tba4,tla4,tca4,rfl⟩:∃ b n c,va4=.slice b n c:=by
  obtain⟨b,c,h,-⟩:=hNd
  exact⟨b,_,c,h⟩
 clear hx hb hxd hNd hUa4 HSa4 HNa4 HRa4
 go_wp2_with fail
 refine gen_calls (fun V5 hV5=>?_)
 have hx5:Ext [] wa4d V5:=by rw [←hV5]; exact (Ext.refl [] wa4d).alloc _
 have hs5:V5.heap[wa4d.heap.size]? = some (.cells #[.string kType,.string kKids,.string kCount,.string kRot] 9 (0,0)):=by rw [←hV5]; exact heap_alloc_at _
 obtain⟨p5,hp5⟩:∃ p,wa4d.heap.size=p:=⟨_,rfl⟩
 rw [hp5] at hs5 ⊢
 have HS5:=zz2 ⟨hx5,hs5⟩
 clear hx5 hs5 hV5 hp5
 refine (HN.out kPages (by decide) _).mono ?_
 rintro e w5 ⟨nb5,nc5,rfl,hx,hN⟩
 have HN5:=zz2 ⟨hx,hN⟩
 clear hx hN
 go_wp2_with fail
 obtain⟨q5,hq5⟩:∃ p,w5.heap.size=p:=⟨_,rfl⟩
 refine gen_calls (fun U5 hU5=>?_)
 have hxA:Ext [] w5 (w5.alloc (.cells #[.int .i64 3,.int .i64 c,.int .i64 0,.string ⟨#[]⟩,.slice none 0 0] 41)):=(Ext.refl [] w5).alloc _
 have hx:Ext [] w5 U5:=by rw [←hU5]; exact (((Ext.refl [] w5).alloc _).alloc _).alloc _
 have hi1:U5.heap[q5]? = some (.cells #[.int .i64 3,.int .i64 c,.int .i64 0,.string ⟨#[]⟩,.slice none 0 0] 41 (0,0)):=by rw [←hU5,←hq5]; exact heap_alloc_old _ (heap_alloc_old _ (heap_alloc_at _))
 have hi2:U5.heap[q5+1]? = some (.cells #[.int .i64 3,.int .i64 90,.int .i64 0,.string ⟨#[]⟩,.slice none 0 0] 41 (0,0)):=by
  have:=heap_alloc_at (w:=w5.alloc (.cells #[.int .i64 3,.int .i64 c,.int .i64 0,.string ⟨#[]⟩,.slice none 0 0] 41)) (.cells #[.int .i64 3,.int .i64 90,.int .i64 0,.string ⟨#[]⟩,.slice none 0 0] 41)
  rw [show (w5.alloc (.cells #[.int .i64 3,.int .i64 c,.int .i64 0,.string ⟨#[]⟩,.slice none 0 0] 41)).heap.size=q5+1 from by simp [hq5]] at this
  rw [←hU5]; exact heap_alloc_old _ this
 have hi3:U5.heap[q5+2]? = some (.cells #[.slice nb5 1 nc5,.slice kb kl kc,.slice (some ⟨q5,0,none⟩) 1 1,.slice (some ⟨q5+1,0,none⟩) 1 1] 31 (0,0)):=by
  have:=heap_alloc_at (w:=(w5.alloc (.cells #[.int .i64 3,.int .i64 c,.int .i64 0,.string ⟨#[]⟩,.slice none 0 0] 41)).alloc (.cells #[.int .i64 3,.int .i64 90,.int .i64 0,.string ⟨#[]⟩,.slice none 0 0] 41)) (.cells #[.slice nb5 1 nc5,.slice kb kl kc,.slice (some ⟨q5,0,none⟩) 1 1,.slice (some ⟨q5+1,0,none⟩) 1 1] 31)
  rw [show ((w5.alloc (.cells #[.int .i64 3,.int .i64 c,.int .i64 0,.string ⟨#[]⟩,.slice none 0 0] 41)).alloc (.cells #[.int .i64 3,.int .i64 90,.int .i64 0,.string ⟨#[]⟩,.slice none 0 0] 41)).heap.size=q5+2 from by simp [hq5]] at this
  rw [←hU5,←hq5] at *
  exact this
 (try simp only [hq5])
 refine (HD.out _ (.slice (some ⟨q5+2,0,none⟩) 4 4) _ _ U5 (strs_lit [kType,kKids,kCount,kRot] ((HN5.out.1.trans hx).keep HS5.out.2 (by simp)) rfl) (trees_lit [(.slice nb5 1 nc5,[nameNd kPages]),(.slice kb kl kc,exK),(.slice (some ⟨q5,0,none⟩) 1 1,intT c),(.slice (some ⟨q5+1,0,none⟩) 1 1,intT 90)] hi3 rfl (fun p hp=>by
  simp only [List.mem_cons,List.not_mem_nil,or_false] at hp
  rcases hp with rfl | rfl | rfl | rfl
  ·exact HN5.out.2.ext hx
  ·exact HX3.out.2.ext (((HXa4.out.2.1.trans HS5.out.1).trans HN5.out.1).trans hx)
  ·exact one_nodes (x:=⟨3,c,0,⟨#[]⟩,[]⟩) hi1 rfl HK.out.1 (by show (0:Nat)≤_; omega)
  ·exact one_nodes (x:=⟨3,90,0,⟨#[]⟩,[]⟩) hi2 rfl (by show (-9223372036854775808:Int)≤90∧(90:Int)≤9223372036854775807; omega) (by show (0:Nat)≤_; omega))) (by decide) (by show 4≤1048576; omega) (by decide) (fun l hl=>by
  simp only [List.map_cons,List.map_nil,List.mem_cons,List.not_mem_nil,or_false] at hl
  rcases hl with rfl | rfl | rfl | rfl
  ·exact⟨(lt_name (by decide)).len,(lt_name (by decide)).s⟩
  ·exact⟨lt_exK.len,lt_exK.s⟩
  ·exact⟨(lt_int _).len,(lt_int _).s⟩
  ·exact⟨(lt_int _).len,(lt_int _).s⟩)).mono ?_
 rintro e w6 ⟨v6,rfl,hxd,hNd⟩
 have HX6:=zz3 ⟨((((HXa4.out.1).trans HS5.out.1).trans HN5.out.1).trans hx).trans hxd,(((HS5.out.1).trans HN5.out.1).trans hx).trans hxd,(hNd:NodesAt w6 v6 (exB c))⟩
 obtain⟨tb6,tl6,tc6,rfl⟩:∃ b n c,v6=.slice b n c:=by
  obtain⟨b,c,h,-⟩:=hNd
  exact⟨b,_,c,h⟩
 clear hx hxA hi1 hi2 hi3 hxd hNd hU5 hq5 HS5 HN5
 go_wp2_with fail
 refine gen_calls (fun Va7 hVa7=>?_)
 have hxa7:Ext [] w6 Va7:=by rw [←hVa7]; exact (Ext.refl [] w6).alloc _
 have hsa7:Va7.heap[w6.heap.size]? = some (.cells #[.string kType,.string kParent] 9 (0,0)):=by rw [←hVa7]; exact heap_alloc_at _
 obtain⟨pa7,hpa7⟩:∃ p,w6.heap.size=p:=⟨_,rfl⟩
 rw [hpa7] at hsa7 ⊢
 have HSa7:=zz2 ⟨hxa7,hsa7⟩
 clear hxa7 hsa7 hVa7 hpa7
 refine (HN.out kPage (by decide) _).mono ?_
 rintro e wa7n ⟨nba7,nca7,rfl,hx,hN⟩
 have HNa7:=zz2 ⟨hx,hN⟩
 clear hx hN
 go_wp2_with fail
 refine (HR.out 2 (by decide) _).mono ?_
 rintro e wa7r ⟨rba7,rca7,rfl,hx,hN⟩
 have HRa7:=zz2 ⟨hx,hN⟩
 clear hx hN
 go_wp2_with fail
 refine gen_calls (fun Ua7 hUa7=>?_)
 have hx:Ext [] wa7r Ua7:=by rw [←hUa7]; exact (Ext.refl [] wa7r).alloc _
 have hb:Ua7.heap[wa7r.heap.size]? = some (.cells #[.slice nba7 1 nca7,.slice rba7 1 rca7] 31 (0,0)):=by rw [←hUa7]; exact heap_alloc_at _
 refine (HD.out _ _ _ _ Ua7 (strs_lit [kType,kParent] (((HNa7.out.1.trans HRa7.out.1).trans hx).keep HSa7.out.2 (by simp)) rfl) (trees_lit [(.slice nba7 1 nca7,[nameNd kPage]),(.slice rba7 1 rca7,refT (2,0))] hb rfl (fun p hp=>by
  simp only [List.mem_cons,List.not_mem_nil,or_false] at hp
  rcases hp with rfl | rfl
  ·exact (HNa7.out.2.ext HRa7.out.1).ext hx
  ·exact HRa7.out.2.ext hx)) (by decide) (by show 2≤1048576; omega) (by decide) (light_two (lt_name (by decide)) (lt_ref _))).mono ?_
 rintro e wa7d ⟨va7,rfl,hxd,hNd⟩
 have HXa7:=zz3 ⟨(((((HX6.out.1).trans HSa7.out.1).trans HNa7.out.1).trans HRa7.out.1).trans hx).trans hxd,((((HSa7.out.1).trans HNa7.out.1).trans HRa7.out.1).trans hx).trans hxd,(hNd:NodesAt wa7d va7 exC)⟩
 obtain⟨tba7,tla7,tca7,rfl⟩:∃ b n c,va7=.slice b n c:=by
  obtain⟨b,c,h,-⟩:=hNd
  exact⟨b,_,c,h⟩
 clear hx hb hxd hNd hUa7 HSa7 HNa7 HRa7
 have hg:wa7d.heap[b]? = some (.cells #[.slice none 0 0,.int .i64 0,.int .i64 0] 26 (0,0)):=HXa7.out.1.keep H0.out.2.1 (by simp)
 obtain⟨ob,hob⟩:∃ p,wa7d.heap.size=p:=⟨_,rfl⟩
 obtain⟨W8,hW8⟩:∃ W,wa7d.alloc (.cells #[.int .i64 1,.int .i64 0,.slice tba4 tla4 tca4,.bool false,.string ⟨#[]⟩,.int .i64 2,.int .i64 0,.slice tb6 tl6 tc6,.bool false,.string ⟨#[]⟩,.int .i64 3,.int .i64 0,.slice tba7 tla7 tca7,.bool false,.string ⟨#[]⟩] 35)=W:=⟨_,rfl⟩
 have hx8:Ext [] wa7d W8:=by rw [←hW8]; exact (Ext.refl [] wa7d).alloc _
 have hO8:W8.heap[ob]? = some (.cells #[.int .i64 1,.int .i64 0,.slice tba4 tla4 tca4,.bool false,.string ⟨#[]⟩,.int .i64 2,.int .i64 0,.slice tb6 tl6 tc6,.bool false,.string ⟨#[]⟩,.int .i64 3,.int .i64 0,.slice tba7 tla7 tca7,.bool false,.string ⟨#[]⟩] 35 (0,0)):=by rw [←hW8,←hob]; exact heap_alloc_at _
 have hg8:=hx8.keep hg (by simp)
 rw [←hW8] at hg8
 have l0:=cellOf hg8 0
 have l1:=cellOf hg8 1
 have l2:=cellOf hg8 2
 have f0:=freeOf hg8 0
 have f1:=freeOf hg8 1
 have f2:=freeOf hg8 2
 rw [hW8] at hg8
 have HZ:=zz5 ⟨hx8,hO8,hg8,hW8,hob⟩
 clear hx8 hO8 hg8 hW8 hob hg
 go_wp2_with fail
 (try simp only [Exit.inBlock,Exit.then])
 obtain⟨hx8,hO8,hg8,hW8,hob⟩:=HZ.out
 (try rw [hob])
 refine bodyPost_ret (results_cell_row rfl _ _ b 26 #[.slice (some ⟨ob,0,none⟩) 3 3,.int .i64 1,.int .i64 0] (0,0) _ rfl (heap_setCell_same (heap_setCell_same (heap_setCell_same (hW8 ▸ hg8) _) _) _) Tryz.underlying26 rfl sizeGraph28) rfl ?_
 (try rw [hW8])
 have hq:=((((Ext.refl [b] W8).setCell ⟨b,0,none⟩ (.slice (some ⟨ob,0,none⟩) 3 3) (.inl (by simp))).setCell ⟨b,1,none⟩ (.int .i64 1) (.inl (by simp))).setCell ⟨b,2,none⟩ (.int .i64 0) (.inl (by simp)))
 have hbo:b≠ob:=fun e=>by
  have h1:=lt_of_block (HXa7.out.1.keep H0.out.2.1 (by simp))
  omega
 have hxF:Ext [] W0 W8:=HXa7.out.1.trans hx8
 refine⟨_,.slice tba4 tla4 tca4,.slice tb6 tl6 tc6,.slice tba7 tla7 tca7,rfl,(H0.out.1.trans hxF).trans' hq (fun k hlt hk=>by
  obtain rfl:=List.mem_singleton.1 hk
  have:=H0.out.2.2
  omega),oms_lit [⟨1,0,.slice tba4 tla4 tca4,false,⟨#[]⟩,exA⟩,⟨2,0,.slice tb6 tl6 tc6,false,⟨#[]⟩,exB c⟩,⟨3,0,.slice tba7 tla7 tca7,false,⟨#[]⟩,exC⟩] (hq.keep hO8 (by simpa using fun e=>hbo e.symm)) rfl (fun y hy=>?_)⟩
 simp only [List.mem_cons,List.not_mem_nil,or_false] at hy
 rcases hy with rfl | rfl | rfl
 ·exact nodes_past28 ((HXa4.out.2.2.ext (HX6.out.2.1.trans HXa7.out.2.1)).ext hx8) HK.out.2.1 hg8 hq
 ·exact nodes_past28 ((HX6.out.2.2.ext HXa7.out.2.1).ext hx8) HK.out.2.2.1 hg8 hq
 ·exact nodes_past28 (HXa7.out.2.2.ext hx8) HK.out.2.2.2 hg8 hq
def lA (p:Int):List Nd:=[⟨8,0,0,⟨#[]⟩,[1,2,3,4]⟩,nameNd kPages,⟨9,p,0,⟨#[]⟩,[]⟩,nameNd kType,nameNd kCatalog]
def lB (c:Int):List Nd:=[⟨8,0,0,⟨#[]⟩,[1,2,3,4,6,7,8,9]⟩,nameNd kCount,⟨3,c,0,⟨#[]⟩,[]⟩,nameNd kKids,⟨7,0,0,⟨#[]⟩,[5]⟩,⟨9,3,0,⟨#[]⟩,[]⟩,nameNd kRot,⟨3,90,0,⟨#[]⟩,[]⟩,nameNd kType,nameNd kPages]
def lC:List Nd:=[⟨8,0,0,⟨#[]⟩,[1,2,3,4]⟩,nameNd kParent,⟨9,2,0,⟨#[]⟩,[]⟩,nameNd kType,nameNd kPage]
def l3:List Nd:=[⟨8,0,0,⟨#[]⟩,[1,2,3,4,5,6]⟩,nameNd kParent,⟨9,4,0,⟨#[]⟩,[]⟩,nameNd kRot,⟨3,90,0,⟨#[]⟩,[]⟩,nameNd kType,nameNd kPage]
def l4:List Nd:=[⟨8,0,0,⟨#[]⟩,[1,2,3,4,6,7]⟩,nameNd kCount,⟨3,1,0,⟨#[]⟩,[]⟩,nameNd kKids,⟨7,0,0,⟨#[]⟩,[5]⟩,⟨9,3,0,⟨#[]⟩,[]⟩,nameNd kType,nameNd kPages]
theorem exA_is:exA=lA 2:=by kernel_rfl
theorem exB_1:exB 1=lB 1:=by kernel_rfl
theorem exB_2:exB 2=lB 2:=by kernel_rfl
theorem exC_is:exC=lC:=by kernel_rfl
def exL (a b d:Value) (c:Int):List Om:=[⟨1,0,a,false,⟨#[]⟩,lA 2⟩,⟨2,0,b,false,⟨#[]⟩,lB c⟩,⟨3,0,d,false,⟨#[]⟩,lC⟩]
theorem exG_1 (a b d:Value):exG a b d 1=exL a b d 1:=by unfold exG exL; rw [exA_is,exB_1,exC_is]
theorem exG_2 (a b d:Value):exG a b d 2=exL a b d 2:=by unfold exG exL; rw [exA_is,exB_2,exC_is]
def mL (a b c d:Value):List Om:=[⟨1,0,a,false,⟨#[]⟩,lA 4⟩,⟨2,0,b,false,⟨#[]⟩,lB 2⟩,⟨3,0,c,false,⟨#[]⟩,l3⟩,⟨4,0,d,false,⟨#[]⟩,l4⟩]
theorem check_1 (a b d:Value):checkP (1,0) (exL a b d 1)=0:=by kernel_rfl
theorem check_2 (a b d:Value):checkP (1,0) (exL a b d 2)=4:=by kernel_rfl
theorem check_m (a b c d:Value):checkP (1,0) (mL a b c d)=0:=by kernel_rfl
theorem same_2 (a b d:Value):sameM (1,0) (exL a b d 2) []=false:=by kernel_rfl
abbrev tn0:Value:=.slice none 0 0
theorem objs_2 (a b d:Value):((keepL (madeM (1,0) (exL a b d 2) []) (exL a b d 2)++lastsO (madeM (1,0) (exL a b d 2) [])).map bare)=(mL tn0 tn0 tn0 tn0).tail++[(⟨1,0,tn0,false,⟨#[]⟩,lA 4⟩:Om)]:=by kernel_rfl
theorem notes_2 (a b d:Value):notesM (1,0) (exL a b d 2) []=[(3,4),(4,4)]:=by kernel_rfl
theorem root_2 (a b d:Value):refO (rtM (1,0) (exL a b d 2))=(1,0):=by kernel_rfl
theorem most_2 (a b d:Value):mostN (1,0) (exL a b d 2)=3:=by kernel_rfl
theorem lt_lA (p:Int):Lt (lA p):=⟨by show 5≤9223372036854775807; omega,fun x hx=>by
 simp only [lA,List.mem_cons,List.not_mem_nil,or_false] at hx
 rcases hx with rfl | rfl | rfl | rfl | rfl <;> show _≤_ <;> first | decide | (show (0:Nat)≤_; omega)⟩
theorem lt_lB (c:Int):Lt (lB c):=⟨by show 10≤9223372036854775807; omega,fun x hx=>by
 simp only [lB,List.mem_cons,List.not_mem_nil,or_false] at hx
 rcases hx with rfl | rfl | rfl | rfl | rfl | rfl | rfl | rfl | rfl | rfl <;> show _≤_ <;> first | decide | (show (0:Nat)≤_; omega)⟩
theorem lt_lC:Lt lC:=⟨by decide,by decide⟩
theorem lt_l3:Lt l3:=⟨by decide,by decide⟩
theorem lt_l4:Lt l4:=⟨by decide,by decide⟩
theorem wf_om {n g:Int} {tv:Value} {st:Bool} {dt:ByteArray} {t:List Nd} (hn : -9223372036854775808≤n∧n≤9223372036854775807) (hg : -9223372036854775808≤g∧g≤9223372036854775807) (ht:Lt t):OmWf ⟨n,g,tv,st,dt,t⟩:=⟨hn,hg,ht⟩
theorem exL_wf (a b d:Value) (c:Int):∀ x∈exL a b d c,OmWf x:=fun x hx=>by
 simp only [exL,List.mem_cons,List.not_mem_nil,or_false] at hx
 rcases hx with rfl | rfl | rfl
 ·exact wf_om (by decide) (by decide) (lt_lA 2)
 ·exact wf_om (by decide) (by decide) (lt_lB c)
 ·exact wf_om (by decide) (by decide) (lt_lC)
theorem mL_wf (a b c d:Value):∀ x∈mL a b c d,OmWf x:=fun x hx=>by
 simp only [mL,List.mem_cons,List.not_mem_nil,or_false] at hx
 rcases hx with rfl | rfl | rfl | rfl
 ·exact wf_om (by decide) (by decide) (lt_lA 4)
 ·exact wf_om (by decide) (by decide) (lt_lB 2)
 ·exact wf_om (by decide) (by decide) (lt_l3)
 ·exact wf_om (by decide) (by decide) (lt_l4)
theorem exL_cnt (a b d:Value) (c:Int):∀ x∈exL a b d c,cntE x.tree≤900:=fun x hx=>by
 have h:cntE x.tree≤(ndAt x.tree 0).kids.length:=pairs_len _ _
 simp only [exL,List.mem_cons,List.not_mem_nil,or_false] at hx
 refine Nat.le_trans h ?_
 rcases hx with rfl | rfl | rfl
 ·show 4≤900; omega
 ·show 8≤900; omega
 ·show 4≤900; omega
theorem rise_notes {X Y:List Rf} (h:X.Pairwise fun x y=>x.1<y.1∨(x.1=y.1∧x.2<y.2)) (hY:Y.Pairwise fun x y=>x.1<y.1∨(x.1=y.1∧x.2<y.2)) (hp:X.Perm Y):X=Y:=
 rises_eq _ (fun a b h1 h2=>by omega) h hY hp
theorem bare_is {x:Om} {n g:Int} {s:Bool} {dt:ByteArray} {t:List Nd} (h:bare x=⟨n,g,tn0,s,dt,t⟩):x=⟨n,g,x.tv,s,dt,t⟩:=by
 obtain⟨a,b,c,d,e,f⟩:=x
 simp only [bare,Om.mk.injEq] at h
 obtain⟨rfl,rfl,-,rfl,rfl,rfl⟩:=h
 rfl
theorem four_of {α:Type} {l:List α} (h:l.length=4):∃ a b c d,l=[a,b,c,d]:=by
 match l,h with
 | [a,b,c,d],_=>exact⟨a,b,c,d,rfl⟩
theorem mend_2 {a b d:Value} {ML:List Om} {r:Rf} {NT:List Rf} (h:MendIs (1,0) (exL a b d 2) [] ML r NT):(∃ t0 t1 t2 t3,ML=mL t0 t1 t2 t3)∧r=(1,0)∧NT=[(3,4),(4,4)]:=by
 rcases h with h | ⟨-,h⟩
 ·have:=h.1; rw [same_2] at this; cases this
 ·refine⟨?_,h.root.trans (root_2 a b d),rise_notes h.nrise (by simp) (by rw [←notes_2 a b d]; exact h.notes)⟩
  have hp:=h.objs
  rw [objs_2] at hp
  have hp2:(ML.map bare).Perm (mL tn0 tn0 tn0 tn0):=hp.trans (List.perm_append_comm)
  have hM:ML.map bare=mL tn0 tn0 tn0 tn0:=rises_eq (fun x y:Om=>x.num<y.num) (fun a b h1 h2=>by omega) (List.pairwise_map.2 (h.rise.imp fun {a b} h=>h)) (by simp [mL]) hp2
  have hl:ML.length=4:=by
   have:=congrArg List.length hM
   rwa [List.length_map] at this
  obtain⟨x0,x1,x2,x3,rfl⟩:=four_of hl
  have h0:bare x0=⟨1,0,tn0,false,⟨#[]⟩,lA 4⟩:=by injection hM
  have hM1:[bare x1,bare x2,bare x3]=(mL tn0 tn0 tn0 tn0).tail:=by injection hM
  have h1:bare x1=⟨2,0,tn0,false,⟨#[]⟩,lB 2⟩:=by injection hM1
  have hM2:[bare x2,bare x3]=(mL tn0 tn0 tn0 tn0).tail.tail:=by injection hM1
  have h2:bare x2=⟨3,0,tn0,false,⟨#[]⟩,l3⟩:=by injection hM2
  have hM3:[bare x3]=(mL tn0 tn0 tn0 tn0).tail.tail.tail:=by injection hM2
  have h3:bare x3=⟨4,0,tn0,false,⟨#[]⟩,l4⟩:=by injection hM3
  exact⟨x0.tv,x1.tv,x2.tv,x3.tv,by rw [bare_is h0,bare_is h1,bare_is h2,bare_is h3]; rfl⟩
theorem row_lit {w:World} {g:Nat} {cs:Array Value} {t:TypeId} {f:Nat×Nat} (l:List Rf) (h:w.heap[g]? = some (.cells cs t f)) (he:cs=(rfC l).toArray):RowAt w (.slice (some ⟨g,0,none⟩) l.length l.length) l:=
 ⟨_,l.length,rfl,fun i u hu=>⟨g,rfl,by rw [cellOf h i,he]; simpa using hu⟩⟩
theorem row_nil (w:World):RowAt w (.slice none 0 0) []:=⟨none,0,rfl,fun i u h=>by simp [rfC] at h⟩
theorem kids_lA (p:Int):∀ x∈lA p,∀ k∈x.kids,k≠0:=fun x hx k hk=>by
 simp only [lA,List.mem_cons,List.not_mem_nil,or_false] at hx
 rcases hx with rfl | rfl | rfl | rfl | rfl <;> simp [nameNd] at hk
 rcases hk with rfl | rfl | rfl | rfl <;> decide
theorem kids_lB (c:Int):∀ x∈lB c,∀ k∈x.kids,k≠0:=fun x hx k hk=>by
 simp only [lB,List.mem_cons,List.not_mem_nil,or_false] at hx
 rcases hx with rfl | rfl | rfl | rfl | rfl | rfl | rfl | rfl | rfl | rfl <;> simp [nameNd] at hk
 ·rcases hk with rfl | rfl | rfl | rfl | rfl | rfl | rfl | rfl <;> decide
 ·subst hk; decide
theorem kids_lC:∀ x∈lC,∀ k∈x.kids,k≠0:=by decide
theorem one_1 (w:World):Calls Tryz.prog 6 #[.int .i64 1] w fun e w'=>∃ v a b d,e=.returned (.agg #[v,.int .i64 1,.int .i64 0])∧Ext [] w w'∧OmsAt w' v (exL a b d 1):=by
 refine (one_walk28 1 (by decide) (by rw [exA_is]; exact kids_lA 2) (by rw [exB_1]; exact kids_lB 1) (by rw [exC_is]; exact kids_lC) w).mono ?_
 rintro e w' ⟨v,a,b,d,rfl,hx,hO⟩
 rw [exG_1] at hO
 exact⟨v,a,b,d,rfl,hx,hO⟩
theorem one_2 (w:World):Calls Tryz.prog 6 #[.int .i64 2] w fun e w'=>∃ v a b d,e=.returned (.agg #[v,.int .i64 1,.int .i64 0])∧Ext [] w w'∧OmsAt w' v (exL a b d 2):=by
 refine (one_walk28 2 (by decide) (by rw [exA_is]; exact kids_lA 2) (by rw [exB_2]; exact kids_lB 2) (by rw [exC_is]; exact kids_lC) w).mono ?_
 rintro e w' ⟨v,a,b,d,rfl,hx,hO⟩
 rw [exG_2] at hO
 exact⟨v,a,b,d,rfl,hx,hO⟩
theorem rf_10:RfWf (1,0):=⟨by decide,by decide⟩
theorem mend_w2 (v a b d:Value) (W:World) (h:OmsAt W v (exL a b d 2)):Calls Tryz.prog 5 #[.agg #[v,.int .i64 1,.int .i64 0],.slice none 0 0] W fun e w'=>∃ v2 nv t0 t1 t2 t3,e=.returned (.tuple #[.agg #[v2,.int .i64 1,.int .i64 0],nv])∧Ext [] W w'∧OmsAt w' v2 (mL t0 t1 t2 t3)∧RowAt w' nv [(3,4),(4,4)]:=by
 refine (mend_walk v (exL a b d 2) (1,0) (.slice none 0 0) [] W h (exL_wf a b d 2) rf_10 (exL_cnt a b d 2) (by show 3≤1000; omega) (row_nil W) (fun r hr=>by cases hr) (by show 0≤1000; omega) (by rw [most_2]; decide)).mono ?_
 rintro e w' ⟨v2,r0,r1,nv,ML,NT,F,rfl,hM,FN,S⟩
 obtain⟨⟨t0,t1,t2,t3,rfl⟩,hr,rfl⟩:=mend_2 hM
 injection hr with h1 h2
 subst h1 h2
 exact⟨v2,nv,t0,t1,t2,t3,rfl,S.ext,oAny.now (S.get 1 rfl) (h.ext S.ext),oAny.now (S.get 0 rfl)⟩
theorem check_w (v:Value) (L:List Om) (c:Int) (W:World) (h:OmsAt W v L) (hw:∀ x∈L,OmWf x) (hl:L.length≤100000) (hc:checkP (1,0) L=c):Calls Tryz.prog 16 #[.agg #[v,.int .i64 1,.int .i64 0]] W fun e w'=>e=.returned (.int .i64 c)∧Ext [] W w':=by
 rw [←hc]; exact check28_walk v L (1,0) W h hw rf_10 hl
theorem lives_walk28 (w:World):Calls Tryz.prog 8 #[] w fun e w'=>e=.returned (.bool true)∧Ext [] w w':=by
 go_enter Tryz.func8,Tryz.ntmps8
 go_wp2_with fail
 refine (one_2 _).mono ?_
 rintro e w1 ⟨v1,a1,b1,d1,rfl,hx,hO⟩
 have HX1:=zz2 ⟨hx,hO⟩
 skip
 obtain⟨s1b,s1c,rfl⟩:∃ b c,v1=.slice b 3 c:=by
  obtain⟨b,c,h,-⟩:=HX1.out.2
  exact⟨b,c,h⟩
 clear hx hO
 go_wp2_with fail
 refine (mend_w2 _ a1 b1 d1 _ (HX1.out.2)).mono ?_
 rintro e w2 ⟨v2,nv,t0,t1,t2,t3,rfl,hx,hO,hN⟩
 have HX2:=zz3 ⟨(HX1.out.1).trans hx,hO,hN⟩
 clear  HX1
 obtain⟨s2b,s2c,rfl⟩:∃ b c,v2=.slice b 4 c:=by
  obtain⟨b,c,h,-⟩:=HX2.out.2.1
  exact⟨b,c,h⟩
 obtain⟨nnb,nnc,rfl⟩:∃ b c,nv=.slice b 2 c:=by
  obtain⟨b,c,h,-⟩:=HX2.out.2.2
  exact⟨b,c,h⟩
 clear hx hO hN
 go_upto_region 2 with fail
 refine gen_world (fun W3 hW3=>?_)
 obtain⟨p1,hp1⟩:∃ p,w2.heap.size=p:=⟨_,rfl⟩
 (try rw [hp1])
 have hx:Ext [] w2 W3:=by rw [←hW3]; exact (Ext.refl [] w2).alloc _
 have hb:W3.heap[p1]? = some (.cells #[.slice s2b 4 s2c,.int .i64 1,.int .i64 0] 26 (0,0)):=by rw [←hW3,←hp1]; exact heap_alloc_at _
 have HX3:=zz4 ⟨(HX2.out.1).trans hx,(HX2.out.2.1).ext hx,(HX2.out.2.2).ext hx,hb⟩
 clear hx hb hW3 hp1 HX2
 go_wp2_with fail
 refine (one_1 _).mono ?_
 rintro e w4 ⟨v4,a4,b4,d4,rfl,hx,hO⟩
 have HX4:=zz5 ⟨(HX3.out.1).trans hx,(HX3.out.2.1).ext hx,(HX3.out.2.2.1).ext hx,hx.keep (HX3.out.2.2.2) (by simp),hO⟩
 clear  HX3
 obtain⟨s4b,s4c,rfl⟩:∃ b c,v4=.slice b 3 c:=by
  obtain⟨b,c,h,-⟩:=HX4.out.2.2.2.2
  exact⟨b,c,h⟩
 clear hx hO
 go_wp2_with fail
 refine (check_w _ (exL a4 b4 d4 1) 0 _ (HX4.out.2.2.2.2) (exL_wf a4 b4 d4 1) (by show 3≤100000; omega) (check_1 a4 b4 d4)).mono ?_
 rintro e w5 ⟨rfl,hx⟩
 have HX5:=zz4 ⟨(HX4.out.1).trans hx,(HX4.out.2.1).ext hx,(HX4.out.2.2.1).ext hx,hx.keep (HX4.out.2.2.2.1) (by simp)⟩
 clear hx HX4
 go_wp2_with fail
 refine (one_2 _).mono ?_
 rintro e w6 ⟨v6,a6,b6,d6,rfl,hx,hO⟩
 have HX6:=zz5 ⟨(HX5.out.1).trans hx,(HX5.out.2.1).ext hx,(HX5.out.2.2.1).ext hx,hx.keep (HX5.out.2.2.2) (by simp),hO⟩
 clear  HX5
 obtain⟨s6b,s6c,rfl⟩:∃ b c,v6=.slice b 3 c:=by
  obtain⟨b,c,h,-⟩:=HX6.out.2.2.2.2
  exact⟨b,c,h⟩
 clear hx hO
 go_wp2_with fail
 refine (check_w _ (exL a6 b6 d6 2) 4 _ (HX6.out.2.2.2.2) (exL_wf a6 b6 d6 2) (by show 3≤100000; omega) (check_2 a6 b6 d6)).mono ?_
 rintro e w7 ⟨rfl,hx⟩
 have HX7:=zz4 ⟨(HX6.out.1).trans hx,(HX6.out.2.1).ext hx,(HX6.out.2.2.1).ext hx,hx.keep (HX6.out.2.2.2.1) (by simp)⟩
 clear hx HX6
 have c0:=cellOf (HX7.out.2.2.2) 0
 have c1:=cellOf (HX7.out.2.2.2) 1
 have c2:=cellOf (HX7.out.2.2.2) 2
 go_wp2_with fail
 refine (check_w _ (mL t0 t1 t2 t3) 0 _ (HX7.out.2.1) (mL_wf t0 t1 t2 t3) (by show 4≤100000; omega) (check_m t0 t1 t2 t3)).mono ?_
 rintro e w8 ⟨rfl,hx⟩
 have HX8:=zz2 ⟨(HX7.out.1).trans hx,(HX7.out.2.2.1).ext hx⟩
 clear hx c0 c1 c2 HX7
 go_wp2_with fail
 refine gen_calls (fun W9 hW9=>?_)
 have hx:Ext [] w8 W9:=by rw [←hW9]; exact (Ext.refl [] w8).alloc _
 have hb:W9.heap[w8.heap.size]? = some (.cells #[.int .i64 3,.int .i64 4,.int .i64 4,.int .i64 4] 47 (0,0)):=by rw [←hW9]; exact heap_alloc_at _
 refine (sameN28_walk _ _ [(3,4),(4,4)] W9 ((HX8.out.2).ext hx) (row_lit [(3,4),(4,4)] hb rfl) (by decide)).mono ?_
 rintro e w10 ⟨rfl,hx2⟩
 have HF:=zz (((HX8.out.1).trans hx).trans hx2)
 clear hx hx2 hb hW9 HX8
 go_wp2_with fail
 go_ret
 exact⟨rfl,HF.out⟩
end Pg
end Go.Proofs.YtljachhmdogkdaaGreatDoor
