/-
 Texts PgX, PgY, PgYb, PgZ, PgYc, PgYd, as far as the statement needs them.
-/
import Derived.Test.YtljachhmdogkdaaGreatDoorQPt
import Derived.Test.YtljachhmdogkdaaGreatDoorQPgW
set_option maxRecDepth 100000
set_option maxHeartbeats 64000000
namespace Go.Proofs.YtljachhmdogkdaaGreatDoor
namespace Pg
open Go.RowKit
open Tr
open Rc
theorem lone_nodes {w:World} {g:Nat} {x:Nd} (h:w.heap[g]? = some (.cells #[.int .i64 x.kind,.int .i64 x.n,.int .i64 x.gen,.string x.s,.slice none 0 0] 41 (0,0))) (hk:x.kids=[]) (hn : -9223372036854775808≤x.n∧x.n≤9223372036854775807) (hs:x.s.size≤9223372036854775807) :
  NodesAt w (.slice (some ⟨g,0,none⟩) 1 1) [x]:=
 ⟨_,1,rfl,Nat.le_refl _,fun i hi=>by
  obtain rfl:i=0:=by simpa using hi
  exact⟨g,0,rfl,cellOf h 0,cellOf h 1,cellOf h 2,cellOf h 3,⟨hn,hs,by show x.kids.length≤_; rw [hk]; simp,fun k hq=>by have hq:k∈x.kids:=hq; rw [hk] at hq; cases hq⟩,none,0,by show w.cell? _=some (.slice none x.kids.length 0); rw [hk]; exact cellOf h 4,fun i hi=>by have hi:i<x.kids.length:=hi; rw [hk] at hi; cases hi⟩⟩
theorem lone_tr {w w' : World} {g:Nat} {x:Nd} (hx:Ext [] w w') (hg:w.heap.size≤g) (h:w'.heap[g]? = some (.cells #[.int .i64 x.kind,.int .i64 x.n,.int .i64 x.gen,.string x.s,.slice none 0 0] 41 (0,0))) (hk:x.kids=[]) (hn : -9223372036854775808≤x.n∧x.n≤9223372036854775807) (hs:x.s.size≤9223372036854775807) :
  Sep w w' [oTr [g] (.slice (some ⟨g,0,none⟩) 1 1) [x]]:=
 (Sep.start w).new hx _ ⟨fun k hk=>by obtain rfl:=List.mem_singleton.1 hk; exact lt_of_block h,fun w2 h2=>lone_nodes ((h2 g (List.mem_singleton.2 rfl)).trans h) hk hn hs⟩ (fun k hk=>by obtain rfl:=List.mem_singleton.1 hk; exact hg)
theorem strs1 {w:World} {g:Nat} {a:ByteArray} {t:TypeId} {f:Nat×Nat} (h:w.heap[g]? = some (.cells #[.string a] t f)):StrsAt w (.slice (some ⟨g,0,none⟩) 1 1) [a]:=
 ⟨_,1,rfl,Nat.le_refl _,fun i hi=>by
  match i,hi with
  | 0,_=>exact⟨g,0,rfl,cellOf h 0⟩⟩
theorem trees1 {w:World} {g:Nat} {u:Value} {a:List Nd} {t:TypeId} {f:Nat×Nat} (h:w.heap[g]? = some (.cells #[u] t f)) (hu:NodesAt w u a):TreesAt w (.slice (some ⟨g,0,none⟩) 1 1) [a]:=
 ⟨_,1,rfl,Nat.le_refl _,fun i hi=>by
  match i,hi with
  | 0,_=>exact⟨g,0,u,rfl,cellOf h 0,hu⟩⟩
def refT (r:Rf):List Nd:=[⟨9,r.1,r.2,⟨#[]⟩,[]⟩]
def intT (n:Int):List Nd:=[⟨3,n,0,⟨#[]⟩,[]⟩]
def typedN (s:ByteArray):List Nd:=(dictionN [kType] [[nameNd s]]).1
def setT (l:List Nd) (k:ByteArray) (t:List Nd):List Nd:=(setN l k t).1
theorem ref_walk (r:Rf) (hr:RfWf r) (w:World):Calls Tryz.prog 28 #[mkR r] w fun e w'=>∃ v2,e=.returned v2∧∃ F,Sep w w' [oTr F v2 (refT r)]:=by
 obtain⟨n,g⟩:=r
 show Calls _ _ #[.agg #[.int .i64 n,.int .i64 g]] _ _
 have H:=zz hr
 clear hr
 go_enter Tryz.func28,Tryz.ntmps28
 go_wp2_with fail
 go_ret
 have hb:=heap_alloc_at (w:=w.alloc (.cells #[.int .i64 n,.int .i64 g] 24)) (.cells #[.int .i64 9,.int .i64 n,.int .i64 g,.string ⟨#[]⟩,.slice none 0 0] 41)
 rw [show (w.alloc (.cells #[.int .i64 n,.int .i64 g] 24)).heap.size=w.heap.size+1 from by simp] at hb
 exact⟨_,rfl,_,lone_tr (x:=⟨9,n,g,⟨#[]⟩,[]⟩) (((Ext.refl [] w).alloc _).alloc _) (Nat.le_succ _) hb rfl H.out.1 (by show (0:Nat)≤_; omega)⟩
theorem typed_walk (s:ByteArray) (hs:s.size≤1000000) (w:World):Calls Tryz.prog 27 #[.string s] w fun e w'=>∃ v2,e=.returned v2∧∃ F,Sep w w' [oTr F v2 (typedN s)]:=by
 obtain⟨R,hR⟩:∃ R,typedN s=R:=⟨_,rfl⟩
 rw [hR]
 have H:=zz2 ⟨hs,hR⟩
 clear hs hR
 go_enter Tryz.func27,Tryz.ntmps27
 go_wp2_with fail
 obtain⟨p,hp⟩:∃ p,w.heap.size=p:=⟨_,rfl⟩
 obtain⟨W,hW⟩:∃ W,((w.alloc (.cells #[.string kType] 9)).alloc (.cells #[.int .i64 6,.int .i64 0,.int .i64 0,.string s,.slice none 0 0] 41)).alloc (.cells #[.slice (some ⟨p+1,0,none⟩) 1 1] 31)=W:=⟨_,rfl⟩
 have b0:W.heap[p]? = some (.cells #[.string kType] 9 (0,0)):=by rw [←hW,←hp]; exact heap_alloc_old _ (heap_alloc_old _ (heap_alloc_at _))
 have b1:W.heap[p+1]? = some (.cells #[.int .i64 6,.int .i64 0,.int .i64 0,.string s,.slice none 0 0] 41 (0,0)):=by
  have hb:=heap_alloc_at (w:=w.alloc (.cells #[.string kType] 9)) (.cells #[.int .i64 6,.int .i64 0,.int .i64 0,.string s,.slice none 0 0] 41)
  rw [show (w.alloc (.cells #[.string kType] 9)).heap.size=p+1 from by simp [hp]] at hb
  rw [←hW]; exact heap_alloc_old _ hb
 have b2:W.heap[p+2]? = some (.cells #[.slice (some ⟨p+1,0,none⟩) 1 1] 31 (0,0)):=by
  have hb:=heap_alloc_at (w:=(w.alloc (.cells #[.string kType] 9)).alloc (.cells #[.int .i64 6,.int .i64 0,.int .i64 0,.string s,.slice none 0 0] 41)) (.cells #[.slice (some ⟨p+1,0,none⟩) 1 1] 31)
  rw [show ((w.alloc (.cells #[.string kType] 9)).alloc (.cells #[.int .i64 6,.int .i64 0,.int .i64 0,.string s,.slice none 0 0] 41)).heap.size=p+2 from by simp [hp]] at hb
  rw [←hW]; exact hb
 have hx:Ext [] w W:=by rw [←hW]; exact (((Ext.refl [] w).alloc _).alloc _).alloc _
 have hN:NodesAt W (.slice (some ⟨p+1,0,none⟩) 1 1) [nameNd s]:=one_nodes (x:=nameNd s) b1 rfl (by show (-9223372036854775808:Int)≤0∧(0:Int)≤9223372036854775807; omega) (by have:=H.out.1; show s.size≤_; omega)
 have hD:=dictX_new _ _ [kType] [[nameNd s]] W (strs1 b0) (trees1 b2 hN) (by decide) (by show 1≤1048576; omega) (fun l hl=>by
  obtain rfl:=List.mem_singleton.1 hl
  refine⟨by show 1≤9223372036854775807; omega,fun x hx=>?_⟩
  obtain rfl:=List.mem_singleton.1 hx
  exact H.out.1)
 have e:(dictionN [kType] [[nameNd s]]).1=R:=H.out.2
 rw [e] at hD
 have HD:=zz hD
 have HX:=zz hx
 have e1:((w.alloc (.cells #[.string ⟨#[84,121,112,101]⟩] 9)).alloc (.cells #[.int .i64 6,.int .i64 0,.int .i64 0,.string s,.slice none 0 0] 41)).alloc (.cells #[.slice (some ⟨w.heap.size+1,0,none⟩) 1 1] 31)=W:=by rw [←hW,←hp]; rfl
 rw [e1]
 simp only [hp]
 clear e1 hW b0 b1 b2 hx hN hD e
 refine HD.out.mono ?_
 rintro ee w2 ⟨v2,rfl,F,S⟩
 have HS:=zz (Sep.since HX.out S)
 clear S
 go_wp2_with fail
 go_ret
 exact⟨_,rfl,F,HS.out⟩
theorem array_new (v:Value) (ls:List (List Nd)) (w:World) (h:TreesAt w v ls) (hn:ls.length≤65536) (hls:light6 ls) :
  Calls Tryz.prog 31 #[v] w fun e w'=>∃ v2,e=.returned (.tuple #[v2,.int .i64 (arrayN ls).2])∧∃ F,Sep w w' [oTr F v2 (arrayN ls).1]:=by
 have HF:=zz (first_walk v ls w h (by omega) hls)
 have HU:=zz (fun w1 (hx:Ext [] w w1) (h0:firstN ls=0)=>under_new 7 v ls w1 (h.ext hx) hn (fun l hl=>(hls l hl).2) (firstN_zero h0))
 obtain⟨R,hR⟩:∃ R,arrayN ls=R:=⟨_,rfl⟩
 have HR:=zz hR
 rw [hR]
 clear hR h
 obtain⟨f,hf⟩:∃ f,firstN ls=f:=⟨_,rfl⟩
 have HE:=zz hf
 rw [hf] at HF
 clear hf
 go_enter Tryz.func31,Tryz.ntmps31
 go_wp2_with fail
 refine HF.out.mono ?_
 rintro ee w1 ⟨rfl,hx1⟩
 by_cases h0:f=0
 ·have hR2:=HR.out
  rw [arrayN,if_pos (by rw [HE.out,h0])] at hR2
  have HU2:=zz (HU.out w1 hx1 (by rw [HE.out,h0]))
  rw [hR2] at HU2
  have HX:=zz hx1
  subst h0
  clear hx1 hR2 HU HR HE HF
  go_wp2_with fail
  refine HU2.out.mono ?_
  rintro ee w2 ⟨v2,rfl,F,S2⟩
  have HX2:=zz (Sep.since HX.out S2)
  clear S2 HU2 HX
  go_wp2_with fail
  go_ret2
  exact⟨_,rfl,F,HX2.out⟩
 ·have hR2:=HR.out
  rw [arrayN,if_neg (by rw [HE.out]; exact h0),HE.out] at hR2
  subst hR2
  have heb:(f != 0)=true:=bne_iff_ne.2 h0
  have HX:=zz hx1
  clear hx1 HU HR HE HF h0
  go_wp2_with fail
  go_ret2
  exact⟨_,rfl,[],tr_nil HX.out⟩
def pgO (t:Rf) (x:Om):Om:={ x with tree:=setT x.tree kParent (refT t)}
def refO (x:Om):Rf:=(x.num,x.gen)
def kidsT (l:List Om):List Nd:=(arrayN (l.map fun x=>refT (refO x))).1
def nodeO (t:Rf) (l:List Om):Om:=⟨t.1,0,.slice none 0 0,false,⟨#[]⟩,setT (setT (typedN kPages) kKids (kidsT l)) kCount (intT l.length)⟩
def rootO (t:Rf) (x:Om):Om:={ x with tree:=setT x.tree kPages (refT t)}
def hasN (M:List Om) (n:Int):Bool:=M.any fun y=>y.num==n
def keepL (M L:List Om):List Om:=L.filter fun x=>!hasN M x.num
def lastsO:List Om→List Om
 | []=>[]
 | x::M=>if hasN M x.num=true then lastsO M else x::lastsO M
def mdF (M:List Om):Int→Option Value:=fun n=>(M.reverse.find? fun x=>x.num==n).map omV
theorem mdF_more (M:List Om) (x:Om):(fun q=>if q=x.num then some (omV x) else mdF M q)=mdF (M++[x]):=by
 funext q
 show _=((M++[x]).reverse.find? fun y=>y.num==q).map omV
 rw [List.reverse_append,List.reverse_singleton,List.singleton_append,List.find?_cons]
 by_cases h:q=x.num
 ·rw [if_pos h,h]; simp
 ·rw [if_neg h]
  have:(x.num==q)=false:=by simpa using fun e=>h e.symm
  rw [this]; rfl
theorem mdF_none (M:List Om) (n:Int):(mdF M n).isSome=hasN M n:=by
 rw [mdF,Option.isSome_map,hasN,Bool.eq_iff_iff,List.find?_isSome,List.any_eq_true]
 simp
theorem lasts_sub:∀ (M:List Om) (x:Om),x∈lastsO M→x∈M
 | [],x,h=>by cases h
 | y::M,x,h=>by
  rw [lastsO] at h
  split at h
  ·exact List.mem_cons_of_mem _ (lasts_sub M x h)
  ·rcases List.mem_cons.1 h with rfl | h
   ·exact List.mem_cons_self ..
   ·exact List.mem_cons_of_mem _ (lasts_sub M x h)
theorem lasts_apart:∀ (M:List Om),(lastsO M).Pairwise fun x y=>x.num≠y.num
 | []=>List.Pairwise.nil
 | y::M=>by
  rw [lastsO]
  split
  ·exact lasts_apart M
  ·rename_i h
   refine List.pairwise_cons.2 ⟨fun x hx e=>h ?_,lasts_apart M⟩
   unfold hasN
   rw [List.any_eq_true]
   exact⟨x,lasts_sub M x hx,by simp [e]⟩
theorem mdF_lasts:∀ (M:List Om) (n:Int) (v:Value),mdF M n=some v↔∃ x∈lastsO M,x.num=n∧v=omV x
 | [],n,v=>by simp [mdF,lastsO]
 | y::M,n,v=>by
  have ih:=mdF_lasts M n v
  have e:mdF (y::M) n=if hasN M n=true then mdF M n else if y.num=n then some (omV y) else none:=by
   have h1:=mdF_none M n
   unfold mdF at h1 ⊢
   rw [List.reverse_cons,List.find?_append]
   cases hf:M.reverse.find? fun x=>x.num==n with
   | none=>
    rw [hf] at h1
    rw [←h1]
    by_cases hy:y.num=n <;> simp [hy]
   | some z=>
    rw [hf] at h1
    rw [←h1]
    simp
  rw [e,lastsO]
  by_cases hn:hasN M n=true
  ·rw [if_pos hn,ih]
   by_cases hy:hasN M y.num=true
   ·rw [if_pos hy]
   ·rw [if_neg hy]
    refine⟨fun⟨x,hx,h1,h2⟩=>⟨x,List.mem_cons_of_mem _ hx,h1,h2⟩,fun⟨x,hx,h1,h2⟩=>?_⟩
    rcases List.mem_cons.1 hx with rfl | hx
    ·rw [h1] at hy; exact absurd hn hy
    ·exact⟨x,hx,h1,h2⟩
  ·rw [if_neg hn]
   have hno:∀ x∈lastsO M,x.num≠n:=fun x hx e=>hn (by
    unfold hasN
    rw [List.any_eq_true]
    exact⟨x,lasts_sub M x hx,by simp [e]⟩)
   by_cases hy:y.num=n
   ·rw [if_pos hy,if_neg (by rw [hy]; exact hn)]
    refine⟨fun h=>⟨y,List.mem_cons_self ..,hy,(Option.some.inj h).symm⟩,fun⟨x,hx,h1,h2⟩=>?_⟩
    rcases List.mem_cons.1 hx with rfl | hx
    ·rw [h2]
    ·exact absurd h1 (hno x hx)
   ·rw [if_neg hy]
    refine⟨fun h=>(by cases h),fun⟨x,hx,h1,h2⟩=>?_⟩
    split at hx
    ·exact absurd h1 (hno x hx)
    ·rcases List.mem_cons.1 hx with rfl | hx
     ·exact absurd h1 hy
     ·exact absurd h1 (hno x hx)
theorem perm_lift {α β:Type} (f:α→β):∀ {E m:List β},E.Perm m→∀ X:List α,m=X.map f→∃ Y:List α,Y.Perm X∧Y.map f=E:=by
 intro E m h
 induction h with
 | nil=>intro X hX; exact⟨[],by cases X with | nil=>exact .nil | cons a b=>simp at hX,rfl⟩
 | cons x h ih=>
  intro X hX
  cases X with
  | nil=>simp at hX
  | cons a b=>
   simp only [List.map_cons,List.cons.injEq] at hX
   obtain⟨Y,h1,h2⟩:=ih b hX.2
   exact⟨a::Y,h1.cons a,by rw [List.map_cons,h2,hX.1]⟩
 | swap x y l=>
  intro X hX
  cases X with
  | nil=>simp at hX
  | cons a X=>
   cases X with
   | nil=>simp at hX
   | cons b X=>
    simp only [List.map_cons,List.cons.injEq] at hX
    exact⟨b::a::X,.swap a b X,by rw [List.map_cons,List.map_cons,hX.1,hX.2.1,hX.2.2]⟩
 | trans h1 h2 ih1 ih2=>
  intro X hX
  obtain⟨Y,h3,h4⟩:=ih2 X hX
  obtain⟨Z,h5,h6⟩:=ih1 Y h4.symm
  exact⟨Z,h5.trans h3,h6⟩
theorem sorts {α:Type} (lt:α→α→Bool) (htr:∀ a b c,lt a b=true→lt b c=true→lt a c=true) (l:List α) (hl:l.Pairwise fun a b=>lt a b=true∨lt b a=true) :
  ∃ E:List α,E.Perm l∧E.Pairwise fun a b=>lt a b=true:=by
 induction l with
 | nil=>exact⟨[],.nil,.nil⟩
 | cons x l ih=>
  obtain⟨h1,h2⟩:=List.pairwise_cons.1 hl
  obtain⟨E,hp,hs⟩:=ih h2
  have hx:∀ y∈E,lt x y=true∨lt y x=true:=fun y hy=>h1 y (hp.mem_iff.1 hy)
  have key:∀ E:List α,E.Pairwise (fun a b=>lt a b=true)→(∀ y∈E,lt x y=true∨lt y x=true)→∃ F:List α,F.Perm (x::E)∧F.Pairwise fun a b=>lt a b=true:=by
   intro E
   induction E with
   | nil=>intro _ _; exact⟨[x],.refl _,by simp⟩
   | cons y E ihE=>
    intro hs hx
    obtain⟨s1,s2⟩:=List.pairwise_cons.1 hs
    rcases hx y (List.mem_cons_self ..) with h | h
    ·exact⟨x::y::E,.refl _,List.pairwise_cons.2 ⟨fun z hz=>by
      rcases List.mem_cons.1 hz with rfl | hz
      ·exact h
      ·exact htr _ _ _ h (s1 z hz),hs⟩⟩
    ·obtain⟨F,f1,f2⟩:=ihE s2 (fun z hz=>hx z (List.mem_cons_of_mem _ hz))
     refine⟨y::F,(f1.cons y).trans (.swap x y E),List.pairwise_cons.2 ⟨fun z hz=>?_,f2⟩⟩
     rcases List.mem_cons.1 (f1.mem_iff.1 hz) with rfl | hz
     ·exact h
     ·exact s1 z hz
  obtain⟨F,f1,f2⟩:=key E hs hx
  exact⟨F,f1.trans (hp.cons x),f2⟩
theorem rises_eq {α:Type} (lt:α→α→Prop) (hir:∀ a b,lt a b→¬ lt b a):∀ {l m:List α},l.Pairwise lt→m.Pairwise lt→l.Perm m→l=m:=by
 intro l
 induction l with
 | nil=>intro m _ _ h; exact (List.nil_perm.1 h).symm
 | cons x l ih=>
  intro m hl hm hp
  cases m with
  | nil=>exact absurd hp.length_eq (by simp)
  | cons y m=>
   obtain⟨a1,a2⟩:=List.pairwise_cons.1 hl
   obtain⟨b1,b2⟩:=List.pairwise_cons.1 hm
   have hxy:x=y:=by
    rcases List.mem_cons.1 (hp.mem_iff.1 (List.mem_cons_self ..)) with h | h
    ·exact h
    ·rcases List.mem_cons.1 (hp.mem_iff.2 (List.mem_cons_self ..):y∈x::l) with h2 | h2
     ·exact h2.symm
     ·exact absurd (a1 y h2) (hir _ _ (b1 x h))
   subst hxy
   rw [ih a2 b2 (hp.cons_inv)]
def loneM (root:Rf) (L:List Om) (order:List Rf):List Rf:=loneN L (keysO (walkN root L)) order
def listM (root:Rf) (L:List Om) (order:List Rf):List Om:=walkN root L++(loneM root L order).map fun r=>bare (objOr L r)
def rtM (root:Rf) (L:List Om):Om:=if rootB L root=true then bare (objOr L root) else ⟨mostN root L+1,0,.slice none 0 0,false,⟨#[]⟩,typedN kCatalog⟩
def atM (root:Rf) (L:List Om):Int:=if rootB L root=true then mostN root L+1 else mostN root L+2
def notesM (root:Rf) (L:List Om) (order:List Rf):List Rf:=(loneM root L order).map (fun r=>((5:Int),r.1))++(if rootB L root=true then [] else [((3:Int),mostN root L+1)])++[(3,atM root L),(4,atM root L)]
def madeM (root:Rf) (L:List Om) (order:List Rf):List Om:=(listM root L order).map (pgO (atM root L,0))++[nodeO (atM root L,0) (listM root L order),rootO (atM root L,0) (rtM root L)]
def sameM (root:Rf) (L:List Om) (order:List Rf):Bool:=strictN L != 0||((loneM root L order).isEmpty&&(checkP root L==0))
structure Made (rt:Rf) (L:List Om) (order:List Rf) (ML:List Om) (r:Rf) (NT:List Rf):Prop where
 objs:(ML.map bare).Perm ((keepL (madeM rt L order) L++lastsO (madeM rt L order)).map bare)
 rise:ML.Pairwise fun x y=>x.num<y.num
 root:r=refO (rtM rt L)
 notes:NT.Perm (notesM rt L order)
 nrise:NT.Pairwise fun x y=>x.1<y.1∨(x.1=y.1∧x.2<y.2)
def MendIs (root:Rf) (L:List Om) (order:List Rf) (ML:List Om) (r:Rf) (NT:List Rf):Prop:=
 (sameM root L order=true∧ML=L∧r=root∧NT=[])∨(sameM root L order=false∧Made root L order ML r NT)
theorem keysO_append (a b:List Om):keysO (a++b)=keysO a++keysO b:=List.map_append
theorem keysO_bare (a:List Om):keysO (a.map bare)=keysO a:=by simp [keysO,bare,Function.comp_def]
theorem hasO_some {L:List Om} {r:Rf} {x:Om} (h:findO L r=some x):hasO L r=true:=by unfold hasO; rw [h]; rfl
theorem some_hasO {L:List Om} {r:Rf} (h:hasO L r=true):∃ x,findO L r=some x:=by
 unfold hasO at h
 exact Option.isSome_iff_exists.1 h
theorem walkF_ok (L:List Om):∀ (n:Nat) (st:List (Rf×Hg)) (seen:List Rf) (out:List Om),QOk L seen→(∀ r∈keysO out,r∈seen)→(keysO out).Nodup→QOk L (keysO (walkF L n st seen out))
 | 0,st,seen,out,hq,ho,hn=>⟨hn,fun r hr=>hq.2 r (ho r hr)⟩
 | n+1,[],seen,out,hq,ho,hn=>⟨hn,fun r hr=>hq.2 r (ho r hr)⟩
 | n+1,(r,G)::st,seen,out,hq,ho,hn=>by
  rw [walkF]
  cases hf:findO L r with
  | none=>exact walkF_ok L n st seen out hq ho hn
  | some x=>
   simp only
   split
   ·exact walkF_ok L n st seen out hq ho hn
   rename_i hs
   have hq2:=snoc_ok hq (hasO_some hf) hs
   have hs2:∀ a∈keysO out,a∈seen++[r]:=fun a ha=>List.mem_append_left _ (ho a ha)
   split
   ·have hk:keysO (out++[pageO x G])=keysO out++[r]:=by rw [keysO_append,(findO_mem hf).2]; rfl
    refine walkF_ok L n st (seen++[r]) _ hq2 (fun a ha=>?_) ?_
    ·rw [hk] at ha
     rcases List.mem_append.1 ha with ha | ha
     ·exact hs2 a ha
     ·exact List.mem_append_right _ ha
    ·rw [hk]
     refine List.nodup_append.2 ⟨hn,by simp,fun a ha b hb e=>?_⟩
     subst e
     obtain rfl:=List.mem_singleton.1 hb
     exact hs (ho a ha)
   ·split
    ·exact walkF_ok L n st _ out hq2 hs2 hn
    ·exact walkF_ok L n _ _ out hq2 hs2 hn
theorem qok_nil (L:List Om):QOk L []:=⟨List.nodup_nil,fun r h=>by cases h⟩
theorem walkN_ok (root:Rf) (L:List Om):QOk L (keysO (walkN root L)):=by
 unfold walkN
 split
 ·exact qok_nil L
 ·split
  ·exact qok_nil L
  ·split
   ·exact qok_nil L
   ·exact walkF_ok L _ _ _ _ (qok_nil L) (fun r h=>by cases h) List.nodup_nil
theorem onto_kok:∀ (E:List Ent) (l:List Nd) (k:Nat),KOk l k→(∀ p∈E,Lt p.2∧p.1.size≤1000000)→KOk (ontoN l E) (k+E.length)
 | [],l,k,h,_=>by rw [ontoN]; exact h
 | p::E,l,k,h,hE=>by
  obtain⟨h1,h2⟩:=hE p (List.mem_cons_self ..)
  have:=onto_kok E _ (k+1) (h.step h1 h2) (fun q hq=>hE q (List.mem_cons_of_mem _ hq))
  rw [ontoN,List.length_cons,show k+(E.length+1)=k+1+E.length by omega]
  exact this
def HgLt (G:Hg):Prop:=∀ s t,G s=some t→Lt t
theorem gdE_len (G:Hg):(gdE G).length≤4:=Nat.le_trans (List.length_filter_le _ _) (by decide)
theorem pageO_kok {x:Om} {G:Hg} (hx:KOk x.tree 900) (hG:HgLt G):KOk (pageO x G).tree 904:=by
 have h1:∀ p∈entsG G (gdE G),Lt p.2∧p.1.size≤1000000:=fun p hp=>by
  obtain⟨s,hs,rfl⟩:=List.mem_map.1 hp
  obtain⟨h2,h3⟩:=List.mem_filter.1 hs
  obtain⟨t,ht⟩:=Option.isSome_iff_exists.1 h3
  refine⟨?_,names4_size s h2⟩
  show Lt ((G s).getD [])
  rw [ht]
  exact hG s t ht
 have h2:=onto_kok _ _ _ hx h1
 refine⟨h2.lt,Nat.le_trans h2.cnt ?_⟩
 have:=gdE_len G
 simp [entsG]
 omega
theorem withG_lt {G:Hg} {l:List Nd} (hG:HgLt G) (hl:Lt l):HgLt (withG G l):=fun s t h=>by
 unfold withG at h
 split at h
 ·cases hg:getN l s with
  | none=>rw [hg] at h; exact hG s t h
  | some u=>rw [hg] at h; obtain rfl:=Option.some.inj h; exact get_lt hg hl
 ·exact hG s t h
structure PgOk (L:List Om) (y:Om):Prop where
 kok:KOk y.tree 904
 of:∃ x∈L,y.num=x.num∧y.gen=x.gen∧y.stream=x.stream
theorem walkF_pg (L:List Om) (hL:∀ x∈L,KOk x.tree 900):∀ (n:Nat) (st:List (Rf×Hg)) (seen:List Rf) (out:List Om),(∀ s∈st,HgLt s.2)→(∀ y∈out,PgOk L y)→∀ y∈walkF L n st seen out,PgOk L y
 | 0,st,seen,out,hs,ho=>ho
 | n+1,[],seen,out,hs,ho=>ho
 | n+1,(r,G)::st,seen,out,hs,ho=>by
  have hs2:∀ s∈st,HgLt s.2:=fun s h=>hs s (List.mem_cons_of_mem _ h)
  have hG:HgLt G:=hs _ (List.mem_cons_self ..)
  rw [walkF]
  cases hf:findO L r with
  | none=>exact walkF_pg L hL n st seen out hs2 ho
  | some x=>
   have hx:=(findO_mem hf).1
   simp only
   split
   ·exact walkF_pg L hL n st seen out hs2 ho
   split
   ·refine walkF_pg L hL n st _ _ hs2 (fun y hy=>?_)
    rcases List.mem_append.1 hy with hy | hy
    ·exact ho y hy
    ·obtain rfl:=List.mem_singleton.1 hy
     exact⟨pageO_kok (hL x hx) hG,x,hx,rfl,rfl,rfl⟩
   split
   ·exact walkF_pg L hL n st _ _ hs2 ho
   ·refine walkF_pg L hL n _ _ _ (fun s h=>?_) ho
    rcases List.mem_append.1 h with h | h
    ·obtain⟨k,-,rfl⟩:=List.mem_map.1 h
     exact withG_lt hG (hL x hx).lt
    ·exact hs2 s h
theorem walkN_pg (root:Rf) (L:List Om) (hL:∀ x∈L,KOk x.tree 900):∀ y∈walkN root L,PgOk L y:=by
 unfold walkN
 split
 ·exact fun y h=>by cases h
 ·split
  ·exact fun y h=>by cases h
  ·split
   ·exact fun y h=>by cases h
   ·exact walkF_pg L hL _ _ _ _ (fun s h=>by
     obtain rfl:=List.mem_singleton.1 h
     exact fun s t h=>by cases h) (fun y h=>by cases h)
theorem isPg_some {L:List Om} {r:Rf} (h:isPg L r=true):∃ x,findO L r=some x∧pageN x=true:=by
 unfold isPg at h
 cases hf:findO L r with
 | none=>rw [hf] at h; cases h
 | some x=>rw [hf] at h; exact⟨x,rfl,h⟩
theorem loneF_ok (L:List Om) (wk:List Rf):∀ (rs hv out:List Rf),QOk L hv→hv=wk++out→QOk L (wk++loneF L rs hv out)
 | [],hv,out,hq,he=>by rw [loneF,←he]; exact hq
 | r::rs,hv,out,hq,he=>by
  rw [loneF]
  split
  ·rename_i h
   obtain⟨x,hx,-⟩:=isPg_some h.1
   exact loneF_ok L wk rs _ _ (snoc_ok hq (hasO_some hx) h.2) (by rw [he,List.append_assoc])
  ·exact loneF_ok L wk rs hv out hq he
theorem loneF_pg (L:List Om):∀ (rs hv out:List Rf),(∀ r∈out,isPg L r=true)→∀ r∈loneF L rs hv out,isPg L r=true
 | [],hv,out,h=>h
 | r::rs,hv,out,h=>by
  rw [loneF]
  split
  ·rename_i hr
   refine loneF_pg L rs _ _ (fun a ha=>?_)
   rcases List.mem_append.1 ha with ha | ha
   ·exact h a ha
   ·obtain rfl:=List.mem_singleton.1 ha
    exact hr.1
  ·exact loneF_pg L rs hv out h
theorem loneM_pg (root:Rf) (L:List Om) (A:List Rf):∀ r∈loneM root L A,isPg L r=true:=loneF_pg L _ _ _ (fun r h=>by cases h)
theorem loneM_ok (root:Rf) (L:List Om) (A:List Rf):QOk L (keysO (walkN root L)++loneM root L A):=loneF_ok L _ _ _ _ (walkN_ok root L) (by simp)
theorem objOr_key {L:List Om} {r:Rf} (h:hasO L r=true):(objOr L r).num=r.1∧(objOr L r).gen=r.2∧objOr L r∈L:=by
 obtain⟨x,hx⟩:=some_hasO h
 have h1:=findO_mem hx
 unfold objOr
 rw [hx]
 exact⟨by rw [h1.2]; rfl,by rw [h1.2]; rfl,h1.1⟩
theorem listM_keys (root:Rf) (L:List Om) (A:List Rf):keysO (listM root L A)=keysO (walkN root L)++loneM root L A:=by
 rw [listM,keysO_append]
 congr 1
 rw [keysO,List.map_map]
 conv=>rhs; rw [←List.map_id (loneM root L A)]
 refine List.map_congr_left fun r hr=>?_
 obtain⟨h1,h2,-⟩:=objOr_key (L:=L) (r:=r) (by obtain⟨x,hx,-⟩:=isPg_some (loneM_pg root L A r hr); exact hasO_some hx)
 exact Prod.ext h1 h2
theorem listM_ok (root:Rf) (L:List Om) (A:List Rf):QOk L (keysO (listM root L A)):=by rw [listM_keys]; exact loneM_ok root L A
theorem listM_len (root:Rf) (L:List Om) (A:List Rf):(listM root L A).length≤L.length:=by
 have:=qok_len (listM_ok root L A)
 rwa [keysO,List.length_map] at this
theorem listM_pg (root:Rf) (L:List Om) (A:List Rf) (hL:∀ x∈L,KOk x.tree 900):∀ y∈listM root L A,PgOk L y:=fun y hy=>by
 rcases List.mem_append.1 hy with hy | hy
 ·exact walkN_pg root L hL y hy
 ·obtain⟨r,hr,rfl⟩:=List.mem_map.1 hy
  obtain⟨x,hx,-⟩:=isPg_some (loneM_pg root L A r hr)
  have:=(objOr_key (hasO_some hx)).2.2
  exact⟨⟨(hL _ this).lt,Nat.le_trans (hL _ this).cnt (by omega)⟩,_,this,rfl,rfl,rfl⟩
theorem oms_of_row {w:World} {v:Value} {L:List Om} (h:w.ownsRow 0 35 5 v L.length (omsC L)) (hn:∀ y∈L,NodesAt w y.tv y.tree):OmsAt w v L:=by
 obtain⟨ao,cap,rfl⟩:=row_slice h
 refine⟨ao,cap,rfl,row_le h,fun i hi=>?_⟩
 obtain⟨g,c2,he⟩:=row_form h (by omega)
 have he:ao=some ⟨g,0,none⟩:=by injection he
 subst he
 obtain⟨h0,h1,h2,h3,h4⟩:=omsC_at L i hi
 exact⟨g,0,rfl,by rw [Nat.zero_add]; exact row_cell h h0,by rw [Nat.zero_add]; exact row_cell h h1,by rw [Nat.zero_add]; exact row_cell h h2,by rw [Nat.zero_add]; exact row_cell h h3,by rw [Nat.zero_add]; exact row_cell h h4,hn _ (List.getElem_mem hi)⟩
theorem oms_nodes {w:World} {v:Value} {L:List Om} (h:OmsAt w v L):∀ x∈L,NodesAt w x.tv x.tree:=fun x hx=>by
 obtain⟨base,cap,-,-,hT⟩:=h
 obtain⟨i,hi,rfl⟩:=List.getElem_of_mem hx
 obtain⟨b,o,-,hA⟩:=hT i hi
 exact hA.nodes
theorem key_wf {root:Rf} {L:List Om} (hwf:∀ x∈L,OmWf x) {out:List Om} (h:out.map bare=walkN root L):∀ x∈out,RfWf (x.num,x.gen):=fun x hx=>by
 have h1:(x.num,x.gen)∈keysO (walkN root L):=by
  rw [←h,keysO_bare]
  exact List.mem_map.2 ⟨x,hx,rfl⟩
 exact qok_wf28 hwf (walkN_ok root L) _ h1
theorem out_len {root:Rf} {L:List Om} {out:List Om} (h:out.map bare=walkN root L):out.length≤L.length:=by
 have:=qok_len (walkN_ok root L)
 rw [←h,keysO_bare,keysO,List.length_map] at this
 exact this
theorem list_walk (v:Value) (L:List Om) (root:Rf) (w:World) (h:OmsAt w v L) (hwf:∀ x∈L,OmWf x) (hr:RfWf root) (hC:∀ x∈L,cntE x.tree≤900) (hl:L.length≤1000) :
  Calls Tryz.prog 11 #[.agg #[v,.int .i64 root.1,.int .i64 root.2]] w fun e w'=>∃ v2,e=.returned v2∧Sep w w' [oSl 24 2 v2 (keysO (walkN root L)).length (rfC (keysO (walkN root L)))]:=by
 obtain⟨R,hR⟩:∃ R,keysO (walkN root L)=R:=⟨_,rfl⟩
 rw [hR]
 obtain⟨vb,vc,hvb⟩:∃ b c,v=.slice b L.length c:=by obtain⟨b,c,e,-⟩:=h; exact⟨b,c,e⟩
 obtain⟨vn,hvn⟩:∃ n,L.length=n:=⟨_,rfl⟩
 rw [hvn] at hvb
 subst hvb
 have HAs:=zz (fun W (hx:Ext [] w W)=>asked_walk (.slice vb vn vc) L root.1 root.2 W (h.ext hx) hwf (by omega))
 have HH:=zz6 ⟨h,hwf,hr,hC,hl,hR⟩
 obtain⟨m0,m1⟩:=root
 dsimp only at HAs HH ⊢
 clear h hwf hr hC hl hR hvn
 go_enter Tryz.func11,Tryz.ntmps11
 go_wp2_with fail
 refine (HAs.out _ ((Ext.refl [] w).alloc _)).mono ?_
 rintro e w2 ⟨mb,rfl,S2⟩
 have S2':=Sep.since ((Ext.refl [] w).alloc _) S2
 have hA:AskAt w2 mb L.length L:=⟨S2.get 0 rfl,oms_nodes (HH.out.1.ext S2'.ext),HH.out.2.1⟩
 have HW:=zz (gwalk_loop L vb vn vc m0 m1 mb L.length w2 hA HH.out.2.2.1 HH.out.2.2.2.1 HH.out.2.2.2.2.1)
 have HA:=zz2 ⟨S2'.ext,hA⟩
 clear S2 S2' hA HAs
 go_wp2_with fail
 refine HW.out.mono ?_
 rintro e w3 ⟨v3,out,F,rfl,hout,S3⟩
 have hQ:StQ L [] out w3:=oAny.now (S3.get 1 rfl)
 have hO:OmsAt w3 v3 out:=oms_of_row (S3.get 0 rfl) (hQ.2 (fun x hx=>(HA.out.2.nodes x hx).ext S3.ext))
 have HP:=zz (prefs_walk v3 out w3 hO (by have:=out_len hout; have:=HH.out.2.2.2.2.1; omega))
 have hk:keysO out=R:=by rw [←HH.out.2.2.2.2.2,←hout,keysO_bare]
 rw [hk] at HP
 have HX:=zz (HA.out.1.trans S3.ext)
 obtain⟨ob,oc,rfl⟩:=row_slice (S3.get 0 rfl:w3.ownsRow 0 35 5 v3 out.length (omsC out))
 clear hQ hO hk S3 hout HW HA
 go_wp2_with fail
 refine HP.out.mono ?_
 rintro e w4 ⟨v4,rfl,S4⟩
 have HS:=zz (Sep.since HX.out S4)
 clear S4 HP
 go_wp2_with fail
 go_ret
 exact⟨_,rfl,HS.out⟩
theorem asked_at (v:Value) (L:List Om) (root:Rf) (w:World) (h:OmsAt w v L) (hwf:∀ x∈L,OmWf x) (hl:L.length≤1000) :
  Calls Tryz.prog 21 #[.agg #[v,.int .i64 root.1,.int .i64 root.2]] w fun e w'=>∃ mb,e=.returned (.agg #[v,.int .i64 root.1,.int .i64 root.2,.map (some mb)])∧Sep w w' [Mp.oMp Tryz.prog 24 mkR mb L.length (idxF L)]∧AskAt w' mb L.length L:=by
 refine (asked_walk v L root.1 root.2 w h hwf (by omega)).mono ?_
 rintro e w' ⟨mb,rfl,S⟩
 exact⟨mb,rfl,S,S.get 0 rfl,oms_nodes (h.ext S.ext),hwf⟩
theorem Orphans_walk (v:Value) (L:List Om) (root:Rf) (ov:Value) (A:List Rf) (w:World) (h:OmsAt w v L) (hwf:∀ x∈L,OmWf x) (hr:RfWf root) (hC:∀ x∈L,cntE x.tree≤900) (hl:L.length≤1000) (ho:RowAt w ov A) (har:∀ r∈A,RfWf r) (hal:A.length≤1000) :
  Calls Tryz.prog 12 #[.agg #[v,.int .i64 root.1,.int .i64 root.2],ov] w fun e w'=>∃ v2,e=.returned v2∧Sep w w' [oSl 24 2 v2 (loneM root L A).length (rfC (loneM root L A))]:=by
 obtain⟨R,hR⟩:∃ R,loneM root L A=R:=⟨_,rfl⟩
 rw [hR]
 obtain⟨vb,vc,hvb⟩:∃ b c,v=.slice b L.length c:=by obtain⟨b,c,e,-⟩:=h; exact⟨b,c,e⟩
 obtain⟨vn,hvn⟩:∃ n,L.length=n:=⟨_,rfl⟩
 rw [hvn] at hvb
 subst hvb
 have HAs:=zz (fun W (hx:Ext [] w W)=>asked_at (.slice vb vn vc) L root W (h.ext hx) hwf hl)
 have HH:=zz6 ⟨h,hwf,hr,hC,hl,hR⟩
 have HO:=zz3 ⟨ho,har,hal⟩
 obtain⟨ob,oc,hov,-⟩:=ho
 obtain⟨an,han⟩:∃ n,A.length=n:=⟨_,rfl⟩
 rw [han] at hov
 subst hov
 obtain⟨m0,m1⟩:=root
 dsimp only at HAs HH ⊢
 clear h hwf hr hC hl hR hvn har hal han
 go_enter Tryz.func12,Tryz.ntmps12
 go_wp2_with fail
 refine (HAs.out _ ((Ext.refl [] w).alloc _)).mono ?_
 rintro e w2 ⟨mb,rfl,S2,hA2⟩
 have hx2:=(Sep.since ((Ext.refl [] w).alloc _) S2).ext
 have HA:=zz2 ⟨hx2,hA2⟩
 clear hx2 S2 hA2 HAs
 go_upto_region 2 with fail
 refine gen_world (fun W3 hW3=>?_)
 obtain⟨xb,hxb⟩:∃ p,w2.heap.size=p:=⟨_,rfl⟩
 rw [hxb]
 have hx3:Ext [] w2 W3:=by rw [←hW3]; exact (Ext.refl [] w2).alloc _
 have hb3:W3.heap[xb]? = some (.cells #[.slice vb vn vc,.int .i64 m0,.int .i64 m1,.map (some mb)] 62 (0,0)):=by rw [←hW3,←hxb]; exact heap_alloc_at _
 have k0:∀ y:Ex W3,y.w.cell? ⟨xb,0,none⟩=some (.slice vb vn vc):=fun y=>y.cell (cellOf hb3 0)
 have k1:∀ y:Ex W3,y.w.cell? ⟨xb,1,none⟩=some (.int .i64 m0):=fun y=>y.cell (cellOf hb3 1)
 have k2:∀ y:Ex W3,y.w.cell? ⟨xb,2,none⟩=some (.int .i64 m1):=fun y=>y.cell (cellOf hb3 2)
 have k3:∀ y:Ex W3,y.w.cell? ⟨xb,3,none⟩=some (.map (some mb)):=fun y=>y.cell (cellOf hb3 3)
 have HX:=zz2 ⟨HA.out.1.trans hx3,HA.out.2.ext hx3⟩
 clear hx3 hb3 hW3 hxb HA
 refine wp_region_perm (C:=fun w'=>∃ y:Ex W3,w' = y.w) [0,1,3] 4 (by kernel_rfl) (by kernel_rfl) ⟨Ex.mk _ ((Ext.refl [] W3).drew),rfl⟩ ?_
 simp only [pick,List.getElem?_toArray,List.getElem?_cons_zero,List.getElem?_cons_succ,List.drop_succ_cons,List.drop_zero]
 repeat (go_big_quiet_step (fail))
 refine wpQuiet_nil ?_
 have hxd:Ext [] W3 W3.drew:=(Ext.refl [] W3).drew
 have HW:=zz (gwalk_loop L vb vn vc m0 m1 mb L.length W3.drew (HX.out.2.ext hxd) HH.out.2.2.1 HH.out.2.2.2.1 HH.out.2.2.2.2.1)
 clear k0 k1 k2 k3
 refine anyC_one (f:=0) (i:=2) (by kernel_rfl) (by decide) rfl rfl (fun K9 hK9=>?_)
 go_wp2_with fail
 refine HW.out.mono ?_
 rintro e w4 ⟨v4,out,F,rfl,hout,S4⟩
 have hx4:Ext [] W3 w4:=hxd.trans S4.ext
 have hQ:StQ L [] out w4:=oAny.now (S4.get 1 rfl)
 have hO:OmsAt w4 v4 out:=oms_of_row (S4.get 0 rfl) (hQ.2 (fun x hx=>(HX.out.2.nodes x hx).ext hx4))
 have HP:=zz (orphans_walk L vb vn vc m0 m1 mb L.length v4 (.slice ob an oc) out A w4 (HX.out.2.ext hx4) (HH.out.1.ext (HX.out.1.trans hx4)) HH.out.2.1 hO (key_wf HH.out.2.1 hout) (HO.out.1.ext (HX.out.1.trans hx4)) HO.out.2.1 HH.out.2.2.2.2.1 (by have:=out_len hout; have:=HH.out.2.2.2.2.1; omega) HO.out.2.2)
 have hk:loneN L (keysO out) A=R:=by rw [←HH.out.2.2.2.2.2,loneM,←hout,keysO_bare]
 rw [hk] at HP
 have HX4:=zz2 ⟨HX.out.1.trans hx4,hx4⟩
 obtain⟨ob4,oc4,rfl⟩:=row_slice (S4.get 0 rfl:w4.ownsRow 0 35 5 v4 out.length (omsC out))
 clear hQ hO hk S4 hout HW hx4 hxd
 go_wp2_with fail
 refine hK9 _ _ ⟨Ex.mk w4 HX4.out.2,rfl⟩ ?_
 clear hK9 K9
 refine⟨by kernel_rfl,?_⟩
 obtain⟨on,hon⟩:∃ n,out.length=n:=⟨_,rfl⟩
 rw [hon] at HP ⊢
 clear hon
 go_wp2_with fail
 refine HP.out.mono ?_
 rintro e w5 ⟨v5,rfl,S5⟩
 have HS:=zz (Sep.since HX4.out.1 S5)
 clear S5 HP HX4
 go_wp2_with fail
 refine NoPanic.normal ?_
 go_wp2_with fail
 go_ret
 exact⟨_,rfl,HS.out⟩
theorem le_maxN' : ∀ (l:List Int) (m:Int),m≤maxN l m
 | [],m=>Int.le_refl _
 | x::l,m=>by
  have:=le_maxN' l (max m x)
  unfold maxN at this ⊢
  rw [List.foldl_cons]
  omega
theorem most_pos' (root:Rf) (L:List Om):0≤mostN root L:=Int.le_trans (le_maxN' _ 0) (le_maxN' _ _)
theorem lt_nil:Lt []:=⟨Nat.zero_le _,fun x h=>by cases h⟩
theorem cnt_nil:cntE []=0:=rfl
theorem lt_ref (r:Rf):Lt (refT r):=⟨by show 1≤9223372036854775807; omega,fun x hx=>by
 obtain rfl:=List.mem_singleton.1 hx
 show (0:Nat)≤_
 omega⟩
theorem lt_int (n:Int):Lt (intT n):=⟨by show 1≤9223372036854775807; omega,fun x hx=>by
 obtain rfl:=List.mem_singleton.1 hx
 show (0:Nat)≤_
 omega⟩
theorem lt_array (ls:List (List Nd)) (h:∀ l∈ls,∀ x∈l,x.s.size≤1000000):Lt (arrayN ls).1:=by
 unfold arrayN
 split
 ·rw [under_is]
  split
  ·rename_i hc; exact whole_lt hc h
  ·exact lt_nil
 ·exact lt_nil
theorem set_err {l t:List Nd} {s:ByteArray} (h:(setN l s t).2≠0):(setN l s t).1=[]:=by
 rw [setN] at h ⊢
 split
 ·rfl
 ·rename_i h1
  rw [if_neg h1] at h
  split
  ·rfl
  ·rename_i h2
   rw [if_neg h2] at h
   exact dictN_bad h
theorem lt_set {l t:List Nd} {s:ByteArray} (hl:Lt l) (ht:Lt t) (hs:s.size≤1000000):Lt (setT l s t):=by
 unfold setT
 by_cases h:(setN l s t).2=0
 ·exact (set_more hl ht hs h).2.lt
 ·rw [set_err h]; exact lt_nil
theorem cnt_set {l t:List Nd} {s:ByteArray} (hl:Lt l) (ht:Lt t) (hs:s.size≤1000000):cntE (setT l s t)≤cntE l+1:=by
 unfold setT
 by_cases h:(setN l s t).2=0
 ·exact (set_more hl ht hs h).2.cnt
 ·rw [set_err h,cnt_nil]; omega
theorem typed_pages:typedN kPages=[⟨8,0,0,⟨#[]⟩,[1,2]⟩,nameNd kType,nameNd kPages]:=by kernel_rfl
theorem typed_catalog:typedN kCatalog=[⟨8,0,0,⟨#[]⟩,[1,2]⟩,nameNd kType,nameNd kCatalog]:=by kernel_rfl
theorem typed_page:typedN kPage=[⟨8,0,0,⟨#[]⟩,[1,2]⟩,nameNd kType,nameNd kPage]:=by kernel_rfl
theorem kok_typed (s:ByteArray) (h:typedN s=[⟨8,0,0,⟨#[]⟩,[1,2]⟩,nameNd kType,nameNd s]) (hs:s.size≤1000000):KOk (typedN s) 1:=by
 rw [h]
 refine⟨⟨by show 3≤9223372036854775807; omega,fun x hx=>?_⟩,?_⟩
 ·simp only [List.mem_cons,List.not_mem_nil,or_false] at hx
  rcases hx with rfl | rfl | rfl
  ·show (0:Nat)≤_; omega
  ·show (4:Nat)≤_; omega
  ·exact hs
 ·show (pairsN _ [1,2]).length≤1
  simp [pairsN]
theorem objOr_cases (L:List Om) (r:Rf):(objOr L r)∈L∨objOr L r=zeroOm:=by
 unfold objOr
 cases hf:findO L r with
 | none=>exact .inr rfl
 | some x=>exact .inl (findO_mem hf).1
theorem rtM_kok (root:Rf) (L:List Om) (hL:∀ x∈L,KOk x.tree 900):KOk (rtM root L).tree 900:=by
 unfold rtM
 split
 ·show KOk (objOr L root).tree 900
  rcases objOr_cases L root with h | h
  ·exact hL _ h
  ·rw [h]; exact⟨lt_nil,Nat.zero_le _⟩
 ·have:=kok_typed kCatalog typed_catalog (by decide)
  exact⟨this.lt,Nat.le_trans this.cnt (by omega)⟩
theorem kidsT_bare (l:List Om):kidsT (l.map bare)=kidsT l:=by
 unfold kidsT
 rw [List.map_map]
 rfl
theorem lt_kids (l:List Om):Lt (kidsT l):=lt_array _ (fun x hx y hy=>by
 obtain⟨z,-,rfl⟩:=List.mem_map.1 hx
 exact (lt_ref _).s y hy)
theorem trees_of_row {w:World} {v:Value} {Z:List (Value×List Nd)} (h:w.ownsRow 0 31 1 v Z.length (Z.map (·.1))) (hn:∀ p∈Z,NodesAt w p.1 p.2):TreesAt w v (Z.map (·.2)):=by
 obtain⟨ao,cap,rfl⟩:=row_slice h
 refine⟨ao,cap,by rw [List.length_map],by rw [List.length_map]; exact row_le h,fun i hi=>?_⟩
 rw [List.length_map] at hi
 obtain⟨g,c2,he⟩:=row_form h (by omega)
 have he:ao=some ⟨g,0,none⟩:=by injection he
 subst he
 refine⟨g,0,(Z[i]'hi).1,rfl,?_,?_⟩
 ·rw [Nat.zero_add]
  exact row_cell h (by rw [List.getElem?_map,List.getElem?_eq_getElem hi]; rfl)
 ·rw [List.getElem_map]
  exact hn _ (List.getElem_mem hi)
open Go.Proofs.YtljachhmdogkdaaGreatDoor.So
theorem strictF_rise:∀ (L:List Om) (p:Option Int),strictF p L=true→L.Pairwise (fun x y=>x.num<y.num)∧∀ q,p=some q→∀ x∈L,q<x.num
 | [],p,h=>⟨.nil,fun q _ x hx=>by cases hx⟩
 | x::r,p,h=>by
  rw [strictF,Bool.and_eq_true] at h
  obtain⟨h1,h2⟩:=strictF_rise r _ h.2
  refine⟨List.pairwise_cons.2 ⟨h2 x.num rfl,h1⟩,fun q hq y hy=>?_⟩
  have hb:=h.1
  subst hq
  unfold badS at hb
  have hx:q<x.num:=by
   simp at hb
   omega
  rcases List.mem_cons.1 hy with rfl | hy
  ·exact hx
  ·exact Int.lt_trans hx (h2 x.num rfl y hy)
theorem strict_rise {L:List Om} (h:strictN L=0):L.Pairwise fun x y=>x.num<y.num:=by
 unfold strictN at h
 split at h
 ·rename_i h1; exact (strictF_rise L none h1).1
 ·cases h
theorem rise_inj {L:List Om} (h:L.Pairwise fun x y=>x.num<y.num) {x y:Om} (hx:x∈L) (hy:y∈L) (e:x.num=y.num):x=y:=by
 obtain⟨i,hi,rfl⟩:=List.getElem_of_mem hx
 obtain⟨j,hj,rfl⟩:=List.getElem_of_mem hy
 have hp:=List.pairwise_iff_getElem.1 h
 rcases Nat.lt_trichotomy i j with h1 | h1 | h1
 ·have:=hp i j hi hj h1; omega
 ·subst h1; rfl
 ·have:=hp j i hj hi h1; omega
theorem keys_nums {L:List Om} (h:L.Pairwise fun x y=>x.num<y.num) {a b:Rf} (ha:hasO L a=true) (hb:hasO L b=true) (e:a.1=b.1):a=b:=by
 obtain⟨x,hx⟩:=some_hasO ha
 obtain⟨y,hy⟩:=some_hasO hb
 have h1:=findO_mem hx
 have h2:=findO_mem hy
 have:x=y:=rise_inj h h1.1 h2.1 (by rw [h1.2,h2.2] at e; exact e)
 rw [h1.2,h2.2,this]
theorem notes_apart {root:Rf} {L:List Om} {A:List Rf} (h:strictN L=0):(notesM root L A).Pairwise fun x y=>decide (x.1<y.1∨x.1=y.1∧x.2<y.2)=true∨decide (y.1<x.1∨y.1=x.1∧y.2<x.2)=true:=by
 have hr:=strict_rise h
 have hne:∀ a b:Rf,a≠b→decide (a.1<b.1∨a.1=b.1∧a.2<b.2)=true∨decide (b.1<a.1∨b.1=a.1∧b.2<a.2)=true:=fun a b hab=>by
  simp only [decide_eq_true_eq]
  by_cases h1:a.1=b.1
  ·have:a.2≠b.2:=fun h2=>hab (Prod.ext h1 h2)
   omega
  ·omega
 have hq:=loneM_ok root L A
 have hl:(loneM root L A).Nodup:=(List.nodup_append.1 hq.1).2.1
 have hl2:((loneM root L A).map fun r=>((5:Int),r.1)).Nodup:=by
  refine List.pairwise_map.2 (hl.imp_of_mem fun {a b} ha hb hab e=>hab ?_)
  exact keys_nums hr (hq.2 a (List.mem_append_right _ ha)) (hq.2 b (List.mem_append_right _ hb)) (by injection e)
 have hall:(notesM root L A).Nodup:=by
  unfold notesM atM
  have key:∀ (X Y:List Rf),X.Nodup→Y.Nodup→(∀ x∈X,x.1=5)→(∀ y∈Y,y.1≠5)→(X++Y).Nodup:=fun X Y hX hY h1 h2=>List.nodup_append.2 ⟨hX,hY,fun a ha b hb e=>h2 b hb (e ▸ h1 a ha)⟩
  rw [List.append_assoc]
  split
  ·refine key _ _ hl2 (by simp) (fun x hx=>?_) (fun y hy=>?_)
   ·obtain⟨r,-,rfl⟩:=List.mem_map.1 hx; rfl
   ·simp at hy; rcases hy with rfl | rfl <;> simp
  ·refine key _ _ hl2 ?_ (fun x hx=>?_) (fun y hy=>?_)
   ·refine List.nodup_cons.2 ⟨fun hx=>?_,List.nodup_cons.2 ⟨fun hx=>?_,by simp⟩⟩
    ·simp at hx
    ·simp at hx
   ·obtain⟨r,-,rfl⟩:=List.mem_map.1 hx; rfl
   ·simp at hy; rcases hy with rfl | rfl | rfl <;> simp
 exact hall.imp fun {a b} hab=>hne a b hab
theorem keep_apart {M L:List Om} (h:L.Pairwise fun x y=>x.num<y.num):(keepL M L++lastsO M).Pairwise fun x y=>x.num≠y.num:=by
 refine List.pairwise_append.2 ⟨?_,lasts_apart M,fun x hx y hy e=>?_⟩
 ·exact (h.imp fun h=>Int.ne_of_lt h).filter _
 ·have h1:=(List.mem_filter.1 hx).2
  have:hasN M x.num=true:=by
   unfold hasN
   rw [List.any_eq_true]
   exact⟨y,lasts_sub M y hy,by simp [e]⟩
  rw [this] at h1
  cases h1
theorem hasN_bare {M M' : List Om} (h:M.map bare=M'.map bare) (n:Int):hasN M n=hasN M' n:=by
 have:∀ X:List Om,hasN X n=(X.map bare).any fun y=>y.num==n:=fun X=>by rw [List.any_map]; rfl
 rw [this,this,h]
theorem keep_bare {M M' : List Om} (h:M.map bare=M'.map bare) (L:List Om):keepL M L=keepL M' L:=by
 unfold keepL
 exact List.filter_congr fun x _=>by rw [hasN_bare h]
theorem lasts_bare:∀ {M M' : List Om},M.map bare=M'.map bare→(lastsO M).map bare=(lastsO M').map bare
 | [],[],_=>rfl
 | [],_::_,h=>by cases h
 | _::_,[],h=>by cases h
 | x::M,y::M',h=>by
  rw [List.map_cons,List.map_cons,List.cons.injEq] at h
  have hn:x.num=y.num:=(congrArg Om.num h.1:(bare x).num=(bare y).num)
  rw [lastsO,lastsO,hasN_bare h.2,hn]
  split
  ·exact lasts_bare h.2
  ·rw [List.map_cons,List.map_cons,h.1,lasts_bare h.2]
def Slc (l:List Om):Prop:=∀ x∈l,∃ b n c,x.tv=.slice b n c
theorem osOf_num {x:Om} (h:∃ b n c,x.tv=.slice b n c):(osOf x).num=x.num:=by
 obtain⟨b,n,c,h⟩:=h
 unfold osOf
 rw [h]
theorem oms_os:∀ {l:List Om},Slc l→osC (l.map osOf)=omsC l
 | [],_=>rfl
 | x::l,h=>by
  have e1:osC ((x::l).map osOf)=encO (osOf x)++osC (l.map osOf):=rfl
  have e2:omsC (x::l)=omC x++omsC l:=rfl
  rw [e1,e2,(osOf_V (h x (List.mem_cons_self ..))).2,oms_os (fun y hy=>h y (List.mem_cons_of_mem _ hy))]
theorem cells_same {w w' : World} {α:Type} {k:Nat} {enc:α→List Value} {v:Value} {E:List α} (h:Cells w k enc v E) (hS:∀ g,v.ownBlock=some g→w'.heap[g]? = w.heap[g]?) (h0:∀ g o,v=.slice (some ⟨g,o,none⟩) E.length (match v with | .slice _ _ c=>c | _=>0)→v.ownBlock=some g):Cells w' k enc v E:=by
 obtain⟨base,cap,rfl,hc,hT⟩:=h
 refine⟨base,cap,rfl,hc,fun i hi=>?_⟩
 obtain⟨b,o,rfl,hx⟩:=hT i hi
 refine⟨b,o,rfl,fun c x hcx=>?_⟩
 rw [World.cell?_of_block (hS b (h0 b o rfl))]
 exact hx c x hcx
theorem oms_of_cells {w:World} {v:Value} {ML:List Om} (h:Cells w 5 encO v (ML.map osOf)) (hs:Slc ML) (hn:∀ y∈ML,NodesAt w y.tv y.tree):OmsAt w v ML:=by
 obtain⟨base,cap,rfl,hc,hT⟩:=h
 rw [List.length_map] at hc ⊢
 refine⟨base,cap,rfl,hc,fun i hi=>?_⟩
 obtain⟨b,o,rfl,hx⟩:=hT i (by rw [List.length_map]; exact hi)
 rw [List.getElem_map,(osOf_V (hs _ (List.getElem_mem hi))).2] at hx
 exact⟨b,o,rfl,by have:=hx 0 _ rfl; rwa [Nat.add_zero] at this,hx 1 _ rfl,hx 2 _ rfl,hx 3 _ rfl,hx 4 _ rfl,hn _ (List.getElem_mem hi)⟩
theorem rtM_wf {root:Rf} {L:List Om} (hwf:∀ x∈L,OmWf x) (hm:mostN root L≤1000000000):RfWf (refO (rtM root L)):=by
 unfold rtM
 split
 ·show RfWf ((objOr L root).num,(objOr L root).gen)
  rcases objOr_cases L root with h | h
  ·exact⟨(hwf _ h).num,(hwf _ h).gen⟩
  ·rw [h]; exact⟨⟨by show (-9223372036854775808:Int)≤0; omega,by show (0:Int)≤9223372036854775807; omega⟩,by show (-9223372036854775808:Int)≤0; omega,by show (0:Int)≤9223372036854775807; omega⟩
 ·have:=most_pos' root L
  exact⟨⟨by show -9223372036854775808≤mostN root L+1; omega,by show mostN root L+1≤9223372036854775807; omega⟩,by show (-9223372036854775808:Int)≤0; omega,by show (0:Int)≤9223372036854775807; omega⟩
theorem made_wf {root:Rf} {L:List Om} {A:List Rf} (hwf:∀ x∈L,OmWf x) (hL:∀ x∈L,KOk x.tree 900) (hm:mostN root L≤1000000000):∀ x∈(madeM root L A).map bare,-9223372036854775808≤x.num∧x.num≤9223372036854775807:=fun x hx=>by
 obtain⟨y,hy,rfl⟩:=List.mem_map.1 hx
 show -9223372036854775808≤y.num∧y.num≤9223372036854775807
 rcases List.mem_append.1 hy with hy | hy
 ·obtain⟨z,hz,rfl⟩:=List.mem_map.1 hy
  obtain⟨q,hq,e,-⟩:=(listM_pg root L A hL z hz).of
  show -9223372036854775808≤z.num∧z.num≤9223372036854775807
  rw [e]
  exact (hwf q hq).num
 ·simp only [List.mem_cons,List.not_mem_nil,or_false] at hy
  rcases hy with rfl | rfl
  ·have:=most_pos' root L
   show -9223372036854775808≤atM root L∧atM root L≤9223372036854775807
   unfold atM
   split <;> omega
  ·exact (rtM_wf hwf hm).1
theorem obF_md {M:List Om} (h:Slc M):ObF (mdF M):=fun n v hv=>by
 obtain⟨x,hx,rfl,rfl⟩:=(mdF_lasts M n v).1 hv
 have hs:=h x (lasts_sub M x hx)
 exact⟨osOf x,(osOf_V hs).1.symm,osOf_num hs⟩
theorem md_mem {M:List Om} (h:Slc M) (x:So.Os):mdF M x.num=some (So.osV x)↔x∈(lastsO M).map osOf:=by
 rw [mdF_lasts]
 refine⟨fun⟨y,hy,hn,hv⟩=>?_,fun hx=>?_⟩
 ·have hs:=h y (lasts_sub M y hy)
  rw [←(osOf_V hs).1] at hv
  rw [osV_inj hv]
  exact List.mem_map_of_mem hy
 ·obtain⟨y,hy,rfl⟩:=List.mem_map.1 hx
  have hs:=h y (lasts_sub M y hy)
  exact⟨y,hy,(osOf_num hs).symm,(osOf_V hs).1⟩
theorem lasts_nodup {M:List Om} (h:Slc M):((lastsO M).map osOf).Nodup:=by
 refine List.pairwise_map.2 ((lasts_apart M).imp_of_mem fun {a b} ha hb hab e=>hab ?_)
 have:=congrArg So.Os.num e
 rwa [osOf_num (h a (lasts_sub M a ha)),osOf_num (h b (lasts_sub M b hb))] at this
theorem lasts_len:∀ M:List Om,(lastsO M).length≤M.length
 | []=>Nat.le_refl _
 | x::M=>by
  have:=lasts_len M
  rw [lastsO]
  split
  ·simp; omega
  ·simp; omega
end Pg
end Go.Proofs.YtljachhmdogkdaaGreatDoor
