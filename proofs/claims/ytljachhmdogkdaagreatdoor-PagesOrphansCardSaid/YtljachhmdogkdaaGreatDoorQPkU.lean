/-
 Texts PkU, as far as the statement needs them.
-/
import Derived.Test.YtljachhmdogkdaaGreatDoorQShA
import Derived.Test.YtljachhmdogkdaaGreatDoorQPkT
import Derived.Deep.CutBlock
import Derived.Deep.DeepCutAuto
import Derived.Laws.OwnMore
import Derived.Deep.CutRange
import Derived.Lib.Slices
import Derived.Laws.MakeOwn
set_option maxRecDepth 100000
set_option maxHeartbeats 64000000
namespace Go.Proofs.YtljachhmdogkdaaGreatDoor
namespace Tr
open Go.RowKit
theorem row_open {w:World} {e:TypeId} {g n k cap:Nat} {xs:List Value} (h:w.ownsRow 0 e k (.slice (some ⟨g,0,none⟩) n cap) n xs) :
  ∃ cur,w.heap[g]? = some (.cells cur e (0,0))∧n≤cap∧cap≤maxLen∧cur.size=cap*k∧cur.toList.take (n*k)=xs:=by
 rcases h.2 with ⟨h0,_⟩ | ⟨g',cap',cur,hv,_,hgr,hnc,hcm,hcs,htake⟩
 ·cases h0
 ·cases hv
  exact⟨cur,hgr,hnc,hcm,hcs,htake⟩
theorem row_form {w:World} {e:TypeId} {n k:Nat} {v:Value} {xs:List Value} (h:w.ownsRow 0 e k v n xs) (hn:0<n):∃ g cap,v=.slice (some ⟨g,0,none⟩) n cap:=by
 rcases h.2 with ⟨_,h0⟩ | ⟨g',cap',cur,hv,_⟩
 ·omega
 ·exact⟨_,_,hv⟩
theorem row_slice {w:World} {e:TypeId} {n k:Nat} {v:Value} {xs:List Value} (h:w.ownsRow 0 e k v n xs):∃ ao cap,v=.slice ao n cap:=by
 rcases h.2 with ⟨h0,h1⟩ | ⟨g',cap',cur,hv,_⟩
 ·exact⟨none,0,by rw [h0,h1]⟩
 ·exact⟨_,_,hv⟩
theorem row_cell {w:World} {e:TypeId} {g n k cap i:Nat} {xs:List Value} {u:Value} (h:w.ownsRow 0 e k (.slice (some ⟨g,0,none⟩) n cap) n xs) (hi:xs[i]? = some u):w.cell? ⟨g,i,none⟩=some u:=by
 obtain⟨cur,hg,_,_,_,ht⟩:=row_open h
 rw [cellOf hg]
 rw [←ht,List.getElem?_take] at hi
 split at hi
 ·simpa using hi
 ·cases hi
theorem row_free {w:World} {e:TypeId} {g n k cap:Nat} {xs:List Value} (h:w.ownsRow 0 e k (.slice (some ⟨g,0,none⟩) n cap) n xs) (i:Nat):w.frozen? ⟨g,i,none⟩=false:=by
 obtain⟨cur,hg,_⟩:=row_open h
 exact freeOf hg i
theorem row_put {w:World} {e:TypeId} {g n k cap i:Nat} {xs:List Value} (h:w.ownsRow 0 e k (.slice (some ⟨g,0,none⟩) n cap) n xs) (u:Value):(w.setCell ⟨g,i,none⟩ u).ownsRow 0 e k (.slice (some ⟨g,0,none⟩) n cap) n (xs.set i u):=by
 obtain⟨cur,hg,h1,h2,h3,ht⟩:=row_open h
 refine⟨by simpa using h.1,.inr ⟨g,cap,cur.setIfInBounds i u,rfl,Nat.zero_le _,heap_setCell_same hg u,h1,h2,by simpa using h3,?_⟩⟩
 rw [←ht]
 simp [List.take_set]
theorem row_less {w:World} {e:TypeId} {g n k cap m:Nat} {xs:List Value} (h:w.ownsRow 0 e k (.slice (some ⟨g,0,none⟩) n cap) n xs) (hm:m≤n):w.ownsRow 0 e k (.slice (some ⟨g,0,none⟩) m cap) m (xs.take (m*k)):=by
 obtain⟨cur,hg,h1,h2,h3,ht⟩:=row_open h
 have hl:=h.1
 have hmk:m*k≤n*k:=Nat.mul_le_mul_right k hm
 refine⟨by rw [List.length_take]; omega,.inr ⟨g,cap,cur,rfl,Nat.zero_le _,hg,by omega,h2,h3,?_⟩⟩
 rw [←ht,List.take_take,Nat.min_eq_left hmk]
def iz (n:Int):Value:=.int .i64 n
def zers (n:Nat):List Int:=List.replicate n 0
theorem zers_len (n:Nat):(zers n).length=n:=List.length_replicate
theorem infoInt:(Tryz.prog.info? 3).map (fun i=>(i.zero,i.size,i.bytes))=some (some (.int .i64 0),1,8):=by kernel_rfl
abbrev oIs (g cap:Nat) (l:List Int):Ob:=oSl 3 1 (.slice (some ⟨g,0,none⟩) l.length cap) l.length (l.map iz)
theorem made (n:Nat) (hn:n≤1048576) {w0 w:World} {L:List Ob} (S:Sep w0 w L) :
  ∃ q W,(Instr.makeSlice 39 (.int .i64 (n:Nat)) (.int .i64 (n:Nat))).run Tryz.prog w=.ok (.slice (some ⟨q,0,none⟩) n n) W∧Ext [] w W∧Sep w0 W (oIs q n (zers n)::L):=by
 obtain⟨i0,hif,hz0,hz1,hz2⟩:=info_parts infoInt
 obtain⟨wm,hmk,hown,hgrow⟩:=run_make_full (P:=Tryz.prog) w 0 39 3 i0 (.int .i64 0) 1 Tryz.underlying39 hif hz0 hz1 .i64 .i64 n (by rw [hz2]; omega) (by unfold maxLen; omega) (by omega)
 have hx4:Ext [] w wm:=(Ext.refl [] w).grown hgrow (fun k hk=>by cases hk)
 refine⟨w.heap.size,wm,hmk,hx4,S.new hx4 (oIs w.heap.size n (zers n)) ?_ (fun q hq=>by simp [oSl,Value.ownBlock] at hq; omega)⟩
 have hm:(madeCells (Value.int .i64 0).cells (n*1)).toList=(zers n).map iz:=by
  rw [zers,List.map_replicate,Nat.mul_one]
  exact toList_madeCells_one _ _
 rw [hm] at hown
 show wm.ownsRow 0 3 1 (.slice (some ⟨w.heap.size,0,none⟩) (zers n).length n) (zers n).length ((zers n).map iz)
 rw [zers_len]
 exact hown
theorem ints_at {w:World} {g cap k:Nat} {l:List Int} (h:(oIs g cap l).P w) (hk:k<l.length):w.cell? ⟨g,k,none⟩=some (.int .i64 (l.getD k 0)):=by
 have h:w.ownsRow 0 3 1 (.slice (some ⟨g,0,none⟩) l.length cap) l.length (l.map iz):=h
 refine row_cell h ?_
 rw [List.getElem?_map,List.getD_eq_getElem?_getD,List.getElem?_eq_getElem hk]
 rfl
theorem ints_free {w:World} {g cap:Nat} {l:List Int} (h:(oIs g cap l).P w) (k:Nat):w.frozen? ⟨g,k,none⟩=false:=by
 have h:w.ownsRow 0 3 1 (.slice (some ⟨g,0,none⟩) l.length cap) l.length (l.map iz):=h
 exact row_free h k
theorem ints_set {w0 w:World} {L:List Ob} {g cap k:Nat} {l:List Int} {x:Int} (S:Sep w0 w L) (i:Nat) (hi:L[i]? = some (oIs g cap l)):Sep w0 (w.setCell ⟨g,k,none⟩ (.int .i64 x)) (L.set i (oIs g cap (l.set k x))):=by
 refine S.upd i (oIs g cap (l.set k x)) hi ((Ext.refl _ _).setCell _ _ (.inl (by simp [oSl,Value.ownBlock]))) (by simp only [oSl,List.length_set]; exact Fr.refl _ _) ?_
 have h:w.ownsRow 0 3 1 (.slice (some ⟨g,0,none⟩) l.length cap) l.length (l.map iz):=S.get i hi
 have h2:=row_put (i:=k) h (iz x)
 show (w.setCell ⟨g,k,none⟩ (iz x)).ownsRow 0 3 1 (.slice (some ⟨g,0,none⟩) (l.set k x).length cap) (l.set k x).length ((l.set k x).map iz)
 rw [List.length_set,List.map_set]
 exact h2
theorem ints_own {w:World} {g cap:Nat} {l:List Int} (h:(oIs g cap l).P w):IntsAt w (some ⟨g,0,none⟩) l:=fun i hi=>by
 have:=ints_at h hi
 rw [List.getD_eq_getElem?_getD,List.getElem?_eq_getElem hi] at this
 exact⟨g,0,rfl,by simpa using this⟩
abbrev Fm:=Nat×Nat
def frC (T:List Fm):List Value:=T.flatMap fun p=>[.int .i64 (p.1:Nat),.int .i64 (p.2:Nat)]
theorem frC_len (T:List Fm):(frC T).length=T.length*2:=by
 induction T with
 | nil=>rfl
 | cons a l ih=>rw [frC,List.flatMap_cons,List.length_append,←frC,ih]; simp; omega
theorem frC_append (T U:List Fm):frC (T++U)=frC T++frC U:=by unfold frC; rw [List.flatMap_append]
theorem frC_one (p:Fm):frC [p]=[.int .i64 (p.1:Nat),.int .i64 (p.2:Nat)]:=by simp [frC]
theorem infoFrame:(Tryz.prog.info? 201).map (fun i=>(i.zero,i.size,i.bytes))=some (some (.agg #[.int .i64 0,.int .i64 0]),2,16):=by kernel_rfl
def oFr (v:Value) (T:List Fm):Ob:=oSl 201 2 v T.length (frC T.reverse)
theorem fr_top {w:World} {v:Value} {a k:Nat} {T:List Fm} (h:(oFr v ((a,k)::T)).P w) :
  ∃ g cap,v=.slice (some ⟨g,0,none⟩) (T.length+1) cap∧w.cell? ⟨g,T.length*2,none⟩=some (.int .i64 (a:Nat))∧w.cell? ⟨g,T.length*2+1,none⟩=some (.int .i64 (k:Nat))∧w.frozen? ⟨g,T.length*2+1,none⟩=false:=by
 have h:w.ownsRow 0 201 2 v (T.length+1) (frC ((a,k)::T).reverse):=h
 obtain⟨g,cap,rfl⟩:=row_form h (by omega)
 have e:frC ((a,k)::T).reverse=frC T.reverse++[.int .i64 (a:Nat),.int .i64 (k:Nat)]:=by rw [List.reverse_cons,frC_append,frC_one]
 rw [e] at h
 have hl:(frC T.reverse).length=T.length*2:=by rw [frC_len,List.length_reverse]
 refine⟨g,cap,rfl,row_cell h ?_,row_cell h ?_,row_free h _⟩
 ·rw [List.getElem?_append_right (by omega),hl,Nat.sub_self]; rfl
 ·rw [List.getElem?_append_right (by omega),hl,show T.length*2+1 - T.length*2=1 by omega]; rfl
theorem fr_kid {w:World} {g cap a k k2:Nat} {T:List Fm} (h:(oFr (.slice (some ⟨g,0,none⟩) (T.length+1) cap) ((a,k)::T)).P w) :
  (oFr (.slice (some ⟨g,0,none⟩) (T.length+1) cap) ((a,k2)::T)).P (w.setCell ⟨g,T.length*2+1,none⟩ (.int .i64 (k2:Nat))):=by
 have h:w.ownsRow 0 201 2 (.slice (some ⟨g,0,none⟩) (T.length+1) cap) (T.length+1) (frC ((a,k)::T).reverse):=h
 have h2:=row_put (i:=T.length*2+1) h (.int .i64 (k2:Nat))
 have e:(frC ((a,k)::T).reverse).set (T.length*2+1) (.int .i64 (k2:Nat))=frC ((a,k2)::T).reverse:=by
  have hl:(frC T.reverse).length=T.length*2:=by rw [frC_len,List.length_reverse]
  rw [List.reverse_cons,List.reverse_cons,frC_append,frC_append,frC_one,frC_one,List.set_append_right _ _ (by omega),hl,show T.length*2+1 - T.length*2=1 by omega]
  rfl
 rw [e] at h2
 exact h2
theorem fr_pop {w:World} {g cap:Nat} {p:Fm} {T:List Fm} (h:(oFr (.slice (some ⟨g,0,none⟩) (T.length+1) cap) (p::T)).P w):(oFr (.slice (some ⟨g,0,none⟩) T.length cap) T).P w:=by
 have h:w.ownsRow 0 201 2 (.slice (some ⟨g,0,none⟩) (T.length+1) cap) (T.length+1) (frC (p::T).reverse):=h
 have h2:=row_less h (Nat.le_succ T.length)
 have e:(frC (p::T).reverse).take (T.length*2)=frC T.reverse:=by
  have hl:(frC T.reverse).length=T.length*2:=by rw [frC_len,List.length_reverse]
  rw [List.reverse_cons,frC_append,←hl,List.take_left']
  rfl
 rw [e] at h2
 exact h2
theorem cells_fr (w:World) (a k:Nat) (t:TypeId) (f:Nat×Nat:=(0,0)):∀ j u,(frC [(a,k)])[j]? = some u→(w.alloc (.cells #[.int .i64 (a:Nat),.int .i64 (k:Nat)] t f)).cell? ((⟨w.heap.size,0,none⟩:Addr).add j)=some u:=by
 intro j u h
 have e:(⟨w.heap.size,0,none⟩:Addr).add j=⟨w.heap.size,j,none⟩:=by unfold Addr.add; split <;> simp_all
 rw [e,cellOf (heap_alloc_at _)]
 rw [frC_one] at h
 rw [←h]
 simp
def kidsAt (l:List Nd) (a:Nat):List Int:=match l[a]? with | some x=>x.kids | none=>[]
def closeN (l:List Nd) (i:Nat):List Fm→List Int→List Fm×List Int
 | [],E=>([],E)
 | (a,k)::T,E=>if k<(kidsAt l a).length then ((a,k)::T,E) else closeN l i T (E.set a ((i:Int)+1))
def comeN (l:List Nd) (i:Nat):List Fm→Option (List Fm)
 | []=>if 0<i then none else some []
 | (a,k)::T=>if 0<i then if (kidsAt l a)[k]? = some (i:Int) then some ((a,k+1)::T) else none else some ((a,k)::T)
def walkN (l:List Nd):Nat→Nat→List Fm→List Int→List Int→Option (List Fm×List Int×List Int)
 | 0,_,T,E,D=>some (T,E,D)
 | g+1,i,T,E,D=>match comeN l i T with
  | none=>none
  | some T2=>walkN l g (i+1) (closeN l i ((i,0)::T2) E).1 (closeN l i ((i,0)::T2) E).2 (D.set i ((T2.length:Int)+1))
def shapeN (l:List Nd):Option (List Int×List Int):=
 match walkN l l.length 0 [] (zers l.length) (zers l.length) with
 | some ([],E,D)=>if 0<l.length then some (E,D) else none
 | _=>none
def stkOk (l:List Nd) (i:Nat) (T:List Fm):Prop:=(∀ p∈T,p.1<i∧p.2≤i)∧T.length≤i∧(∀ p,T.head? = some p→p.2<(kidsAt l p.1).length)
theorem close_len (l:List Nd) (i:Nat):∀ (T:List Fm) (E:List Int),(closeN l i T E).1.length≤T.length∧(closeN l i T E).2.length=E.length∧(∀ p∈(closeN l i T E).1,p∈T)∧(∀ p,(closeN l i T E).1.head? = some p→p.2<(kidsAt l p.1).length)
 | [],E=>by simp [closeN]
 | (a,k)::T,E=>by
  unfold closeN
  split
  ·rename_i h
   refine⟨by simp,rfl,fun p hp=>hp,fun p hp=>?_⟩
   simp at hp
   subst hp
   exact h
  ·obtain⟨h1,h2,h3,h4⟩:=close_len l i T (E.set a ((i:Int)+1))
   exact⟨by simp; omega,by rw [h2,List.length_set],fun p hp=>List.mem_cons_of_mem _ (h3 p hp),h4⟩
theorem swap01 {w0 w:World} {a b:Ob} {l:List Ob} (h:Sep w0 w (a::b::l)):Sep w0 w (b::a::l):=by
 have hg:∀ (i:Nat) (o:Ob),(b::a::l)[i]? = some o→∃ j,(a::b::l)[j]? = some o∧(i=0→j=1)∧(i=1→j=0)∧(2≤i→j=i):=fun i o hi=>by
  match i,hi with
  | 0,hi=>exact⟨1,hi,fun _=>rfl,fun h=>by omega,fun h=>by omega⟩
  | 1,hi=>exact⟨0,hi,fun h=>by omega,fun _=>rfl,fun h=>by omega⟩
  | i+2,hi=>exact⟨i+2,hi,fun h=>by omega,fun h=>by omega,fun _=>rfl⟩
 refine⟨h.ext,fun o ho=>h.each o (by simp at ho ⊢; rcases ho with h | h | h <;> simp [h]),fun o ho=>h.base o (by simp at ho ⊢; rcases ho with h | h | h <;> simp [h]),fun i j x y hi hj hij=>?_⟩
 obtain⟨i2,h1,h2,h3,h4⟩:=hg i x hi
 obtain⟨j2,g1,g2,g3,g4⟩:=hg j y hj
 refine h.apart i2 j2 x y h1 g1 fun e=>hij ?_
 rcases Nat.lt_or_ge i 2 with q | q
 ·rcases Nat.lt_or_ge j 2 with r | r <;> omega
 ·rcases Nat.lt_or_ge j 2 with r | r <;> omega
def shapeR (n:Nat):Option (List Fm×List Int×List Int)→Option (List Int×List Int)
 | some ([],E,D)=>if 0<n then some (E,D) else none
 | _=>none
theorem shapeN_is (l:List Nd):shapeN l=shapeR l.length (walkN l l.length 0 [] (zers l.length) (zers l.length)):=by
 unfold shapeN shapeR
 split <;> simp_all
def ShapeIs (R:Option (List Int×List Int)) (ev dv:Value) (w:World):Prop:=
 match R with
 | some (E,D)=>(∃ base cap,ev=.slice base E.length cap∧IntsAt w base E)∧∃ base cap,dv=.slice base D.length cap∧IntsAt w base D
 | none=>True
theorem shape_walk (v:Value) (l:List Nd) (w:World) (h:NodesAt w v l) (hl:l.length≤65536) :
  Calls Tryz.prog 128 #[v] w fun e w'=>∃ ev dv,e=.returned (.tuple #[ev,dv,.bool (shapeN l).isSome])∧Ext [] w w'∧ShapeIs (shapeN l) ev dv w':=by
 obtain⟨Y,hY⟩:∃ Y,shapeN l=Y:=⟨_,rfl⟩
 obtain⟨B,hB⟩:∃ B,Y.isSome=B:=⟨_,rfl⟩
 obtain⟨i0,hif,hz0,hz1,hz2⟩:=info_parts infoFrame
 obtain⟨base,cap,rfl,-,hN⟩:=h
 obtain⟨n,hn⟩:∃ n,l.length=n:=⟨_,rfl⟩
 obtain⟨R,hR⟩:∃ R,walkN l n 0 [] (zers n) (zers n)=R:=⟨_,rfl⟩
 have hS:=shapeN_is l
 rw [hn,hR] at hS
 rw [hY] at hS ⊢
 rw [hB]
 have HB:=zz hB
 clear hB hY
 rw [hn] at hl ⊢
 have HR:=zz4 ⟨hR,hS,hn,hN⟩
 clear hR hN hS hn
 go_enter Tryz.func128,Tryz.ntmps128
 go_upto_region 1 with fail
 go_cut [2,3] (fun c d wx=>∃ g1 g2,c=.slice (some ⟨g1,0,none⟩) n n∧d=.slice (some ⟨g2,0,none⟩) n n∧Sep w wx [oIs g1 n (zers n),oIs g2 n (zers n)])
 case first=>
  refine wp_region_perm (C:=fun w'=>∃ x:Ex w,w' = x.w) [0,1,3,4] 7 (by kernel_rfl) (by kernel_rfl) ⟨Ex.mk _ ((Ext.refl [] w).drew),rfl⟩ ?_
  simp only [pick,List.drop_succ_cons,List.drop_zero,List.getElem?_toArray,List.getElem?_cons_zero,List.getElem?_cons_succ]
  repeat (go_big_quiet_step (fail))
  refine wpQuiet_nil ?_
  have S:=(Sep.start w).quiet ((Ext.refl [] w).drew)
  obtain⟨V,hV⟩:∃ V,w.drew=V:=⟨_,rfl⟩
  have hx0:Ext [] w V:=by rw [←hV]; exact (Ext.refl [] w).drew
  rw [hV] at S ⊢
  refine anyC_two (f:=2) (i:=2) (j:=5) (by kernel_rfl) (by decide) (by decide) rfl rfl rfl rfl (fun K hK=>?_) (fun K hK=>?_)
  ·obtain⟨q1,W1,m1,x1,S1⟩:=made n (by omega) S
   go_wp2_with fail
   refine hK _ _ ⟨Ex.mk _ (hx0.trans x1),rfl⟩ ?_
   clear hK K m1
   refine anyC_two (f:=1) (i:=5) (j:=6) (by kernel_rfl) (by decide) (by decide) rfl rfl rfl rfl (fun K hK=>?_) (fun K hK=>?_)
   ·obtain⟨q2,W2,m2,x2,S2⟩:=made n (by omega) S1
    go_wp2_with fail
    refine hK _ _ ⟨Ex.mk _ ((hx0.trans x1).trans x2),rfl⟩ ?_
    clear hK K m2
    refine anyC_one (f:=0) (i:=6) (by kernel_rfl) (by decide) rfl rfl (fun K hK=>?_)
    go_wp2_with fail
    refine hK _ _ ⟨Ex.mk _ ((hx0.trans x1).trans x2),rfl⟩ ?_
    clear hK K
    refine anyC_end (by kernel_rfl) ?_
    go_wp2_with fail
    refine NoPanic.normal ?_
    go_wp2_with fail
    go_meet
    exact⟨_,_,rfl,rfl,swap01 S2⟩
   ·go_wp2_with fail
    refine hK _ _ ⟨Ex.mk _ (hx0.trans x1),rfl⟩ ?_
    clear hK K
    refine anyC_one (f:=0) (i:=5) (by kernel_rfl) (by decide) rfl rfl (fun K hK=>?_)
    obtain⟨q2,W2,m2,x2,S2⟩:=made n (by omega) S1
    go_wp2_with fail
    refine hK _ _ ⟨Ex.mk _ ((hx0.trans x1).trans x2),rfl⟩ ?_
    clear hK K m2
    refine anyC_end (by kernel_rfl) ?_
    go_wp2_with fail
    refine NoPanic.normal ?_
    go_wp2_with fail
    go_meet
    exact⟨_,_,rfl,rfl,swap01 S2⟩
  ·obtain⟨q1,W1,m1,x1,S1⟩:=made n (by omega) S
   go_wp2_with fail
   refine hK _ _ ⟨Ex.mk _ (hx0.trans x1),rfl⟩ ?_
   clear hK K m1
   refine anyC_one (f:=1) (i:=2) (by kernel_rfl) (by decide) rfl rfl (fun K hK=>?_)
   obtain⟨q2,W2,m2,x2,S2⟩:=made n (by omega) S1
   go_wp2_with fail
   refine hK _ _ ⟨Ex.mk _ ((hx0.trans x1).trans x2),rfl⟩ ?_
   clear hK K m2
   refine anyC_one (f:=0) (i:=6) (by kernel_rfl) (by decide) rfl rfl (fun K hK=>?_)
   go_wp2_with fail
   refine hK _ _ ⟨Ex.mk _ ((hx0.trans x1).trans x2),rfl⟩ ?_
   clear hK K
   refine anyC_end (by kernel_rfl) ?_
   go_wp2_with fail
   refine NoPanic.normal ?_
   go_wp2_with fail
   go_meet
   exact⟨_,_,rfl,rfl,S2⟩
 case rest=>
  obtain⟨eq,dq,rfl,rfl,S⟩:=hcut
  have S:=S.new (Ext.refl _ _) (oFr (.slice none 0 0) []) (World.ownsRow_nil _ _ _ _) (fun q hq=>by simp [oFr,oSl,Value.ownBlock] at hq)
  have HS:=zz S
  clear S
  go_wp2_with fail
  go_loopg [2,3,5,17] n (fun g v2 v3 ov iv wr=>∃ (i:Nat) (T:List Fm) (E D:List Int),v2=.slice (some ⟨eq,0,none⟩) n n∧v3=.slice (some ⟨dq,0,none⟩) n n∧g+i=n∧iv=.int .i64 i∧walkN l g i T E D=R∧stkOk l i T∧E.length=n∧D.length=n∧Sep w wr [oFr ov T,oIs eq n E,oIs dq n D])
  case atStart=>exact⟨0,[],_,_,rfl,rfl,by omega,rfl,HR.out.1,⟨by simp,by simp,by simp⟩,zers_len n,zers_len n,HS.out⟩
  case round=>
   clear HS
   obtain⟨i,T,E,D,rfl,rfl,hgi,rfl,hwk,hok,hE,hD,S⟩:=hrel
   have HW:=zz5 ⟨hwk,hok,hE,hD,S⟩
   clear hwk hok hE hD S
   by_cases hlt:i<n
   ·obtain⟨g,rfl⟩:∃ g,gk=g+1:=⟨gk - 1,by omega⟩
    have hltz:(i:Int)<(n:Int):=by omega
    go_upto_if 21 with (fail)
    go_cut [2,3,5,7,17] from 17 to 94 (fun c2 c3 c5 c7 c17 wx=>∃ T2,comeN l i T=some T2∧(∀ p∈T2,p.1<i∧p.2≤i+1)∧T2.length≤i∧c2=.slice (some ⟨eq,0,none⟩) n n∧c3=.slice (some ⟨dq,0,none⟩) n n∧c17=.int .i64 i∧Sep w wx [oFr c5 T2,oIs eq n E,oIs dq n D])
    case first=>
     by_cases h0:0<i
     case neg=>
      obtain rfl:i=0:=by omega
      obtain⟨hwk,⟨h1,h2,h3⟩,hE,hD,S⟩:=HW.out
      obtain rfl:T=[]:=List.length_eq_zero_iff.1 (by omega)
      clear hwk h1 h2 h3 hE hD
      have HS:=zz S
      clear S
      go_wp2_with fail
      go_meet
      exact⟨[],rfl,by simp,by simp,rfl,rfl,rfl,HS.out⟩
     case pos=>
     have h0z:(0:Int)<(i:Int):=by omega
     obtain _ | ⟨⟨a,k⟩,T⟩:=T
     ·have hO:wr.ownsRow 0 201 2 u5 0 (frC []):=HW.out.2.2.2.2.get 0 rfl
      obtain⟨ao,cap5,rfl⟩:=row_slice hO
      clear hO
      go_wp2_with fail
      go_ret3
      have hR:R=none:=by rw [←HW.out.1,walkN,comeN,if_pos h0]
      rw [hR] at HR
      obtain rfl:Y=none:=HR.out.2.1
      obtain rfl:B=false:=HB.out.symm
      exact⟨_,_,rfl,HW.out.2.2.2.2.ext,trivial⟩
     ·have hO:(oFr u5 ((a,k)::T)).P wr:=HW.out.2.2.2.2.get 0 rfl
      obtain⟨g5,cap5,rfl,f1,f2,f3⟩:=fr_top hO
      clear hO
      obtain⟨h1,h2,h3⟩:=HW.out.2.1
      have ha:a<l.length:=by rw [HR.out.2.2.1]; exact Nat.lt_trans (h1 (a,k) (List.mem_cons_self ..)).1 hlt
      have hk:k<(kidsAt l a).length:=h3 (a,k) rfl
      obtain⟨b,o,rfl,n1,n2,n3,n4,nw,bk,ck,n5,n6⟩:=HR.out.2.2.2.ext HW.out.2.2.2.2.ext a ha
      have hka:kidsAt l a=(l[a]'ha).kids:=by rw [kidsAt,List.getElem?_eq_getElem ha]
      generalize l[a]'ha=x at *
      rw [hka] at hk
      obtain⟨b2,o2,rfl,n7⟩:=n6 k hk
      clear n1 n2 n3 n4 nw n6 h3
      have hki:k≤i:=(h1 (a,k) (List.mem_cons_self ..)).2
      have ht9:T.length+1≤65536:=by simp only [List.length_cons] at h2; omega
      obtain⟨t,ht⟩:∃ t,T.length=t:=⟨_,rfl⟩
      rw [ht] at f1 f2 f3 HW ht9 ⊢
      have HT:=zz3 ⟨ht,hka,h1⟩
      have h10:((t:Int)+1==0)=false:=beq_eq_false_iff_ne.2 (by omega)
      have haz:(a:Int)<(n:Int):=by have:=HR.out.2.2.1; omega
      have hkz:(k:Int)<(x.kids.length:Int):=by omega
      obtain⟨y,hy⟩:∃ y,x.kids[k]'hk=y:=⟨_,rfl⟩
      rw [hy] at n7
      have HY:=zz hy
      clear h2 ht hka hy h1
      by_cases hyi:y=(i:Int)
      case neg=>
       have hb:(y != (i:Int))=true:=bne_iff_ne.2 hyi
       have hR:R=none:=by
        rw [←HW.out.1,walkN,comeN,if_pos h0,HT.out.2.1,List.getElem?_eq_getElem hk,HY.out,if_neg (by simpa using hyi)]
       clear HY hyi
       go_upto_region 10 with (fail)
       go_quiet (fail)
       go_wp2_with fail
       go_ret3
       rw [hR] at HR
       obtain rfl:Y=none:=HR.out.2.1
       obtain rfl:B=false:=HB.out.symm
       exact⟨_,_,rfl,HW.out.2.2.2.2.ext.drewN _,trivial⟩
      case pos=>
       subst hyi
       have hC:comeN l i ((a,k)::T)=some ((a,k+1)::T):=by rw [comeN,if_pos h0,HT.out.2.1,List.getElem?_eq_getElem hk,HY.out,if_pos rfl]
       have HC:=zz hC
       clear HY hC
       go_upto_region 10 with (fail)
       go_quiet (fail)
       go_wp2_with fail
       go_meet
       have S:=HW.out.2.2.2.2.quiet ((Ext.refl [] wr).drewN nq)
       have hP:=S.get 0 rfl
       rw [←HT.out.1] at hP
       have hP2:=fr_kid (k2:=k+1) hP
       rw [HT.out.1] at hP2
       refine⟨_,HC.out,?_,?_,rfl,rfl,rfl,S.upd 0 (oFr _ ((a,k+1)::T)) rfl ((Ext.refl _ _).setCell _ _ (.inl (by simp [oFr,oSl,Value.ownBlock]))) (Fr.refl _ _) hP2⟩
       ·intro p hp
        rcases List.mem_cons.1 hp with rfl | hp
        ·exact⟨(HT.out.2.2 (a,k) (List.mem_cons_self ..)).1,by have:=(HT.out.2.2 (a,k) (List.mem_cons_self ..)).2; simp only at *; omega⟩
        ·have:=HT.out.2.2 p (List.mem_cons_of_mem _ hp)
         exact⟨this.1,by omega⟩
       ·have:=HW.out.2.1.2.1
        simpa using this
    case rest=>
     obtain⟨T2,hC,hA,hT2,rfl,rfl,rfl,S⟩:=hcut
     have hwk:walkN l g (i+1) (closeN l i ((i,0)::T2) E).1 (closeN l i ((i,0)::T2) E).2 (D.set i ((T2.length:Int)+1))=R:=by rw [←HW.out.1,walkN,hC]
     have hE:=HW.out.2.2.1
     have hD:=HW.out.2.2.2.1
     obtain⟨ao,cap5,rfl⟩:=row_slice (show wc.ownsRow 0 201 2 u5 T2.length (frC T2.reverse) from S.get 0 rfl)
     have r0:=ints_at (g:=dq) (S.get 2 rfl) (k:=i) (by omega)
     have f0:=ints_free (g:=dq) (S.get 2 rfl) i
     obtain⟨C,hC2⟩:∃ C,closeN l i ((i,0)::T2) E=C:=⟨_,rfl⟩
     obtain⟨t,ht⟩:∃ t,T2.length=t:=⟨_,rfl⟩
     have S:=ints_set (k:=i) (x:=(t:Int)+1) S 2 rfl
     obtain⟨D2,hD2⟩:∃ D2,D.set i ((t:Int)+1)=D2:=⟨_,rfl⟩
     rw [ht,hD2] at hwk
     rw [hC2] at hwk
     rw [hD2] at S
     have hDl:D2.length=n:=by rw [←hD2,List.length_set,hD]
     rw [ht] at hT2 ⊢
     have S:Sep w (wc.setCell ⟨dq,i,none⟩ (.int .i64 ((t:Int)+1))) [oFr (.slice ao T2.length cap5) T2,oIs eq n E,oIs dq n D2]:=S
     rw [ht] at S
     have HW:=zz7 ⟨hwk,hA,hE,hDl,S,ht,hC2⟩
     clear hwk hA hE hD S ht hC2 hC hDl hD2
     go_upto_region 14 with (fail)
     obtain⟨W,hW⟩:∃ W,wc.setCell ⟨dq,i,none⟩ (.int .i64 ((t:Int)+1))=W:=⟨_,rfl⟩
     rw [hW] at HW ⊢
     clear hW r0 f0
     have hown:W.ownsRow 0 201 2 (.slice ao t cap5) t (frC T2.reverse):=by
      have:=HW.out.2.2.2.2.1.get 0 rfl
      rw [←HW.out.2.2.2.2.2.1]
      rw [←HW.out.2.2.2.2.2.1] at this
      exact this
     have HO:=zz hown
     clear hown
     go_wp2_with (first | (at_builtin; refine wpList_append_lies _ rfl _ _ 198 rfl 0 201 i0 _ 2 16 Tryz.underlying198 hif hz0 hz1 hz2 rfl (by decide) (.slice ao t cap5) t _ rfl (World.ownsRow.alloc HO.out _) ⟨W.heap.size,0,none⟩ 1 1 (frC [(i,0)]) rfl rfl (cells_fr W i 0 _) (by simp [frC,Value.oneCell']) (by decide) (by unfold maxLen; omega) (by omega) (by omega) (W.heap.size+1) (by simp) ?_; intro g5 cap2 w6 hown1 hgrow hat hlt6))
     have P:=push_local (cap:=cap2) (n:=t+1) hgrow hat
     have S:=HW.out.2.2.2.2.1.upd 0 (oFr (.slice (some ⟨g5,0,none⟩) (t+1) cap2) ((i,0)::T2)) rfl P.1 P.2 (by
      show w6.ownsRow 0 201 2 (.slice (some ⟨g5,0,none⟩) (t+1) cap2) (T2.length+1) (frC ((i,0)::T2).reverse)
      rw [HW.out.2.2.2.2.2.1,List.reverse_cons,frC_append]
      exact hown1)
     have HS:=zz S
     clear S P hown1 hgrow hat hlt6 HO
     go_loopg [5,8] (t+1) (fun g2 ov v8 wx=>∃ (T3:List Fm) (E3:List Int),g2=T3.length∧closeN l i T3 E3=C∧(∀ p∈T3,p.1<i+1∧p.2≤i+1)∧T3.length≤i+1∧E3.length=n∧Sep w wx [oFr ov T3,oIs eq n E3,oIs dq n D2])
     case atStart=>
      refine⟨(i,0)::T2,E,by rw [List.length_cons,HW.out.2.2.2.2.2.1],HW.out.2.2.2.2.2.2,fun p hp=>?_,by rw [List.length_cons,HW.out.2.2.2.2.2.1]; omega,HW.out.2.2.1,HS.out⟩
      rcases List.mem_cons.1 hp with rfl | hp
      ·exact⟨Nat.lt_succ_self _,Nat.zero_le _⟩
      ·exact⟨Nat.lt_succ_of_lt (HW.out.2.1 p hp).1,(HW.out.2.1 p hp).2⟩
     case round=>
      clear HS
      obtain⟨T3,E3,rfl,hC,hA,hT3,hE3,S⟩:=hrel
      obtain _ | ⟨⟨a,k⟩,T3⟩:=T3
      ·obtain⟨ao5,cap6,rfl⟩:=row_slice (show wr.ownsRow 0 201 2 u5 0 (frC []) from S.get 0 rfl)
       have HS:=zz S
       have HC:=zz hC
       clear S hC hA hT3
       go_wp2_with fail
       go_roundg g
       case measure=>omega
       case rel=>
        refine⟨i+1,[],E3,D2,rfl,rfl,by omega,by go_num,?_,⟨by simp,by simp,by simp⟩,hE3,HW.out.2.2.2.1,HS.out⟩
        rw [←HW.out.1,←HC.out]
        rfl
      ·have hO:(oFr u5 ((a,k)::T3)).P wr:=S.get 0 rfl
       obtain⟨g6,cap6,rfl,f1,f2,f3⟩:=fr_top hO
       clear hO f3
       have ha:a<l.length:=by
        have h1:=(hA (a,k) (List.mem_cons_self ..)).1
        have h2:=HR.out.2.2.1
        simp only at h1
        omega
       obtain⟨b,o,rfl,n1,n2,n3,n4,nw,bk,ck,n5,n6⟩:=HR.out.2.2.2.ext S.ext a ha
       have hka:kidsAt l a=(l[a]'ha).kids:=by rw [kidsAt,List.getElem?_eq_getElem ha]
       generalize l[a]'ha=x at *
       clear n1 n2 n3 n4 nw n6
       have hki:=(hA (a,k) (List.mem_cons_self ..)).2
       simp only at hki
       obtain⟨m,hm⟩:∃ m,T3.length=m:=⟨_,rfl⟩
       rw [hm] at f1 f2 S ⊢
       have haz:(a:Int)<(n:Int):=by have:=HR.out.2.2.1; omega
       have hm9:m+1≤65536:=by simp only [List.length_cons] at hT3; omega
       have HS:=zz6 ⟨S,hC,hA,hT3,hka,hm⟩
       clear S hC hA hT3 hka hm
       go_upto_region 17 with (fail)
       obtain⟨W3,hW3⟩:∃ W3,wr.alloc (Obj.cells #[.int .i64 (a:Nat),.int .i64 (k:Nat)] 201)=W3:=⟨_,rfl⟩
       have hx3:Ext [] wr W3:=by rw [←hW3]; exact (Ext.refl [] wr).alloc _
       have hb3:W3.heap[wr.heap.size]? = some (.cells #[.int .i64 (a:Nat),.int .i64 (k:Nat)] 201 (0,0)):=by rw [←hW3]; exact heap_alloc_at _
       obtain⟨q,hq⟩:∃ q,wr.heap.size=q:=⟨_,rfl⟩
       rw [hq] at hb3 ⊢
       rw [hW3]
       have q0:W3.cell? ⟨q,0,none⟩=some (.int .i64 (a:Nat)):=cellOf hb3 0
       have q1:W3.cell? ⟨q,1,none⟩=some (.int .i64 (k:Nat)):=cellOf hb3 1
       have n5:=hx3.cell n5
       have S:=HS.out.1.quiet hx3
       have e0:=ints_at (g:=eq) (S.get 1 rfl) (k:=a) (by omega)
       have e1:=ints_free (g:=eq) (S.get 1 rfl) a
       have S2:=ints_set (k:=a) (x:=(i:Int)+1) S 1 rfl
       have HS2:=zz2 ⟨S,S2⟩
       clear S S2 hb3 hq hW3 f1 f2 hx3
       have hcap:m+1≤cap6:=by
        have h0:W3.ownsRow 0 201 2 (.slice (some ⟨g6,0,none⟩) (m+1) cap6) (T3.length+1) _:=HS2.out.1.get 0 rfl
        rw [HS.out.2.2.2.2.2] at h0
        obtain⟨_,_,h1,_⟩:=row_open h0
        exact h1
       by_cases hkk:k<x.kids.length
       ·have hkz:(k:Int)<(x.kids.length:Int):=by omega
        go_quiet (fail)
        go_wp2_with fail
        have S:=HS2.out.1.quiet ((Ext.refl [] W3).drewN nq)
        go_roundg g
        case measure=>omega
        case rel=>
         refine⟨i+1,(a,k)::T3,E3,D2,rfl,rfl,by omega,by go_num,?_,⟨HS.out.2.2.1,HS.out.2.2.2.1,fun p hp=>?_⟩,hE3,HW.out.2.2.2.1,S⟩
         ·have hC:=HS.out.2.1
          rw [closeN,HS.out.2.2.2.2.1,if_pos hkk] at hC
          rw [←HW.out.1,←hC]
         ·simp at hp
          subst hp
          rw [HS.out.2.2.2.2.1]
          exact hkk
       ·have hkz:¬ (k:Int)<(x.kids.length:Int):=by omega
        go_quiet (fail)
        go_wp2_with fail
        have S:=ints_set (k:=a) (x:=(i:Int)+1) (HS2.out.1.quiet ((Ext.refl [] W3).drewN nq)) 1 rfl
        have hP:=S.get 0 rfl
        have S2:=S.upd 0 (oFr (.slice (some ⟨g6,0,none⟩) m cap6) T3) rfl (Ext.refl _ _) (Fr.refl _ _) (by
         rw [←HS.out.2.2.2.2.2] at hP ⊢
         exact fr_pop hP)
        go_roundg T3.length
        case measure=>simp
        case rel=>
         refine⟨T3,E3.set a ((i:Int)+1),rfl,?_,fun p hp=>HS.out.2.2.1 p (List.mem_cons_of_mem _ hp),?_,by rw [List.length_set,hE3],S2⟩
         ·have hC:=HS.out.2.1
          rw [closeN,HS.out.2.2.2.2.1,if_neg hkk] at hC
          exact hC
         ·have:=HS.out.2.2.2.1
          simp only [List.length_cons] at this
          omega
   ·obtain rfl:gk=0:=by omega
    obtain rfl:i=n:=by omega
    have hR:=HW.out.1
    rw [walkN] at hR
    by_cases h0:0<i
    ·have h0z:(0:Int)<(i:Int):=by omega
     obtain _ | ⟨p,T⟩:=T
     ·obtain⟨ao5,cap6,rfl⟩:=row_slice (show wr.ownsRow 0 201 2 u5 0 (frC []) from HW.out.2.2.2.2.get 0 rfl)
      have HR2:=zz hR
      clear hR
      go_wp2_with fail
      go_ret3
      have hYs:Y=some (E,D):=by rw [HR.out.2.1,←HR2.out,shapeR,if_pos h0]
      obtain rfl:B=true:=by rw [←HB.out,hYs]; rfl
      refine⟨.slice (some ⟨eq,0,none⟩) i i,.slice (some ⟨dq,0,none⟩) i i,rfl,HW.out.2.2.2.2.ext,?_⟩
      rw [hYs]
      exact⟨⟨_,i,by rw [HW.out.2.2.1],ints_own (HW.out.2.2.2.2.get 1 rfl)⟩,_,i,by rw [HW.out.2.2.2.1],ints_own (HW.out.2.2.2.2.get 2 rfl)⟩
     ·obtain⟨ao5,cap6,rfl⟩:=row_slice (show wr.ownsRow 0 201 2 u5 (T.length+1) (frC (p::T).reverse) from HW.out.2.2.2.2.get 0 rfl)
      have HR2:=zz hR
      obtain⟨m,hm⟩:∃ m,T.length=m:=⟨_,rfl⟩
      rw [hm]
      have hmb:((m:Int)+1==0)=false:=beq_eq_false_iff_ne.2 (by omega)
      clear hR hm
      go_wp2_with fail
      go_ret3
      obtain rfl:Y=none:=by rw [HR.out.2.1,←HR2.out]; rfl
      obtain rfl:B=false:=HB.out.symm
      exact⟨_,_,rfl,HW.out.2.2.2.2.ext,trivial⟩
    ·have h0z:¬ (0:Int)<(i:Int):=by omega
     have HR2:=zz hR
     clear hR
     go_wp2_with fail
     go_ret3
     obtain rfl:Y=none:=by
      rw [HR.out.2.1,←HR2.out]
      obtain _ | ⟨p,T⟩:=T
      ·rw [shapeR,if_neg h0]
      ·rfl
     obtain rfl:B=false:=HB.out.symm
     exact⟨_,_,rfl,HW.out.2.2.2.2.ext,trivial⟩
structure Inv (l:List Nd) (i:Nat) (T:List Fm) (E:List Int):Prop where
 stk:∀ p∈T,p.1<i∧p.2≤i
 kids:∀ a,a<i→∀ (j:Nat) (c:Int),(kidsAt l a)[j]? = some c→(∃ k,(a,k)∈T∧k≤j)∨((a:Int)<c∧c<i)
 ends:∀ a,a<i→(∃ k,(a,k)∈T)∨(((a:Int)<E.getD a 0∧E.getD a 0≤i)∧(kidsAt l a).length≤i)
theorem Inv.come {l:List Nd} {i:Nat} {T T2:List Fm} {E:List Int} (h:Inv l i T E) (hc:comeN l i T=some T2):Inv l (i+1) ((i,0)::T2) E:=by
 -- what the top turns into
 have key:(T2=T)∨(∃ a k U,T=(a,k)::U∧T2=(a,k+1)::U∧(kidsAt l a)[k]? = some (i:Int)):=by
  cases T with
  | nil=>rw [comeN] at hc; split at hc <;> simp_all
  | cons p U=>
   obtain⟨a,k⟩:=p
   rw [comeN] at hc
   split at hc
   ·split at hc
    ·rename_i h2
     exact .inr ⟨a,k,U,rfl,by simpa using hc.symm,h2⟩
    ·cases hc
   ·exact .inl (by simpa using hc.symm)
 rcases key with rfl | ⟨a,k,U,rfl,rfl,hk⟩
 ·refine⟨fun p hp=>?_,fun b hb j c hj=>?_,fun b hb=>?_⟩
  ·rcases List.mem_cons.1 hp with rfl | hp
   ·exact⟨Nat.lt_succ_self _,Nat.zero_le _⟩
   ·exact⟨Nat.lt_succ_of_lt (h.stk p hp).1,Nat.le_succ_of_le (h.stk p hp).2⟩
  ·rcases Nat.lt_or_ge b i with q | q
   ·rcases h.kids b q j c hj with ⟨k,h1,h2⟩ | ⟨h1,h2⟩
    ·exact .inl ⟨k,by simp [h1],h2⟩
    ·exact .inr ⟨h1,by omega⟩
   ·obtain rfl:b=i:=by omega
    exact .inl ⟨0,by simp,by omega⟩
  ·rcases Nat.lt_or_ge b i with q | q
   ·rcases h.ends b q with ⟨k,h1⟩ | ⟨h1,h2⟩
    ·exact .inl ⟨k,by simp [h1]⟩
    ·exact .inr ⟨by omega,by omega⟩
   ·obtain rfl:b=i:=by omega
    exact .inl ⟨0,by simp⟩
 ·have ha:=h.stk (a,k) (by simp)
  simp only at ha
  refine⟨fun p hp=>?_,fun b hb j c hj=>?_,fun b hb=>?_⟩
  ·simp only [List.mem_cons] at hp
   rcases hp with rfl | rfl | hp
   ·exact⟨Nat.lt_succ_self _,Nat.zero_le _⟩
   ·exact⟨Nat.lt_succ_of_lt ha.1,Nat.succ_le_succ ha.2⟩
   ·exact⟨Nat.lt_succ_of_lt (h.stk p (by simp [hp])).1,Nat.le_succ_of_le (h.stk p (by simp [hp])).2⟩
  ·rcases Nat.lt_or_ge b i with q | q
   ·rcases h.kids b q j c hj with ⟨k2,h1,h2⟩ | ⟨h1,h2⟩
    ·rcases List.mem_cons.1 h1 with h3 | h3
     ·injection h3 with h4 h5
      subst h4 h5
      have ha:=ha.1
      by_cases hjk:j=k2
      ·subst hjk
       rw [hk] at hj
       injection hj with hj
       exact .inr ⟨by omega,by omega⟩
      ·exact .inl ⟨k2+1,by simp,by omega⟩
     ·exact .inl ⟨k2,by simp [h3],h2⟩
    ·exact .inr ⟨h1,by omega⟩
   ·obtain rfl:b=i:=by omega
    exact .inl ⟨0,by simp,by omega⟩
  ·rcases Nat.lt_or_ge b i with q | q
   ·rcases h.ends b q with ⟨k2,h1⟩ | ⟨h1,h2⟩
    ·rcases List.mem_cons.1 h1 with h3 | h3
     ·injection h3 with h4 h5
      subst h4 h5
      exact .inl ⟨k2+1,by simp⟩
     ·exact .inl ⟨k2,by simp [h3]⟩
    ·exact .inr ⟨by omega,by omega⟩
   ·obtain rfl:b=i:=by omega
    exact .inl ⟨0,by simp⟩
theorem Inv.close {l:List Nd} {i:Nat}:∀ {T:List Fm} {E:List Int},Inv l (i+1) T E→i<E.length→Inv l (i+1) (closeN l i T E).1 (closeN l i T E).2
 | [],E,h,_=>h
 | (a,k)::T,E,h,hE=>by
  unfold closeN
  split
  ·exact h
  ·rename_i hk
   have ha:=h.stk (a,k) (by simp)
   simp only at ha
   refine Inv.close ⟨fun p hp=>h.stk p (by simp [hp]),fun b hb j c hj=>?_,fun b hb=>?_⟩ (by simpa using hE)
   ·rcases h.kids b hb j c hj with ⟨k2,h1,h2⟩ | h1
    ·rcases List.mem_cons.1 h1 with h3 | h3
     ·injection h3 with h4 h5
      subst h4 h5
      have:=(List.getElem?_eq_some_iff.1 hj).1
      omega
     ·exact .inl ⟨k2,h3,h2⟩
    ·exact .inr h1
   ·by_cases hab:b=a
    ·subst hab
     refine .inr ⟨?_,by omega⟩
     rw [List.getD_eq_getElem?_getD,List.getElem?_set_self (by omega)]
     simp only [Option.getD_some]
     omega
    ·rcases h.ends b hb with ⟨k2,h1⟩ | h1
     ·rcases List.mem_cons.1 h1 with h3 | h3
      ·injection h3 with h4 h5
       exact absurd h4 hab
      ·exact .inl ⟨k2,h3⟩
     ·refine .inr ?_
      refine⟨?_,h1.2⟩
      rw [List.getD_eq_getElem?_getD,List.getElem?_set_ne (fun h=>hab h.symm),←List.getD_eq_getElem?_getD]
      exact h1.1
theorem walk_inv {l:List Nd}:∀ (g i:Nat) (T:List Fm) (E D:List Int),g+i=l.length→E.length=l.length→Inv l i T E→∀ {T2:List Fm} {E2 D2:List Int},walkN l g i T E D=some (T2,E2,D2)→Inv l l.length T2 E2∧E2.length=l.length∧D2.length=D.length
 | 0,i,T,E,D,hg,hE,h,T2,E2,D2,hw=>by
  obtain rfl:i=l.length:=by omega
  unfold walkN at hw
  injection hw with hw
  injection hw with h1 h2
  injection h2 with h2 h3
  subst h1 h2 h3
  exact⟨h,hE,rfl⟩
 | g+1,i,T,E,D,hg,hE,h,T2,E2,D2,hw=>by
  unfold walkN at hw
  split at hw
  ·cases hw
  ·rename_i U hc
   have h2:=(h.come hc).close (by omega)
   have h3:=(close_len l i ((i,0)::U) E).2.1
   obtain⟨r1,r2,r3⟩:=walk_inv g (i+1) _ _ _ (by omega) (by rw [h3,hE]) h2 hw
   exact⟨r1,r2,by rw [r3,List.length_set]⟩
theorem shape_some {l:List Nd} {E D:List Int} (h:shapeN l=some (E,D)):0<l.length∧E.length=l.length∧D.length=l.length∧(∀ a,a<l.length→∀ (j:Nat) (c:Int),(kidsAt l a)[j]? = some c→(a:Int)<c∧c<l.length)∧(∀ a,a<l.length→((a:Int)<E.getD a 0∧E.getD a 0≤l.length)∧(kidsAt l a).length≤l.length):=by
 unfold shapeN at h
 split at h
 ·rename_i E2 D2 hw
  split at h
  ·rename_i h0
   injection h with h
   injection h with h1 h2
   subst h1 h2
   obtain⟨r1,r2,r3⟩:=walk_inv l.length 0 [] _ _ (by omega) (zers_len _) ⟨by simp,by simp,by simp⟩ hw
   refine⟨h0,r2,by rw [r3,zers_len],fun a ha j c hj=>?_,fun a ha=>?_⟩
   ·rcases r1.kids a ha j c hj with ⟨k,h1,_⟩ | h1
    ·cases h1
    ·exact h1
   ·rcases r1.ends a ha with ⟨k,h1⟩ | h1
    ·cases h1
    ·exact h1
  ·cases h
 ·cases h
def ndAt (l:List Nd) (k:Int):Nd:=l.getD k.toNat ⟨0,0,0,⟨#[]⟩,[]⟩
def belowN:Option ByteArray→ByteArray→Bool
 | none,_=>true
 | some s,t=>Op.bytesLess s.toList t.toList
def risesN (l:List Nd):Option ByteArray→List Int→Bool
 | p,k::_::r=>decide ((ndAt l k).kind=6)&&belowN p (ndAt l k).s&&risesN l (some (ndAt l k).s) r
 | _,_=>true
def nodeOk (l:List Nd) (x:Nd):Bool:=bareN x&&(decide (x.kind≠8)||(decide (x.kids.length % 2=0)&&risesN l none x.kids))
def checkN (l:List Nd):Int:=
 if 65536<l.length then 3 else
 match shapeN l with
 | none=>2
 | some (_,D)=>if 256<Lib.maxOf D then 3 else if l.all (nodeOk l) then 0 else 2
theorem rises_step (l:List Nd) (p:Option ByteArray) (L:List Int) (j:Nat) (hj:j+1<L.length) :
  risesN l p (L.drop j)=(decide ((ndAt l (L[j]'(by omega))).kind=6)&&belowN p (ndAt l (L[j]'(by omega))).s&&risesN l (some (ndAt l (L[j]'(by omega))).s) (L.drop (j+2))):=by
 rw [drop_at L j (by omega),drop_at L (j+1) hj,risesN]
theorem bare_walk (x:Nd) (hw:NdWf x) (hs:x.s.size≤1000000) (base:Option Addr) (cap:Nat) (w:World) :
  Calls Tryz.prog 130 #[.agg #[.int .i64 x.kind,.int .i64 x.n,.int .i64 x.gen,.string x.s,.slice base x.kids.length cap]] w fun e w'=>e=.returned (.bool (bareN x))∧Ext [] w w':=by
 obtain⟨k,n,gen,s,L⟩:=x
 have h0:=hw.n
 simp only at h0 hs ⊢
 by_cases k1:k=1
 ·subst k1; exact bare_1 n gen s L base cap w
 by_cases k2:k=2
 ·subst k2; exact bare_2 n gen s L base cap w
 by_cases k3:k=3
 ·subst k3; exact bare_3 n gen s L base cap h0.1 h0.2 w
 by_cases k4:k=4
 ·subst k4; exact bare_4 n gen s L base cap hs w
 by_cases k5:k=5
 ·subst k5; exact bare_5 n gen s L base cap w
 by_cases k6:k=6
 ·subst k6; exact bare_6 n gen s L base cap w
 by_cases k7:k=7
 ·subst k7; exact bare_7 n gen s L base cap w
 by_cases k8:k=8
 ·subst k8; exact bare_8 n gen s L base cap w
 by_cases k9:k=9
 ·subst k9; exact bare_9 n gen s L base cap w
 exact bare_x k (by omega) n gen s L base cap w
theorem node_in {w:World} {base:Option Addr} {l:List Nd} (h:NodesIn w base l) (m:Nat) (hm:m<l.length):∃ b o,base=some ⟨b,o,none⟩∧NodeAt w b (o+m*5) (ndAt l (m:Int)):=by
 obtain⟨b,o,e,hn⟩:=h m hm
 have he:ndAt l (m:Int)=l[m]'hm:=by rw [ndAt,Int.toNat_natCast,List.getD_eq_getElem?_getD,List.getElem?_eq_getElem hm]; rfl
 exact⟨b,o,e,by rw [he]; exact hn⟩
theorem check_walk (v:Value) (l:List Nd) (w:World) (h:NodesAt w v l) (hl:l.length≤9223372036854775807) (hs:∀ x∈l,x.s.size≤1000000) :
  Calls Tryz.prog 91 #[v] w fun e w'=>e=.returned (.int .i64 (checkN l))∧Ext [] w w':=by
 by_cases hbig:65536<l.length
 ·obtain⟨base,cap,rfl,-,hN⟩:=h
  have hR:checkN l=3:=if_pos hbig
  rw [hR]
  have hbz:(65536:Int)<(l.length:Int):=by omega
  clear hR hN hs
  go_enter Tryz.func91,Tryz.ntmps91
  go_wp2_with fail
  go_step3
  go_wp2_with fail
  rw [Exit.noGoto_ret]
  go_ret
  exact⟨rfl,Ext.refl _ _⟩
 have hbz:¬ (65536:Int)<(l.length:Int):=by omega
 have HW:=zz (shape_walk v l w h (by omega))
 obtain⟨base,cap,rfl,-,hN⟩:=h
 cases hsh:shapeN l with
 | none=>
  have hR:checkN l=2:=by unfold checkN; rw [if_neg hbig,hsh]
  rw [hR]
  rw [hsh] at HW
  clear hR hN hs hsh
  go_enter Tryz.func91,Tryz.ntmps91
  go_wp2_with fail
  go_step3
  go_wp2_with fail
  refine HW.out.mono ?_
  rintro e w1 ⟨ev,dv,rfl,hx,-⟩
  have HX:=zz hx
  clear hx HW
  simp only [Option.isSome_none]
  go_wp2_with fail
  rw [Exit.noGoto_ret]
  go_ret
  exact⟨rfl,HX.out⟩
 | some p=>
  obtain⟨E,D⟩:=p
  obtain⟨h0,hE,hD,hK,hEnd⟩:=shape_some hsh
  rw [hsh] at HW
  have hR:checkN l=if 256<Lib.maxOf D then 3 else if l.all (nodeOk l) then 0 else 2:=by unfold checkN; rw [if_neg hbig,hsh]
  obtain⟨R,hRR⟩:∃ R,checkN l=R:=⟨_,rfl⟩
  rw [hRR] at hR ⊢
  obtain⟨n,hn⟩:∃ n,l.length=n:=⟨_,rfl⟩
  have HH:=zz5 ⟨hN,hK,hs,hn,hR⟩
  rw [hn] at hl hbz hbig h0 hD ⊢
  rw [hn] at HW
  clear hN hK hs hn hR hRR hEnd hE hsh
  go_enter Tryz.func91,Tryz.ntmps91
  go_wp2_with fail
  go_step3
  go_wp2_with fail
  refine HW.out.mono ?_
  rintro e w1 ⟨ev,dv,rfl,hx,he,hd⟩
  obtain⟨db,dc,rfl,hI⟩:=hd
  clear he HW
  have hx1:=zz hx
  clear hx
  simp only [Option.isSome_some]
  obtain⟨b2,o2,rfl,-⟩:=hI 0 (by omega)
  have hM:=Tryz.slices_Max_int b2 o2 D.length dc D w1 (by omega) (Nat.le_refl _) (by omega) (fun j hj=>by
   obtain⟨b3,o3,e3,hc⟩:=hI j hj
   cases e3
   rw [hc,List.getD_eq_getElem?_getD,List.getElem?_eq_getElem hj]
   rfl)
  rw [List.take_length,hD] at hM
  have HM:=zz hM
  rw [hD]
  clear hM hI hD
  generalize Lib.maxOf D=M at HM HH
  go_wp2_with fail
  refine HM.out.mono ?_
  clear HM
  rintro e w2 ⟨rfl,rfl⟩
  by_cases hM:256<M
  ·go_wp2_with fail
   rw [Exit.noGoto_ret]
   go_ret
   obtain rfl:R=3:=by rw [HH.out.2.2.2.2,if_pos hM]
   exact⟨rfl,hx1.out⟩
  ·have hR:=HH.out.2.2.2.2
   rw [if_neg hM] at hR
   have HR:=zz hR
   clear hR
   go_wp2_with fail
   go_step3
   go_wp2_with fail
   go_loopg [2,26] n (fun g v2 iv wr=>∃ i:Nat,g+i=n∧iv=.int .i64 i∧(if (l.drop i).all (nodeOk l) then (0:Int) else 2)=R∧Ext [] w wr)
   case atStart=>exact⟨0,by omega,rfl,by rw [HR.out]; rfl,hx1.out⟩
   case round=>
    clear HR
    obtain⟨i,hgi,rfl,hR,hx⟩:=hrel
    by_cases hlt:i<n
    ·obtain⟨g,rfl⟩:∃ g,gk=g+1:=⟨gk - 1,by omega⟩
     have hltz:(i:Int)<(n:Int):=by omega
     have hil:i<l.length:=by rw [HH.out.2.2.2.1]; exact hlt
     rw [drop_at l i hil,List.all_cons] at hR
     obtain⟨b,o,rfl,n1,n2,n3,n4,nw,bk,ck,n5,n6⟩:=HH.out.1.ext hx i hil
     have hsx:=HH.out.2.2.1 _ (List.getElem_mem hil)
     have hka:kidsAt l i=(l[i]'hil).kids:=by rw [kidsAt,List.getElem?_eq_getElem hil]
     generalize l[i]'hil=x at *
     have HB:=zz (fun w=>bare_walk x nw hsx bk ck w)
     have HX:=zz4 ⟨hx,hR,hka,n6⟩
     have hkl:=nw.len
     clear hx hR hka n6 nw hsx
     go_wp2_with fail
     refine (HB.out _).mono ?_
     rintro e W ⟨rfl,hxW⟩
     have hb3:=hxW.keep (heap_alloc_at (w:=wr) _) (by simp)
     have hx2:Ext [] w W:=(HX.out.1.trans ((Ext.refl [] wr).alloc _)).trans hxW
     obtain⟨q,hq⟩:∃ q,wr.heap.size=q:=⟨_,rfl⟩
     rw [hq] at hb3 ⊢
     clear hq
     have hn6:=(HX.out.2.2.2.ext ((Ext.refl [] wr).alloc _)).ext hxW
     have HX2:=zz4 ⟨hx2,HX.out.2.1,HX.out.2.2.1,hn6⟩
     clear HX hx2 hn6 hxW HB n1 n2 n3 n4 n5
     have q0:W.cell? ⟨q,0,none⟩=some (.int .i64 x.kind):=cellOf hb3 0
     have q4:W.cell? ⟨q,4,none⟩=some (.slice bk x.kids.length ck):=cellOf hb3 4
     have HB3:=zz hb3
     clear hb3
     cases hbare:bareN x with
     | false=>
      have hR:R=2:=by rw [←HX2.out.2.1,nodeOk,hbare]; simp
      subst hR
      go_wp2_with fail
      rw [Exit.noGoto_ret]
      go_ret
      exact⟨rfl,HX2.out.1⟩
     | true=>
     by_cases k8:x.kind=8
     case neg=>
      have k8b:(x.kind != 8)=true:=bne_iff_ne.2 k8
      have hok:nodeOk l x=true:=by simp [nodeOk,hbare,k8]
      clear k8
      go_wp2_with fail
      go_roundg g
      case measure=>omega
      case rel=>
       have:=HX2.out.2.1
       rw [hok,Bool.true_and] at this
       exact⟨i+1,by omega,by go_num,this,HX2.out.1⟩
     case pos=>
     have k8b:(x.kind != 8)=false:=by rw [k8]; rfl
     have hok:nodeOk l x=(decide (x.kids.length % 2=0)&&risesN l none x.kids):=by simp [nodeOk,hbare,k8]
     obtain⟨K,hK⟩:∃ K,x.kids.length=K:=⟨_,rfl⟩
     have HO:=zz2 ⟨hok,hK⟩
     rw [hK] at q4 hkl
     clear hok k8 hK hbare
     by_cases hev:K % 2=0
     case neg=>
      have hR:R=2:=by
       rw [←HX2.out.2.1,HO.out.1,HO.out.2,decide_eq_false hev]; simp
      have he1:Int.tmod (K:Int) 2=1:=(show Int.tmod (K:Int) 2=((K % 2:Nat):Int) from rfl).trans (by omega)
      subst hR
      clear hev
      go_wp2_with fail
      rw [Exit.noGoto_ret]
      go_ret
      exact⟨rfl,HX2.out.1⟩
     case pos=>
     have he1:Int.tmod (K:Int) 2=0:=(show Int.tmod (K:Int) 2=((K % 2:Nat):Int) from rfl).trans (by omega)
     obtain⟨B,hB⟩:∃ B,risesN l none x.kids=B:=⟨_,rfl⟩
     have hokB:nodeOk l x=B:=by rw [HO.out.1,hB,HO.out.2,decide_eq_true hev,Bool.true_and]
     have HO2:=zz2 ⟨hokB,hB⟩
     clear hokB hB
     go_wp2_with fail
     clear q0 q4 k8b
     go_loopg [2,8,9] K (fun g2 v2 v8 v9 wx=>∃ (j:Nat) (p:Option ByteArray),g2+j=K∧j % 2=0∧v8=.int .i64 j∧risesN l p (x.kids.drop j)=B∧((j=0∧p=none)∨∃ m:Nat,2≤j∧x.kids[j - 2]? = some (m:Int)∧m<l.length∧p=some (ndAt l m).s)∧Ext [] W wx)
     case atStart=>exact⟨0,none,by omega,rfl,rfl,HO2.out.2,.inl ⟨rfl,rfl⟩,Ext.refl _ _⟩
     case round=>
      obtain⟨j,p,hgj,hj2,rfl,hRj,hp,hx⟩:=hrel
      have hb3:=hx.keep HB3.out (by simp)
      have q4:wr.cell? ⟨q,4,none⟩=some (.slice bk K ck):=by rw [←HO.out.2]; exact cellOf hb3 4
      by_cases hjK:j<K
      ·obtain⟨g2,rfl⟩:∃ g2,gk=g2+2:=⟨gk - 2,by omega⟩
       have hjz:(j:Int)<(K:Int):=by omega
       have hj1:j+1<x.kids.length:=by rw [HO.out.2]; omega
       rw [rises_step l p x.kids j hj1] at hRj
       have hr:=HH.out.2.1 i hil j _ (by rw [HX2.out.2.2.1]; exact List.getElem?_eq_getElem (by omega))
       obtain⟨bb,oo,rfl,hc⟩:=(HX2.out.2.2.2.ext hx) j (by omega)
       have hkj:x.kids[j]? = some (x.kids[j]'(by omega)):=List.getElem?_eq_getElem (by omega)
       generalize x.kids[j]'(by omega)=c at hRj hr hc hkj
       obtain⟨m,rfl⟩:∃ m:Nat,c=(m:Int):=⟨c.toNat,by omega⟩
       have hm:m<l.length:=by omega
       have hxw:=HX2.out.1.trans hx
       obtain⟨b9,o9,e9,n1,n2,n3,n4,nw,bk9,ck9,n5,n6⟩:=node_in (HH.out.1.ext hxw) m hm
       cases e9
       have hmz:(m:Int)<(n:Int):=by have:=HH.out.2.2.2.1; omega
       have HN:=zz5 ⟨hkj,hRj,hp,hx,hr⟩
       have HV:=zz (fun m hm=>node_in (HH.out.1.ext hxw) m hm)
       obtain⟨y,hy⟩:∃ y,ndAt l (m:Int)=y:=⟨_,rfl⟩
       rw [hy] at n1 n2 n3 n4 n5 HN
       have HY:=zz hy
       clear hy hkj hRj hp hx hr n6 nw hxw hb3
       go_upto_region 20 with (fail)
       obtain⟨W4,hW4⟩:∃ W4,wr.alloc (Obj.cells #[.int .i64 y.kind,.int .i64 y.n,.int .i64 y.gen,.string y.s,.slice bk9 y.kids.length ck9] 41)=W4:=⟨_,rfl⟩
       have hx4:Ext [] wr W4:=by rw [←hW4]; exact (Ext.refl [] wr).alloc _
       have hb4:W4.heap[wr.heap.size]? = some (.cells #[.int .i64 y.kind,.int .i64 y.n,.int .i64 y.gen,.string y.s,.slice bk9 y.kids.length ck9] 41 (0,0)):=by rw [←hW4]; exact heap_alloc_at _
       obtain⟨q2,hq2⟩:∃ q2,wr.heap.size=q2:=⟨_,rfl⟩
       rw [hq2] at hb4 ⊢
       rw [hW4]
       have q4:=hx4.cell q4
       have y0:W4.cell? ⟨q2,0,none⟩=some (.int .i64 y.kind):=cellOf hb4 0
       have y3:W4.cell? ⟨q2,3,none⟩=some (.string y.s):=cellOf hb4 3
       have HX4:=zz ((HX2.out.1.trans HN.out.2.2.2.1).trans hx4)
       have HX5:=zz hx4
       clear hb4 hq2 hW4 n1 n2 n3 n4 n5 hc hx4
       have hBv:=HN.out.2.1
       by_cases hk6:y.kind=6
       case neg=>
        have hk6b:(y.kind != 6)=true:=bne_iff_ne.2 hk6
        have hBf:B=false:=by rw [←hBv,decide_eq_false hk6]; rfl
        have hR:R=2:=by rw [←HX2.out.2.1,HO2.out.1,hBf]; rfl
        subst hR
        clear hk6 hBv
        go_quiet (fail)
        go_wp2_with fail
        rw [Exit.noGoto_ret]
        go_ret
        exact⟨rfl,HX4.out.drewN _⟩
       case pos=>
       have hk6b:(y.kind != 6)=false:=by rw [hk6]; rfl
       rw [decide_eq_true hk6,Bool.true_and] at hBv
       clear hk6
       rcases HN.out.2.2.1 with ⟨hj0,hp⟩ | ⟨m2,hj2',hk2,hm2,hp⟩
       ·have hjf:¬ (0:Int)<(j:Int):=by omega
        have hjd:decide ((0:Int)<(j:Int))=false:=decide_eq_false hjf
        have hjd2:decide (0<j)=false:=decide_eq_false (by omega)
        rw [hp,belowN,Bool.true_and] at hBv
        have HBV:=zz hBv
        clear hBv hp hj0 hjf
        go_quiet (fail)
        go_wp2_with fail
        go_roundg g2
        case measure=>omega
        case rel=>exact⟨j+2,_,by omega,by omega,by go_num,HBV.out,.inr ⟨m,by omega,by rw [Nat.add_sub_cancel]; exact HN.out.1,hm,by rw [HY.out]⟩,(HN.out.2.2.2.1.trans HX5.out).drewN _⟩
       ·have hjd:decide ((0:Int)<(j:Int))=true:=decide_eq_true (by omega)
        have hjd2:decide (0<j)=true:=decide_eq_true (by omega)
        have hj2a:(2:Int)≤(j:Int):=by omega
        obtain⟨i2,hi2⟩:∃ i2,j - 2=i2:=⟨_,rfl⟩
        rw [hi2] at hk2
        have hi2z:(j:Int) - 2=(i2:Int):=by omega
        have hi2l:=(List.getElem?_eq_some_iff.1 hk2).1
        have hi2K:(i2:Int)<(K:Int):=by have:=HO.out.2; omega
        obtain⟨b7,o7,e7,hc7⟩:=(HX2.out.2.2.2.ext (HN.out.2.2.2.1.trans HX5.out)) i2 hi2l
        cases e7
        rw [(List.getElem?_eq_some_iff.1 hk2).2] at hc7
        obtain⟨b8,o8,e8,m8⟩:=HV.out m2 hm2
        cases e8
        have m3:=HX5.out.cell m8.s
        have hm2z:(m2:Int)<(n:Int):=by have:=HH.out.2.2.2.1; omega
        obtain⟨s2,hs2⟩:∃ s2,(ndAt l (m2:Int)).s=s2:=⟨_,rfl⟩
        rw [hs2] at m3 hp
        rw [hp,belowN] at hBv
        clear hk2 hi2 hi2l hs2 m8 hp
        cases hless:Op.bytesLess s2.toList y.s.toList with
        | false=>
         rw [hless,Bool.false_and] at hBv
         have hR:R=2:=by rw [←HX2.out.2.1,HO2.out.1,←hBv]; rfl
         subst hR
         clear hBv
         go_quiet (fail)
         go_wp2_with fail
         rw [Exit.noGoto_ret]
         go_ret
         exact⟨rfl,HX4.out.drewN _⟩
        | true=>
         rw [hless,Bool.true_and] at hBv
         have HBV:=zz hBv
         clear hBv
         go_quiet (fail)
         go_wp2_with fail
         go_roundg g2
         case measure=>omega
         case rel=>exact⟨j+2,_,by omega,by omega,by go_num,HBV.out,.inr ⟨m,by omega,by rw [Nat.add_sub_cancel]; exact HN.out.1,hm,by rw [HY.out]⟩,(HN.out.2.2.2.1.trans HX5.out).drewN _⟩
      ·obtain rfl:j=K:=by omega
       have hBt:B=true:=by rw [←hRj,List.drop_eq_nil_of_le (by rw [HO.out.2]; omega)]; rfl
       have HX3:=zz (HX2.out.1.trans hx)
       clear hRj hp hx hb3
       go_wp2_with fail
       go_roundg g
       case measure=>omega
       case rel=>
        have:=HX2.out.2.1
        rw [HO2.out.1,hBt,Bool.true_and] at this
        exact⟨i+1,by omega,by go_num,this,HX3.out⟩
    ·obtain rfl:gk=0:=by omega
     have hR0:R=0:=by
      rw [←hR,List.drop_eq_nil_of_le (by rw [HH.out.2.2.2.1]; omega)]; rfl
     subst hR0
     have HX:=zz hx
     clear hx hR
     go_wp2_with fail
     rw [Exit.noGoto_ret]
     go_ret
     exact⟨rfl,HX.out⟩
theorem Sep.glue {w0 w:World} {L:List Ob} {j:Nat} {a b:Ob} (h:Sep w0 w (a::L)) (hj:L[j]? = some b) (o:Ob) (ho:∀ k∈o.F,k∈a.F∨k∈b.F) (po:o.P w):Sep w0 w (L.set j o):=by
 have hjl:j<L.length:=(List.getElem?_eq_some_iff.1 hj).1
 have hget:∀ i c,(L.set j o)[i]? = some c→(i=j∧c=o)∨(i≠j∧L[i]? = some c):=fun i c hi=>by
  by_cases hij:i=j
  ·subst hij; rw [List.getElem?_set_self hjl] at hi; exact .inl ⟨rfl,(Option.some.inj hi).symm⟩
  ·rw [List.getElem?_set_ne (Ne.symm hij)] at hi; exact .inr ⟨hij,hi⟩
 have far:∀ i c,i≠j→L[i]? = some c→∀ k∈o.F,k∉c.F:=fun i c hij hi k hk=>by
  rcases ho k hk with hk | hk
  ·exact h.apart 0 (i+1) a c (by simp) (by simpa using hi) (by omega) k hk
  ·exact h.apart (j+1) (i+1) b c (by simpa using hj) (by simpa using hi) (by omega) k hk
 refine⟨h.ext,fun c hc=>?_,fun c hc k hk=>?_,fun x y c d hx hy hxy k hk hkd=>?_⟩
 ·obtain⟨i,hi⟩:=List.getElem?_of_mem hc
  rcases hget i c hi with ⟨_,rfl⟩ | ⟨_,hc⟩
  ·exact po
  ·exact h.each c (List.mem_cons_of_mem _ (List.mem_of_getElem? hc))
 ·obtain⟨i,hi⟩:=List.getElem?_of_mem hc
  rcases hget i c hi with ⟨_,rfl⟩ | ⟨_,hc⟩
  ·rcases ho k hk with hk | hk
   ·exact h.base a (by simp) k hk
   ·exact h.base b (List.mem_cons_of_mem _ (List.mem_of_getElem? hj)) k hk
  ·exact h.base c (List.mem_cons_of_mem _ (List.mem_of_getElem? hc)) k hk
 ·rcases hget x c hx with ⟨rfl,rfl⟩ | ⟨hxj,hc⟩
  ·rcases hget y d hy with ⟨rfl,_⟩ | ⟨hyj,hd⟩
   ·exact hxy rfl
   ·exact far y d hyj hd k hk hkd
  ·rcases hget y d hy with ⟨rfl,rfl⟩ | ⟨hyj,hd⟩
   ·exact far x c hxj hc k hkd hk
   ·exact h.apart (x+1) (y+1) c d (by simpa using hc) (by simpa using hd) (by omega) k hk hkd
theorem Sep.tail {w0 w:World} {o:Ob} {L:List Ob} (h:Sep w0 w (o::L)):Sep w0 w L:=
 ⟨h.ext,fun a ha=>h.each a (List.mem_cons_of_mem _ ha),fun a ha=>h.base a (List.mem_cons_of_mem _ ha),fun i j a b hi hj hij=>h.apart (i+1) (j+1) a b (by simpa using hi) (by simpa using hj) (by omega)⟩
abbrev Zd:=Nd×Value
def cellsN (x:Nd) (kv:Value):List Value:=[.int .i64 x.kind,.int .i64 x.n,.int .i64 x.gen,.string x.s,kv]
def rowN (Z:List Zd):List Value:=Z.flatMap fun p=>cellsN p.1 p.2
theorem rowN_append (Z U:List Zd):rowN (Z++U)=rowN Z++rowN U:=by unfold rowN; rw [List.flatMap_append]
theorem rowN_one (p:Zd):rowN [p]=cellsN p.1 p.2:=by simp [rowN]
theorem rowN_len (Z:List Zd):(rowN Z).length=Z.length*5:=by
 induction Z with
 | nil=>rfl
 | cons a l ih=>rw [rowN,List.flatMap_cons,List.length_append,←rowN,ih]; simp [cellsN]; omega
theorem rowN_at:∀ (Z:List Zd) (i:Nat) (h:i<Z.length) (c:Nat),c<5→(rowN Z)[i*5+c]? = (cellsN (Z[i]'h).1 (Z[i]'h).2)[c]?
 | [],i,h,_,_=>by simp at h
 | p::Z,i,h,c,hc=>by
  have e:rowN (p::Z)=cellsN p.1 p.2++rowN Z:=by rw [rowN,List.flatMap_cons,←rowN]
  have hl:(cellsN p.1 p.2).length=5:=rfl
  rw [e]
  cases i with
  | zero=>
   rw [Nat.zero_mul,Nat.zero_add,List.getElem?_append_left (by omega)]
   rfl
  | succ i=>
   rw [List.getElem?_append_right (by omega),hl,show (i+1)*5+c - 5=i*5+c by omega,rowN_at Z i (by simpa using h) c hc]
   rfl
theorem infoNode:(Tryz.prog.info? 41).map (fun i=>(i.zero,i.size,i.bytes))=some (some (.agg #[.int .i64 0,.int .i64 0,.int .i64 0,.string ⟨#[]⟩,.slice none 0 0]),5,64):=by kernel_rfl
def bdF (b:Nat) (v:Value) (Z:List Zd):List Nat:=b::(v.ownBlock.toList++Z.flatMap fun p=>p.2.ownBlock.toList)
structure BdP (w:World) (b:Nat) (v:Value) (Z:List Zd):Prop where
 here:w.heap[b]? = some (.cells #[v] 156 (0,0))
 row:w.ownsRow 0 41 5 v Z.length (rowN Z)
 kids:∀ p∈Z,w.ownsRow 0 3 1 p.2 p.1.kids.length (p.1.kids.map iz)
 dup:(bdF b v Z).Nodup
 wf:∀ p∈Z,NdWf p.1
theorem mem_kidF {Z:List Zd} {p:Zd} (hp:p∈Z) {k:Nat} (hk:p.2.ownBlock=some k):k∈Z.flatMap fun p=>p.2.ownBlock.toList:=List.mem_flatMap.2 ⟨p,hp,by simp [hk]⟩
theorem BdP.ext {S:List Nat} {w w' : World} {b:Nat} {v:Value} {Z:List Zd} (h:BdP w b v Z) (hx:Ext S w w') (hS:∀ k∈bdF b v Z,k∉S):BdP w' b v Z:=
 ⟨hx.keep h.here (hS b (by simp [bdF])),ownsRow_ext h.row hx (fun g hg=>hS g (by simp [bdF,hg])),fun p hp=>ownsRow_ext (h.kids p hp) hx (fun g hg=>hS g (by unfold bdF; exact List.mem_cons_of_mem _ (List.mem_append_right _ (mem_kidF hp hg)))),h.dup,h.wf⟩
def oBd (b:Nat) (v:Value) (Z:List Zd):Ob where
 F:=bdF b v Z
 P:=fun w=>BdP w b v Z
 ok:=fun h hx hS=>h.ext hx hS
 lt:=fun h k hk=>by
  unfold bdF at hk
  rcases List.mem_cons.1 hk with rfl | hk
  ·exact lt_of_block h.here
  ·rcases List.mem_append.1 hk with hk | hk
   ·exact (h.row.lt k (by simpa using hk)).2
   ·obtain⟨p,hp,hk⟩:=List.mem_flatMap.1 hk
    exact ((h.kids p hp).lt k (by simpa using hk)).2
theorem ints_of_own {w:World} {v:Value} {l:List Int} (h:w.ownsRow 0 3 1 v l.length (l.map iz)):∃ base cap,v=.slice base l.length cap∧IntsAt w base l:=by
 obtain⟨ao,cap,rfl⟩:=row_slice h
 refine⟨ao,cap,rfl,fun i hi=>?_⟩
 obtain⟨g,cap2,he⟩:=row_form h (by omega)
 cases he
 exact⟨g,0,rfl,by rw [Nat.zero_add]; exact row_cell h (by rw [List.getElem?_map,List.getElem?_eq_getElem hi]; rfl)⟩
theorem row_le {w:World} {e:TypeId} {n k cap:Nat} {ao:Option Addr} {xs:List Value} (h:w.ownsRow 0 e k (.slice ao n cap) n xs):n≤cap:=by
 rcases h.2 with ⟨h0,h1⟩ | ⟨g',cap',cur,hv,_,hgr,hnc,_⟩
 ·omega
 ·cases hv
  exact hnc
theorem rows_nodes {w:World} {v:Value} {Z:List Zd} (hr:w.ownsRow 0 41 5 v Z.length (rowN Z)) (hk:∀ p∈Z,w.ownsRow 0 3 1 p.2 p.1.kids.length (p.1.kids.map iz)) (hw:∀ p∈Z,NdWf p.1):NodesAt w v (Z.map (·.1)):=by
 obtain⟨ao,cap,rfl⟩:=row_slice hr
 refine⟨ao,cap,by rw [List.length_map],by rw [List.length_map]; exact row_le hr,fun i hi=>?_⟩
 rw [List.length_map] at hi
 obtain⟨g,cap2,he⟩:=row_form hr (by omega)
 cases he
 have hc:∀ c,c<5→∀ u,(cellsN (Z[i]'hi).1 (Z[i]'hi).2)[c]? = some u→w.cell? ⟨g,0+i*5+c,none⟩=some u:=fun c hc u hu=>by
  rw [Nat.zero_add]
  exact row_cell hr ((rowN_at Z i hi c hc).trans hu)
 have hm:Z[i]'hi∈Z:=List.getElem_mem hi
 obtain⟨kb,kc,hkv,hI⟩:=ints_of_own (hk _ hm)
 refine⟨g,0,rfl,?_⟩
 rw [List.getElem_map]
 exact⟨hc 0 (by decide) _ rfl,hc 1 (by decide) _ rfl,hc 2 (by decide) _ rfl,hc 3 (by decide) _ rfl,hw _ hm,kb,kc,by rw [hc 4 (by decide) _ rfl,hkv],hI⟩
theorem BdP.nodes {w:World} {b:Nat} {v:Value} {Z:List Zd} (h:BdP w b v Z):NodesAt w v (Z.map (·.1)):=rows_nodes h.row h.kids h.wf
def oBk (b:Nat) (v:Value) (Z:List Zd) (kv:Value) (L:List Int):Ob where
 F:=bdF b v Z++kv.ownBlock.toList
 P:=fun w=>BdP w b v Z∧w.ownsRow 0 3 1 kv L.length (L.map iz)∧∀ k∈kv.ownBlock.toList,k∉bdF b v Z
 ok:=fun h hx hS=>⟨h.1.ext hx (fun k hk=>hS k (List.mem_append_left _ hk)),ownsRow_ext h.2.1 hx (fun g hg=>hS g (by simp [hg])),h.2.2⟩
 lt:=fun h k hk=>by
  rcases List.mem_append.1 hk with hk | hk
  ·exact (oBd b v Z).lt h.1 k hk
  ·exact (h.2.1.lt k (by simpa using hk)).2
def moveN (by_:Int) (x:Nd):Nd:={ x with kids:=x.kids.map (· + by_)}
theorem cells_nd (w:World) (x:Nd) (kv:Value) (t:TypeId) (f:Nat×Nat:=(0,0)):∀ j u,(rowN [(x,kv)])[j]? = some u→(w.alloc (.cells #[.int .i64 x.kind,.int .i64 x.n,.int .i64 x.gen,.string x.s,kv] t f)).cell? ((⟨w.heap.size,0,none⟩:Addr).add j)=some u:=by
 intro j u h
 have e:(⟨w.heap.size,0,none⟩:Addr).add j=⟨w.heap.size,j,none⟩:=by unfold Addr.add; split <;> simp_all
 rw [e,cellOf (heap_alloc_at _)]
 rw [rowN_one] at h
 rw [←h]
 simp [cellsN]
theorem BdP.push {w w' : World} {b g cap:Nat} {v:Value} {Z:List Zd} {x:Nd} {kv:Value} (h:BdP w b v Z) (hk:w.ownsRow 0 3 1 kv x.kids.length (x.kids.map iz)) (hd:∀ k∈kv.ownBlock.toList,k∉bdF b v Z) (hw:NdWf x)
  (hx:Ext (b::v.ownBlock.toList) w w') (hb:w'.heap[b]? = some (.cells #[.slice (some ⟨g,0,none⟩) (Z.length+1) cap] 156 (0,0))) (hr:w'.ownsRow 0 41 5 (.slice (some ⟨g,0,none⟩) (Z.length+1) cap) (Z.length+1) (rowN Z++cellsN x kv)) (hg:v.ownBlock=some g∨w.heap.size≤g) :
  BdP w' b (.slice (some ⟨g,0,none⟩) (Z.length+1) cap) (Z++[(x,kv)]):=by
 have hdup:=h.dup
 have lt:=(oBd b v Z).lt h
 have hnb:∀ p∈Z,∀ k,p.2.ownBlock=some k→k∉b::v.ownBlock.toList:=fun p hp k hpk hm=>by
  have hd2:=h.dup
  unfold bdF at hd2
  rw [List.nodup_cons,List.nodup_append] at hd2
  rcases List.mem_cons.1 hm with rfl | hm
  ·exact hd2.1 (List.mem_append_right _ (mem_kidF hp hpk))
  ·exact hd2.2.2.2 k hm k (mem_kidF hp hpk) rfl
 have hkl:∀ k∈kv.ownBlock.toList,k<w.heap.size:=fun k hk2=>(hk.lt k (by simpa using hk2)).2
 refine⟨hb,by rw [List.length_append,rowN_append,rowN_one]; exact hr,fun p hp=>?_,?_,fun p hp=>?_⟩
 ·rcases List.mem_append.1 hp with hp | hp
  ·exact ownsRow_ext (h.kids p hp) hx (fun k hk2=>hnb p hp k hk2)
  ·obtain rfl:p=(x,kv):=by simpa using hp
   refine ownsRow_ext hk hx (fun k hk2 hm=>hd k (by simp [hk2]) ?_)
   unfold bdF
   rcases List.mem_cons.1 hm with rfl | hm
   ·simp
   ·exact List.mem_cons_of_mem _ (List.mem_append_left _ hm)
 ·unfold bdF at hdup ⊢
  rw [List.nodup_cons,List.nodup_append] at hdup
  rw [List.flatMap_append,List.nodup_cons,List.nodup_append,List.nodup_append]
  obtain⟨d1,d2,d3,d4⟩:=hdup
  have hgb:b≠g:=fun e=>by
   rcases hg with q | q
   ·exact d1 (List.mem_append_left _ (by simp [q,e]))
   ·have:=lt b (by show b∈bdF b v Z; simp [bdF]); omega
  have hkf:[(x,kv)].flatMap (fun p:Zd=>p.2.ownBlock.toList)=kv.ownBlock.toList:=by simp
  have hkd:kv.ownBlock.toList.Nodup:=by cases kv.ownBlock <;> simp
  have hgk:∀ k∈Z.flatMap (fun p:Zd=>p.2.ownBlock.toList),g≠k:=fun k hk2 e=>by
   subst e
   rcases hg with q | q
   ·exact d4 g (by simp [q]) g hk2 rfl
   ·have:=lt g (by show g∈bdF b v Z; unfold bdF; exact List.mem_cons_of_mem _ (List.mem_append_right _ hk2)); omega
  have hgv:∀ k∈kv.ownBlock.toList,g≠k:=fun k hk2 e=>by
   subst e
   rcases hg with q | q
   ·exact hd g hk2 (by simp [bdF,q])
   ·have:=hkl g hk2; omega
  rw [hkf]
  refine⟨?_,by simp [Value.ownBlock],⟨d3,hkd,?_⟩,?_⟩
  ·intro hm
   simp only [Value.ownBlock,List.mem_append] at hm
   rcases hm with hm | hm | hm
   ·simp at hm
    exact hgb hm
   ·exact d1 (List.mem_append_right _ hm)
   ·exact hd b hm (by simp [bdF])
  ·intro k hk1 m hm e
   subst e
   exact hd k hm (by unfold bdF; exact List.mem_cons_of_mem _ (List.mem_append_right _ hk1))
  ·intro k hk1 m hm e
   subst e
   simp [Value.ownBlock] at hk1
   subst hk1
   rcases List.mem_append.1 hm with hm | hm
   ·exact hgk k hm rfl
   ·exact hgv k hm rfl
 ·rcases List.mem_append.1 hp with hp | hp
  ·exact h.wf p hp
  ·obtain rfl:p=(x,kv):=by simpa using hp
   exact hw
theorem moveN_wf {x:Nd} {B:Int} (h:NdWf x) (hk:∀ k∈x.kids,0≤k∧k≤131072) (h1 : -131072≤B) (h2:B≤131072):NdWf (moveN B x):=
 ⟨h.n,h.s,by show (x.kids.map (· + B)).length≤_; rw [List.length_map]; exact h.len,fun k hk2=>by
  obtain⟨c,hc,rfl⟩:=List.mem_map.1 hk2
  have:=hk c hc
  omega⟩
theorem set_self {α:Type} {L:List α} {j:Nat} {o:α} (h:L[j]? = some o):L.set j o=L:=by
 obtain⟨hj,rfl⟩:=List.getElem?_eq_some_iff.1 h
 exact List.set_getElem_self hj
theorem made0 (n:Nat) (hn:n≤1048576) {w0 w:World} {L:List Ob} (S:Sep w0 w L) :
  ∃ q W,(Instr.makeSlice 39 (.int .i64 0) (.int .i64 (n:Nat))).run Tryz.prog w=.ok (.slice (some ⟨q,0,none⟩) 0 n) W∧Ext [] w W∧Sep w0 W (oSl 3 1 (.slice (some ⟨q,0,none⟩) 0 n) 0 []::L):=by
 obtain⟨i0,hif,hz0,hz1,hz2⟩:=info_parts infoInt
 obtain⟨wm,hmk,hown,hgrow⟩:=run_make_own (P:=Tryz.prog) w 0 39 3 i0 (.int .i64 0) 1 Tryz.underlying39 hif hz0 hz1 .i64 .i64 n (by rw [hz2]; omega) (by unfold maxLen; omega) (by omega)
 have hx4:Ext [] w wm:=(Ext.refl [] w).grown hgrow (fun k hk=>by cases hk)
 exact⟨w.heap.size,wm,hmk,hx4,S.new hx4 _ hown (fun q hq=>by simp [oSl,Value.ownBlock] at hq; omega)⟩
theorem add_walk (w0 w:World) (L:List Ob) (j:Nat) (b:Nat) (v:Value) (Z:List Zd) (u:Value) (l:List Nd) (f:Nat) (S:Sep w0 w L) (hj:L[j]? = some (oBd b v Z)) (hN:NodesAt w0 u l) (hl:Z.length+l.length≤131072) (hf:f≤131072)
  (hk:∀ x∈l,x.kids.length≤131072∧∀ k∈x.kids,0≤k∧k≤131072) :
  Calls Tryz.prog 105 #[.pointer (some ⟨b,0,none⟩),u,.int .i64 f] w fun e w'=>e=.returned (.tuple #[])∧∃ v2 Z2,Z2.map (·.1)=l.map (moveN ((Z.length:Int) - f))∧Sep w0 w' (L.set j (oBd b v2 (Z++Z2))):=by
 obtain⟨i0,hif,hz0,hz1,hz2⟩:=info_parts infoInt
 obtain⟨j0,hjf,hy0,hy1,hy2⟩:=info_parts infoNode
 obtain⟨base,cap,rfl,-,hN⟩:=hN
 obtain⟨n,hn⟩:∃ n,l.length=n:=⟨_,rfl⟩
 obtain⟨N,hZN⟩:∃ N,Z.length=N:=⟨_,rfl⟩
 obtain⟨B,hB⟩:∃ B:Int,(N:Int) - f=B:=⟨_,rfl⟩
 have hP:BdP w b v Z:=S.get j hj
 obtain⟨ao,cv,rfl⟩:=row_slice hP.row
 have c0:w.cell? ⟨b,0,none⟩=some (.slice ao Z.length cv):=cellOf hP.here 0
 have HS:=zz6 ⟨S,hj,hN,hk,hn,hZN⟩
 have hjl:j<L.length:=(List.getElem?_eq_some_iff.1 hj).1
 have hB1 : -131072≤B:=by omega
 have hB2:B≤131072:=by omega
 have hB3:(N:Int) - f=B:=hB
 rw [hn,hZN] at hl
 rw [hZN] at c0 ⊢
 rw [hn,hB]
 clear S hj hN hk hn hP hZN hB
 go_enter Tryz.func105,Tryz.ntmps105
 go_wp2_with fail
 clear c0
 go_loopg [21] n (fun g iv wr=>∃ (i:Nat) (vv:Value) (Z2:List Zd),g+i=n∧iv=.int .i64 i∧Z2.length=i∧Z2.map (·.1)=(l.take i).map (moveN B)∧Sep w0 wr (L.set j (oBd b vv (Z++Z2))))
 case atStart=>
  refine⟨0,.slice ao N cv,[],by omega,rfl,rfl,rfl,?_⟩
  rw [List.append_nil,←HS.out.2.2.2.2.2,set_self HS.out.2.1]
  exact HS.out.1
 case round=>
  obtain⟨i,vv,Z2,hgi,rfl,hZ2,hM,S⟩:=hrel
  have HW:=zz3 ⟨hZ2,hM,S⟩
  clear hZ2 hM S
  by_cases hlt:i<n
  ·obtain⟨g,rfl⟩:∃ g,gk=g+1:=⟨gk - 1,by omega⟩
   have hltz:(i:Int)<(n:Int):=by omega
   have hil:i<l.length:=by rw [HS.out.2.2.2.2.1]; exact hlt
   obtain⟨bb,o,rfl,m1,m2,m3,m4,nw,bk,ck,m5,n6⟩:=HS.out.2.2.1 i hil
   obtain⟨hk1,hk2⟩:=HS.out.2.2.2.1 _ (List.getElem_mem hil)
   have htk:l.take (i+1)=l.take i++[l[i]'hil]:=by rw [List.take_succ_eq_append_getElem hil]
   generalize l[i]'hil=x at *
   have hx:=HW.out.2.2.ext
   have n1:=hx.cell m1
   have n2:=hx.cell m2
   have n3:=hx.cell m3
   have n4:=hx.cell m4
   have n5:=hx.cell m5
   have HX:=zz4 ⟨nw,n6,hk2,htk⟩
   clear nw n6 hk2 htk hx m1 m2 m3 m4 m5
   obtain⟨K,hK⟩:∃ K,x.kids.length=K:=⟨_,rfl⟩
   rw [hK] at n5 hk1
   have HK:=zz hK
   clear hK
   go_upto_region 4 with (fail)
   obtain⟨box,hbox⟩:∃ box:Obj,box=.cells #[.int .i64 x.kind,.int .i64 x.n,.int .i64 x.gen,.string x.s,.slice bk K ck] 41:=⟨_,rfl⟩
   rw [←hbox]
   obtain⟨W,hW⟩:∃ W,wr.alloc box=W:=⟨_,rfl⟩
   have hx4:Ext [] wr W:=by rw [←hW]; exact (Ext.refl [] wr).alloc _
   have hb4:W.heap[wr.heap.size]? = some box:=by rw [←hW]; exact heap_alloc_at _
   obtain⟨q,hq⟩:∃ q,wr.heap.size=q:=⟨_,rfl⟩
   have S:=HW.out.2.2.new hx4 (Ob.one q box) (by rw [←hq]; exact hb4) (fun k hk=>by simp [Ob.one] at hk; omega)
   rw [hq,hbox] at hb4
   rw [hq,hW]
   have q4:W.cell? ⟨q,4,none⟩=some (.slice bk K ck):=cellOf hb4 4
   obtain⟨q2,W2,hmk,hx5,S2⟩:=made0 K (by omega) S
   have HS2:=zz2 ⟨S2,hbox⟩
   clear hbox
   have q5:=hx5.cell q4
   clear S S2 hx4 hb4 hq hW n1 n2 n3 n4 n5
   go_wp2_with fail
   clear hmk q4 q5
   go_loopg [9,11,32] K (fun g2 kv v11 iv wx=>∃ m:Nat,g2+m=K∧iv=.int .i64 m∧Sep w0 wx (oSl 3 1 kv m (((x.kids.take m).map (· + B)).map iz)::Ob.one q box::L.set j (oBd b vv (Z++Z2))))
   case atStart=>exact⟨0,by omega,rfl,HS2.out.1⟩
   case round=>
    obtain⟨m,hgm,rfl,S⟩:=hrel
    have hown:wr.ownsRow 0 3 1 u9 m (((x.kids.take m).map (· + B)).map iz):=S.get 0 rfl
    obtain⟨ao9,c9,rfl⟩:=row_slice hown
    have hb4:wr.heap[q]? = some box:=S.get 1 rfl
    rw [HS2.out.2] at hb4
    have HS3:=zz S
    have HO:=zz hown
    by_cases hmK:m<K
    ·obtain⟨g2,rfl⟩:∃ g2,gk=g2+1:=⟨gk - 1,by omega⟩
     have hmz:(m:Int)<(K:Int):=by omega
     have hml:m<x.kids.length:=by rw [HK.out]; exact hmK
     obtain⟨b7,o7,rfl,hc7⟩:=(HX.out.2.1.ext S.ext) m hml
     obtain⟨h7a,h7b⟩:=HX.out.2.2.1 _ (List.getElem_mem hml)
     have ht7:x.kids.take (m+1)=x.kids.take m++[x.kids[m]'hml]:=by rw [List.take_succ_eq_append_getElem hml]
     generalize x.kids[m]'hml=c at *
     have HT:=zz ht7
     clear ht7 S hown hb4
     go_wp2_with (first | (at_builtin; refine wpList_append_lies _ rfl _ _ 39 rfl 0 3 i0 _ 1 8 Tryz.underlying39 hif hz0 hz1 hz2 rfl (by decide) (.slice ao9 m c9) m _ rfl (World.ownsRow.alloc HO.out _) ⟨wr.heap.size,0,none⟩ 1 1 [.int .i64 (c+B)] rfl rfl (cell_one_new _ _ _) (by simp [Value.oneCell']) (by decide) (by unfold maxLen; omega) (by omega) (by omega) (wr.heap.size+1) (by simp) ?_; intro g6 cap2 w6 hown1 hgrow hat hlt6))
     have P:=push_local (cap:=cap2) (n:=m+1) hgrow hat
     go_roundg g2
     case measure=>omega
     case rel=>
      refine⟨m+1,by omega,by go_num,HS3.out.upd 0 (oSl 3 1 (.slice (some ⟨g6,0,none⟩) (m+1) cap2) (m+1) (((x.kids.take (m+1)).map (· + B)).map iz)) rfl P.1 P.2 ?_⟩
      show w6.ownsRow 0 3 1 _ (m+1) _
      rw [HT.out,List.map_append,List.map_append]
      exact hown1
    ·obtain rfl:m=K:=by omega
     have q4:wr.cell? ⟨q,4,none⟩=some (.slice bk m ck):=cellOf hb4 4
     have q4f:=freeOf hb4 4
     have hfull:x.kids.take m=x.kids:=by rw [←HK.out,List.take_length]
     rw [hfull] at S
     have hkl:(moveN B x).kids.length=m:=by show (x.kids.map (· + B)).length=m; rw [List.length_map,HK.out]
     have S5:∀ kv,Sep w0 (wr.setCell ⟨q,4,none⟩ kv) (oSl 3 1 (.slice ao9 m c9) (moveN B x).kids.length ((moveN B x).kids.map iz)::Ob.one q (.cells #[.int .i64 x.kind,.int .i64 x.n,.int .i64 x.gen,.string x.s,kv] 41)::L.set j (oBd b vv (Z++Z2))):=fun kv=>by
      rw [hkl]
      refine S.upd 1 (Ob.one q _) rfl ((Ext.refl _ _).setCell _ _ (.inl (by simp [Ob.one]))) (Fr.refl _ _) ?_
      have:=heap_setCell_same hb4 (i:=4) kv
      exact this
     have HS5:=zz S5
     have HKL:=zz hkl
     clear S5 hfull S HO HS3 hb4 hown hkl
     have hLj:(L.set j (oBd b vv (Z++Z2)))[j]? = some (oBd b vv (Z++Z2)):=List.getElem?_set_self hjl
     by_cases hm0:m=0
     ·subst hm0
      go_upto_region 13 with (fail)
      have S5:=HS5.out (.slice ao9 0 c9)
      have S6:Sep w0 ((wr.setCell ⟨q,4,none⟩ (.slice ao9 0 c9)).setCell ⟨q,4,none⟩ (.slice none 0 0)) (oSl 3 1 (.slice none 0 0) (moveN B x).kids.length ((moveN B x).kids.map iz)::Ob.one q (.cells #[.int .i64 x.kind,.int .i64 x.n,.int .i64 x.gen,.string x.s,.slice none 0 0] 41)::L.set j (oBd b vv (Z++Z2))):=by
       have h1:=S5.upd 1 (Ob.one q (.cells #[.int .i64 x.kind,.int .i64 x.n,.int .i64 x.gen,.string x.s,.slice none 0 0] 41)) rfl ((Ext.refl _ _).setCell ⟨q,4,none⟩ (.slice none 0 0) (.inl (by simp [Ob.one]))) (Fr.refl _ _) (heap_setCell_same (i:=4) (S5.get 1 rfl) _)
       have hk0:(moveN B x).kids=[]:=List.length_eq_zero_iff.1 HKL.out
       rw [hk0]
       exact _root_.Go.Proofs.YtljachhmdogkdaaGreatDoor.Sep.new (Sep.tail h1) (Ext.refl _ _) (oSl 3 1 (.slice none 0 0) 0 []) (World.ownsRow_nil _ _ _ _) (fun k hk=>by simp [oSl,Value.ownBlock] at hk)
      obtain⟨box2,hbox2⟩:∃ box2:Obj,box2=.cells #[.int .i64 x.kind,.int .i64 x.n,.int .i64 x.gen,.string x.s,.slice none 0 0] 41:=⟨_,rfl⟩
      rw [←hbox2] at S6
      obtain⟨W6,hW6⟩:∃ W6,(wr.setCell ⟨q,4,none⟩ (.slice ao9 0 c9)).setCell ⟨q,4,none⟩ (.slice none 0 0)=W6:=⟨_,rfl⟩
      rw [hW6] at S6 ⊢
      clear hW6 q4 q4f HS5 S5
      have hP1:BdP W6 b vv (Z++Z2):=S6.get (j+2) hLj
      have hb6:W6.heap[q]? = some box2:=S6.get 1 rfl
      have hnq:∀ k∈bdF b vv (Z++Z2),k≠q:=fun k hk e=>by
       subst e
       exact S6.apart 1 (j+2) _ _ rfl hLj (by omega) k (by simp [Ob.one]) hk
      have hnk:∀ k∈(Value.slice none 0 0).ownBlock.toList,k∉bdF b vv (Z++Z2):=fun k hk hk2=>S6.apart 0 (j+2) _ _ rfl hLj (by omega) k (by simpa [oSl] using hk) hk2
      have hkv6:W6.ownsRow 0 3 1 (.slice none 0 0) (moveN B x).kids.length ((moveN B x).kids.map iz):=by
       have h0:=S6.get 0 rfl
       exact h0
      have S7:Sep w0 W6 (L.set j (oBk b vv (Z++Z2) (.slice none 0 0) (moveN B x).kids)):=by
       have h1:=Sep.glue S6 (j:=j+1) (b:=oBd b vv (Z++Z2)) hLj (oBk b vv (Z++Z2) (.slice none 0 0) (moveN B x).kids) (fun k hk=>by
        rcases List.mem_append.1 hk with hk | hk
        ·exact .inr hk
        ·exact .inl hk) ⟨hP1,hkv6,hnk⟩
       have h2:=Sep.tail h1
       rw [List.set_set] at h2
       exact h2
      have hlen:(Z++Z2).length=N+i:=by rw [List.length_append,HS.out.2.2.2.2.2,HW.out.1]
      have hrow:=hP1.row
      rw [hlen] at hrow
      have hnv:q∉vv.ownBlock.toList:=fun h=>hnq q (by unfold bdF; exact List.mem_cons_of_mem _ (List.mem_append_left _ h)) rfl
      have hnb:vv.ownBlock≠some b:=fun h=>by
       have hd:=hP1.dup
       unfold bdF at hd
       exact (List.nodup_cons.1 hd).1 (List.mem_append_left _ (by simp [h]))
      have c0:∀ y:ExS vv.ownBlock.toList W6,y.w.cell? ⟨b,0,none⟩=some vv:=fun y=>cellOf (y.heap hP1.here (by simpa using hnb)) 0
      have e0:∀ y:ExS vv.ownBlock.toList W6,y.w.cell? ⟨q,0,none⟩=some (.int .i64 x.kind):=fun y=>cellOf (y.heap (hb6.trans (congrArg some hbox2)) hnv) 0
      have e1:∀ y:ExS vv.ownBlock.toList W6,y.w.cell? ⟨q,1,none⟩=some (.int .i64 x.n):=fun y=>cellOf (y.heap (hb6.trans (congrArg some hbox2)) hnv) 1
      have e2:∀ y:ExS vv.ownBlock.toList W6,y.w.cell? ⟨q,2,none⟩=some (.int .i64 x.gen):=fun y=>cellOf (y.heap (hb6.trans (congrArg some hbox2)) hnv) 2
      have e3:∀ y:ExS vv.ownBlock.toList W6,y.w.cell? ⟨q,3,none⟩=some (.string x.s):=fun y=>cellOf (y.heap (hb6.trans (congrArg some hbox2)) hnv) 3
      have e4:∀ y:ExS vv.ownBlock.toList W6,y.w.cell? ⟨q,4,none⟩=some (.slice none 0 0):=fun y=>cellOf (y.heap (hb6.trans (congrArg some hbox2)) hnv) 4
      have HF:=zz6 ⟨hP1,hkv6,hnk,S7,hrow,hnb⟩
      clear hP1 hkv6 hnk S7 hrow hnb hnv hlen hnq S6 hb6 hbox2
      refine wp_region_mid (C:=fun w'=>∃ y:ExS vv.ownBlock.toList W6,w' = y.w) 6 2 (by kernel_rfl) (by kernel_rfl) ⟨ExS.mk _ ((Ext.refl _ W6).drew),rfl⟩ ?_
      simp only [List.take_succ_cons,List.take_zero,List.drop_succ_cons,List.drop_zero]
      repeat (go_big_quiet_step (fail))
      refine wpQuiet_nil ?_
      refine midW_step rfl (fun K9 hK9=>?_)
      go_wp2_with fail
      refine⟨⟨ExS.mk _ ((Ext.refl _ W6).drew.alloc _),rfl⟩,?_⟩
      refine midW_step rfl (fun K9 hK9=>?_)
      refine wp_append_lies _ _ _ 31 rfl 0 41 j0 _ 5 64 Tryz.underlying31 hjf hy0 hy1 hy2 rfl (by decide) vv (N+i) _ rfl ((HF.out.2.2.2.2.1.alloc _).drew) ⟨W6.heap.size,0,none⟩ 1 1 (rowN [(x,(.slice none 0 0))]) rfl rfl (cells_nd _ x (.slice none 0 0) _) (by simp [rowN,cellsN,Value.oneCell']) (by decide) (by unfold maxLen; omega) (by omega) (by omega) (W6.heap.size+1) (by simp) ?_
      intro g6 cap2 w6 hown1 hgrow hat hlt6
      have hgrow:=grown_drew hgrow
      have hb7:w6.heap[b]? = some (.cells #[vv] 156 (0,0)):=grown_keep hgrow (heap_alloc_old _ HF.out.1.here) HF.out.2.2.2.2.2
      have P:=push_field HF.out.1.here HF.out.2.2.2.2.2 hown1 hgrow hat 0
      have hg6:vv.ownBlock=some g6∨W6.heap.size≤g6:=by
       rcases hat with q1 | q1
       ·exact .inl q1
       ·exact .inr (by omega)
      refine hK9 _ _ ⟨⟨ExS.mk w6 (((Ext.refl _ W6).alloc _).grown hgrow (fun k hk=>.inl (by simp [hk]))),rfl⟩,?_⟩
      have HP:=zz2 ⟨P,hg6⟩
      clear hK9 K9 c0 e0 e1 e2 e3 e4 P hgrow hat hlt6 hg6 hown1
      refine midW_nil ?_
      have d0:=cellOf hb7 0
      have d1:=freeOf hb7 0
      clear hb7
      go_wp2_with fail
      refine NoPanic.normal ?_
      go_wp2_with fail
      go_roundg g
      case measure=>omega
      case rel=>
       obtain⟨⟨p1,p2,p3,p4,p5⟩,p6⟩:=HP.out
       have hlen:(Z++Z2).length=N+i:=by rw [List.length_append,HS.out.2.2.2.2.2,HW.out.1]
       rw [←hlen] at p1 p2 p3
       rw [rowN_one] at p2
       have hpush:=BdP.push (x:=moveN B x) HF.out.1 HF.out.2.1 HF.out.2.2.1 (moveN_wf HX.out.1 HX.out.2.2.1 hB1 hB2) p3 p1 p2 p6
       have S8:=HF.out.2.2.2.1.upd j (oBd b (.slice (some ⟨g6,0,none⟩) ((Z++Z2).length+1) cap2) (Z++Z2++[(moveN B x,(Value.slice none 0 0))])) (List.getElem?_set_self hjl) (p3.mono (fun k hk hk2=>?_)) (fun k hk=>?_) hpush
       ·rw [List.set_set,hlen,List.append_assoc] at S8
        exact⟨i+1,_,Z2++[(moveN B x,(Value.slice none 0 0))],by omega,by go_num,by rw [List.length_append,HW.out.1]; rfl,by rw [List.map_append,HW.out.2.1,HX.out.2.2.2,List.map_append]; rfl,S8⟩
       ·show k∈bdF b vv (Z++Z2)++_
        refine List.mem_append_left _ ?_
        unfold bdF
        rcases List.mem_cons.1 hk2 with rfl | hk2
        ·simp
        ·exact List.mem_cons_of_mem _ (List.mem_append_left _ hk2)
       ·have hk:k∈bdF b (.slice (some ⟨g6,0,none⟩) ((Z++Z2).length+1) cap2) (Z++Z2++[(moveN B x,(Value.slice none 0 0))]):=hk
        show k∈bdF b vv (Z++Z2)++(Value.slice none 0 0).ownBlock.toList∨_
        unfold bdF at hk ⊢
        rw [List.flatMap_append] at hk
        rcases List.mem_cons.1 hk with rfl | hk
        ·exact .inl (by simp)
        ·rcases List.mem_append.1 hk with hk | hk
         ·obtain rfl:k=g6:=by simpa [Value.ownBlock] using hk
          rcases p6 with q1 | q1
          ·exact .inl (by simp [q1])
          ·exact .inr q1
         ·rcases List.mem_append.1 hk with hk | hk
          ·exact .inl (List.mem_append_left _ (List.mem_cons_of_mem _ (List.mem_append_right _ hk)))
          ·exact .inl (List.mem_append_right _ (by simpa using hk))
     ·have hm0b:((m:Int)==0)=false:=beq_eq_false_iff_ne.2 (by omega)
      go_upto_region 13 with (fail)
      have S6:=HS5.out (.slice ao9 m c9)
      obtain⟨box2,hbox2⟩:∃ box2:Obj,box2=.cells #[.int .i64 x.kind,.int .i64 x.n,.int .i64 x.gen,.string x.s,.slice ao9 m c9] 41:=⟨_,rfl⟩
      rw [←hbox2] at S6
      obtain⟨W6,hW6⟩:∃ W6,wr.setCell ⟨q,4,none⟩ (.slice ao9 m c9)=W6:=⟨_,rfl⟩
      rw [hW6] at S6 ⊢
      clear hW6 q4 q4f HS5
      have hP1:BdP W6 b vv (Z++Z2):=S6.get (j+2) hLj
      have hb6:W6.heap[q]? = some box2:=S6.get 1 rfl
      have hnq:∀ k∈bdF b vv (Z++Z2),k≠q:=fun k hk e=>by
       subst e
       exact S6.apart 1 (j+2) _ _ rfl hLj (by omega) k (by simp [Ob.one]) hk
      have hnk:∀ k∈(Value.slice ao9 m c9).ownBlock.toList,k∉bdF b vv (Z++Z2):=fun k hk hk2=>S6.apart 0 (j+2) _ _ rfl hLj (by omega) k (by simpa [oSl] using hk) hk2
      have hkv6:W6.ownsRow 0 3 1 (.slice ao9 m c9) (moveN B x).kids.length ((moveN B x).kids.map iz):=by
       have h0:=S6.get 0 rfl
       exact h0
      have S7:Sep w0 W6 (L.set j (oBk b vv (Z++Z2) (.slice ao9 m c9) (moveN B x).kids)):=by
       have h1:=Sep.glue S6 (j:=j+1) (b:=oBd b vv (Z++Z2)) hLj (oBk b vv (Z++Z2) (.slice ao9 m c9) (moveN B x).kids) (fun k hk=>by
        rcases List.mem_append.1 hk with hk | hk
        ·exact .inr hk
        ·exact .inl hk) ⟨hP1,hkv6,hnk⟩
       have h2:=Sep.tail h1
       rw [List.set_set] at h2
       exact h2
      have hlen:(Z++Z2).length=N+i:=by rw [List.length_append,HS.out.2.2.2.2.2,HW.out.1]
      have hrow:=hP1.row
      rw [hlen] at hrow
      have hnv:q∉vv.ownBlock.toList:=fun h=>hnq q (by unfold bdF; exact List.mem_cons_of_mem _ (List.mem_append_left _ h)) rfl
      have hnb:vv.ownBlock≠some b:=fun h=>by
       have hd:=hP1.dup
       unfold bdF at hd
       exact (List.nodup_cons.1 hd).1 (List.mem_append_left _ (by simp [h]))
      have c0:∀ y:ExS vv.ownBlock.toList W6,y.w.cell? ⟨b,0,none⟩=some vv:=fun y=>cellOf (y.heap hP1.here (by simpa using hnb)) 0
      have e0:∀ y:ExS vv.ownBlock.toList W6,y.w.cell? ⟨q,0,none⟩=some (.int .i64 x.kind):=fun y=>cellOf (y.heap (hb6.trans (congrArg some hbox2)) hnv) 0
      have e1:∀ y:ExS vv.ownBlock.toList W6,y.w.cell? ⟨q,1,none⟩=some (.int .i64 x.n):=fun y=>cellOf (y.heap (hb6.trans (congrArg some hbox2)) hnv) 1
      have e2:∀ y:ExS vv.ownBlock.toList W6,y.w.cell? ⟨q,2,none⟩=some (.int .i64 x.gen):=fun y=>cellOf (y.heap (hb6.trans (congrArg some hbox2)) hnv) 2
      have e3:∀ y:ExS vv.ownBlock.toList W6,y.w.cell? ⟨q,3,none⟩=some (.string x.s):=fun y=>cellOf (y.heap (hb6.trans (congrArg some hbox2)) hnv) 3
      have e4:∀ y:ExS vv.ownBlock.toList W6,y.w.cell? ⟨q,4,none⟩=some (.slice ao9 m c9):=fun y=>cellOf (y.heap (hb6.trans (congrArg some hbox2)) hnv) 4
      have HF:=zz6 ⟨hP1,hkv6,hnk,S7,hrow,hnb⟩
      clear hP1 hkv6 hnk S7 hrow hnb hnv hlen hnq S6 hb6 hbox2
      refine wp_region_mid (C:=fun w'=>∃ y:ExS vv.ownBlock.toList W6,w' = y.w) 6 2 (by kernel_rfl) (by kernel_rfl) ⟨ExS.mk _ ((Ext.refl _ W6).drew),rfl⟩ ?_
      simp only [List.take_succ_cons,List.take_zero,List.drop_succ_cons,List.drop_zero]
      repeat (go_big_quiet_step (fail))
      refine wpQuiet_nil ?_
      refine midW_step rfl (fun K9 hK9=>?_)
      go_wp2_with fail
      refine⟨⟨ExS.mk _ ((Ext.refl _ W6).drew.alloc _),rfl⟩,?_⟩
      refine midW_step rfl (fun K9 hK9=>?_)
      refine wp_append_lies _ _ _ 31 rfl 0 41 j0 _ 5 64 Tryz.underlying31 hjf hy0 hy1 hy2 rfl (by decide) vv (N+i) _ rfl ((HF.out.2.2.2.2.1.alloc _).drew) ⟨W6.heap.size,0,none⟩ 1 1 (rowN [(x,(.slice ao9 m c9))]) rfl rfl (cells_nd _ x (.slice ao9 m c9) _) (by simp [rowN,cellsN,Value.oneCell']) (by decide) (by unfold maxLen; omega) (by omega) (by omega) (W6.heap.size+1) (by simp) ?_
      intro g6 cap2 w6 hown1 hgrow hat hlt6
      have hgrow:=grown_drew hgrow
      have hb7:w6.heap[b]? = some (.cells #[vv] 156 (0,0)):=grown_keep hgrow (heap_alloc_old _ HF.out.1.here) HF.out.2.2.2.2.2
      have P:=push_field HF.out.1.here HF.out.2.2.2.2.2 hown1 hgrow hat 0
      have hg6:vv.ownBlock=some g6∨W6.heap.size≤g6:=by
       rcases hat with q1 | q1
       ·exact .inl q1
       ·exact .inr (by omega)
      refine hK9 _ _ ⟨⟨ExS.mk w6 (((Ext.refl _ W6).alloc _).grown hgrow (fun k hk=>.inl (by simp [hk]))),rfl⟩,?_⟩
      have HP:=zz2 ⟨P,hg6⟩
      clear hK9 K9 c0 e0 e1 e2 e3 e4 P hgrow hat hlt6 hg6 hown1
      refine midW_nil ?_
      have d0:=cellOf hb7 0
      have d1:=freeOf hb7 0
      clear hb7
      go_wp2_with fail
      refine NoPanic.normal ?_
      go_wp2_with fail
      go_roundg g
      case measure=>omega
      case rel=>
       obtain⟨⟨p1,p2,p3,p4,p5⟩,p6⟩:=HP.out
       have hlen:(Z++Z2).length=N+i:=by rw [List.length_append,HS.out.2.2.2.2.2,HW.out.1]
       rw [←hlen] at p1 p2 p3
       rw [rowN_one] at p2
       have hpush:=BdP.push (x:=moveN B x) HF.out.1 HF.out.2.1 HF.out.2.2.1 (moveN_wf HX.out.1 HX.out.2.2.1 hB1 hB2) p3 p1 p2 p6
       have S8:=HF.out.2.2.2.1.upd j (oBd b (.slice (some ⟨g6,0,none⟩) ((Z++Z2).length+1) cap2) (Z++Z2++[(moveN B x,(Value.slice ao9 m c9))])) (List.getElem?_set_self hjl) (p3.mono (fun k hk hk2=>?_)) (fun k hk=>?_) hpush
       ·rw [List.set_set,hlen,List.append_assoc] at S8
        exact⟨i+1,_,Z2++[(moveN B x,(Value.slice ao9 m c9))],by omega,by go_num,by rw [List.length_append,HW.out.1]; rfl,by rw [List.map_append,HW.out.2.1,HX.out.2.2.2,List.map_append]; rfl,S8⟩
       ·show k∈bdF b vv (Z++Z2)++_
        refine List.mem_append_left _ ?_
        unfold bdF
        rcases List.mem_cons.1 hk2 with rfl | hk2
        ·simp
        ·exact List.mem_cons_of_mem _ (List.mem_append_left _ hk2)
       ·have hk:k∈bdF b (.slice (some ⟨g6,0,none⟩) ((Z++Z2).length+1) cap2) (Z++Z2++[(moveN B x,(Value.slice ao9 m c9))]):=hk
        show k∈bdF b vv (Z++Z2)++(Value.slice ao9 m c9).ownBlock.toList∨_
        unfold bdF at hk ⊢
        rw [List.flatMap_append] at hk
        rcases List.mem_cons.1 hk with rfl | hk
        ·exact .inl (by simp)
        ·rcases List.mem_append.1 hk with hk | hk
         ·obtain rfl:k=g6:=by simpa [Value.ownBlock] using hk
          rcases p6 with q1 | q1
          ·exact .inl (by simp [q1])
          ·exact .inr q1
         ·rcases List.mem_append.1 hk with hk | hk
          ·exact .inl (List.mem_append_left _ (List.mem_cons_of_mem _ (List.mem_append_right _ hk)))
          ·exact .inl (List.mem_append_right _ (by simpa using hk))
  ·obtain rfl:i=n:=by omega
   go_wp2_with fail
   go_end0
   refine⟨rfl,vv,Z2,?_,HW.out.2.2⟩
   rw [HW.out.2.1,←HS.out.2.2.2.2.1,List.take_length]
def subN (l:List Nd) (i:Nat):List Nd:=
 match shapeN l with
 | some (E,_)=>((l.take (E.getD i 0).toNat).drop i).map (moveN (-(i:Int)))
 | none=>[]
theorem kidsAt_mem {l:List Nd} {x:Nd} (hx:x∈l):∃ a,a<l.length∧kidsAt l a=x.kids:=by
 obtain⟨a,ha,rfl⟩:=List.getElem_of_mem hx
 exact⟨a,ha,by rw [kidsAt,List.getElem?_eq_getElem ha]⟩
theorem shape_kids {l:List Nd} {E D:List Int} (h:shapeN l=some (E,D)) (hl:l.length≤65536):∀ x∈l,x.kids.length≤131072∧∀ k∈x.kids,0≤k∧k≤131072:=fun x hx=>by
 obtain⟨a,ha,he⟩:=kidsAt_mem hx
 obtain⟨h0,h1,h2,h3,h4⟩:=shape_some h
 have h5:=(h4 a ha).2
 rw [he] at h5
 refine⟨by omega,fun k hk=>?_⟩
 obtain⟨j,hj⟩:=List.getElem?_of_mem hk
 have:=h3 a ha j k (by rw [he]; exact hj)
 omega
theorem NodesIn.cut {w:World} {b o:Nat} {l:List Nd} (h:NodesIn w (some ⟨b,o,none⟩) l) (i e:Nat):NodesIn w (some ⟨b,o+i*5,none⟩) ((l.take e).drop i):=fun k hk=>by
 have hk2:i+k<l.length:=by rw [List.length_drop,List.length_take] at hk; omega
 obtain⟨b2,o2,e2,hn⟩:=h (i+k) hk2
 cases e2
 refine⟨b,o+i*5,rfl,?_⟩
 rw [List.getElem_drop,List.getElem_take,show o+i*5+k*5=o+(i+k)*5 by omega]
 exact hn
theorem sub_walk (v:Value) (l:List Nd) (w:World) (h:NodesAt w v l) (i:Nat) (hi:i<l.length) (hl:l.length≤65536) (hs:shapeN l≠none) :
  Calls Tryz.prog 104 #[v,.int .i64 i] w fun e w'=>∃ v2,e=.returned v2∧Ext [] w w'∧NodesAt w' v2 (subN l i):=by
 cases hsh:shapeN l with
 | none=>exact absurd hsh hs
 | some p=>
 obtain⟨E,D⟩:=p
 have HW:=zz (shape_walk v l w h hl)
 rw [hsh] at HW
 obtain⟨R,hR⟩:∃ R,subN l i=R:=⟨_,rfl⟩
 have hR2:=hR
 rw [subN,hsh] at hR2
 simp only at hR2
 rw [hR]
 obtain⟨h0,hE,hD,hK,hEnd⟩:=shape_some hsh
 obtain⟨e1,e2⟩:=(hEnd i hi).1
 obtain⟨e,he⟩:∃ e:Nat,E.getD i 0=(e:Int):=⟨(E.getD i 0).toNat,by omega⟩
 rw [he] at e1 e2 hR2
 rw [Int.toNat_natCast] at hR2
 have hkk:=shape_kids hsh hl
 obtain⟨base,cap,rfl,hcap,hN⟩:=h
 obtain⟨b,o,rfl,-⟩:=hN 0 h0
 have hEg:E[i]? = some (e:Int):=by
  have hie:i<E.length:=by omega
  rw [←he,List.getD_eq_getElem?_getD,List.getElem?_eq_getElem hie]; rfl
 obtain⟨n,hn⟩:∃ n,l.length=n:=⟨_,rfl⟩
 have HH:=zz5 ⟨hN,hkk,hR2,hn,hEg⟩
 rw [hn] at hE hi hl e2 hcap ⊢
 rw [hn] at HW
 clear hR hR2 hsh hN hkk hn h0 hD hK hEnd he hs hEg
 go_enter Tryz.func104,Tryz.ntmps104
 go_wp2_with fail
 refine HW.out.mono ?_
 rintro ee w1 ⟨ev,dv,rfl,hx,⟨⟨eb,ec,rfl,hI⟩,-⟩⟩
 obtain⟨b3,o3,rfl,hc3⟩:=hI i (by omega)
 rw [(List.getElem?_eq_some_iff.1 HH.out.2.2.2.2).2] at hc3
 have HX:=zz hx
 rw [hE]
 have hiz:(i:Int)<(n:Int):=by omega
 clear hx HW hI hE
 go_upto_region 3 with (fail)
 obtain⟨W,hW⟩:∃ W,w1.alloc (Obj.cells #[.slice none 0 0] 156)=W:=⟨_,rfl⟩
 have hx2:Ext [] w1 W:=by rw [←hW]; exact (Ext.refl [] w1).alloc _
 have hb2:W.heap[w1.heap.size]? = some (.cells #[.slice none 0 0] 156 (0,0)):=by rw [←hW]; exact heap_alloc_at _
 obtain⟨q,hq⟩:∃ q,w1.heap.size=q:=⟨_,rfl⟩
 have S:=((Sep.start w).quiet HX.out).new hx2 (oBd q (.slice none 0 0) []) ⟨by rw [←hq]; exact hb2,World.ownsRow_nil _ _ _ _,by simp,by simp [bdF,Value.ownBlock],by simp⟩ (fun k hk=>by simp [oBd,bdF,Value.ownBlock] at hk; omega)
 rw [hq,hW]
 have hc4:=hx2.cell hc3
 have HS:=zz S
 clear S hb2 hq hW hx2 hc3 HX
 have hez:(i:Int)≤(e:Int):=by omega
 have hecap:(e:Int)≤(cap:Int):=by omega
 have hlen:((l.take e).drop i).length=e - i:=by rw [List.length_drop,List.length_take,HH.out.2.2.2.1]; omega
 have hNs:NodesAt w (.slice (some ⟨b,o+i*5,none⟩) (e - i) (cap - i)) ((l.take e).drop i):=⟨_,_,by rw [hlen],by rw [hlen]; omega,HH.out.1.cut i e⟩
 have HA:=zz (add_walk w W _ 0 q (.slice none 0 0) [] _ _ i HS.out rfl hNs (by rw [hlen]; simp; omega) (by omega) (fun x hx=>HH.out.2.1 x (List.mem_of_mem_take (List.mem_of_mem_drop hx))))
 clear hNs hlen
 go_wp2_with fail
 refine HA.out.mono ?_
 rintro ee w3 ⟨rfl,v3,Z2,hZ,S⟩
 have hP:BdP w3 q v3 Z2:=S.get 0 rfl
 have c0:w3.cell? ⟨q,0,none⟩=some v3:=cellOf hP.here 0
 have HP:=zz3 ⟨hP,S,hZ⟩
 clear hP S hZ HA hc4
 go_wp2_with fail
 go_ret
 refine⟨_,rfl,HP.out.2.1.ext,?_⟩
 have hR:=HP.out.2.2
 rw [show ((([]:List Zd).length:Nat):Int) - (i:Int) = -(i:Int) from by simp,HH.out.2.2.1] at hR
 rw [←hR]
 exact HP.out.1.nodes
def TreesIn (w:World) (base:Option Addr) (ls:List (List Nd)):Prop:=∀ i (h:i<ls.length),∃ b o vk,base=some ⟨b,o,none⟩∧w.cell? ⟨b,o+i,none⟩=some vk∧NodesAt w vk (ls[i]'h)
def TreesAt (w:World) (v:Value) (ls:List (List Nd)):Prop:=∃ base cap,v=.slice base ls.length cap∧ls.length≤cap∧TreesIn w base ls
theorem TreesIn.ext {w w' : World} {base:Option Addr} {ls:List (List Nd)} (h:TreesIn w base ls) (hx:Ext [] w w'):TreesIn w' base ls:=fun i hi=>by
 obtain⟨b,o,vk,h1,h2,h3⟩:=h i hi
 exact⟨b,o,vk,h1,hx.cell h2,h3.ext hx⟩
theorem TreesAt.ext {w w' : World} {v:Value} {ls:List (List Nd)} (h:TreesAt w v ls) (hx:Ext [] w w'):TreesAt w' v ls:=by
 obtain⟨base,cap,h1,h0,h2⟩:=h
 exact⟨base,cap,h1,h0,h2.ext hx⟩
theorem check_zero {l:List Nd} (h:checkN l=0):0<l.length∧l.length≤65536∧∃ E D,shapeN l=some (E,D)∧Lib.maxOf D≤256∧l.all (nodeOk l)=true:=by
 unfold checkN at h
 split at h
 ·cases h
 ·rename_i hn
  split at h
  ·cases h
  ·rename_i E D hs
   split at h
   ·cases h
   ·rename_i hm
    split at h
    ·rename_i ha
     exact⟨(shape_some hs).1,by omega,_,D,hs,by omega,ha⟩
    ·cases h
def firstN:List (List Nd)→Int
 | []=>0
 | l::r=>if checkN l=0 then firstN r else checkN l
def light6 (ls:List (List Nd)):Prop:=∀ l∈ls,l.length≤9223372036854775807∧∀ x∈l,x.s.size≤1000000
theorem firstN_zero:∀ {ls:List (List Nd)},firstN ls=0→∀ l∈ls,checkN l=0
 | [],_,l,hl=>by cases hl
 | x::r,h,l,hl=>by
  unfold firstN at h
  split at h
  ·rename_i hx
   rcases List.mem_cons.1 hl with rfl | hl
   ·exact hx
   ·exact firstN_zero h l hl
  ·rename_i hx
   exact absurd h hx
theorem first_walk (v:Value) (ls:List (List Nd)) (w:World) (h:TreesAt w v ls) (hn:ls.length≤1048576) (hls:light6 ls) :
  Calls Tryz.prog 67 #[v] w fun e w'=>e=.returned (.int .i64 (firstN ls))∧Ext [] w w':=by
 obtain⟨base,cap,rfl,-,hT⟩:=h
 obtain⟨n,hln⟩:∃ n,ls.length=n:=⟨_,rfl⟩
 obtain⟨R,hR⟩:∃ R,firstN ls=R:=⟨_,rfl⟩
 have HH:=zz4 ⟨hT,hls,hln,hR⟩
 rw [hR]
 rw [hln] at hn ⊢
 clear hT hls hln hR
 go_enter Tryz.func67,Tryz.ntmps67
 go_wp2_with fail
 go_loopg [2,8] n (fun g v2 iv wr=>∃ i:Nat,g+i=n∧iv=.int .i64 i∧firstN (ls.drop i)=R∧Ext [] w wr)
 case atStart=>exact⟨0,by omega,rfl,HH.out.2.2.2,Ext.refl _ _⟩
 case round=>
  obtain⟨i,hgi,rfl,hR,hx⟩:=hrel
  by_cases hlt:i<n
  ·obtain⟨g,rfl⟩:∃ g,gk=g+1:=⟨gk - 1,by omega⟩
   have hltz:(i:Int)<(n:Int):=by omega
   have hil:i<ls.length:=by rw [HH.out.2.2.1]; exact hlt
   rw [drop_at ls i hil,firstN] at hR
   obtain⟨b,o,vk,rfl,hc,hN⟩:=HH.out.1.ext hx i hil
   obtain⟨h1,h2⟩:=HH.out.2.1 _ (List.getElem_mem hil)
   have HC:=zz (check_walk vk _ wr hN h1 h2)
   have HX:=zz2 ⟨hx,hR⟩
   clear hx hR hN h1 h2
   generalize checkN (ls[i]'hil)=e at HC HX
   go_wp2_with fail
   refine HC.out.mono ?_
   rintro ee w2 ⟨rfl,hx2⟩
   have HX2:=zz (HX.out.1.trans hx2)
   clear hx2 HC hc
   by_cases he:e=0
   ·subst he
    go_wp2_with fail
    go_roundg g
    case measure=>omega
    case rel=>exact⟨i+1,by omega,by go_num,by simpa using HX.out.2,HX2.out⟩
   ·have heb:(e != 0)=true:=bne_iff_ne.2 he
    have hR:R=e:=by have:=HX.out.2; rw [if_neg he] at this; exact this.symm
    subst hR
    go_wp2_with fail
    go_ret
    exact⟨rfl,HX2.out⟩
  ·obtain rfl:gk=0:=by omega
   have hR0:R=0:=by rw [←hR,List.drop_eq_nil_of_le (by rw [HH.out.2.2.1]; omega)]; rfl
   subst hR0
   have HX:=zz hx
   clear hx hR
   go_wp2_with fail
   go_ret
   exact⟨rfl,HX.out⟩
theorem BdP.kid {w w1:World} {b g5 c5 g6 cap2:Nat} {x:Nd} {kv:Value} {Z:List Zd} {c:Int} {O:Obj} (h:BdP w b (.slice (some ⟨g5,0,none⟩) (Z.length+1) c5) ((x,kv)::Z))
  (hown:w1.ownsRow 0 3 1 (.slice (some ⟨g6,0,none⟩) (x.kids.length+1) cap2) (x.kids.length+1) (x.kids.map iz++[.int .i64 c])) (hgrow:(w.alloc O).grownBy w1 kv.ownBlock) (hat:kv.ownBlock=some g6∨g6=w.heap.size+1)
  (hc : -9223372036854775808≤c∧c≤9223372036854775807) (hkl:x.kids.length+1≤9223372036854775807) :
  BdP (w1.setCell ⟨g5,4,none⟩ (.slice (some ⟨g6,0,none⟩) (x.kids.length+1) cap2)) b (.slice (some ⟨g5,0,none⟩) (Z.length+1) c5) (({ x with kids:=x.kids++[c]},.slice (some ⟨g6,0,none⟩) (x.kids.length+1) cap2)::Z)∧
  Ext (bdF b (.slice (some ⟨g5,0,none⟩) (Z.length+1) c5) ((x,kv)::Z)) w (w1.setCell ⟨g5,4,none⟩ (.slice (some ⟨g6,0,none⟩) (x.kids.length+1) cap2))∧
  Fr w (bdF b (.slice (some ⟨g5,0,none⟩) (Z.length+1) c5) ((x,kv)::Z)) (bdF b (.slice (some ⟨g5,0,none⟩) (Z.length+1) c5) (({ x with kids:=x.kids++[c]},.slice (some ⟨g6,0,none⟩) (x.kids.length+1) cap2)::Z)):=by
 have lt:=(oBd b _ _).lt h
 have hd:=h.dup
 have hF:bdF b (.slice (some ⟨g5,0,none⟩) (Z.length+1) c5) ((x,kv)::Z)=b::g5::(kv.ownBlock.toList++Z.flatMap fun p=>p.2.ownBlock.toList):=by simp [bdF,Value.ownBlock]
 have hF2:bdF b (.slice (some ⟨g5,0,none⟩) (Z.length+1) c5) (({ x with kids:=x.kids++[c]},.slice (some ⟨g6,0,none⟩) (x.kids.length+1) cap2)::Z)=b::g5::g6::(Z.flatMap fun p=>p.2.ownBlock.toList):=by simp [bdF,Value.ownBlock]
 have ltF:∀ k∈b::g5::(kv.ownBlock.toList++Z.flatMap fun p=>p.2.ownBlock.toList),k<w.heap.size:=fun k hk=>lt k (by show k∈bdF _ _ _; rw [hF]; exact hk)
 rw [hF] at hd ⊢
 rw [hF2]
 rw [List.nodup_cons,List.nodup_cons,List.nodup_append] at hd
 obtain⟨d1,d2,d3,d4,d5⟩:=hd
 have g6n:∀ k,k<w.heap.size→kv.ownBlock≠some k→g6≠k:=fun k hk hne e=>by
  subst e
  rcases hat with q | q
  ·exact hne q
  ·omega
 have k5:kv.ownBlock≠some g5:=fun e=>d2 (List.mem_append_left _ (by simp [e]))
 have kb:kv.ownBlock≠some b:=fun e=>d1 (List.mem_cons_of_mem _ (List.mem_append_left _ (by simp [e])))
 have h65:g6≠g5:=g6n g5 (ltF g5 (by simp)) k5
 have h6b:g6≠b:=g6n b (ltF b (by simp)) kb
 have hbg:b≠g5:=fun e=>d1 (by simp [e])
 have hx:Ext kv.ownBlock.toList w w1:=((Ext.refl _ w).alloc _).grown hgrow (fun k hk=>.inl (by simp [hk]))
 have hrow:w1.ownsRow 0 41 5 (.slice (some ⟨g5,0,none⟩) (Z.length+1) c5) (Z.length+1) (rowN ((x,kv)::Z)):=ownsRow_ext h.row hx (fun g hg hm=>by
  obtain rfl:g5=g:=by simpa [Value.ownBlock] using hg
  exact k5 (by simpa using hm))
 refine⟨⟨?_,?_,fun p hp=>?_,?_,fun p hp=>?_⟩,?_,fun k hk=>?_⟩
 ·rw [heap_setCell_ne _ hbg]
  exact hx.keep h.here (by simpa using kb)
 ·have h2:=row_put (i:=4) hrow (.slice (some ⟨g6,0,none⟩) (x.kids.length+1) cap2)
  exact h2
 ·rcases List.mem_cons.1 hp with rfl | hp
  ·have h2:=ownsRow_setCell_other hown (a:=⟨g5,4,none⟩) (fun e=>h65 (by simpa [Value.ownBlock] using e)) (.slice (some ⟨g6,0,none⟩) (x.kids.length+1) cap2)
   show (w1.setCell _ _).ownsRow 0 3 1 _ (x.kids++[c]).length ((x.kids++[c]).map iz)
   rw [List.length_append,List.map_append]
   exact h2
  ·have hk0:=h.kids p (List.mem_cons_of_mem _ hp)
   have h1:=ownsRow_ext hk0 hx (fun g hg hm=>d5 g (by simpa using hm) g (mem_kidF hp hg) rfl)
   refine ownsRow_setCell_other h1 (fun e=>?_) _
   exact d2 (List.mem_append_right _ (mem_kidF hp e))
 ·rw [hF2,List.nodup_cons,List.nodup_cons,List.nodup_cons]
  refine⟨?_,?_,?_,d4⟩
  ·intro hm
   rcases List.mem_cons.1 hm with e | hm
   ·exact hbg e
   ·rcases List.mem_cons.1 hm with e | hm
    ·exact h6b e.symm
    ·exact d1 (List.mem_cons_of_mem _ (List.mem_append_right _ hm))
  ·intro hm
   rcases List.mem_cons.1 hm with e | hm
   ·exact h65 e.symm
   ·exact d2 (List.mem_append_right _ hm)
  ·intro hm
   rcases hat with q | q
   ·exact d5 g6 (by simp [q]) g6 hm rfl
   ·have:=ltF g6 (List.mem_cons_of_mem _ (List.mem_cons_of_mem _ (List.mem_append_right _ hm))); omega
 ·rcases List.mem_cons.1 hp with rfl | hp
  ·have hw:=h.wf (x,kv) (by simp)
   refine⟨hw.n,hw.s,by show (x.kids++[c]).length≤_; rw [List.length_append]; exact hkl,fun k hk=>?_⟩
   rcases List.mem_append.1 hk with hk | hk
   ·exact hw.kids k hk
   ·obtain rfl:k=c:=by simpa using hk
    exact hc
  ·exact h.wf p (List.mem_cons_of_mem _ hp)
 ·refine (hx.mono (fun k _ hk=>?_)).setCell _ _ (.inl (by simp))
  exact List.mem_cons_of_mem _ (List.mem_cons_of_mem _ (List.mem_append_left _ hk))
 ·rcases List.mem_cons.1 hk with rfl | hk
  ·exact .inl (by simp)
  ·rcases List.mem_cons.1 hk with rfl | hk
   ·exact .inl (by simp)
   ·rcases List.mem_cons.1 hk with rfl | hk
    ·rcases hat with q | q
     ·exact .inl (by simp [q])
     ·exact .inr (by omega)
    ·exact .inl (List.mem_cons_of_mem _ (List.mem_cons_of_mem _ (List.mem_append_right _ hk)))
def rootN (kind:Int) (K:List Int):Nd:=⟨kind,0,0,⟨#[]⟩,K⟩
def underF (kind:Int):List (List Nd)→List Int→List Nd→List Nd×Int
 | [],K,M=>if checkN (rootN kind K::M)=0 then (rootN kind K::M,0) else ([],checkN (rootN kind K::M))
 | x::r,K,M=>if 65536<1+M.length+x.length then ([],3) else underF kind r (K++[((1+M.length:Nat):Int)]) (M++x.map (moveN ((1+M.length:Nat):Int)))
def underN (kind:Int) (ls:List (List Nd)):List Nd×Int:=underF kind ls [] []
theorem checked_kids {l:List Nd} (h:checkN l=0):l.length≤65536∧∀ x∈l,x.kids.length≤131072∧∀ k∈x.kids,0≤k∧k≤131072:=by
 obtain⟨h0,h1,E,D,hs,_⟩:=check_zero h
 exact⟨h1,shape_kids hs h1⟩
def arrayN (ls:List (List Nd)):List Nd×Int:=if firstN ls=0 then underN 7 ls else ([],firstN ls)
end Tr
end Go.Proofs.YtljachhmdogkdaaGreatDoor
