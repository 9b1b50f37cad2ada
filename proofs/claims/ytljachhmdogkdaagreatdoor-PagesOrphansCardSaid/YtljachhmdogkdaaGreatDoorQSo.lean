/-
 Texts SoA, SoB, PgA, as far as the statement needs them.
-/
import Derived.Test.YtljachhmdogkdaaGreatDoorQPkU
import Derived.Test.YtljachhmdogkdaaGreatDoorQRdA
import Derived.Test.YtljachhmdogkdaaGreatDoorQShB
import Derived.Test.YtljachhmdogkdaaGreatDoorQShC
import Derived.Shelf.SlSortCmp.WholeK
import Derived.Shelf.SlSortCmp.NoneTotal
set_option maxRecDepth 100000
set_option maxHeartbeats 64000000
namespace Go.Proofs.YtljachhmdogkdaaGreatDoor
namespace So
open Go.RowKit
open Tr
section
variable {α:Type} {enc:α→List Value} {k:Nat}
theorem flat_at (hk:∀ x,(enc x).length=k):∀ (l:List α) (i c:Nat) (h:i<l.length),c<k→(l.flatMap enc)[i*k+c]? = (enc (l[i]'h))[c]?
 | [],i,c,h,_=>by simp at h
 | x::l,i,c,h,hc=>by
  rw [List.flatMap_cons]
  cases i with
  | zero=>rw [Nat.zero_mul,Nat.zero_add,List.getElem?_append_left (by rw [hk]; exact hc)]; rfl
  | succ i=>
   rw [List.getElem?_append_right (by rw [hk,Nat.succ_mul]; omega),hk,show (i+1)*k+c - k=i*k+c by rw [Nat.succ_mul]; omega]
   exact flat_at hk l i c (by simpa using h) hc
theorem flatK_at [Inhabited α] (hk:∀ x,(enc x).length=k) (l:List α) (j:Nat) (hj:j<l.length*k):(l.flatMap enc)[j]? = some ((Go.Sort.flatK enc k l.toArray)[j]!):=by
 rw [Go.Sort.get_flatK _ _ _ _ (by simpa using hj)]
 have h0:0<k:=by
  rcases Nat.eq_zero_or_pos k with h | h
  ·subst h; simp at hj
  ·exact h
 have hi:j / k<l.length:=Nat.div_lt_of_lt_mul (by rw [Nat.mul_comm]; exact hj)
 have hc:j % k<k:=Nat.mod_lt _ h0
 have he:l.toArray[j / k]! = l[j / k]'hi:=by
  rw [getElem!_pos l.toArray (j / k) (by simpa using hi)]
  simp
 rw [he]
 have h1:=flat_at hk l (j / k) (j % k) hi hc
 rw [show j / k*k+j % k=j by rw [Nat.mul_comm]; exact Nat.div_add_mod j k] at h1
 rw [h1,getElem!_pos (enc (l[j / k]'hi)) (j % k) (by rw [hk]; exact hc)]
 exact List.getElem?_eq_getElem _
theorem row_holds [Inhabited α] (hk:∀ x,(enc x).length=k) {w:World} {E:TypeId} {g cap:Nat} {l:List α} (h:w.ownsRow 0 E k (.slice (some ⟨g,0,none⟩) l.length cap) l.length (l.flatMap enc)):Go.Sort.HoldsK enc k w g 0 l.toArray:=fun j hj=>by
 rw [Go.Sort.size_flatK,List.size_toArray] at hj
 rw [Nat.zero_add]
 exact⟨row_cell h (flatK_at hk l j hj),row_free h j⟩
theorem ext_sorted [Inhabited α] (enc:α→List Value) (k:Nat) (w:World) (g n:Nat) (d:Array α) (os:Array Obj):Ext [g] w (Go.Proofs.sortWorldK enc k w g 0 n d os):=by
 refine⟨rfl,rfl,rfl,?_,fun q hq hS=>?_⟩
 ·unfold Go.Proofs.sortWorldK Go.Sort.putRowK
  rw [Go.Sort.size_grow,Go.Sort.size_putRow]
  exact Nat.le_add_right _ _
 ·have hne:¬ g=q:=fun e=>hS (by simp [e])
  unfold Go.Proofs.sortWorldK Go.Sort.putRowK
  rw [Go.Sort.heap_grow_old _ _ (by rw [Go.Sort.size_putRow]; exact hq)]
  unfold Go.Sort.putRow Go.Sort.mapBlock
  rw [Array.getElem?_modify,if_neg hne]
  rfl
def Cells (w:World) (k:Nat) (enc:α→List Value) (v:Value) (E:List α):Prop:=∃ base cap,v=.slice base E.length cap∧E.length≤cap∧∀ i (h:i<E.length),∃ b o,base=some ⟨b,o,none⟩∧∀ c x,(enc (E[i]'h))[c]? = some x→w.cell? ⟨b,o+i*k+c,none⟩=some x
theorem cells_holds [Inhabited α] (hk:∀ x,(enc x).length=k) {w:World} {g cap:Nat} {d:Array α} (h:Go.Sort.HoldsK enc k w g 0 d) (hc:d.size≤cap):Cells w k enc (.slice (some ⟨g,0,none⟩) d.toList.length cap) d.toList:=by
 refine⟨some ⟨g,0,none⟩,cap,rfl,by simpa using hc,fun i hi=>⟨g,0,rfl,fun c x hx=>?_⟩⟩
 have hi2:i<d.size:=by simpa using hi
 rw [Array.getElem_toList] at hx
 have hck:c<k:=by rw [←hk (d[i]'hi2)]; exact (List.getElem?_eq_some_iff.1 hx).1
 have c0:=(h.cell (c:=c) hi2 hck).1
 rw [getElem!_pos d i hi2,getElem!_pos _ c (by rw [hk]; exact hck)] at c0
 rw [(List.getElem?_eq_some_iff.1 hx).2] at c0
 exact c0
theorem sorted_gen [Inhabited α] {lt:α→α→Bool} (hasy:∀ x y,lt x y=true→lt y x=false) {l E:List α} (hp:E.Perm l) (hs:E.Pairwise fun x y=>lt x y=true) {d:Array α} (hp2:Go.Sort.PermIn 0 l.toArray.size l.toArray d) (hs2:Go.Sort.SortedIn lt 0 l.toArray.size d):d.toList=E:=by
 obtain⟨hz,-,hpm⟩:=hp2
 have e1:d.extract 0 l.toArray.size=d:=by rw [←hz]; exact Array.extract_size
 have e2:l.toArray.extract 0 l.toArray.size=l.toArray:=Array.extract_size
 rw [e1,e2] at hpm
 have hpm:d.toList.Perm l:=by simpa using hpm
 have hPE:d.toList.Perm E:=hpm.trans hp.symm
 refine List.Perm.eq_of_pairwise (le:=fun x y=>lt y x=false) (fun a b ha hb h1 h2=>?_) ?_ (hs.imp (fun h=>hasy _ _ h)) hPE
 ·have ha:=hPE.subset ha
  obtain⟨i,hi,rfl⟩:=List.getElem_of_mem ha
  obtain⟨j,hj,rfl⟩:=List.getElem_of_mem hb
  rw [List.pairwise_iff_getElem] at hs
  by_cases hij:i=j
  ·subst hij; rfl
  ·by_cases hlt:i<j
   ·have:=hs i j hi hj hlt; rw [h2] at this; cases this
   ·have:=hs j i hj hi (by omega); rw [h1] at this; cases this
 ·rw [List.pairwise_iff_getElem]
  intro i j hi hj hij
  have:=hs2 i j (by omega) hij (by rw [←hz]; simpa using hj)
  rw [getElem!_pos d i (by simpa using hi),getElem!_pos d j (by simpa using hj)] at this
  rw [Array.getElem_toList,Array.getElem_toList]
  exact this
variable (p q:α→Int)
abbrev cf2 (x y:α):Int:=if Lib.compareInt (p x) (p y)≠0 then Lib.compareInt (p x) (p y) else Lib.compareInt (q x) (q y)
theorem cmp_neg (a b:Int):(Lib.compareInt a b<0↔a<b)∧(Lib.compareInt a b=0↔a=b):=by
 unfold Lib.compareInt
 by_cases h:a<b
 ·rw [if_pos h]; constructor <;> constructor <;> intro _ <;> first | omega | skip
 ·rw [if_neg h]
  by_cases h2:a=b
  ·simp [h2]
  ·constructor <;> constructor <;> intro h3 <;> first | omega | (split at h3 <;> omega) | (split <;> omega)
theorem lt2 (x y:α):ltOf (cf2 p q) x y=decide (p x<p y∨p x=p y∧q x<q y):=by
 unfold ltOf cf2
 have h1:=cmp_neg (p x) (p y)
 have h2:=cmp_neg (q x) (q y)
 by_cases h:Lib.compareInt (p x) (p y)=0
 ·rw [if_neg (by simp [h])]
  have:=h1.2.1 h
  congr 1
  apply propext
  rw [h2.1]
  constructor <;> intro h <;> omega
 ·rw [if_pos h]
  have hne:p x≠p y:=fun e=>h (h1.2.2 e)
  congr 1
  apply propext
  rw [h1.1]
  constructor <;> intro h <;> omega
theorem swo2:Go.Sort.SWO (ltOf (cf2 p q)) where
 irrefl:=fun x=>by rw [lt2]; exact decide_eq_false (by omega)
 trans:=fun x y z h1 h2=>by
  rw [lt2] at h1 h2 ⊢
  have h1:=of_decide_eq_true h1
  have h2:=of_decide_eq_true h2
  exact decide_eq_true (by omega)
 ntrans:=fun x y z h1 h2=>by
  rw [lt2] at h1 h2 ⊢
  have h1:=of_decide_eq_false h1
  have h2:=of_decide_eq_false h2
  exact decide_eq_false (by omega)
theorem asy2 (x y:α) (h:ltOf (cf2 p q) x y=true):ltOf (cf2 p q) y x=false:=by
 rw [lt2] at h ⊢
 have:=of_decide_eq_true h
 exact decide_eq_false (by omega)
abbrev cf1 (x y:α):Int:=Lib.compareInt (p x) (p y)
theorem lt1 (x y:α):ltOf (cf1 p) x y=decide (p x<p y):=by
 unfold ltOf cf1
 congr 1
 exact propext (cmp_neg (p x) (p y)).1
theorem swo1:Go.Sort.SWO (ltOf (cf1 p)) where
 irrefl:=fun x=>by rw [lt1]; exact decide_eq_false (by omega)
 trans:=fun x y z h1 h2=>by
  rw [lt1] at h1 h2 ⊢
  have h1:=of_decide_eq_true h1
  have h2:=of_decide_eq_true h2
  exact decide_eq_true (by omega)
 ntrans:=fun x y z h1 h2=>by
  rw [lt1] at h1 h2 ⊢
  have h1:=of_decide_eq_false h1
  have h2:=of_decide_eq_false h2
  exact decide_eq_false (by omega)
theorem asy1 (x y:α) (h:ltOf (cf1 p) x y=true):ltOf (cf1 p) y x=false:=by
 rw [lt1] at h ⊢
 have:=of_decide_eq_true h
 exact decide_eq_false (by omega)
end
def Gr (w:World):Type:={ w' : World // ∃ q os,w' = Go.Sort.grow (w.drewN q) os }
def Gr.w {w:World} (x:Gr w):World:=x.val
instance (w:World):Nonempty (Gr w):=⟨⟨Go.Sort.grow (w.drewN 0) #[],0,#[],rfl⟩⟩
theorem Gr.ext {w:World} (x:Gr w):Ext [] w x.w:=by
 obtain⟨w',q,os,rfl⟩:=x
 refine⟨rfl,rfl,rfl,?_,fun i hi _=>?_⟩
 ·show w.heap.size≤(Go.Sort.grow (w.drewN q) os).heap.size
  rw [Go.Sort.size_grow]
  exact Nat.le_add_right _ _
 ·exact Go.Sort.heap_grow_old _ _ hi
theorem Calls.gr_of {P:Program} {f:FuncId} {args:Array Value} {w:World} {x:Gr w} {v:Value} (h:Calls P f args x.w fun e w'=>e=.returned v∧w' = x.w):Calls P f args x.w fun e w''=>e=.returned v∧∃ y:Gr w,w'' = y.w:=
 h.mono fun _ _ ⟨he,hm⟩=>⟨he,x,hm⟩
theorem grow_alloc (w:World) (q:Nat) (os:Array Obj) (o:Obj):(Go.Sort.grow (w.drewN q) os).alloc o=Go.Sort.grow (w.drewN q) (os++#[o]):=by rw [Go.Sort.alloc_eq_grow,Go.Sort.grow_grow]
theorem grow_base (w:World) (q:Nat) (os os' : Array Obj):Go.Sort.grow ((Go.Sort.grow w os).drewN q) os' = Go.Sort.grow (w.drewN q) (os++os'):=by
 rw [←Go.Sort.grow_grow]
 rfl
theorem Gr.base {w w0:World} {os:Array Obj} (h:w=Go.Sort.grow w0 os) (x:Gr w):∃ q os',x.w=Go.Sort.grow (w0.drewN q) os':=by
 obtain⟨w',q,os',rfl⟩:=x
 exact⟨q,os++os',by subst h; exact grow_base w0 q os os'⟩
theorem Gr.start (w:World):∃ y:Gr w,({ w with drawn:=w.drawn+1 }:World)=y.w:=⟨⟨_,1,#[],rfl⟩,by
 show _=Go.Sort.grow (w.drewN 1) #[]
 simp [Go.Sort.grow]
 rfl⟩
theorem or_walk (a b:Int) (g:Nat) (w:World) (h0:w.cell? ⟨g,0,none⟩=some (.int .i64 a)) (h1:w.cell? ⟨g,1,none⟩=some (.int .i64 b)) :
  Calls Tryz.prog 39 #[.slice (some ⟨g,0,none⟩) 2 2] w fun e w'=>e=.returned (.int .i64 (if a≠0 then a else b))∧w' = w:=by
 obtain⟨R,hR⟩:∃ R,(if a≠0 then a else b)=R:=⟨_,rfl⟩
 have HR:=zz hR
 have HC:=zz2 ⟨h0,h1⟩
 rw [hR]
 clear hR h0 h1
 go_enter Tryz.func39,Tryz.ntmps39
 go_wp2_with fail
 go_loopg [2,5,8] 2 (fun gk v2 v5 iv wr=>wr=w∧((gk=2∧iv=.int .i64 0)∨(gk=1∧iv=.int .i64 1∧a=0)∨(gk=0∧iv=.int .i64 2∧a=0∧b=0)))
 case atStart=>exact⟨rfl,.inl ⟨rfl,rfl⟩⟩
 case round=>
  obtain⟨rfl,(⟨rfl,rfl⟩ | ⟨rfl,rfl,ha⟩ | ⟨rfl,rfl,ha,hb⟩)⟩:=hrel
  ·have h0:=HC.out.1
   by_cases ha:a=0
   ·have HA:=zz ha
    have hz:(a != 0)=false:=by simp [ha]
    clear ha
    go_wp2_with fail
    go_roundg 1
    case measure=>omega
    case rel=>exact⟨rfl,.inr (.inl ⟨rfl,rfl,HA.out⟩)⟩
   ·have hz:(a != 0)=true:=bne_iff_ne.2 ha
    have hR:=HR.out
    rw [if_pos ha] at hR
    subst hR
    clear ha
    go_wp2_with fail
    go_ret
    exact⟨rfl,rfl⟩
  ·have h1:=HC.out.2
   have hR:=HR.out
   rw [if_neg (by simp [ha])] at hR
   subst hR
   by_cases hb:b=0
   ·have HA:=zz2 ⟨ha,hb⟩
    have hz:(b != 0)=false:=by simp [hb]
    clear ha hb
    go_wp2_with fail
    go_roundg 0
    case measure=>omega
    case rel=>exact⟨rfl,.inr (.inr ⟨rfl,rfl,HA.out.1,HA.out.2⟩)⟩
   ·have hz:(b != 0)=true:=bne_iff_ne.2 hb
    clear ha hb
    go_wp2_with fail
    go_ret
    exact⟨rfl,rfl⟩
  ·have hR:=HR.out
   rw [if_neg (by simp [ha]),hb] at hR
   subst hR
   clear ha hb
   go_wp2_with fail
   go_ret
   exact⟨rfl,rfl⟩
open Rc
structure Os where
 num:Int
 gen:Int
 tb:Option Addr
 tn:Nat
 tc:Nat
 st:Bool
 dt:ByteArray
instance:Inhabited Os:=⟨⟨0,0,none,0,0,false,⟨#[]⟩⟩⟩
abbrev osV (x:Os):Value:=.agg #[.int .i64 x.num,.int .i64 x.gen,.slice x.tb x.tn x.tc,.bool x.st,.string x.dt]
theorem mend1_walk (x y:Os) (W:World):Calls Tryz.prog 35 #[osV x,osV y] W
  fun e w'=>e=.returned (.int .i64 (cf1 Os.num x y))∧∃ q os',w' = Go.Sort.grow (W.drewN q) os':=by
 obtain⟨xn,xg,xb,xl,xc,xs,xd⟩:=x
 obtain⟨yn,yg,yb,yl,yc,ys,yd⟩:=y
 have hcon:=zz (fun W'=>Tryz.cmp_Compare_int xn yn W')
 show Calls _ _ #[.agg #[.int .i64 xn,.int .i64 xg,.slice xb xl xc,.bool xs,.string xd],.agg #[.int .i64 yn,.int .i64 yg,.slice yb yl yc,.bool ys,.string yd]] _ fun e w'=>e=.returned (.int .i64 (Lib.compareInt xn yn))∧_
 generalize Lib.compareInt xn yn=r at hcon ⊢
 go_enter Tryz.func35,Tryz.ntmps35
 go_wp2_with (go_at_call 36; refine (hcon.out _).mono ?_; rintro e w' ⟨rfl,rfl⟩)
 go_ret
 exact⟨rfl,0,_,by rw [Go.Sort.alloc_eq_grow,Go.Sort.alloc_eq_grow,Go.Sort.grow_grow]; rfl⟩
abbrev encO (x:Os):List Value:=[.int .i64 x.num,.int .i64 x.gen,.slice x.tb x.tn x.tc,.bool x.st,.string x.dt]
theorem encO_one (x:Os) (v:Value) (h:v∈encO x):v.oneCell' = true:=by
 simp [encO] at h
 rcases h with rfl | rfl | rfl | rfl | rfl <;> rfl
theorem sortO (l E:List (Os)) (v:Value) (w:World) (h:w.ownsRow 0 35 5 v l.length (l.flatMap encO)) (hp:E.Perm l) (hs:E.Pairwise fun x y=>ltOf (cf1 Os.num) x y=true) (hn:l.length≤1048576) :
  Calls Tryz.prog 34 #[v,.func (.func 35) #[] #[]] w fun e w'=>e=.returned (.tuple #[])∧Ext v.ownBlock.toList w w'∧Cells w' 5 encO v E:=by
 by_cases h0:l.length=0
 ·obtain⟨ao,cap,rfl⟩:=row_slice h
  have hE:E=[]:=List.length_eq_zero_iff.1 (by rw [hp.length_eq]; exact h0)
  subst hE
  rw [h0]
  have hcon:=AnyF.slices_SortFunc_none (P:=Tryz.prog) (ρ:=Tryz.sortOb_ren) { Tryz.sortOb with } ao cap (.func (.func 35) #[] #[]) w
  refine hcon.mono ?_
  rintro e w' ⟨rfl,rfl⟩
  exact⟨rfl,Ext.refl _ _,ao,cap,rfl,Nat.zero_le _,fun i hi=>by simp at hi⟩
 ·obtain⟨g,cap,rfl⟩:=row_form h (by omega)
  have eg:∀ args w,(callFunc 35 args).run Tryz.prog w=.ok (.enter 35 args) w:=enters_of Tryz.func35 (by kernel_rfl) rfl
  have hblk:g<w.heap.size:=by
   have:=h.lt g (by simp [Value.ownBlock])
   exact this.2
  have hH:=row_holds (enc:=encO) (fun _=>rfl) h
  have hcap:=row_le h
  have hcon:=AnyQ.slices_SortFunc Tryz.sortOb 5 Tryz.isAgg35 Tryz.sizeOf35 encO (fun _=>rfl) encO_one (cf1 Os.num) (swo1 Os.num) 35 #[] g 0 cap l.toArray w eg (fun m os dk _ x y=>mend1_walk x y _) hH hblk (by simp; omega)
  refine hcon.mono ?_
  rintro e w' ⟨rfl,d,n,os,hpm,hso,rfl⟩
  have hd:=sorted_gen (fun x y=>asy1 Os.num x y) hp hs hpm hso
  have hz:d.size=l.length:=by have:=hpm.1; simpa using this
  refine⟨rfl,by simpa [Value.ownBlock] using ext_sorted encO 5 w g n d os,?_⟩
  have hH2:=holdsK_sortWorldK_c encO 5 w g 0 l.toArray d n os hH hblk (by rw [hz]; simp)
  have:=cells_holds (enc:=encO) (cap:=cap) (fun _=>rfl) hH2 (by rw [hz]; exact hcap)
  rw [hd] at this
  rw [show l.length=E.length from hp.length_eq.symm]
  exact this
abbrev n1:Rf→Int:=fun x=>x.1
abbrev n2:Rf→Int:=fun x=>x.2
theorem mend2_walk (x y:Rf) (W:World):Calls Tryz.prog 38 #[mkR x,mkR y] W
  fun e w'=>e=.returned (.int .i64 (cf2 n1 n2 x y))∧∃ q os',w' = Go.Sort.grow (W.drewN q) os':=by
 obtain⟨x1,x2⟩:=x
 obtain⟨y1,y2⟩:=y
 have h1:=zz (fun W'=>Tryz.cmp_Compare_int x1 y1 W')
 have h2:=zz (fun W'=>Tryz.cmp_Compare_int x2 y2 W')
 show Calls _ _ #[.agg #[.int .i64 x1,.int .i64 x2],.agg #[.int .i64 y1,.int .i64 y2]] _ fun e w'=>e=.returned (.int .i64 (if Lib.compareInt x1 y1≠0 then Lib.compareInt x1 y1 else Lib.compareInt x2 y2))∧_
 generalize Lib.compareInt x1 y1=r at h1 ⊢
 generalize Lib.compareInt x2 y2=s at h2 ⊢
 obtain⟨R,hR⟩:∃ R,(if r≠0 then r else s)=R:=⟨_,rfl⟩
 have HO:=zz (fun g W' h0 h1=>or_walk r s g W' h0 h1)
 rw [hR] at HO ⊢
 clear hR
 obtain⟨V,hV⟩:∃ V,(W.alloc (.cells #[.int .i64 x1,.int .i64 x2] 47)).alloc (.cells #[.int .i64 y1,.int .i64 y2] 47)=V:=⟨_,rfl⟩
 have hbA:V.heap[W.heap.size]? = some (.cells #[.int .i64 x1,.int .i64 x2] 47 (0,0)):=by rw [←hV]; exact heap_alloc_old _ (heap_alloc_at _)
 have hbB:V.heap[W.heap.size+1]? = some (.cells #[.int .i64 y1,.int .i64 y2] 47 (0,0)):=by
  have:=heap_alloc_at (w:=W.alloc (.cells #[.int .i64 x1,.int .i64 x2] 47)) (.cells #[.int .i64 y1,.int .i64 y2] 47)
  rw [show (W.alloc (.cells #[.int .i64 x1,.int .i64 x2] 47)).heap.size=W.heap.size+1 from by simp,hV] at this
  exact this
 have hVg:V=Go.Sort.grow W #[.cells #[.int .i64 x1,.int .i64 x2] 47 (0,0),.cells #[.int .i64 y1,.int .i64 y2] 47 (0,0)]:=by rw [←hV,Go.Sort.alloc_eq_grow,Go.Sort.alloc_eq_grow,Go.Sort.grow_grow]; rfl
 have HV:=zz hVg
 have k0:∀ y:Gr V,y.w.cell? ⟨W.heap.size,0,none⟩=some (.int .i64 x1):=fun y=>y.ext.cell (cellOf hbA 0)
 have k1:∀ y:Gr V,y.w.cell? ⟨W.heap.size,1,none⟩=some (.int .i64 x2):=fun y=>y.ext.cell (cellOf hbA 1)
 have k2:∀ y:Gr V,y.w.cell? ⟨W.heap.size+1,0,none⟩=some (.int .i64 y1):=fun y=>y.ext.cell (cellOf hbB 0)
 have k3:∀ y:Gr V,y.w.cell? ⟨W.heap.size+1,1,none⟩=some (.int .i64 y2):=fun y=>y.ext.cell (cellOf hbB 1)
 clear hbA hbB hVg
 go_enter Tryz.func38,Tryz.ntmps38
 go_upto_region 1 with (fail)
 (try rw [hV])
 clear hV
 refine wp_region_quiet_tail (C:=fun w'=>∃ y:Gr V,w' = y.w) 10 (by kernel_rfl) (by kernel_rfl) (Gr.start V) ?_
 simp only [List.take_succ_cons,List.take_zero,List.drop_succ_cons,List.drop_zero]
 repeat (go_big_quiet_step (fail))
 go_big_quiet_step ((go_at_call 36; refine Calls.gr_of (h1.out _)))
 repeat (go_big_quiet_step (fail))
 go_big_quiet_step ((go_at_call 36; refine Calls.gr_of (h2.out _)))
 refine wpQuiet_nil ?_
 rintro _ ⟨y,rfl⟩
 obtain⟨q,os,hy⟩:=y.base HV.out
 have HY:=zz hy
 clear hy k0 k1 k2 k3
 go_wp2_with fail
 have hb:=heap_alloc_at (w:=y.w) (.cells #[.int .i64 r,.int .i64 s] 3)
 refine (HO.out _ _ (cellOf hb 0) (cellOf hb 1)).mono ?_
 rintro e w2 ⟨rfl,rfl⟩
 clear hb
 go_wp2_with fail
 go_ret
 exact⟨rfl,q,_,by rw [HY.out]; exact grow_alloc _ _ _ _⟩
abbrev encN (x:Rf):List Value:=[.int .i64 x.1,.int .i64 x.2]
theorem encN_one (x:Rf) (v:Value) (h:v∈encN x):v.oneCell' = true:=by
 simp [encN] at h
 rcases h with rfl | rfl <;> rfl
theorem sortN2 (l E:List (Rf)) (v:Value) (w:World) (h:w.ownsRow 0 47 2 v l.length (l.flatMap encN)) (hp:E.Perm l) (hs:E.Pairwise fun x y=>ltOf (cf2 n1 n2) x y=true) (hn:l.length≤1048576) :
  Calls Tryz.prog 37 #[v,.func (.func 38) #[] #[]] w fun e w'=>e=.returned (.tuple #[])∧Ext v.ownBlock.toList w w'∧Cells w' 2 encN v E:=by
 by_cases h0:l.length=0
 ·obtain⟨ao,cap,rfl⟩:=row_slice h
  have hE:E=[]:=List.length_eq_zero_iff.1 (by rw [hp.length_eq]; exact h0)
  subst hE
  rw [h0]
  have hcon:=AnyF.slices_SortFunc_none (P:=Tryz.prog) (ρ:=Tryz.sortNt_ren) { Tryz.sortNt with } ao cap (.func (.func 38) #[] #[]) w
  refine hcon.mono ?_
  rintro e w' ⟨rfl,rfl⟩
  exact⟨rfl,Ext.refl _ _,ao,cap,rfl,Nat.zero_le _,fun i hi=>by simp at hi⟩
 ·obtain⟨g,cap,rfl⟩:=row_form h (by omega)
  have eg:∀ args w,(callFunc 38 args).run Tryz.prog w=.ok (.enter 38 args) w:=enters_of Tryz.func38 (by kernel_rfl) rfl
  have hblk:g<w.heap.size:=by
   have:=h.lt g (by simp [Value.ownBlock])
   exact this.2
  have hH:=row_holds (enc:=encN) (fun _=>rfl) h
  have hcap:=row_le h
  have hcon:=AnyQ.slices_SortFunc Tryz.sortNt 2 Tryz.isAgg47 Tryz.sizeOf47 encN (fun _=>rfl) encN_one (cf2 n1 n2) (swo2 n1 n2) 38 #[] g 0 cap l.toArray w eg (fun m os dk _ x y=>mend2_walk x y _) hH hblk (by simp; omega)
  refine hcon.mono ?_
  rintro e w' ⟨rfl,d,n,os,hpm,hso,rfl⟩
  have hd:=sorted_gen (fun x y=>asy2 n1 n2 x y) hp hs hpm hso
  have hz:d.size=l.length:=by have:=hpm.1; simpa using this
  refine⟨rfl,by simpa [Value.ownBlock] using ext_sorted encN 2 w g n d os,?_⟩
  have hH2:=holdsK_sortWorldK_c encN 2 w g 0 l.toArray d n os hH hblk (by rw [hz]; simp)
  have:=cells_holds (enc:=encN) (cap:=cap) (fun _=>rfl) hH2 (by rw [hz]; exact hcap)
  rw [hd] at this
  rw [show l.length=E.length from hp.length_eq.symm]
  exact this
end So
end Go.Proofs.YtljachhmdogkdaaGreatDoor
