/-
 Texts PkT, as far as the statement needs them.
-/
import Derived.Test.YtljachhmdogkdaaGreatDoorQPkA
import Derived.Test.YtljachhmdogkdaaGreatDoorQNu
set_option maxRecDepth 100000
set_option maxHeartbeats 64000000
namespace Go.Proofs.YtljachhmdogkdaaGreatDoor
namespace Tr
open Go.RowKit
structure Nd where
 kind:Int
 n:Int
 gen:Int
 s:ByteArray
 kids:List Int
def IntsAt (w:World) (base:Option Addr) (L:List Int):Prop:=∀ i (h:i<L.length),∃ b o,base=some ⟨b,o,none⟩∧w.cell? ⟨b,o+i,none⟩=some (.int .i64 (L[i]'h))
structure NdWf (x:Nd):Prop where
 n : -9223372036854775808≤x.n∧x.n≤9223372036854775807
 s:x.s.size≤9223372036854775807
 len:x.kids.length≤9223372036854775807
 kids:∀ k∈x.kids,-9223372036854775808≤k∧k≤9223372036854775807
structure NodeAt (w:World) (b o:Nat) (x:Nd):Prop where
 kind:w.cell? ⟨b,o,none⟩=some (.int .i64 x.kind)
 n:w.cell? ⟨b,o+1,none⟩=some (.int .i64 x.n)
 gen:w.cell? ⟨b,o+2,none⟩=some (.int .i64 x.gen)
 s:w.cell? ⟨b,o+3,none⟩=some (.string x.s)
 wf:NdWf x
 kids:∃ base cap,w.cell? ⟨b,o+4,none⟩=some (.slice base x.kids.length cap)∧IntsAt w base x.kids
def NodesIn (w:World) (base:Option Addr) (l:List Nd):Prop:=∀ i (h:i<l.length),∃ b o,base=some ⟨b,o,none⟩∧NodeAt w b (o+i*5) (l[i]'h)
def NodesAt (w:World) (v:Value) (l:List Nd):Prop:=∃ base cap,v=.slice base l.length cap∧l.length≤cap∧NodesIn w base l
theorem IntsAt.ext {w w' : World} {base:Option Addr} {L:List Int} (h:IntsAt w base L) (hx:Ext [] w w'):IntsAt w' base L:=fun i hi=>by
 obtain⟨b,o,h1,h2⟩:=h i hi
 exact⟨b,o,h1,hx.cell h2⟩
theorem NodeAt.ext {w w' : World} {b o:Nat} {x:Nd} (h:NodeAt w b o x) (hx:Ext [] w w'):NodeAt w' b o x:=by
 obtain⟨h1,h2,h3,h4,hw,base,cap,h5,h6⟩:=h
 exact⟨hx.cell h1,hx.cell h2,hx.cell h3,hx.cell h4,hw,base,cap,hx.cell h5,h6.ext hx⟩
theorem NodesIn.ext {w w' : World} {base:Option Addr} {l:List Nd} (h:NodesIn w base l) (hx:Ext [] w w'):NodesIn w' base l:=fun i hi=>by
 obtain⟨b,o,h1,h2⟩:=h i hi
 exact⟨b,o,h1,h2.ext hx⟩
theorem NodesAt.ext {w w' : World} {v:Value} {l:List Nd} (h:NodesAt w v l) (hx:Ext [] w w'):NodesAt w' v l:=by
 obtain⟨base,cap,h1,h0,h2⟩:=h
 exact⟨base,cap,h1,h0,h2.ext hx⟩
def lightL (l:List Nd) (most:Int):Bool:=l.all (fun x=>decide ((x.kids.length:Int)≤most∧x.s.size≤2000))&&decide ((l.length:Int)≤most)
theorem drop_at {α:Type} (l:List α) (k:Nat) (h:k<l.length):l.drop k=l[k]'h::l.drop (k+1):=List.drop_eq_getElem_cons h
theorem light_walk (v:Value) (l:List Nd) (most:Int) (w:World) (h:NodesAt w v l) (hl:l.length≤9223372036854775807) :
  Calls Tryz.prog 47 #[v,.int .i64 most] w fun e w'=>e=.returned (.bool (lightL l most))∧w=w':=by
 obtain⟨base,cap,rfl,-,hN⟩:=h
 obtain⟨R,hR⟩:∃ R,lightL l most=R:=⟨_,rfl⟩
 rw [hR]
 have HR:=zz hR
 have HN:=zz hN
 clear hR hN
 go_enter Tryz.func47,Tryz.ntmps47
 go_wp2_with fail
 go_loopg [5] l.length (fun g iv wr=>∃ k:Nat,g+k=l.length∧iv=.int .i64 k∧((l.drop k).all (fun x=>decide ((x.kids.length:Int)≤most∧x.s.size≤2000))&&decide ((l.length:Int)≤most))=R∧wr=w)
 case atStart=>exact⟨0,by omega,rfl,HR.out,rfl⟩
 case round=>
  obtain⟨k,hgk,rfl,hd,rfl⟩:=hrel
  by_cases hlt:k<l.length
  ·obtain⟨g,rfl⟩:∃ g,gk=g+1:=⟨gk - 1,by omega⟩
   have hltz:(k:Int)<(l.length:Int):=by omega
   rw [drop_at l k hlt,List.all_cons] at hd
   obtain⟨b,o,rfl,n1,n2,n3,n4,nw,bk,ck,n5,n6⟩:=HN.out k hlt
   generalize l[k]'hlt=x at *
   clear n1 n2 n3 nw n6
   by_cases q1:most<(x.kids.length:Int)
   ·rw [decide_eq_false (by omega),Bool.false_and,Bool.false_and] at hd
    subst hd
    clear HR
    go_wp2_with fail
    go_ret
    exact⟨rfl,rfl⟩
   ·by_cases q2:2000<x.s.size
    ·rw [decide_eq_false (by omega),Bool.false_and,Bool.false_and] at hd
     subst hd
     clear HR
     have q2z:(2000:Int)<(x.s.size:Int):=by omega
     go_wp2_with fail
     go_ret
     exact⟨rfl,rfl⟩
    ·rw [decide_eq_true (by omega),Bool.true_and] at hd
     have HD:=zz hd
     have q2z:¬ (2000:Int)<(x.s.size:Int):=by omega
     clear hd
     go_wp2_with fail
     go_roundg g
     case measure=>omega
     case rel=>exact⟨k+1,by omega,by go_num,HD.out,rfl⟩
  ·obtain rfl:k=l.length:=by omega
   rw [List.drop_length,List.all_nil,Bool.true_and] at hd
   subst hd
   clear HR
   go_wp2_with fail
   go_ret
   exact⟨rfl,rfl⟩
def nameN (s:ByteArray):Int:=if 127<s.size then 3 else if 0≤Lib.indexByte s.data.toList 0 then 2 else 0
theorem name_walk (s:ByteArray) (w:World):Calls Tryz.prog 68 #[.string s] w fun e w'=>e=.returned (.int .i64 (nameN s))∧Ext [] w w':=by
 have H:=zz (Tryz.strings_IndexByte s 0 w)
 by_cases q1:127<s.size
 ·have q1z:(127:Int)<(s.size:Int):=by omega
  have hR:nameN s=3:=if_pos q1
  rw [hR]
  clear hR
  go_enter Tryz.func68,Tryz.ntmps68
  go_wp2_with fail
  go_ret
  exact⟨rfl,Ext.refl _ _⟩
 ·have q1z:¬ (127:Int)<(s.size:Int):=by omega
  have hR:nameN s=if 0≤Lib.indexByte s.data.toList 0 then 2 else 0:=if_neg q1
  rw [hR]
  clear hR
  have H:=zz (show Calls Tryz.prog 100 #[.string s,.int .u8 0] w (fun e w'=>e=.returned (.int .i64 (Lib.indexByte s.data.toList 0))∧w' = w) from H.out)
  generalize Lib.indexByte s.data.toList 0=j at *
  by_cases q2:0≤j
  ·rw [if_pos q2]
   go_enter Tryz.func68,Tryz.ntmps68
   go_wp2_with fail
   refine H.out.mono ?_
   rintro e w' ⟨rfl,rfl⟩
   go_wp2_with fail
   go_ret
   exact⟨rfl,Ext.refl _ _⟩
  ·rw [if_neg q2]
   go_enter Tryz.func68,Tryz.ntmps68
   go_wp2_with fail
   refine H.out.mono ?_
   rintro e w' ⟨rfl,rfl⟩
   go_wp2_with fail
   go_ret
   exact⟨rfl,Ext.refl _ _⟩
def bareN (x:Nd):Bool:=
 if (x.kind≠7∧x.kind≠8∧0<x.kids.length)∨(x.kind≠4∧x.kind≠5∧x.kind≠6∧x.s≠⟨#[]⟩)∨(x.kind≠2∧x.kind≠3∧x.kind≠9∧x.n≠0)∨(x.kind≠9∧x.gen≠0) then false else
 if x.kind=1∨x.kind=7∨x.kind=8 then true else
 if x.kind=2 then decide (x.n=0∨x.n=1) else
 if x.kind=3 then decide (-2147483647≤x.n∧x.n≤2147483647) else
 if x.kind=4 then decide (Nu.realN (Nu.B x.s)=(Nu.B x.s,0)) else
 if x.kind=5 then decide (x.s.size≤65536) else
 if x.kind=6 then decide (nameN x.s=0) else
 if x.kind=9 then decide (1≤x.n∧x.n≤8388607∧0≤x.gen∧x.gen≤65535) else false
theorem bytes_eq {s t:ByteArray} (h:s.toList=t.toList):s=t:=by
 rw [ByteArray.toList_eq,ByteArray.toList_eq] at h
 obtain⟨⟨a⟩⟩:=s
 obtain⟨⟨b⟩⟩:=t
 simpa using h
theorem some_bytes {s:ByteArray} (h:¬ s=⟨#[]⟩):s.toList.isEmpty=false:=by
 rw [ByteArray.toList_eq]
 obtain⟨⟨l⟩⟩:=s
 cases l with
 | nil=>exact absurd rfl h
 | cons _ _=>rfl
theorem bare_1 (n gen:Int) (s:ByteArray) (L:List Int) (base:Option Addr) (cap:Nat) (w:World) :
  Calls Tryz.prog 130 #[.agg #[.int .i64 1,.int .i64 n,.int .i64 gen,.string s,.slice base L.length cap]] w fun e w'=>e=.returned (.bool (bareN ⟨1,n,gen,s,L⟩))∧Ext [] w w':=by
 by_cases c1:0<L.length
 ·have c1z:(0:Int)<(L.length:Int):=by omega
  have hR:bareN ⟨1,n,gen,s,L⟩=false:=by simp [bareN,c1]
  rw [hR]
  clear hR
  go_enter Tryz.func130,Tryz.ntmps130
  go_wp2_with fail
  go_ret
  exact⟨rfl,(Ext.refl [] w).alloc _⟩
 have c1z:¬ (0:Int)<(L.length:Int):=by omega
 by_cases c2:s=⟨#[]⟩
 case neg=>
  have c2b:s.toList.isEmpty=false:=some_bytes c2
  have hR:bareN ⟨1,n,gen,s,L⟩=false:=by simp [bareN,c1,c2]
  rw [hR]
  clear hR
  go_enter Tryz.func130,Tryz.ntmps130
  go_wp2_with fail
  go_ret
  exact⟨rfl,(Ext.refl [] w).alloc _⟩
 subst c2
 by_cases c3:n=0
 case neg=>
  have c3b:(n != 0)=true:=bne_iff_ne.2 c3
  have hR:bareN ⟨1,n,gen,⟨#[]⟩,L⟩=false:=by simp [bareN,c1,c3]
  rw [hR]
  clear hR
  go_enter Tryz.func130,Tryz.ntmps130
  go_wp2_with fail
  go_ret
  exact⟨rfl,(Ext.refl [] w).alloc _⟩
 subst c3
 by_cases c4:gen=0
 case neg=>
  have c4b:(gen != 0)=true:=bne_iff_ne.2 c4
  have hR:bareN ⟨1,0,gen,⟨#[]⟩,L⟩=false:=by simp [bareN,c1,c4]
  rw [hR]
  clear hR
  go_enter Tryz.func130,Tryz.ntmps130
  go_wp2_with fail
  go_ret
  exact⟨rfl,(Ext.refl [] w).alloc _⟩
 subst c4
 have hR:bareN ⟨1,0,0,⟨#[]⟩,L⟩=true:=by simp [bareN,c1]
 rw [hR]
 clear hR
 go_enter Tryz.func130,Tryz.ntmps130
 go_wp2_with fail
 go_ret
 exact⟨rfl,(Ext.refl [] w).alloc _⟩
theorem bare_2 (n gen:Int) (s:ByteArray) (L:List Int) (base:Option Addr) (cap:Nat) (w:World) :
  Calls Tryz.prog 130 #[.agg #[.int .i64 2,.int .i64 n,.int .i64 gen,.string s,.slice base L.length cap]] w fun e w'=>e=.returned (.bool (bareN ⟨2,n,gen,s,L⟩))∧Ext [] w w':=by
 by_cases c1:0<L.length
 ·have c1z:(0:Int)<(L.length:Int):=by omega
  have hR:bareN ⟨2,n,gen,s,L⟩=false:=by simp [bareN,c1]
  rw [hR]
  clear hR
  go_enter Tryz.func130,Tryz.ntmps130
  go_wp2_with fail
  go_ret
  exact⟨rfl,(Ext.refl [] w).alloc _⟩
 have c1z:¬ (0:Int)<(L.length:Int):=by omega
 by_cases c2:s=⟨#[]⟩
 case neg=>
  have c2b:s.toList.isEmpty=false:=some_bytes c2
  have hR:bareN ⟨2,n,gen,s,L⟩=false:=by simp [bareN,c1,c2]
  rw [hR]
  clear hR
  go_enter Tryz.func130,Tryz.ntmps130
  go_wp2_with fail
  go_ret
  exact⟨rfl,(Ext.refl [] w).alloc _⟩
 subst c2
 by_cases c4:gen=0
 case neg=>
  have c4b:(gen != 0)=true:=bne_iff_ne.2 c4
  have hR:bareN ⟨2,n,gen,⟨#[]⟩,L⟩=false:=by simp [bareN,c1,c4]
  rw [hR]
  clear hR
  go_enter Tryz.func130,Tryz.ntmps130
  go_wp2_with fail
  go_ret
  exact⟨rfl,(Ext.refl [] w).alloc _⟩
 subst c4
 by_cases d1:n=0
 ·subst d1
  have hR:bareN ⟨2,0,0,⟨#[]⟩,L⟩=true:=by simp [bareN,c1]
  rw [hR]
  clear hR
  go_enter Tryz.func130,Tryz.ntmps130
  go_wp2_with fail
  go_ret
  exact⟨rfl,(Ext.refl [] w).alloc _⟩
 ·have d1b:(n==0)=false:=beq_eq_false_iff_ne.2 d1
  by_cases d2:n=1
  ·subst d2
   have hR:bareN ⟨2,1,0,⟨#[]⟩,L⟩=true:=by simp [bareN,c1]
   rw [hR]
   clear hR
   go_enter Tryz.func130,Tryz.ntmps130
   go_wp2_with fail
   go_ret
   exact⟨rfl,(Ext.refl [] w).alloc _⟩
  ·have d2b:(n==1)=false:=beq_eq_false_iff_ne.2 d2
   have hR:bareN ⟨2,n,0,⟨#[]⟩,L⟩=false:=by simp [bareN,c1,d1,d2]
   rw [hR]
   clear hR
   go_enter Tryz.func130,Tryz.ntmps130
   go_wp2_with fail
   go_ret
   exact⟨rfl,(Ext.refl [] w).alloc _⟩
theorem bare_7 (n gen:Int) (s:ByteArray) (L:List Int) (base:Option Addr) (cap:Nat) (w:World) :
  Calls Tryz.prog 130 #[.agg #[.int .i64 7,.int .i64 n,.int .i64 gen,.string s,.slice base L.length cap]] w fun e w'=>e=.returned (.bool (bareN ⟨7,n,gen,s,L⟩))∧Ext [] w w':=by
 by_cases c2:s=⟨#[]⟩
 case neg=>
  have c2b:s.toList.isEmpty=false:=some_bytes c2
  have hR:bareN ⟨7,n,gen,s,L⟩=false:=by simp [bareN,c2]
  rw [hR]
  clear hR
  go_enter Tryz.func130,Tryz.ntmps130
  go_wp2_with fail
  go_ret
  exact⟨rfl,(Ext.refl [] w).alloc _⟩
 subst c2
 by_cases c3:n=0
 case neg=>
  have c3b:(n != 0)=true:=bne_iff_ne.2 c3
  have hR:bareN ⟨7,n,gen,⟨#[]⟩,L⟩=false:=by simp [bareN,c3]
  rw [hR]
  clear hR
  go_enter Tryz.func130,Tryz.ntmps130
  go_wp2_with fail
  go_ret
  exact⟨rfl,(Ext.refl [] w).alloc _⟩
 subst c3
 by_cases c4:gen=0
 case neg=>
  have c4b:(gen != 0)=true:=bne_iff_ne.2 c4
  have hR:bareN ⟨7,0,gen,⟨#[]⟩,L⟩=false:=by simp [bareN,c4]
  rw [hR]
  clear hR
  go_enter Tryz.func130,Tryz.ntmps130
  go_wp2_with fail
  go_ret
  exact⟨rfl,(Ext.refl [] w).alloc _⟩
 subst c4
 have hR:bareN ⟨7,0,0,⟨#[]⟩,L⟩=true:=by simp [bareN]
 rw [hR]
 clear hR
 go_enter Tryz.func130,Tryz.ntmps130
 go_wp2_with fail
 go_ret
 exact⟨rfl,(Ext.refl [] w).alloc _⟩
theorem bare_8 (n gen:Int) (s:ByteArray) (L:List Int) (base:Option Addr) (cap:Nat) (w:World) :
  Calls Tryz.prog 130 #[.agg #[.int .i64 8,.int .i64 n,.int .i64 gen,.string s,.slice base L.length cap]] w fun e w'=>e=.returned (.bool (bareN ⟨8,n,gen,s,L⟩))∧Ext [] w w':=by
 by_cases c2:s=⟨#[]⟩
 case neg=>
  have c2b:s.toList.isEmpty=false:=some_bytes c2
  have hR:bareN ⟨8,n,gen,s,L⟩=false:=by simp [bareN,c2]
  rw [hR]
  clear hR
  go_enter Tryz.func130,Tryz.ntmps130
  go_wp2_with fail
  go_ret
  exact⟨rfl,(Ext.refl [] w).alloc _⟩
 subst c2
 by_cases c3:n=0
 case neg=>
  have c3b:(n != 0)=true:=bne_iff_ne.2 c3
  have hR:bareN ⟨8,n,gen,⟨#[]⟩,L⟩=false:=by simp [bareN,c3]
  rw [hR]
  clear hR
  go_enter Tryz.func130,Tryz.ntmps130
  go_wp2_with fail
  go_ret
  exact⟨rfl,(Ext.refl [] w).alloc _⟩
 subst c3
 by_cases c4:gen=0
 case neg=>
  have c4b:(gen != 0)=true:=bne_iff_ne.2 c4
  have hR:bareN ⟨8,0,gen,⟨#[]⟩,L⟩=false:=by simp [bareN,c4]
  rw [hR]
  clear hR
  go_enter Tryz.func130,Tryz.ntmps130
  go_wp2_with fail
  go_ret
  exact⟨rfl,(Ext.refl [] w).alloc _⟩
 subst c4
 have hR:bareN ⟨8,0,0,⟨#[]⟩,L⟩=true:=by simp [bareN]
 rw [hR]
 clear hR
 go_enter Tryz.func130,Tryz.ntmps130
 go_wp2_with fail
 go_ret
 exact⟨rfl,(Ext.refl [] w).alloc _⟩
theorem bare_9 (n gen:Int) (s:ByteArray) (L:List Int) (base:Option Addr) (cap:Nat) (w:World) :
  Calls Tryz.prog 130 #[.agg #[.int .i64 9,.int .i64 n,.int .i64 gen,.string s,.slice base L.length cap]] w fun e w'=>e=.returned (.bool (bareN ⟨9,n,gen,s,L⟩))∧Ext [] w w':=by
 by_cases c1:0<L.length
 ·have c1z:(0:Int)<(L.length:Int):=by omega
  have hR:bareN ⟨9,n,gen,s,L⟩=false:=by simp [bareN,c1]
  rw [hR]
  clear hR
  go_enter Tryz.func130,Tryz.ntmps130
  go_wp2_with fail
  go_ret
  exact⟨rfl,(Ext.refl [] w).alloc _⟩
 have c1z:¬ (0:Int)<(L.length:Int):=by omega
 by_cases c2:s=⟨#[]⟩
 case neg=>
  have c2b:s.toList.isEmpty=false:=some_bytes c2
  have hR:bareN ⟨9,n,gen,s,L⟩=false:=by simp [bareN,c1,c2]
  rw [hR]
  clear hR
  go_enter Tryz.func130,Tryz.ntmps130
  go_wp2_with fail
  go_ret
  exact⟨rfl,(Ext.refl [] w).alloc _⟩
 subst c2
 by_cases d1:1≤n
 case neg=>
  have hR:bareN ⟨9,n,gen,⟨#[]⟩,L⟩=false:=by simp [bareN,c1,d1]
  rw [hR]
  clear hR
  go_enter Tryz.func130,Tryz.ntmps130
  go_wp2_with fail
  go_ret
  exact⟨rfl,(Ext.refl [] w).alloc _⟩
 by_cases d2:n≤8388607
 case neg=>
  have hR:bareN ⟨9,n,gen,⟨#[]⟩,L⟩=false:=by simp [bareN,c1,d1,d2]
  rw [hR]
  clear hR
  go_enter Tryz.func130,Tryz.ntmps130
  go_wp2_with fail
  go_ret
  exact⟨rfl,(Ext.refl [] w).alloc _⟩
 by_cases d3:0≤gen
 case neg=>
  have hR:bareN ⟨9,n,gen,⟨#[]⟩,L⟩=false:=by simp [bareN,c1,d1,d2,d3]
  rw [hR]
  clear hR
  go_enter Tryz.func130,Tryz.ntmps130
  go_wp2_with fail
  go_ret
  exact⟨rfl,(Ext.refl [] w).alloc _⟩
 by_cases d4:gen≤65535
 case neg=>
  have hR:bareN ⟨9,n,gen,⟨#[]⟩,L⟩=false:=by simp [bareN,c1,d1,d2,d3,d4]
  rw [hR]
  clear hR
  go_enter Tryz.func130,Tryz.ntmps130
  go_wp2_with fail
  go_ret
  exact⟨rfl,(Ext.refl [] w).alloc _⟩
 have hR:bareN ⟨9,n,gen,⟨#[]⟩,L⟩=true:=by simp [bareN,c1,d1,d2,d3,d4]
 rw [hR]
 clear hR
 go_enter Tryz.func130,Tryz.ntmps130
 go_wp2_with fail
 go_ret
 exact⟨rfl,(Ext.refl [] w).alloc _⟩
theorem bare_3 (n gen:Int) (s:ByteArray) (L:List Int) (base:Option Addr) (cap:Nat) (h0 : -9223372036854775808≤n) (h1:n≤9223372036854775807) (w:World) :
  Calls Tryz.prog 130 #[.agg #[.int .i64 3,.int .i64 n,.int .i64 gen,.string s,.slice base L.length cap]] w fun e w'=>e=.returned (.bool (bareN ⟨3,n,gen,s,L⟩))∧Ext [] w w':=by
 by_cases c1:0<L.length
 ·have c1z:(0:Int)<(L.length:Int):=by omega
  have hR:bareN ⟨3,n,gen,s,L⟩=false:=by simp [bareN,c1]
  rw [hR]
  clear hR
  go_enter Tryz.func130,Tryz.ntmps130
  go_wp2_with fail
  all_goals first | (exfalso; omega) | (go_ret; exact⟨rfl,(Ext.refl [] w).alloc _⟩)
 have c1z:¬ (0:Int)<(L.length:Int):=by omega
 by_cases c2:s=⟨#[]⟩
 case neg=>
  have c2b:s.toList.isEmpty=false:=some_bytes c2
  have hR:bareN ⟨3,n,gen,s,L⟩=false:=by simp [bareN,c1,c2]
  rw [hR]
  clear hR
  go_enter Tryz.func130,Tryz.ntmps130
  go_wp2_with fail
  all_goals first | (exfalso; omega) | (go_ret; exact⟨rfl,(Ext.refl [] w).alloc _⟩)
 subst c2
 by_cases c4:gen=0
 case neg=>
  have c4b:(gen != 0)=true:=bne_iff_ne.2 c4
  have hR:bareN ⟨3,n,gen,⟨#[]⟩,L⟩=false:=by simp [bareN,c1,c4]
  rw [hR]
  clear hR
  go_enter Tryz.func130,Tryz.ntmps130
  go_wp2_with fail
  all_goals first | (exfalso; omega) | (go_ret; exact⟨rfl,(Ext.refl [] w).alloc _⟩)
 subst c4
 by_cases d1:n < -2147483647
 ·by_cases d2:n = -9223372036854775808
  ·subst d2
   have hR:bareN ⟨3,(-9223372036854775808),0,⟨#[]⟩,L⟩=false:=by simp [bareN,c1]
   rw [hR]
   clear hR
   go_enter Tryz.func130,Tryz.ntmps130
   go_wp2_with fail
   all_goals first | (exfalso; omega) | (go_ret; exact⟨rfl,(Ext.refl [] w).alloc _⟩)
  ·have d3 : -9223372036854775808<n:=by omega
   have d4:¬ -2147483647≤n:=by omega
   have hR:bareN ⟨3,n,0,⟨#[]⟩,L⟩=false:=by simp [bareN,c1,d4]
   rw [hR]
   clear hR
   go_enter Tryz.func130,Tryz.ntmps130
   go_wp2_with fail
   all_goals first | (exfalso; omega) | (go_ret; exact⟨rfl,(Ext.refl [] w).alloc _⟩)
 ·by_cases d2:2147483647<n
  ·have d4:¬ n≤2147483647:=by omega
   have hR:bareN ⟨3,n,0,⟨#[]⟩,L⟩=false:=by simp [bareN,c1,d4]
   rw [hR]
   clear hR
   go_enter Tryz.func130,Tryz.ntmps130
   go_wp2_with fail
   all_goals first | (exfalso; omega) | (go_ret; exact⟨rfl,(Ext.refl [] w).alloc _⟩)
  ·have d3 : -2147483647≤n:=by omega
   have d4:n≤2147483647:=by omega
   have hR:bareN ⟨3,n,0,⟨#[]⟩,L⟩=true:=by simp [bareN,c1,d3,d4]
   rw [hR]
   clear hR
   go_enter Tryz.func130,Tryz.ntmps130
   go_wp2_with fail
   all_goals first | (exfalso; omega) | (go_ret; exact⟨rfl,(Ext.refl [] w).alloc _⟩)
theorem bare_5 (n gen:Int) (s:ByteArray) (L:List Int) (base:Option Addr) (cap:Nat) (w:World) :
  Calls Tryz.prog 130 #[.agg #[.int .i64 5,.int .i64 n,.int .i64 gen,.string s,.slice base L.length cap]] w fun e w'=>e=.returned (.bool (bareN ⟨5,n,gen,s,L⟩))∧Ext [] w w':=by
 by_cases c1:0<L.length
 ·have c1z:(0:Int)<(L.length:Int):=by omega
  have hR:bareN ⟨5,n,gen,s,L⟩=false:=by simp [bareN,c1]
  rw [hR]
  clear hR
  go_enter Tryz.func130,Tryz.ntmps130
  go_wp2_with fail
  go_ret
  exact⟨rfl,(Ext.refl [] w).alloc _⟩
 have c1z:¬ (0:Int)<(L.length:Int):=by omega
 by_cases c3:n=0
 case neg=>
  have c3b:(n != 0)=true:=bne_iff_ne.2 c3
  have hR:bareN ⟨5,n,gen,s,L⟩=false:=by simp [bareN,c1,c3]
  rw [hR]
  clear hR
  go_enter Tryz.func130,Tryz.ntmps130
  go_wp2_with fail
  go_ret
  exact⟨rfl,(Ext.refl [] w).alloc _⟩
 subst c3
 by_cases c4:gen=0
 case neg=>
  have c4b:(gen != 0)=true:=bne_iff_ne.2 c4
  have hR:bareN ⟨5,0,gen,s,L⟩=false:=by simp [bareN,c1,c4]
  rw [hR]
  clear hR
  go_enter Tryz.func130,Tryz.ntmps130
  go_wp2_with fail
  go_ret
  exact⟨rfl,(Ext.refl [] w).alloc _⟩
 subst c4
 by_cases d1:s.size≤65536
 ·have d1z:(s.size:Int)≤65536:=by omega
  have hR:bareN ⟨5,0,0,s,L⟩=true:=by simp [bareN,c1,d1]
  rw [hR]
  clear hR
  go_enter Tryz.func130,Tryz.ntmps130
  go_wp2_with fail
  go_ret
  exact⟨rfl,(Ext.refl [] w).alloc _⟩
 ·have d1z:¬ (s.size:Int)≤65536:=by omega
  have hR:bareN ⟨5,0,0,s,L⟩=false:=by simp [bareN,c1,d1]
  rw [hR]
  clear hR
  go_enter Tryz.func130,Tryz.ntmps130
  go_wp2_with fail
  go_ret
  exact⟨rfl,(Ext.refl [] w).alloc _⟩
theorem bare_4 (n gen:Int) (s:ByteArray) (L:List Int) (base:Option Addr) (cap:Nat) (hs:s.size≤1000000) (w:World) :
  Calls Tryz.prog 130 #[.agg #[.int .i64 4,.int .i64 n,.int .i64 gen,.string s,.slice base L.length cap]] w fun e w'=>e=.returned (.bool (bareN ⟨4,n,gen,s,L⟩))∧Ext [] w w':=by
 by_cases c1:0<L.length
 ·have c1z:(0:Int)<(L.length:Int):=by omega
  have hR:bareN ⟨4,n,gen,s,L⟩=false:=by simp [bareN,c1]
  rw [hR]
  clear hR
  go_enter Tryz.func130,Tryz.ntmps130
  go_wp2_with fail
  go_ret
  exact⟨rfl,(Ext.refl [] w).alloc _⟩
 have c1z:¬ (0:Int)<(L.length:Int):=by omega
 by_cases c3:n=0
 case neg=>
  have c3b:(n != 0)=true:=bne_iff_ne.2 c3
  have hR:bareN ⟨4,n,gen,s,L⟩=false:=by simp [bareN,c1,c3]
  rw [hR]
  clear hR
  go_enter Tryz.func130,Tryz.ntmps130
  go_wp2_with fail
  go_ret
  exact⟨rfl,(Ext.refl [] w).alloc _⟩
 subst c3
 by_cases c4:gen=0
 case neg=>
  have c4b:(gen != 0)=true:=bne_iff_ne.2 c4
  have hR:bareN ⟨4,0,gen,s,L⟩=false:=by simp [bareN,c1,c4]
  rw [hR]
  clear hR
  go_enter Tryz.func130,Tryz.ntmps130
  go_wp2_with fail
  go_ret
  exact⟨rfl,(Ext.refl [] w).alloc _⟩
 subst c4
 have H:=zz (fun w=>Nu.real_walk s w hs)
 obtain⟨r1,r2,hr⟩:∃ r1 r2,Nu.realN (Nu.B s)=(r1,r2):=⟨_,_,rfl⟩
 rw [hr] at H
 have hR:bareN ⟨4,0,0,s,L⟩=decide (r2=0∧Nu.S r1=s):=by
  have e1:(Nu.S r1=s)↔r1=Nu.B s:=⟨fun h=>by rw [←h,Nu.B_S],fun h=>by rw [h,Nu.S_B]⟩
  simp [bareN,c1,hr,e1,and_comm]
 rw [hR]
 obtain⟨z,hz⟩:∃ z,Nu.S r1=z:=⟨_,rfl⟩
 simp only [hz] at H ⊢
 clear hR hr hz
 by_cases d1:r2=0
 ·subst d1
  by_cases d2:z=s
  ·subst d2
   rw [decide_eq_true (by exact⟨rfl,rfl⟩)]
   go_enter Tryz.func130,Tryz.ntmps130
   go_wp2_with fail
   refine (H.out _).mono ?_
   rintro e w' ⟨rfl,hx⟩
   have b3:w'.cell? ⟨w.heap.size,3,none⟩=some (.string z):=hx.cell (cellOf (heap_alloc_at _) 3)
   have HX:=zz (((Ext.refl [] w).alloc _).trans hx)
   clear hx
   go_wp2_with fail
   go_ret
   exact⟨rfl,HX.out⟩
  ·rw [decide_eq_false (by exact fun h=>d2 h.2)]
   have d2b:(z.toList==s.toList)=false:=beq_eq_false_iff_ne.2 (fun h=>d2 (bytes_eq h))
   go_enter Tryz.func130,Tryz.ntmps130
   go_wp2_with fail
   refine (H.out _).mono ?_
   rintro e w' ⟨rfl,hx⟩
   have b3:w'.cell? ⟨w.heap.size,3,none⟩=some (.string s):=hx.cell (cellOf (heap_alloc_at _) 3)
   have HX:=zz (((Ext.refl [] w).alloc _).trans hx)
   clear hx
   go_wp2_with fail
   go_ret
   exact⟨rfl,HX.out⟩
 ·rw [decide_eq_false (by exact fun h=>d1 h.1)]
  have d1b:(r2==0)=false:=beq_eq_false_iff_ne.2 d1
  go_enter Tryz.func130,Tryz.ntmps130
  go_wp2_with fail
  refine (H.out _).mono ?_
  rintro e w' ⟨rfl,hx⟩
  have b3:w'.cell? ⟨w.heap.size,3,none⟩=some (.string s):=hx.cell (cellOf (heap_alloc_at _) 3)
  have HX:=zz (((Ext.refl [] w).alloc _).trans hx)
  clear hx
  go_wp2_with fail
  go_ret
  exact⟨rfl,HX.out⟩
theorem bare_6 (n gen:Int) (s:ByteArray) (L:List Int) (base:Option Addr) (cap:Nat) (w:World) :
  Calls Tryz.prog 130 #[.agg #[.int .i64 6,.int .i64 n,.int .i64 gen,.string s,.slice base L.length cap]] w fun e w'=>e=.returned (.bool (bareN ⟨6,n,gen,s,L⟩))∧Ext [] w w':=by
 by_cases c1:0<L.length
 ·have c1z:(0:Int)<(L.length:Int):=by omega
  have hR:bareN ⟨6,n,gen,s,L⟩=false:=by simp [bareN,c1]
  rw [hR]
  clear hR
  go_enter Tryz.func130,Tryz.ntmps130
  go_wp2_with fail
  go_ret
  exact⟨rfl,(Ext.refl [] w).alloc _⟩
 have c1z:¬ (0:Int)<(L.length:Int):=by omega
 by_cases c3:n=0
 case neg=>
  have c3b:(n != 0)=true:=bne_iff_ne.2 c3
  have hR:bareN ⟨6,n,gen,s,L⟩=false:=by simp [bareN,c1,c3]
  rw [hR]
  clear hR
  go_enter Tryz.func130,Tryz.ntmps130
  go_wp2_with fail
  go_ret
  exact⟨rfl,(Ext.refl [] w).alloc _⟩
 subst c3
 by_cases c4:gen=0
 case neg=>
  have c4b:(gen != 0)=true:=bne_iff_ne.2 c4
  have hR:bareN ⟨6,0,gen,s,L⟩=false:=by simp [bareN,c1,c4]
  rw [hR]
  clear hR
  go_enter Tryz.func130,Tryz.ntmps130
  go_wp2_with fail
  go_ret
  exact⟨rfl,(Ext.refl [] w).alloc _⟩
 subst c4
 have H:=zz (fun w=>name_walk s w)
 have hR:bareN ⟨6,0,0,s,L⟩=decide (nameN s=0):=by simp [bareN,c1]
 rw [hR]
 generalize nameN s=z at *
 clear hR
 by_cases d1:z=0
 ·subst d1
  rw [decide_eq_true rfl]
  go_enter Tryz.func130,Tryz.ntmps130
  go_wp2_with fail
  refine (H.out _).mono ?_
  rintro e w' ⟨rfl,hx⟩
  have HX:=zz (((Ext.refl [] w).alloc _).trans hx)
  clear hx
  go_wp2_with fail
  go_ret
  exact⟨rfl,HX.out⟩
 ·rw [decide_eq_false d1]
  have d1b:(z==0)=false:=beq_eq_false_iff_ne.2 d1
  go_enter Tryz.func130,Tryz.ntmps130
  go_wp2_with fail
  refine (H.out _).mono ?_
  rintro e w' ⟨rfl,hx⟩
  have HX:=zz (((Ext.refl [] w).alloc _).trans hx)
  clear hx
  go_wp2_with fail
  go_ret
  exact⟨rfl,HX.out⟩
theorem bare_x (k:Int) (hk:k<1∨9<k) (n gen:Int) (s:ByteArray) (L:List Int) (base:Option Addr) (cap:Nat) (w:World) :
  Calls Tryz.prog 130 #[.agg #[.int .i64 k,.int .i64 n,.int .i64 gen,.string s,.slice base L.length cap]] w fun e w'=>e=.returned (.bool (bareN ⟨k,n,gen,s,L⟩))∧Ext [] w w':=by
 have k1:k≠1:=by omega
 have k2:k≠2:=by omega
 have k3:k≠3:=by omega
 have k4:k≠4:=by omega
 have k5:k≠5:=by omega
 have k6:k≠6:=by omega
 have k7:k≠7:=by omega
 have k8:k≠8:=by omega
 have k9:k≠9:=by omega
 have b1:(k==1)=false:=beq_eq_false_iff_ne.2 k1
 have b2:(k==2)=false:=beq_eq_false_iff_ne.2 k2
 have b3:(k==3)=false:=beq_eq_false_iff_ne.2 k3
 have b4:(k==4)=false:=beq_eq_false_iff_ne.2 k4
 have b5:(k==5)=false:=beq_eq_false_iff_ne.2 k5
 have b6:(k==6)=false:=beq_eq_false_iff_ne.2 k6
 have b7:(k==7)=false:=beq_eq_false_iff_ne.2 k7
 have b8:(k==8)=false:=beq_eq_false_iff_ne.2 k8
 have b9:(k==9)=false:=beq_eq_false_iff_ne.2 k9
 have b9n:(k != 9)=true:=bne_iff_ne.2 k9
 have hR:bareN ⟨k,n,gen,s,L⟩=false:=by simp [bareN,k1,k2,k3,k4,k5,k6,k7,k8,k9]
 rw [hR]
 clear hR k1 k2 k3 k4 k5 k6 k7 k8 k9 hk
 by_cases c1:0<L.length
 ·have c1z:(0:Int)<(L.length:Int):=by omega
  go_enter Tryz.func130,Tryz.ntmps130
  go_wp2_with fail
  go_ret
  exact⟨rfl,(Ext.refl [] w).alloc _⟩
 have c1z:¬ (0:Int)<(L.length:Int):=by omega
 by_cases c2:s=⟨#[]⟩
 case neg=>
  have c2b:s.toList.isEmpty=false:=some_bytes c2
  go_enter Tryz.func130,Tryz.ntmps130
  go_wp2_with fail
  go_ret
  exact⟨rfl,(Ext.refl [] w).alloc _⟩
 subst c2
 by_cases c3:n=0
 case neg=>
  have c3b:(n != 0)=true:=bne_iff_ne.2 c3
  go_enter Tryz.func130,Tryz.ntmps130
  go_wp2_with fail
  go_ret
  exact⟨rfl,(Ext.refl [] w).alloc _⟩
 subst c3
 by_cases c4:gen=0
 case neg=>
  have c4b:(gen != 0)=true:=bne_iff_ne.2 c4
  go_enter Tryz.func130,Tryz.ntmps130
  go_wp2_with fail
  go_ret
  exact⟨rfl,(Ext.refl [] w).alloc _⟩
 subst c4
 go_enter Tryz.func130,Tryz.ntmps130
 go_wp2_with fail
 go_ret
 exact⟨rfl,(Ext.refl [] w).alloc _⟩
end Tr
end Go.Proofs.YtljachhmdogkdaaGreatDoor
