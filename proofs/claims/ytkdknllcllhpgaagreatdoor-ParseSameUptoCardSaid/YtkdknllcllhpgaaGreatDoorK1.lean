/-
  What the chapter's laws share, part 1: plain facts, memory, and walks of functions. Its conditions: those that each theorem names.
-/
import Derived.Deep.Slices
import Derived.ChangeArms
import Derived.WideShapes
import Derived.WalkKit
import Derived.Lib.Index
import Derived.Laws.MakeOwn
import Derived.Laws.NewBlocks
import Derived.Laws.Rows
import Derived.Laws.IdiomStrings
import Derived.Laws.OwnMore
import Derived.Deep.Draws
import Derived.WalkSmall
import Derived.OwnWalk
import Derived.Test.YtkdknllcllhpgaaGreatDoorRows
import Derived.Test.YtkdknllcllhpgaaGreatDoorChecked
import Derived.Lib.IndexMore
import Derived.Maps.OwnSet
import Derived.Lib.AppendStr
import Derived.Maps.AppendAt
import Derived.Laws.AppendOwnNone
import Derived.Test.YtkdknllcllhpgaaGreatDoorK0
set_option linter.unusedSimpArgs false
set_option linter.unusedVariables false
set_option maxHeartbeats 16000000
set_option maxRecDepth 100000
namespace Go.Bd
open Go.ChangeShapes Go.WideShapes
section
variable {H:Type} {enc:TypeId×Value→H} {P:Program} {w:World} {base:Nat} {sp:Nat→Bool} {held:Bool}
theorem take_drop_one {cs:List Value}{i:Nat} (h:i<cs.length):(cs.drop i).take 1=[cs[i]]:=by
 rw[List.drop_eq_getElem_cons h];rfl
theorem open_fields {e:TypeId}{fs:Array Field}{a:Addr}{cs:List Value}{fuel:Nat}{x:DataW H×List MemPlace} (he:P.underlying e=some (.struct fs)) (hc:P.cellsOf e=fs.size)
  (ho:∀(i:Nat) f,fs[i]? = some f→f.offset=i∧P.cellsOf f.type=1) (h1:w.cells? base a (P.cellsOf e)=some cs) (h2:DataW.trod enc P w base sp held fuel e cs=some x) :
  ∃(m:Nat) (V:Nat→Value) (D:Nat→DataW H×List MemPlace),x.1=.agg ((List.range fs.size).map fun i=>(D i).1)∧∀(i:Nat) f,fs[i]? = some f→w.cell? (a.add i)=some (V i)∧DataW.trod enc P w base sp held m f.type [V i]=some (D i):=by
 obtain⟨_,hlen,hcell⟩:=World.cells?_some h1;obtain⟨xs,k,hk,hxy,hcl,hxl,hf⟩:=DataW.trod_struct he h2;refine⟨k,fun i=>cs.getD i (.int .i64 0),fun i=>xs.getD i (.nil,[]),?_,fun i f hif=>?_⟩
 ·rw[hxy]
  show DataW.agg _=_
  congr 1
  rw[Deep.map_by_index xs (.nil,[]) (·.1),hxl]
 ·obtain⟨o,c⟩:=ho i f hif;have hi:i<fs.size:=(Array.getElem?_eq_some_iff.1 hif).1;have hic:i<cs.length:=by omega
  have hix:i<xs.length:=by omega
  have g:=hf i f hif;rw[o,c,take_drop_one hic,List.getElem?_eq_getElem hix] at g;have hce:=hcell i (by omega);refine⟨?_,?_⟩
  ·rw[hce];simp[List.getD,List.getElem?_eq_getElem hic]
  ·simp only[List.getD,List.getElem?_eq_getElem hic,List.getElem?_eq_getElem hix,Option.getD_some];exact g
theorem open_addr {w:World}{a:Addr}{v:Value} (h:w.cell? (a.add 0)=some v):∃b off,a=⟨b,off,none⟩∧b<w.heap.size:=by
 obtain⟨b,off,spot⟩:=a;have e:(⟨b,off,spot⟩:Addr).add 0=⟨b,off,spot⟩:=by simp[Addr.add]
 rw[e] at h;refine⟨b,off,?_,World.block_lt_of_cell? w _ h⟩;cases spot with
 | none=>rfl
 | some s =>
  exfalso;simp only[World.cell?] at h;split at h<;>simp at h
end
end Go.Bd
namespace Go.Bd
abbrev Bs:=List UInt8
def first (l:Bs) (c:Int):Nat:=l.findIdx (fun b=>(b.toNat:Int)==c)
def partB (l:Bs):Bool:=!l.isEmpty&&(first l 59==l.length&&(first l 62==l.length&&(first l 60==l.length&&(first l 40==l.length&&first l 41==l.length))))
def blank (c:UInt8):Bool:=c.toNat==32 || c.toNat==9
def dropL (l:Bs):Bs:=l.dropWhile blank
def dropR (l:Bs):Bs:=(l.reverse.dropWhile blank).reverse
def trim (l:Bs):Bs:=dropR (dropL l)
theorem size_mk (l:Bs):(ByteArray.mk l.toArray).size=l.length:=rfl
theorem size_list (s:ByteArray):s.size=s.data.toList.length:=by simp
theorem extract_list (s:ByteArray) (a b:Nat):(s.extract a b).data.toList=(s.data.toList.drop a).take (b-a):=by
 simp[ByteArray.extract,ByteArray.copySlice]
theorem blank_iff (c:UInt8):blank c=true↔(c.toNat:Int)=32∨(c.toNat:Int)=9:=by
 simp only[blank,Bool.or_eq_true,beq_iff_eq];omega
theorem dropR_cons (x:UInt8) (xs:Bs):dropR (x::xs)=if dropR xs=[]∧blank x=true then [] else x::dropR xs:=by
 unfold dropR;rw[List.reverse_cons,List.dropWhile_append]
 by_cases h:(xs.reverse.dropWhile blank)=[]
 ·rw[h]
  by_cases hb:blank x=true
  ·simp[hb]
  ·simp[hb]
 ·rw[if_neg (by simpa using h),if_neg (by simp[h])];simp
theorem dropLR (l:Bs):dropL (dropR l)=trim l:=by
 unfold trim
 induction l with
 | nil=>rfl
 | cons x xs ih =>
  by_cases hb:blank x=true
  ·have e:dropL (x::xs)=dropL xs:=List.dropWhile_cons_of_pos hb;rw[e,←ih,dropR_cons]
   by_cases h:dropR xs=[]
   ·rw[if_pos ⟨h,hb⟩,h]
   ·rw[if_neg (by simp[h])];exact List.dropWhile_cons_of_pos hb
  ·have e:dropL (x::xs)=x::xs:=List.dropWhile_cons_of_neg hb;rw[e,dropR_cons,if_neg (by simp[hb])];exact List.dropWhile_cons_of_neg hb
def signs:Bs:=[59,62,60,40,41]
def parseB (l:Bs):Option (Bs×Bs×Bs) :=
 if 240<l.length then none
 else if partB (trim (l.take (min (first l 59) (first l 62))))=false then none
 else if min (first l 59) (first l 62)=l.length then some (trim (l.take (min (first l 59) (first l 62))),[],[])
 else if partB (trim (l.drop (min (first l 59) (first l 62)+1)))=false then none
 else if (l.getD (min (first l 59) (first l 62)) 0).toNat=59 then some (trim (l.take (min (first l 59) (first l 62))),trim (l.drop (min (first l 59) (first l 62)+1)),[])
 else some (trim (l.take (min (first l 59) (first l 62))),[],trim (l.drop (min (first l 59) (first l 62)+1)))
def strV (l:Bs):Value:=.string ⟨l.toArray⟩
theorem trim_le (l:Bs):(trim l).length≤l.length:=by
 have h1:∀(p:UInt8→Bool) (l:Bs),(l.dropWhile p).length≤l.length:=fun p l=>(List.dropWhile_sublist p).length_le
 unfold trim dropR dropL;have a:=h1 blank (l.dropWhile blank).reverse;have b:=h1 blank l;simp only[List.length_reverse] at *;omega
theorem getD_get {s:ByteArray}{m:Nat} (h:m<s.size):s.data.toList.getD m 0=s[m]:=by
 rw[List.getD_eq_getElem?_getD,List.getElem?_eq_getElem (by simpa using h)];rfl
structure Sp where
 kind:Nat
 text:Bs
 sub:Bs
 see:Bs
 kids:List Sp
def txt (s:Bs):Sp:=⟨0,s,[],[],[]⟩
structure Rw where
 sp:List Sp
 tx:Bs
def Rw.none:Rw:=⟨[],[]⟩
def Rw.write (r:Rw) (s:Bs):Rw:=⟨r.sp,r.tx++s⟩
def Rw.flush (r:Rw):Rw:=if r.tx=[] then ⟨r.sp,[]⟩ else ⟨r.sp++[txt r.tx],[]⟩
def Rw.add (r:Rw) (x:Sp):Rw:=if x.kind=0 then r.write x.text else ⟨r.flush.sp++[x],[]⟩
structure Fr where
 row:Rw
 kind:Nat
 sign:Bs
 at':Nat
structure Pst where
 fs:List Fr
 faults:List (Nat×Nat)
def onTop (g:Rw→Rw):List Fr→List Fr
 | []=>[]
 | f::r=>{ f with row:=g f.row } :: r
def Pst.top (st:Pst) (g:Rw→Rw):Pst:={ st with fs:=onTop g st.fs }
def Pst.write (st:Pst) (s:Bs):Pst:=st.top (·.write s)
def Pst.tell (st:Pst) (i f:Nat):Pst:={ st with faults:=st.faults++[(i,f)] }
def lastK (k:Nat):List Fr→Nat
 | []=>0
 | f::r=>if r=[] then 0 else if f.kind=k then r.length else lastK k r
def Pst.room (st:Pst):Bool:=decide (st.fs.length≤16)
def Pst.begin (st:Pst) (k i:Nat) (sign:Bs):Pst:={ st with fs:=⟨Rw.none,k,sign,i⟩::st.fs }
def spill (f:Fr) (r:Rw):Rw:=(f.row.sp.foldl Rw.add (r.write f.sign)).write f.row.tx
def Pst.drop1 (st:Pst):Pst :=
 match st.fs with
 | f::g::r=>⟨onTop (spill f) (g::r),st.faults++[(f.at',7)]⟩
 | _=>st
def Pst.dropN:Nat→Pst→Pst
 | 0,st=>st
 | n+1,st=>dropN n st.drop1
def Pst.drop (st:Pst) (n:Nat):Pst:=st.dropN (st.fs.length-1-n)
def Pst.shut (st:Pst):Pst :=
 match st.fs with
 | f::r=>{ st with fs:=onTop (·.add ⟨f.kind,[],[],[],f.row.flush.sp⟩) r }
 | _=>st
def Pst.fin (st:Pst) (n:Nat):Pst:=(st.drop n).shut
def nextAt (s:Bs) (i:Nat) (sign:Bs):Option Nat:=if Lib.index (s.drop i) sign<0 then none else some (i+(Lib.index (s.drop i) sign).toNat)
def Pst.between (st:Pst) (s:Bs) (i:Nat) (a b:Bs) (asf:Bs→Sp ⊕ Nat):Pst×Nat :=
 match nextAt s (i+a.length) b with
 | none=>((st.write a).tell i 7,i+a.length)
 | some n =>
  match asf ((s.drop (i+a.length)).take (n-(i+a.length))) with
  | .inr f=>((st.write ((s.drop i).take (n+b.length-i))).tell i f,n+b.length)
  | .inl x=>(st.top (·.add x),n+b.length)
def escB (c:UInt8):Bool:=c==42 || c==95 || c==60 || c==40 || c==94 || c==93 || c==92 || c==96
def solid (c:UInt8):Bool:=(65≤c&&c≤90) || (97≤c&&c≤122) || (48≤c&&c≤57)
def letterB (c:UInt8):Bool:=(65≤c&&c≤90) || (97≤c&&c≤122)
def nameB (l:Bs):Bool:=decide (1≤l.length)&&decide (l.length≤60)&&letterB (l.headD 0)&&l.all fun c=>solid c || c==45
def codeS (l:Bs):Sp ⊕ Nat:=.inl ⟨3,l,[],[],[]⟩
def refS (l:Bs):Sp ⊕ Nat:=if nameB l=true then .inl ⟨4,l,[],[],[]⟩ else .inr 10
def termS (l:Bs):Sp ⊕ Nat:=match parseB l with|some (a,b,c)=>.inl ⟨5,a,b,c,[]⟩|none=>.inr 8
def atOf (fs:List Fr) (n:Nat):Nat:=match fs.reverse[n]? with|some f=>f.at'|none=>0
def Pst.mark (st:Pst) (s:Bs) (i k:Nat):Pst :=
 if lastK k st.fs > 0∧atOf st.fs (lastK k st.fs)+1≠i∧0<i∧blank (s.getD (i-1) 0)=false∧¬(i+1<s.length∧solid (s.getD (i+1) 0)=true) then st.fin (lastK k st.fs)
 else if (0<i∧solid (s.getD (i-1) 0)=true)∨s.length≤i+1∨blank (s.getD (i+1) 0)=true then st.write [s.getD i 0]
 else if st.room=false then (st.write [s.getD i 0]).tell i 7
 else st.begin k i [s.getD i 0]
def Pst.step (st:Pst) (s:Bs) (i:Nat):Pst×Nat :=
 if s.getD i 0=92∧i+1<s.length∧escB (s.getD (i+1) 0)=true then (st.write [s.getD (i+1) 0],i+2)
 else if s.getD i 0=96 then st.between s i [96] [96] codeS
 else if [60,60].isPrefixOf (s.drop i)=true then st.between s i [60,60] [62,62] refS
 else if [40,40].isPrefixOf (s.drop i)=true then st.between s i [40,40] [41,41] termS
 else if [94,91].isPrefixOf (s.drop i)=true then (if st.room=true then st.begin 6 i [94,91] else (st.write [94,91]).tell i 7,i+2)
 else if s.getD i 0=93∧0<lastK 6 st.fs then (st.fin (lastK 6 st.fs),i+1)
 else if s.getD i 0=42 then (st.mark s i 1,i+1)
 else if s.getD i 0=95 then (st.mark s i 2,i+1)
 else (st.write [s.getD i 0],i+1)
def Pst.first:Pst:=⟨[⟨Rw.none,0,[],0⟩],[]⟩
def runP (s:Bs):Nat→Nat→Pst→Pst
 | 0,_,st=>st
 | n+1,i,st=>if i<s.length then runP s n (st.step s i).2 (st.step s i).1 else st
def endP (s:Bs):Pst:=(runP s s.length 0 Pst.first).drop 0
def spansOf (s:Bs):List Sp:=match (endP s).fs with|f::_=>f.row.flush.sp|[]=>[]
def faultsAt (s:Bs):List (Nat×Nat):=(endP s).faults
mutual
def sz1:Sp→Nat
 | ⟨_,t,u,v,kids⟩=>1+t.length+u.length+v.length+szL kids
def szL:List Sp→Nat
 | []=>0
 | x::l=>1+sz1 x+szL l
end
mutual
def dp1:Sp→Nat
 | ⟨_,_,_,_,kids⟩=>1+dpL kids
def dpL:List Sp→Nat
 | []=>0
 | x::l=>max (dp1 x) (dpL l)
end
theorem szL_app:∀a b:List Sp,szL (a++b)=szL a+szL b
 | [],b=>by simp[szL]
 | x::a,b=>by rw[List.cons_append,szL,szL,szL_app a b];omega
theorem szL_take {l:List Sp}{k:Nat}{x:Sp} (h:l[k]? = some x):szL (l.take (k+1))=szL (l.take k)+(1+sz1 x):=by
 rw[List.take_add_one,h,szL_app];simp[szL]
theorem szL_le {l:List Sp}{k:Nat}:szL (l.take k)≤szL l:=by
 have:=szL_app (l.take k) (l.drop k)
 rw[List.take_append_drop] at this;omega
theorem sz_get {l:List Sp}{k:Nat}{x:Sp} (h:l[k]? = some x):szL (l.take k)+1+sz1 x≤szL l:=by
 have h1:=szL_take h;have h2:=szL_le (l:=l) (k:=k+1);omega
theorem sz1_eq (x:Sp):sz1 x=1+x.text.length+x.sub.length+x.see.length+szL x.kids:=by
 obtain⟨k,t,u,v,ks⟩:=x;simp only[sz1]
theorem szL_len:∀l:List Sp,l.length≤szL l
 | []=>Nat.zero_le _
 | x::l=>by have:=szL_len l;simp only[szL,List.length_cons];omega
mutual
theorem dp_sz1:∀x:Sp,dp1 x≤sz1 x
 | ⟨_,_,_,_,kids⟩=>by have:=dp_szL kids;simp only[dp1,sz1];omega
theorem dp_szL:∀l:List Sp,dpL l≤szL l
 | []=>Nat.le_refl _
 | x::l=>by have:=dp_sz1 x;have:=dp_szL l;simp only[dpL,szL];omega
end
end Go.Bd
namespace Go.Bd
open Go.RowKit
def Holds (w:World) (g:Nat) (t:TypeId) (cs:Array Value):Prop:=w.heap[g]? = some (.cells cs t (0,0))
section
variable {w w':World} {g:Nat} {t:TypeId} {cs:Array Value}
theorem Holds.lt (h:Holds w g t cs):g<w.heap.size:=(Array.getElem?_eq_some_iff.1 h).1
theorem Holds.cell (h:Holds w g t cs) (i:Nat):w.cell? ⟨g,i,none⟩=cs[i]?:=cell_of_row w g i cs t (0,0) h
theorem Holds.free (h:Holds w g t cs) (i:Nat):w.frozen? ⟨g,i,none⟩=false:=frozen_of_row w g i cs t h
theorem Holds.new (w:World) (t:TypeId) (cs:Array Value):Holds (w.alloc (.cells cs t)) w.heap.size t cs:=heap_alloc_new w _
theorem Holds.drew (h:Holds w g t cs):Holds w.drew g t cs:=h
theorem Holds.alloc (h:Holds w g t cs) (o:Obj):Holds (w.alloc o) g t cs:=(Below.heap_alloc w o g h.lt).trans h
theorem Holds.set (h:Holds w g t cs) (i:Nat) (u:Value):Holds (w.setCell ⟨g,i,none⟩ u) g t (cs.setIfInBounds i u):=by
 unfold Holds at h ⊢;simp[World.setCell,Array.getElem?_modify,h]
theorem Holds.far (h:Holds w g t cs){p:Addr} (hp:g≠p.block) (u:Value):Holds (w.setCell p u) g t cs:=(Below.heap_setCell w p u g hp).trans h
theorem Holds.below {B:Nat} (h:Holds w g t cs) (hb:Below B w w') (hg:g<B):Holds w' g t cs:=(hb.block g hg).trans h
end
def byteV (b:UInt8):Value:=.int .u8 (b.toNat:Int)
section
variable {w w':World} {g n k:Nat} {t:TypeId} {l:Bs}
end
theorem addr_add (g j:Nat):(⟨g,0,none⟩:Addr).add j=⟨g,j,none⟩:=by unfold Addr.add;split<;>simp_all
section
variable {w w':World} {B B':Nat} {v:Value} {xs:List Value}
end
section
variable {w w':World} {base:Nat} {e:TypeId} {v:Value} {n:Nat} {xs:List Value}
theorem own_some (h:w.ownsRow base e 1 v n xs) (hn:0<n):∃g cap,v=.slice (some ⟨g,0,none⟩) n cap∧base≤g∧g<w.heap.size∧n≤cap∧cap≤maxLen∧w.shape? g=some (e,cap):=by
 rcases h.2 with ⟨_,h0⟩|⟨g,cap,cur,hv,hb,hh,hc,hm,hs,_⟩
 ·omega
 ·exact⟨g,cap,hv,hb,(Array.getElem?_eq_some_iff.1 hh).1,hc,hm,by simp[World.shape?,hh];omega⟩
theorem own_slice (h:w.ownsRow base e 1 v n xs):∃A cap,v=.slice A n cap∧n≤cap:=by
 rcases h.2 with ⟨hv,h0⟩|⟨g,cap,cur,hv,_,_,hc,_⟩
 ·exact⟨none,0,by rw[hv,h0],by omega⟩
 ·exact⟨_,_,hv,hc⟩
theorem own_cell {g cap:Nat} (h:w.ownsRow base e 1 (.slice (some ⟨g,0,none⟩) n cap) n xs){j:Nat}{u:Value} (hu:xs[j]? = some u):w.cell? ⟨g,j,none⟩=some u:=by
 have:=h.cells (g:=g) rfl j u hu
 rwa [addr_add] at this
theorem own_below (h:w.ownsRow base e 1 v n xs) (hb:Below w.heap.size w w'):w'.ownsRow base e 1 v n xs:=by
 refine⟨h.1,?_⟩
 rcases h.2 with hn|⟨g,cap,cur,hv,hg,hh,r⟩
 ·exact .inl hn
 ·exact .inr ⟨g,cap,cur,hv,hg,(hb.block g (Array.getElem?_eq_some_iff.1 hh).1).trans hh,r⟩
theorem own_far (h:w.ownsRow base e 1 v n xs){p:Addr} (hp:v.ownBlock≠some p.block) (u:Value):(w.setCell p u).ownsRow base e 1 v n xs:=by
 refine⟨h.1,?_⟩
 rcases h.2 with hn|⟨g,cap,cur,hv,hg,hh,r⟩
 ·exact .inl hn
 ·refine .inr ⟨g,cap,cur,hv,hg,?_,r⟩;rw[Below.heap_setCell _ _ _ _ (fun e=>hp (by rw[hv,←e];rfl))];exact hh
theorem wpList_app1 {P:Program} (w:World){ops:Array Oper}{rest:List Oper}{o:Oper}{a:Act}{Q:Exit→Act→World→Prop} (hgd:o.guard=none) (s x:Operand) (t:TypeId)
  (ho:o.op=.call { callee:=.builtin .append,args:=#[s,x],argTypes:=#[t,t] })
  (base:Nat) (e:TypeId) (z:Value) (bytes:Nat) (ht:P.underlying t=some (.slice e)) (hi:(P.info? e).map (fun i=>(i.zero,i.size,i.bytes))=some (some z,1,bytes)) (hz:z.cells.size=1)
  (v:Value) (n:Nat) (xs:List Value) (hs:a.eval s=v) (hown:w.ownsRow base e 1 v n xs)
  (g c:Nat) (u:Value) (hx:a.eval x=.slice (some ⟨g,0,none⟩) 1 c) (hc:w.cell? ⟨g,0,none⟩=some u) (h1:u.oneCell'=true)
  (h63:n+1≤maxLen) (hb:(n+1)*bytes≤140737488355328) (hbase:base≤w.heap.size)
  (h:∀v' w',w'.ownsRow base e 1 v' (n+1) (xs++[u])→w.grownBy w' v.ownBlock→wpList P ops Q rest (a.put o.dst v') w'):wpList P ops Q (o::rest) a w:=by
 obtain⟨i,hi,h2,h3,h4⟩:=info_parts hi;refine wpList_append_own w hgd s x t ho base e i z 1 bytes ht hi h2 h3 h4 hz (by decide) v n xs hs hown ⟨g,0,none⟩ 1 c [u] hx rfl (fun j u' hj=>?_) (fun u' hu=>?_) h63 hb hbase (fun v' w' k1 k2 _=>h v' w' k1 k2)
 ·obtain⟨rfl,rfl⟩:j=0∧u=u':=by
   cases j with
   | zero=>exact⟨rfl,by simpa using hj⟩
   | succ j=>simp at hj
  rw[addr_add];exact hc
 ·rw[List.mem_singleton] at hu;subst hu;exact h1
end
structure Chg (w w':World) (S:Nat→Prop):Prop where
 os:w'.os=w.os
 tape:w'.tape=w.tape
 output:w'.output=w.output
 size:w.heap.size≤w'.heap.size
 block:∀k,k<w.heap.size→¬S k→w'.heap[k]? = w.heap[k]?
section
variable {w w' w'':World} {S T:Nat→Prop}
theorem Chg.refl (w:World) (S:Nat→Prop):Chg w w S:=⟨rfl,rfl,rfl,Nat.le_refl _,fun _ _ _=>rfl⟩
theorem Chg.trans (h:Chg w w' S) (h2:Chg w' w'' T) (hT:∀k,k<w.heap.size→T k→S k):Chg w w'' S :=
 ⟨h2.os.trans h.os,h2.tape.trans h.tape,h2.output.trans h.output,Nat.le_trans h.size h2.size,fun k hk hs =>
  (h2.block k (Nat.lt_of_lt_of_le hk h.size) (fun ht=>hs (hT k hk ht))).trans (h.block k hk hs)⟩
theorem Chg.mono (h:Chg w w' S) (hT:∀k,k<w.heap.size→S k→T k):Chg w w' T:=⟨h.os,h.tape,h.output,h.size,fun k hk ht=>h.block k hk (fun hs=>ht (hT k hk hs))⟩
theorem Chg.alloc (h:Chg w w' S) (o:Obj):Chg w (w'.alloc o) S :=
 ⟨h.os,h.tape,h.output,Nat.le_trans h.size (by simp),fun k hk hs=>(Below.heap_alloc w' o k (Nat.lt_of_lt_of_le hk h.size)).trans (h.block k hk hs)⟩
theorem Chg.drew (h:Chg w w' S):Chg w w'.drew S:=⟨h.os,h.tape,h.output,h.size,h.block⟩
theorem Chg.drewN (h:Chg w w' S) (n:Nat):Chg w (w'.drewN n) S:=⟨h.os,h.tape,h.output,h.size,h.block⟩
theorem Chg.grown {row:Option Nat} (h:w.grownBy w' row):Chg w w' (fun k=>some k=row):=⟨h.os,h.tape,h.output,h.size,fun k hk hs=>h.block k hk hs⟩
theorem Chg.below (h:Below w.heap.size w w') (S:Nat→Prop):Chg w w' S:=⟨h.os,h.tape,h.output,h.size,fun k hk _=>h.block k hk⟩
theorem Chg.toBelow {B:Nat} (h:Chg w w' S) (hB:B≤w.heap.size) (hS:∀k,S k→B≤k):Below B w w' :=
 ⟨h.os,h.tape,h.output,h.size,fun k hk=>h.block k (by omega) (fun hs=>by have:=hS k hs;omega)⟩
theorem Chg.set (w:World) (p:Addr) (u:Value):Chg w (w.setCell p u) (fun k=>k=p.block) :=
 ⟨rfl,rfl,rfl,by simp[World.setCell],fun k _ hs=>Below.heap_setCell w p u k hs⟩
theorem Chg.cell (h:Chg w w' S){p:Addr}{v:Value} (hp:¬S p.block) (hc:w.cell? p=some v):w'.cell? p=some v :=
 (World.cell?_of_block (h.block _ (World.block_lt_of_cell? w _ hc) hp)).trans hc
theorem Chg.holds (h:Chg w w' S){g:Nat}{t:TypeId}{cs:Array Value} (hp:¬S g) (hh:Holds w g t cs):Holds w' g t cs:=(h.block g hh.lt hp).trans hh
theorem Chg.owns (h:Chg w w' S){base:Nat}{e:TypeId}{sz:Nat}{v:Value}{n:Nat}{xs:List Value} (ho:w.ownsRow base e sz v n xs) (hp:∀k,v.ownBlock=some k→¬S k):w'.ownsRow base e sz v n xs:=by
 refine⟨ho.1,?_⟩
 rcases ho.2 with hn|⟨g,cap,cur,hv,hg,hh,r⟩
 ·exact .inl hn
 ·exact .inr ⟨g,cap,cur,hv,hg,(h.block g (Array.getElem?_eq_some_iff.1 hh).1 (hp g (by rw[hv];rfl))).trans hh,r⟩
end
theorem cell_off {w:World}{b i j:Nat}{v:Value} (h:i≠j) (u:Value) (hc:w.cell? ⟨b,j,none⟩=some v):(w.setCell ⟨b,i,none⟩ u).cell? ⟨b,j,none⟩=some v:=by
 unfold World.cell? World.setCell at *;simp only[Array.getElem?_modify,if_true] at *;cases hw:w.heap[b]? with
 | none=>rw[hw] at hc;simp at hc
 | some o =>
  rw[hw] at hc;cases o<;>simp_all
theorem cell_far {w:World}{g b i j:Nat}{v:Value} (h:g≠b) (u:Value) (hc:w.cell? ⟨b,j,none⟩=some v):(w.setCell ⟨g,i,none⟩ u).cell? ⟨b,j,none⟩=some v :=
 (World.cell?_of_block (a:=⟨b,j,none⟩) (Below.heap_setCell w ⟨g,i,none⟩ u b (fun e=>h e.symm))).trans hc
theorem own_take {w:World}{base sz n c j:Nat}{e:TypeId}{A:Option Addr}{xs:List Value} (h:w.ownsRow base e sz (.slice A n c) n xs) (hj:j≤n):∃v',v'=.slice A j c∧w.ownsRow base e sz v' j (xs.take (j*sz)):=by
 refine⟨_,rfl,?_,?_⟩
 ·rw[List.length_take,h.1];have:j*sz≤n*sz:=Nat.mul_le_mul_right _ hj
  omega
 ·rcases h.2 with ⟨hv,h0⟩|⟨g,cap,cur,hv,hg,hh,hc,hm,hs,ht⟩
  ·injection hv with h1 h2 h3
   subst h1;subst h2;subst h3;obtain rfl:j=0:=by omega
   exact .inl ⟨rfl,by simp⟩
  ·injection hv with h1 h2 h3
   subst h1;subst h3;refine .inr ⟨g,_,cur,rfl,hg,hh,by omega,hm,hs,?_⟩;rw[←ht,List.take_take]
   congr 1
   have:j*sz≤n*sz:=Nat.mul_le_mul_right _ hj
   have h1:=h.1;have h2:xs.length≤cur.toList.length:=by rw[←ht,List.length_take];omega
   omega
def spCells (x:Sp) (kv:Value):List Value:=[.int .u8 (x.kind:Int),strV x.text,strV x.sub,strV x.see,kv]
inductive Forest (w:World) (F:Nat→Prop):Value→List Sp→Prop
 | mk (A:Option Addr) (c:Nat) (l:List Sp) (kvs:List Value) (hlen:kvs.length=l.length) (hc:l.length≤c)
   (hA:l≠[]→∃b off,A=some ⟨b,off,none⟩∧F b∧∀(j:Nat) x kv,l[j]? = some x→kvs[j]? = some kv→∀(i:Nat) u,(spCells x kv)[i]? = some u→w.cell? ⟨b,off+j*5+i,none⟩=some u)
   (hk:∀(j:Nat) x kv,l[j]? = some x→kvs[j]? = some kv→Forest w F kv x.kids):Forest w F (.slice A l.length c) l
section
variable {w w':World} {F G:Nat→Prop} {v:Value} {l:List Sp}
theorem Forest.nil (w:World) (F:Nat→Prop):Forest w F (.slice none 0 0) [] :=
 .mk none 0 [] [] rfl (Nat.le_refl _) (fun h=>absurd rfl h) (fun _ _ _ h=>by simp at h)
theorem Forest.keep (h:Forest w F v l) (hk:∀b,F b→G b) (hc:∀(p:Addr) u,F p.block→w.cell? p=some u→w'.cell? p=some u):Forest w' G v l:=by
 induction h with
 | mk A c l kvs hlen hcap hA _ ih =>
  refine .mk A c l kvs hlen hcap (fun hn=>?_) (fun j x kv h1 h2=>ih j x kv h1 h2);obtain⟨b,off,h1,h2,h3⟩:=hA hn;exact⟨b,off,h1,hk b h2,fun j x kv e1 e2 i u e3=>hc ⟨b,off+j*5+i,none⟩ u h2 (h3 j x kv e1 e2 i u e3)⟩
theorem Forest.chg {S:Nat→Prop} (h:Forest w F v l) (hc:Chg w w' S) (hk:∀b,F b→G b) (hS:∀b,F b→¬S b):Forest w' G v l :=
 h.keep hk fun _ _ hF hu=>hc.cell (hS _ hF) hu
theorem Forest.under {B:Nat} (h:Forest w F v l) (hb:Below B w w') (hF:∀b,F b→b<B):Forest w' F v l :=
 h.keep (fun _ h=>h) fun p u hp hu=>(hb.cell (hF _ hp)).trans hu
theorem Forest.form (h:Forest w F v l):∃A c,v=.slice A l.length c∧l.length≤c∧∀(j:Nat) x,l[j]? = some x→∃b off kv,A=some ⟨b,off,none⟩∧F b∧Forest w F kv x.kids ∧
  w.cell? ⟨b,off+j*5,none⟩=some (.int .u8 (x.kind:Int))∧w.cell? ⟨b,off+j*5+1,none⟩=some (strV x.text)∧w.cell? ⟨b,off+j*5+2,none⟩=some (strV x.sub)∧w.cell? ⟨b,off+j*5+3,none⟩=some (strV x.see)∧w.cell? ⟨b,off+j*5+4,none⟩=some kv:=by
 cases h with
 | mk A c l kvs hlen hcap hA hk =>
  refine⟨A,c,rfl,hcap,fun j x hx=>?_⟩;have hj:j<l.length:=(List.getElem?_eq_some_iff.1 hx).1;obtain⟨kv,hkv⟩:∃kv,kvs[j]? = some kv:=⟨_,List.getElem?_eq_getElem (by omega)⟩;obtain⟨b,off,h1,h2,h3⟩:=hA (by rintro rfl;simp at hj);have h4:=h3 j x kv hx hkv;exact⟨b,off,kv,h1,h2,hk j x kv hx hkv,h4 0 _ rfl,h4 1 _ rfl,h4 2 _ rfl,h4 3 _ rfl,h4 4 _ rfl⟩
end
def rowCells:List Sp→List Value→List Value
 | x::l,kv::kvs=>spCells x kv++rowCells l kvs
 | _,_=>[]
theorem rowCells_length:∀{l:List Sp}{kvs:List Value},kvs.length=l.length→(rowCells l kvs).length=l.length*5
 | [],[],_=>rfl
 | [],_::_,h=>by simp at h
 | _::_,[],h=>by simp at h
 | x::l,kv::kvs,h=>by
  rw[rowCells,List.length_append,rowCells_length (l:=l) (kvs:=kvs) (by simpa using h)];simp[spCells];omega
theorem rowCells_snoc:∀{l:List Sp}{kvs:List Value} (x:Sp) (kv:Value),kvs.length=l.length→rowCells (l++[x]) (kvs++[kv])=rowCells l kvs++spCells x kv
 | [],[],x,kv,_=>by simp[rowCells]
 | [],_::_,_,_,h=>by simp at h
 | _::_,[],_,_,h=>by simp at h
 | y::l,kw::kvs,x,kv,h=>by
  rw[List.cons_append,List.cons_append,rowCells,rowCells_snoc (l:=l) (kvs:=kvs) x kv (by simpa using h),rowCells,List.append_assoc]
theorem rowCells_get:∀{l:List Sp}{kvs:List Value}{j:Nat}{x:Sp}{kv:Value}{i:Nat}{u:Value},l[j]? = some x→kvs[j]? = some kv→(spCells x kv)[i]? = some u→(rowCells l kvs)[j*5+i]? = some u
 | [],_,_,_,_,_,_,h,_,_=>by simp at h
 | _::_,[],_,_,_,_,_,_,h,_=>by simp at h
 | y::l,kw::kvs,0,x,kv,i,u,h1,h2,h3=>by
  simp at h1 h2;subst h1;subst h2;have hi:i<(spCells y kw).length:=(List.getElem?_eq_some_iff.1 h3).1;rw[rowCells,List.getElem?_append_left (by simpa using hi)];simpa using h3
 | y::l,kw::kvs,j+1,x,kv,i,u,h1,h2,h3=>by
  have ih:=rowCells_get (l:=l) (kvs:=kvs) (j:=j) (i:=i) (by simpa using h1) (by simpa using h2) h3;rw[rowCells,List.getElem?_append_right (by simp[spCells];omega),←ih]
  congr 1
  simp[spCells];omega
def SpanRow (w:World) (B:Nat) (t:TypeId) (F:Nat→Prop) (v:Value) (l:List Sp):Prop :=
 ∃kvs,kvs.length=l.length∧w.ownsRow B t 5 v l.length (rowCells l kvs)∧∀(j:Nat) x kv,l[j]? = some x→kvs[j]? = some kv→Forest w F kv x.kids
section
variable {w w':World} {F G:Nat→Prop} {v:Value} {l:List Sp} {B:Nat} {t:TypeId}
theorem SpanRow.nil (w:World) (B:Nat) (t:TypeId) (F:Nat→Prop):SpanRow w B t F (.slice none 0 0) []:=⟨[],rfl,World.ownsRow_nil _ _ _ _,fun _ _ _ h=>by simp at h⟩
theorem SpanRow.chg {S:Nat→Prop} (h:SpanRow w B t F v l) (hc:Chg w w' S) (hk:∀b,F b→G b) (hS:∀b,F b→¬S b) (hv:∀b,v.ownBlock=some b→¬S b):SpanRow w' B t G v l:=by
 obtain⟨kvs,h1,h2,h3⟩:=h;exact⟨kvs,h1,hc.owns h2 hv,fun j x kv e1 e2=>(h3 j x kv e1 e2).chg hc hk hS⟩
theorem SpanRow.lt (h:SpanRow w B t F v l):∀k,v.ownBlock=some k→B≤k∧k<w.heap.size:=by
 obtain⟨kvs,h1,h2,h3⟩:=h;exact h2.lt
theorem SpanRow.form (h:SpanRow w B t F v l):∃A c,v=.slice A l.length c∧l.length≤c:=by
 obtain⟨kvs,h1,h2,h3⟩:=h
 rcases h2.2 with ⟨hv,h0⟩|⟨g,cap,cur,hv,_,_,hc,_⟩
 ·exact⟨none,0,by rw[hv,h0],by omega⟩
 ·exact⟨_,_,hv,hc⟩
theorem SpanRow.forest (h:SpanRow w B t F v l) (hk:∀b,F b→G b) (hv:∀b,v.ownBlock=some b→G b):Forest w G v l:=by
 obtain⟨kvs,h1,h2,h3⟩:=h;obtain⟨A,c,rfl,hc⟩:=SpanRow.form ⟨kvs,h1,h2,h3⟩;refine .mk A c l kvs h1 hc (fun hn=>?_) (fun j x kv e1 e2=>(h3 j x kv e1 e2).keep hk fun _ _ _ h=>h);have hl:0<l.length:=List.length_pos_iff.2 hn
 rcases h2.2 with ⟨hv,h0⟩|⟨g,cap,cur,hv2,hb,hh,_⟩
 ·omega
 ·injection hv2 with e1 e2 e3
  subst e1;subst e3;refine⟨g,0,rfl,hv g rfl,fun j x kv e1 e2 i u e3=>?_⟩;have:=h2.cells (g:=g) rfl (j*5+i) u (rowCells_get e1 e2 e3)
  rw[addr_add] at this;rw[←this];congr 2;omega
end
end Go.Bd
namespace Go.Proofs.YtkdknllcllhpgaaGreatDoor
open Go.ChangeShapes Go.WideShapes Go.RowKit Go.Bd
theorem bulk_map {H:Type}{α:Type}{S:α→Sp}{D:α→DataW H}:∀{r:List α},(∀i∈r,sz1 (S i)+1≤Rows.uptoBulk (D i))→szL (r.map S)≤Rows.uptoBulkAll (r.map D)
 | [],_=>Nat.le_refl _
 | i::r,h=>by
  have h1:=h i (List.mem_cons_self ..);have h2:=bulk_map (r:=r) fun j hj=>h j (List.mem_cons_of_mem _ hj)
  simp only[List.map_cons,szL,Rows.uptoBulkAll];omega
theorem bulk_at {H:Type}{α:Type}{D:α→DataW H}:∀{r:List α}{i:α},i∈r→Rows.uptoBulk (D i)≤Rows.uptoBulkAll (r.map D)
 | j::r,i,h=>by
  simp only[List.map_cons,Rows.uptoBulkAll]
  rcases List.mem_cons.1 h with rfl|h
  ·omega
  ·have:=bulk_at (D:=D) h;omega
theorem byte_back (s:ByteArray):(⟨s.data.toList.toArray⟩:ByteArray)=s:=by simp
section
variable {H:Type} {enc:TypeId×Value→H} {w:World} {sp:Nat→Bool} {held:Bool}
theorem open_spans_cells:∀(N:Nat){fuel:Nat}{cs:List Value}{x:DataW H×List MemPlace},Rows.uptoBulk x.1≤N→DataW.trod enc Tryz.prog w 0 sp held fuel 69 cs=some x →
  ∃v l,cs=[v]∧Forest w (· < w.heap.size) v l∧szL l+1≤Rows.uptoBulk x.1:=by
 intro N
 induction N with
 | zero =>
  intro fuel cs x hN _;exfalso;have:1≤Rows.uptoBulk x.1:=by
   cases x.1 with
   | lit l=>cases l<;>simp[Rows.uptoBulk]
   | _=>simp[Rows.uptoBulk]
  omega
 | succ N ih =>
  intro fuel cs x hN h
  rcases Deep.open_slice (e:=129) Tryz.underlying69 h with ⟨rfl,rfl⟩|⟨a,len,cap,m,n,D,Pl,rfl,_,hl,_,hmm,rfl,hx⟩
  ·exact⟨_,[],rfl,Forest.nil _ _,by simp[szL,Rows.uptoBulk]⟩
  ·have hlm:len≤m:=by rw[hmm];split<;>omega
   have hc5:Tryz.prog.cellsOf 129=5:=by kernel_rfl
   have hN':Rows.uptoBulkAll ((List.range len).map D)+1≤N+1:=by
    simp only[Rows.uptoBulk] at hN;omega
   have each:∀i,i<len→∃q:Sp×Value,(∀(j:Nat) u,(spCells q.1 q.2)[j]? = some u→w.cell? ((a.add (i*5)).add j)=some u)∧Forest w (· < w.heap.size) q.2 q.1.kids∧sz1 q.1+1≤Rows.uptoBulk (D i):=by
    intro i hi;obtain⟨cs',h1,h2⟩:=hx i (by omega);rw[hc5] at h1;obtain⟨k,V,DD,hag,hf⟩:=open_fields Tryz.underlying129 (by rw[hc5];rfl) (fun i f hif=>by
     have hi':i<5:=(Array.getElem?_eq_some_iff.1 hif).1
     match i,hi' with
     | 0,_=>obtain rfl:=Option.some.inj hif;exact⟨rfl,by kernel_rfl⟩
     | 1,_=>obtain rfl:=Option.some.inj hif;exact⟨rfl,by kernel_rfl⟩
     | 2,_=>obtain rfl:=Option.some.inj hif;exact⟨rfl,by kernel_rfl⟩
     | 3,_=>obtain rfl:=Option.some.inj hif;exact⟨rfl,by kernel_rfl⟩
     | 4,_=>obtain rfl:=Option.some.inj hif;exact⟨rfl,by kernel_rfl⟩) (by rw[hc5];exact h1) h2
    obtain⟨c0,g0⟩:=hf 0 _ rfl;obtain⟨c1,g1⟩:=hf 1 _ rfl;obtain⟨c2,g2⟩:=hf 2 _ rfl;obtain⟨c3,g3⟩:=hf 3 _ rfl;obtain⟨c4,g4⟩:=hf 4 _ rfl;obtain⟨z,e0,d0,w0⟩:=DataW.trod_int Tryz.underlying127 g0;obtain⟨s1,e1,d1,_⟩:=DataW.trod_string Tryz.underlying9 g1;obtain⟨s2,e2,d2,_⟩:=DataW.trod_string Tryz.underlying9 g2;obtain⟨s3,e3,d3,_⟩:=DataW.trod_string Tryz.underlying9 g3;simp only[List.cons.injEq,and_true] at e0 e1 e2 e3;have hsum:Rows.uptoBulk (D i)=1+(Rows.uptoBulk (DD 0).1+(Rows.uptoBulk (DD 1).1+(Rows.uptoBulk (DD 2).1+(Rows.uptoBulk (DD 3).1+Rows.uptoBulk (DD 4).1)))):=by
     have hag':D i=.agg [(DD 0).1,(DD 1).1,(DD 2).1,(DD 3).1,(DD 4).1]:=hag;rw[hag'];simp only[Rows.uptoBulk,Rows.uptoBulkAll];omega
    have hbi:=bulk_at (D:=D) (r:=List.range len) (List.mem_range.2 hi);obtain⟨v,l,e4,hfo,hsz⟩:=ih (x:=DD 4) (by omega) g4;simp only[List.cons.injEq,and_true] at e4;have hz:0≤z:=by
     have h255:0≤z∧z≤255:=by simpa [Lit.wf,IntKind.min,IntKind.max,IntKind.signed,IntKind.bits] using w0
     exact h255.1
    rw[d0,d1,d2,d3] at hsum;simp only[Rows.uptoBulk] at hsum;refine⟨(⟨z.toNat,s1.data.toList,s2.data.toList,s3.data.toList,l⟩,v),fun j u hu=>?_,hfo,?_⟩
    ·match j,hu with
     | 0,hu=>simp only[spCells,List.getElem?_cons_zero,Option.some.injEq] at hu;rw[←hu,c0,e0,Int.toNat_of_nonneg hz]
     | 1,hu=>simp only[spCells,List.getElem?_cons_succ,List.getElem?_cons_zero,Option.some.injEq] at hu;rw[←hu,c1,e1,strV,byte_back]
     | 2,hu=>simp only[spCells,List.getElem?_cons_succ,List.getElem?_cons_zero,Option.some.injEq] at hu;rw[←hu,c2,e2,strV,byte_back]
     | 3,hu=>simp only[spCells,List.getElem?_cons_succ,List.getElem?_cons_zero,Option.some.injEq] at hu;rw[←hu,c3,e3,strV,byte_back]
     | 4,hu=>simp only[spCells,List.getElem?_cons_succ,List.getElem?_cons_zero,Option.some.injEq] at hu;rw[←hu,c4,e4]
     | j+5,hu=>simp[spCells] at hu
    ·simp only[sz1_eq];omega
   haveI:Inhabited (Sp×Value):=⟨(⟨0,[],[],[],[]⟩,.slice none 0 0)⟩
   obtain⟨S,hS⟩:=Deep.choose_lt each;have hlen:((List.range len).map fun i=>(S i).1).length=len:=by simp
   refine⟨_,(List.range len).map fun i=>(S i).1,rfl,?_,?_⟩
   ·have hF:Forest w (· < w.heap.size) (.slice (some a) ((List.range len).map fun i=>(S i).1).length cap) ((List.range len).map fun i=>(S i).1):=by
     refine .mk (some a) cap _ ((List.range len).map fun i=>(S i).2) (by simp) (by rw[hlen];exact hl) (fun hn=>?_) (fun j x kv h1 h2=>?_)
     ·have h0:0<len:=by
       rcases Nat.eq_zero_or_pos len with h|h
       ·subst h;exact absurd rfl hn
       ·exact h
      have:=(hS 0 h0).1 0 _ rfl
      rw[Nat.zero_mul,Deep.add_add] at this;obtain⟨b,off,rfl,hb⟩:=open_addr this;refine⟨b,off,rfl,hb,fun j x kv h1 h2 i u hu=>?_⟩;have hj:j<len:=by have:=(List.getElem?_eq_some_iff.1 h1).1;simpa using this
      rw[List.getElem?_map,List.getElem?_range hj] at h1 h2;simp only[Option.map_some,Option.some.injEq] at h1 h2;subst h1 h2;have hc:=(hS j hj).1 i u hu;rw[Deep.add_add,Addr.add_lit] at hc;rw[Nat.add_assoc];exact hc
     ·have hj:j<len:=by have:=(List.getElem?_eq_some_iff.1 h1).1;simpa using this
      rw[List.getElem?_map,List.getElem?_range hj] at h1 h2;simp only[Option.map_some,Option.some.injEq] at h1 h2;subst h1 h2;exact (hS j hj).2.1
    rw[hlen] at hF;exact hF
   ·have h1:=bulk_map (S:=fun i=>(S i).1) (D:=D) (r:=List.range len) fun i hi=>(hS i (List.mem_range.1 hi)).2.2
    simp only[Rows.uptoBulk];omega
end
end Go.Proofs.YtkdknllcllhpgaaGreatDoor
namespace Go.Bd
open Go.RowKit
def spareB:Bs:=[115,112,97,114,101]
def markCells:List Value:=[.int .u8 0,strV spareB,strV [],strV [],.slice none 0 0]
inductive Marked (w:World) (F:Nat→Prop):Value→List Sp→Prop
 | mk (g c:Nat) (l:List Sp) (kvs:List Value) (hlen:kvs.length=l.length) (hc:l.length<c) (hF:F g)
   (hA:∀(j:Nat) x kv,l[j]? = some x→kvs[j]? = some kv→∀(i:Nat) u,(spCells x kv)[i]? = some u→w.cell? ⟨g,j*5+i,none⟩=some u)
   (hS:∀(i:Nat) u,markCells[i]? = some u→w.cell? ⟨g,l.length*5+i,none⟩=some u)
   (hk:∀(j:Nat) x kv,l[j]? = some x→kvs[j]? = some kv→Marked w F kv x.kids):Marked w F (.slice (some ⟨g,0,none⟩) l.length c) l
section
variable {w w':World} {F G:Nat→Prop} {v:Value} {l:List Sp}
theorem Marked.keep (h:Marked w F v l) (hk:∀b,F b→G b) (hc:∀(p:Addr) u,F p.block→w.cell? p=some u→w'.cell? p=some u):Marked w' G v l:=by
 induction h with
 | mk g c l kvs hlen hcap hF hA hS _ ih =>
  exact .mk g c l kvs hlen hcap (hk g hF) (fun j x kv e1 e2 i u e3=>hc ⟨g,j*5+i,none⟩ u hF (hA j x kv e1 e2 i u e3)) (fun i u e=>hc ⟨g,l.length*5+i,none⟩ u hF (hS i u e)) (fun j x kv e1 e2=>ih j x kv e1 e2)
theorem Marked.chg {S:Nat→Prop} (h:Marked w F v l) (hc:Chg w w' S) (hk:∀b,F b→G b) (hS:∀b,F b→¬S b):Marked w' G v l :=
 h.keep hk fun _ _ hF hu=>hc.cell (hS _ hF) hu
theorem Marked.under {B:Nat} (h:Marked w F v l) (hb:Below B w w') (hF:∀b,F b→b<B):Marked w' F v l :=
 h.keep (fun _ h=>h) fun p u hp hu=>(hb.cell (hF _ hp)).trans hu
theorem Marked.form (h:Marked w F v l):∃g c,v=.slice (some ⟨g,0,none⟩) l.length c∧l.length<c∧F g ∧
  (∀(i:Nat) u,markCells[i]? = some u→w.cell? ⟨g,l.length*5+i,none⟩=some u) ∧
  ∀(j:Nat) x,l[j]? = some x→∃kv,Marked w F kv x.kids ∧
   w.cell? ⟨g,j*5,none⟩=some (.int .u8 (x.kind:Int))∧w.cell? ⟨g,j*5+1,none⟩=some (strV x.text)∧w.cell? ⟨g,j*5+2,none⟩=some (strV x.sub)∧w.cell? ⟨g,j*5+3,none⟩=some (strV x.see)∧w.cell? ⟨g,j*5+4,none⟩=some kv:=by
 cases h with
 | mk g c l kvs hlen hcap hF hA hS hk =>
  refine⟨g,c,rfl,hcap,hF,hS,fun j x hx=>?_⟩;have hj:j<l.length:=(List.getElem?_eq_some_iff.1 hx).1;obtain⟨kv,hkv⟩:∃kv,kvs[j]? = some kv:=⟨_,List.getElem?_eq_getElem (by omega)⟩;exact⟨kv,hk j x kv hx hkv,hA j x kv hx hkv 0 _ rfl,hA j x kv hx hkv 1 _ rfl,hA j x kv hx hkv 2 _ rfl,hA j x kv hx hkv 3 _ rfl,hA j x kv hx hkv 4 _ rfl⟩
theorem twin_of_row {B:Nat}{t:TypeId}{g cap:Nat}{kvs:List Value} (hkl:kvs.length=l.length) (hro:w.ownsRow B t 5 (.slice (some ⟨g,0,none⟩) (l.length+1) cap) (l.length+1) (rowCells l kvs++markCells)) (hF:F g)
  (hk:∀(j:Nat) x kv,l[j]? = some x→kvs[j]? = some kv→Marked w F kv x.kids):Marked w F (.slice (some ⟨g,0,none⟩) l.length cap) l:=by
 have hrl:(rowCells l kvs).length=l.length*5:=rowCells_length hkl;have hcap:l.length<cap:=by
  rcases hro.2 with ⟨h,_⟩|⟨g',cap',cur,hv,_,_,hc,_⟩
  ·cases h
  ·injection hv with e1 e2 e3;omega
 refine .mk g cap l kvs hkl hcap hF (fun j x kv e1 e2 i u e3=>?_) (fun i u e=>?_) hk
 ·have h1:=rowCells_get e1 e2 e3;have hlt:j*5+i<(rowCells l kvs).length:=(List.getElem?_eq_some_iff.1 h1).1;have:=hro.cells (g:=g) rfl (j*5+i) u (by rw[List.getElem?_append_left hlt];exact h1)
  rw[addr_add] at this;exact this
 ·have:=hro.cells (g:=g) rfl (l.length*5+i) u (by rw[List.getElem?_append_right (by omega),hrl,Nat.add_sub_cancel_left];exact e)
  rw[addr_add] at this;exact this
end
section
variable {α:Type}
abbrev Rel (α:Type):=World→(Nat→Prop)→Value→α→Prop
def Rel.Stays (R:Rel α):Prop:=∀(w w':World) (F G S:Nat→Prop) (v:Value) (x:α),R w F v x→Chg w w' S→(∀b,F b→G b)→(∀b,F b→¬S b)→R w' G v x
theorem Rel.Stays.go {R:Rel α} (hR:R.Stays){w w':World}{F G S:Nat→Prop}{v:Value}{x:α} (h:R w F v x) (hc:Chg w w' S) (hk:∀b,F b→G b) (hS:∀b,F b→¬S b):R w' G v x:=hR w w' F G S v x h hc hk hS
theorem Rel.Stays.under {R:Rel α} (hR:R.Stays){w w':World}{F:Nat→Prop}{B:Nat}{v:Value}{x:α} (h:R w F v x) (hb:Below B w w') (hF:∀b,F b→b<B):R w' F v x :=
 hR.go h (S:=fun k=>B≤k) ⟨hb.os,hb.tape,hb.output,hb.size,fun k _ hs=>hb.block k (Nat.lt_of_not_le hs)⟩ (fun _ h=>h) (fun b h hs=>by have:=hF b h;omega)
def RowF (R:Rel α) (w:World) (F:Nat→Prop) (v:Value) (l:List α):Prop :=
 ∃(A:Option Addr) (c:Nat) (kvs:List Value),v=.slice A l.length c∧l.length≤c∧kvs.length=l.length∧(l≠[]→∃b off,A=some ⟨b,off,none⟩∧F b∧∀(j:Nat) kv,kvs[j]? = some kv→w.cell? ⟨b,off+j,none⟩=some kv) ∧
  ∀(j:Nat) x kv,l[j]? = some x→kvs[j]? = some kv→R w F kv x
def RowM (M:Rel α) (Q:World→(Nat→Prop)→Value→Prop) (w:World) (F:Nat→Prop) (v:Value) (l:List α):Prop :=
 ∃(g c:Nat) (kvs:List Value) (mk:Value),v=.slice (some ⟨g,0,none⟩) l.length c∧l.length<c∧F g∧kvs.length=l.length∧(∀(j:Nat) kv,kvs[j]? = some kv→w.cell? ⟨g,j,none⟩=some kv)∧w.cell? ⟨g,l.length,none⟩=some mk∧Q w F mk ∧
  ∀(j:Nat) x kv,l[j]? = some x→kvs[j]? = some kv→M w F kv x
theorem RowF.stays {R:Rel α} (hR:R.Stays):Rel.Stays (RowF R):=by
 rintro w w' F G S v l ⟨A,c,kvs,e,hc,hl,hA,hk⟩ hch hFG hFS;refine⟨A,c,kvs,e,hc,hl,fun hn=>?_,fun j x kv e1 e2=>hR.go (hk j x kv e1 e2) hch hFG hFS⟩;obtain⟨b,off,h1,h2,h3⟩:=hA hn;exact⟨b,off,h1,hFG b h2,fun j kv e=>hch.cell (hFS b h2) (h3 j kv e)⟩
theorem RowM.stays {M:Rel α}{Q:World→(Nat→Prop)→Value→Prop} (hM:M.Stays) (hQ:∀{w w':World}{F G S:Nat→Prop}{v:Value},Q w F v→Chg w w' S→(∀b,F b→G b)→(∀b,F b→¬S b)→Q w' G v):Rel.Stays (RowM M Q):=by
 rintro w w' F G S v l ⟨g,c,kvs,mk,e,hc,hF,hl,hA,hm,hq,hk⟩ hch hFG hFS;exact⟨g,c,kvs,mk,e,hc,hFG g hF,hl,fun j kv e=>hch.cell (hFS g hF) (hA j kv e),hch.cell (hFS g hF) hm,hQ hq hch hFG hFS,fun j x kv e1 e2=>hM.go (hk j x kv e1 e2) hch hFG hFS⟩
theorem RowF.len {R:Rel α}{w:World}{F:Nat→Prop}{v:Value}{l:List α} (h:RowF R w F v l):∃A c,v=.slice A l.length c∧l.length≤c:=by
 obtain⟨A,c,kvs,e,hc,_⟩:=h;exact⟨A,c,e,hc⟩
theorem RowF.at {R:Rel α}{w:World}{F:Nat→Prop}{A:Option Addr}{n c:Nat}{l:List α} (h:RowF R w F (.slice A n c) l){j:Nat}{x:α} (hx:l[j]? = some x):∃b off kv,A=some ⟨b,off,none⟩∧F b∧R w F kv x∧w.cell? ⟨b,off+j,none⟩=some kv:=by
 obtain⟨A',c',kvs,e,hc,hl,hA,hk⟩:=h;injection e with e1 e2 e3
 subst e1;have hj:j<l.length:=(List.getElem?_eq_some_iff.1 hx).1;obtain⟨b,off,h1,h2,h3⟩:=hA (by intro h;rw[h] at hj;simp at hj);obtain⟨kv,hkv⟩:∃kv,kvs[j]? = some kv:=⟨_,List.getElem?_eq_getElem (by omega)⟩;exact⟨b,off,kv,h1,h2,hk j x kv hx hkv,h3 j kv hkv⟩
theorem RowM.form {M:Rel α}{Q:World→(Nat→Prop)→Value→Prop}{w:World}{F:Nat→Prop}{v:Value}{l:List α} (h:RowM M Q w F v l):∃g c mk,v=.slice (some ⟨g,0,none⟩) l.length c∧l.length<c∧F g∧w.cell? ⟨g,l.length,none⟩=some mk∧Q w F mk ∧
  ∀(j:Nat) x,l[j]? = some x→∃kv,M w F kv x∧w.cell? ⟨g,j,none⟩=some kv:=by
 obtain⟨g,c,kvs,mk,e,hc,hF,hl,hA,hm,hq,hk⟩:=h;refine⟨g,c,mk,e,hc,hF,hm,hq,fun j x hx=>?_⟩;have hj:j<l.length:=(List.getElem?_eq_some_iff.1 hx).1;obtain⟨kv,hkv⟩:∃kv,kvs[j]? = some kv:=⟨_,List.getElem?_eq_getElem (by omega)⟩;exact⟨kv,hk j x kv hx hkv,hA j kv hkv⟩
structure Tw1 (M:Rel α) (t:TypeId) (w wr:World) (g cap k:Nat) (kvs:List Value) (l:List α):Prop where
 hl:kvs.length=k
 ho:wr.ownsRow w.heap.size t 1 (.slice (some ⟨g,0,none⟩) k cap) k kvs
 hk:∀(j:Nat) x kv,l[j]? = some x→kvs[j]? = some kv→M wr (fun b=>w.heap.size≤b∧b<wr.heap.size∧b≠g) kv x
 hg:w.heap.size≤g∧g<wr.heap.size
 hb:Below w.heap.size w wr
theorem tw1_next {M:Rel α} (hM:M.Stays){t:TypeId}{w wr w2 w3:World}{g cap k g1 cap1:Nat}{kvs:List Value}{l:List α}{x:α}{kv:Value}{o:Obj} (h:Tw1 M t w wr g cap k kvs l) (hx:l[k]? = some x) (hb2:Below wr.heap.size wr w2)
  (ht2:M w2 (fun b=>wr.heap.size≤b∧b<w2.heap.size) kv x) (hown3:w3.ownsRow w.heap.size t 1 (.slice (some ⟨g1,0,none⟩) (k+1) cap1) (k+1) (kvs++[kv]))
  (hgrow:(w2.alloc o).grownBy w3 (some g)) (hat:(some g:Option Nat)=some g1∨g1=w2.heap.size+1) (hlt3:g1<w3.heap.size):Tw1 M t w w3 g1 cap1 (k+1) (kvs++[kv]) l:=by
 have hc:Chg w2 w3 (fun b=>some b=some g):=((Chg.refl w2 (fun b=>some b=some g)).alloc o).trans (Chg.grown hgrow) (fun _ _ h=>h);have hs2:=hb2.size;have hs3:=hc.size;obtain⟨hg1,hg2⟩:=h.hg;have hgg:g1=g∨g1=w2.heap.size+1:=hat.imp (fun e=>(Option.some.inj e).symm) id;have hbb:=h.hb.size;refine⟨by rw[List.length_append,h.hl];rfl,hown3,fun j y ku e1 e2=>?_,⟨by omega,hlt3⟩,?_⟩
 ·by_cases hj:j<k
  ·rw[List.getElem?_append_left (by rw[h.hl];exact hj)] at e2;exact hM.go (hM.under (h.hk j y ku e1 e2) hb2 (fun b hb=>hb.2.1)) hc (fun b hb=>⟨hb.1,by omega,by omega⟩) (fun b hb e=>hb.2.2 (Option.some.inj e))
  ·have hjk:j=k:=by
    have:=(List.getElem?_eq_some_iff.1 e2).1
    rw[List.length_append,h.hl] at this;simp at this;omega
   subst hjk;rw[List.getElem?_append_right (by rw[h.hl];exact Nat.le_refl _),h.hl,Nat.sub_self] at e2;rw[hx] at e1;simp only[List.getElem?_cons_zero,Option.some.injEq] at e1 e2;subst e1 e2;exact hM.go ht2 hc (fun b hb=>⟨by omega,by omega,by omega⟩) (fun b hb e=>by have:=Option.some.inj e;omega)
 ·exact (h.hb.trans (hb2.mono hbb)).trans (hc.toBelow (by omega) (fun b e=>by have:=Option.some.inj e;omega))
theorem tw1_last {M:Rel α} (hM:M.Stays){Q:World→(Nat→Prop)→Value→Prop}{t:TypeId}{w wr w2 w3:World}{g cap k g1 cap1:Nat}{kvs:List Value}{l:List α}{mk:Value} (h:Tw1 M t w wr g cap k kvs l) (hkl:l.length=k)
  (hc2:Chg wr w2 (fun _=>False)) (hown3:w3.ownsRow w.heap.size t 1 (.slice (some ⟨g1,0,none⟩) (k+1) cap1) (k+1) (kvs++[mk]))
  (hgrow:w2.grownBy w3 (some g)) (hat:(some g:Option Nat)=some g1∨g1=w2.heap.size) (hlt3:g1<w3.heap.size)
  (hq:Q w3 (fun b=>w.heap.size≤b∧b<w3.heap.size) mk) :
  RowM M Q w3 (fun b=>w.heap.size≤b∧b<w3.heap.size) (.slice (some ⟨g1,0,none⟩) l.length cap1) l∧Below w.heap.size w w3:=by
 have hc:Chg wr w3 (fun b=>some b=some g):=(hc2.mono (fun _ _ h=>h.elim)).trans (Chg.grown hgrow) (fun _ _ h=>h);have hs3:=hc.size;have hs2:=hc2.size;obtain⟨hg1,hg2⟩:=h.hg;have hgg:g1=g∨g1=w2.heap.size:=hat.imp (fun e=>(Option.some.inj e).symm) id;have hbb:=h.hb.size;subst hkl;have hcap:l.length<cap1:=by
  rcases hown3.2 with ⟨h,_⟩|⟨g',cap',cur,hv,_,_,hc,_⟩
  ·cases h
  ·injection hv with e1 e2 e3;omega
 have hcell:∀(j:Nat) u,(kvs++[mk])[j]? = some u→w3.cell? ⟨g1,j,none⟩=some u:=fun j u hu=>by
  have:=hown3.cells (g:=g1) rfl j u hu
  rwa [addr_add] at this
 refine⟨⟨g1,cap1,kvs,mk,rfl,hcap,⟨by omega,hlt3⟩,h.hl,fun j kv e=>hcell j kv (by rw[List.getElem?_append_left (List.getElem?_eq_some_iff.1 e).1];exact e),hcell _ _ (by rw[List.getElem?_append_right (by rw[h.hl];exact Nat.le_refl _),h.hl,Nat.sub_self];rfl),hq,
  fun j x kv e1 e2=>hM.go (h.hk j x kv e1 e2) hc (fun b hb=>⟨hb.1,by omega⟩) (fun b hb e=>hb.2.2 (Option.some.inj e))⟩,h.hb.trans (hc.toBelow (by omega) (fun b e=>by have:=Option.some.inj e;omega))⟩
def szX (s:α→Nat):List α→Nat
 | []=>0
 | x::l=>2+s x+szX s l
theorem szX_app (s:α→Nat):∀a b:List α,szX s (a++b)=szX s a+szX s b
 | [],b=>by simp[szX]
 | x::a,b=>by rw[List.cons_append,szX,szX,szX_app s a b];omega
theorem szX_take {s:α→Nat}{l:List α}{k:Nat}{x:α} (h:l[k]? = some x):szX s (l.take (k+1))=szX s (l.take k)+(2+s x):=by
 rw[List.take_add_one,h,szX_app];simp[szX]
theorem szX_len (s:α→Nat):∀l:List α,2*l.length≤szX s l
 | []=>Nat.zero_le _
 | x::l=>by have:=szX_len s l;simp only[szX,List.length_cons];omega
theorem szX_get {s:α→Nat}{l:List α}{k:Nat}{x:α} (h:l[k]? = some x):szX s (l.take k)+2+s x+2*(l.length-(k+1))≤szX s l:=by
 have h1:=szX_take (s:=s) h;have h2:=szX_app s (l.take (k+1)) (l.drop (k+1));rw[List.take_append_drop] at h2;have h3:=szX_len s (l.drop (k+1));rw[List.length_drop] at h3;omega
end
theorem Marked.stays:Rel.Stays (α:=List Sp) Marked:=fun _ _ _ _ _ _ _ h hc hk hS=>h.chg hc hk hS
theorem Forest.stays:Rel.Stays (α:=List Sp) Forest:=fun _ _ _ _ _ _ _ h hc hk hS=>h.chg hc hk hS
def CellsF:Rel (List (List Sp)):=RowF Forest
def RowsF:Rel (List (List (List Sp))):=RowF CellsF
def markC (w:World) (F:Nat→Prop) (v:Value):Prop:=Forest w F v [txt spareB]
def markR (_:World) (_:Nat→Prop) (v:Value):Prop:=∃A c,v=.slice A 9 c
def CellsM:Rel (List (List Sp)):=RowM Marked markC
def RowsM:Rel (List (List (List Sp))):=RowM CellsM markR
theorem CellsF.stays:Rel.Stays CellsF:=RowF.stays (R:=Forest) Forest.stays
theorem RowsF.stays:Rel.Stays RowsF:=RowF.stays (R:=CellsF) CellsF.stays
theorem CellsM.stays:Rel.Stays CellsM:=RowM.stays (M:=Marked) Marked.stays (fun {_ _ _ _ _ _} h hc hk hS=>Forest.chg h hc hk hS)
theorem RowsM.stays:Rel.Stays RowsM:=RowM.stays (M:=CellsM) CellsM.stays (fun {_ _ _ _ _ _} h _ _ _=>h)
end Go.Bd
namespace Go.Proofs.YtkdknllcllhpgaaGreatDoor
open Go.ChangeShapes Go.WideShapes Go.RowKit Go.Bd
theorem bulk_mapX {H:Type}{α β:Type}{s:β→Nat}{S:α→β}{D:α→DataW H}:∀{r:List α},(∀i∈r,2+s (S i)≤Rows.uptoBulk (D i))→szX s (r.map S)≤Rows.uptoBulkAll (r.map D)
 | [],_=>Nat.le_refl _
 | i::r,h=>by
  have h1:=h i (List.mem_cons_self ..);have h2:=bulk_mapX (r:=r) fun j hj=>h j (List.mem_cons_of_mem _ hj)
  simp only[List.map_cons,szX,Rows.uptoBulkAll];omega
section
variable {H:Type} {enc:TypeId×Value→H} {w:World} {sp:Nat→Bool} {held:Bool}
theorem open_row1 {β:Type} [Inhabited β] {R:Rel β}{s:β→Nat}{t e:TypeId}{f:Field} (ht:Tryz.prog.underlying t=some (.slice e)) (he:Tryz.prog.underlying e=some (.struct #[f])) (ho:f.offset=0) (hce:Tryz.prog.cellsOf e=1) (hci:Tryz.prog.cellsOf f.type=1)
  (inner:∀{fuel:Nat} {cs:List Value} {x:DataW H×List MemPlace},DataW.trod enc Tryz.prog w 0 sp held fuel f.type cs=some x→∃v l,cs=[v]∧R w (· < w.heap.size) v l∧s l+1≤Rows.uptoBulk x.1)
  {fuel:Nat} {cs:List Value} {x:DataW H×List MemPlace} (h:DataW.trod enc Tryz.prog w 0 sp held fuel t cs=some x) :
  ∃v l,cs=[v]∧RowF R w (· < w.heap.size) v l∧szX s l+1≤Rows.uptoBulk x.1:=by
 rcases Deep.open_slice (e:=e) ht h with ⟨rfl,rfl⟩|⟨a,len,cap,m,n,D,Pl,rfl,_,hl,_,hmm,rfl,hx⟩
 ·exact⟨_,[],rfl,⟨none,0,[],rfl,Nat.le_refl _,rfl,fun h=>absurd rfl h,fun _ _ _ h=>by simp at h⟩,by simp[szX,Rows.uptoBulk]⟩
 ·have hlm:len≤m:=by rw[hmm];split<;>omega
  have each:∀i,i<len→∃q:β×Value,w.cell? (a.add i)=some q.2∧R w (· < w.heap.size) q.2 q.1∧2+s q.1≤Rows.uptoBulk (D i):=by
   intro i hi;obtain⟨cs',h1,h2⟩:=hx i (by omega);obtain⟨k,V,DD,hag,hf⟩:=open_fields he (by rw[hce];rfl) (fun i g hg=>by
    have hi':i<1:=(Array.getElem?_eq_some_iff.1 hg).1
    match i,hi' with
    | 0,_=>obtain rfl:=Option.some.inj hg;exact⟨ho,hci⟩) h1 h2
   obtain⟨c0,g0⟩:=hf 0 _ rfl;obtain⟨v,l,e0,hr,hs⟩:=inner g0;simp only[List.cons.injEq,and_true] at e0;have hag':D i=.agg [(DD 0).1]:=hag;refine⟨(l,v),?_,hr,?_⟩
   ·rw[Deep.add_add,hce,Nat.mul_one,Nat.add_zero] at c0;rw[c0,e0]
   ·rw[hag'];simp only[Rows.uptoBulk,Rows.uptoBulkAll];omega
  haveI:Inhabited (β×Value):=⟨(default,.slice none 0 0)⟩
  obtain⟨S,hS⟩:=Deep.choose_lt each;have hlen:((List.range len).map fun i=>(S i).1).length=len:=by simp
  refine⟨_,(List.range len).map fun i=>(S i).1,rfl,⟨some a,cap,(List.range len).map fun i=>(S i).2,by rw[hlen],by rw[hlen];exact hl,by simp,fun hn=>?_,fun j x kv h1 h2=>?_⟩,?_⟩
  ·have h0:0<len:=by
    rcases Nat.eq_zero_or_pos len with h|h
    ·subst h;exact absurd rfl hn
    ·exact h
   obtain⟨b,off,rfl,hb⟩:=open_addr (hS 0 h0).1;refine⟨b,off,rfl,hb,fun j kv h2=>?_⟩;have hj:j<len:=by have:=(List.getElem?_eq_some_iff.1 h2).1;simpa using this
   rw[List.getElem?_map,List.getElem?_range hj] at h2;simp only[Option.map_some,Option.some.injEq] at h2;subst h2;have hc:=(hS j hj).1
   rwa [Addr.add_lit] at hc
  ·have hj:j<len:=by have:=(List.getElem?_eq_some_iff.1 h1).1;simpa using this
   rw[List.getElem?_map,List.getElem?_range hj] at h1 h2;simp only[Option.map_some,Option.some.injEq] at h1 h2;subst h1 h2;exact (hS j hj).2.1
  ·have h1:=bulk_mapX (s:=s) (S:=fun i=>(S i).1) (D:=D) (r:=List.range len) fun i hi=>(hS i (List.mem_range.1 hi)).2.2
   simp only[Rows.uptoBulk];omega
end
end Go.Proofs.YtkdknllcllhpgaaGreatDoor
namespace Go.Bd
def wtS (x:Sp):Nat:=if x.kind=0 then max 1 x.text.length else 1
def wtL (l:List Sp):Nat:=(l.map wtS).sum
def wtR (r:Rw):Nat:=wtL r.sp+r.tx.length
def wtF (f:Fr):Nat:=wtR f.row+f.sign.length
def wtFs (l:List Fr):Nat:=(l.map wtF).sum
theorem wtS_pos (x:Sp):1≤wtS x:=by unfold wtS;split<;>omega
theorem wtL_len:∀l:List Sp,l.length≤wtL l
 | []=>Nat.zero_le _
 | x::l=>by
  have:=wtL_len l
  have:=wtS_pos x
  simp only[wtL,List.map_cons,List.sum_cons,List.length_cons] at *;omega
theorem wtL_app (a b:List Sp):wtL (a++b)=wtL a+wtL b:=by simp[wtL]
theorem wtL_one (x:Sp):wtL [x]=wtS x:=by simp[wtL]
theorem wtR_write (r:Rw) (s:Bs):wtR (r.write s)=wtR r+s.length:=by simp[wtR,Rw.write];omega
theorem wtR_flush (r:Rw):wtR r.flush=wtR r:=by
 unfold Rw.flush;split
 ·rename_i h;simp[wtR,h]
 ·rename_i h;have:1≤r.tx.length:=List.length_pos_iff.2 h
  simp only[wtR,wtL_app,wtL_one,wtS,txt,if_true,List.length_nil];omega
theorem wtL_flush (r:Rw):wtL r.flush.sp=wtR r:=by
 have:=wtR_flush r
 have h0:r.flush.tx=[]:=by unfold Rw.flush;split<;>rfl
 rw[wtR,h0] at this;simpa using this
theorem wtR_add (r:Rw) (x:Sp):wtR (r.add x)≤wtR r+wtS x:=by
 unfold Rw.add;split
 ·rename_i h;rw[wtR_write,wtS,if_pos h];omega
 ·simp only[wtR,wtL_app,wtL_one,List.length_nil];rw[wtL_flush,wtR];omega
theorem wtR_adds:∀(l:List Sp) (r:Rw),wtR (l.foldl Rw.add r)≤wtR r+wtL l
 | [],r=>by simp[wtL]
 | x::l,r=>by
  have h1:=wtR_adds l (r.add x);have h2:=wtR_add r x;simp only[List.foldl_cons,wtL,List.map_cons,List.sum_cons] at *;omega
theorem wtR_spill (f:Fr) (r:Rw):wtR (spill f r)≤wtR r+wtF f:=by
 have:=wtR_adds f.row.sp (r.write f.sign)
 rw[wtR_write] at this;rw[spill,wtR_write,wtF,show wtR f.row=wtL f.row.sp+f.row.tx.length from rfl];omega
theorem wtFs_cons (f:Fr) (l:List Fr):wtFs (f::l)=wtF f+wtFs l:=by simp[wtFs]
theorem onTop_length (g:Rw→Rw) (l:List Fr):(onTop g l).length=l.length:=by cases l<;>rfl
theorem wt_onTop {g:Rw→Rw}{n:Nat} (h:∀r,wtR (g r)≤wtR r+n) (l:List Fr):wtFs (onTop g l)≤wtFs l+n:=by
 cases l with
 | nil=>simp[onTop]
 | cons f r =>
  have:=h f.row
  simp only[onTop,wtFs_cons,wtF];omega
def Inv (st:Pst) (i:Nat):Prop:=wtFs st.fs≤i∧st.faults.length+st.fs.length≤i+1∧1≤st.fs.length∧st.fs.length≤17
theorem Inv.more {st:Pst}{i j:Nat} (h:Inv st i) (hj:i≤j):Inv st j:=by unfold Inv at *;omega
theorem Inv.first:Inv Pst.first 0:=by simp[Inv,Pst.first,wtFs,wtF,wtR,wtL,Rw.none]
theorem Inv.top {st:Pst}{i n:Nat}{g:Rw→Rw} (h:Inv st i) (hg:∀r,wtR (g r)≤wtR r+n):Inv (st.top g) (i+n):=by
 have:=wt_onTop hg st.fs
 unfold Inv Pst.top at *;simp only[onTop_length];omega
theorem Inv.write {st:Pst}{i:Nat} (h:Inv st i) (s:Bs):Inv (st.write s) (i+s.length):=h.top fun r=>by rw[wtR_write];omega
theorem drop1_length {st:Pst} (h:2≤st.fs.length):st.drop1.fs.length+1=st.fs.length:=by
 obtain⟨fs,fa⟩:=st
 match fs,h with
 | f::g::r,_=>simp[Pst.drop1,onTop]
theorem Inv.drop1 {st:Pst}{i:Nat} (h:Inv st i) (h2:2≤st.fs.length):Inv st.drop1 i:=by
 obtain⟨fs,fa⟩:=st
 match fs,h2 with
 | f::g::r,_ =>
  have:=wt_onTop (wtR_spill f) (g::r)
  unfold Inv at *;simp only[Pst.drop1,onTop_length,wtFs_cons,List.length_append,List.length_cons,List.length_nil] at *;omega
theorem Inv.dropN {i:Nat}:∀(n:Nat){st:Pst},Inv st i→n+1≤st.fs.length→Inv (st.dropN n) i∧(st.dropN n).fs.length+n=st.fs.length
 | 0,_,h,_=>⟨h,rfl⟩
 | n+1,st,h,hl=>by
  have h1:=drop1_length (st:=st) (by omega);obtain⟨h2,h3⟩:=Inv.dropN n (h.drop1 (by omega)) (by omega);refine⟨h2,?_⟩;rw[Pst.dropN];omega
theorem Inv.drop {st:Pst}{i n:Nat} (h:Inv st i) (hn:n<st.fs.length):Inv (st.drop n) i∧(st.drop n).fs.length=n+1:=by
 obtain⟨h1,h2⟩:=Inv.dropN (st.fs.length-1-n) h (by omega);exact⟨h1,by rw[Pst.drop];omega⟩
theorem Inv.fin {st:Pst}{i n:Nat} (h:Inv st i) (h0:0<n) (hn:n<st.fs.length):Inv (st.fin n) (i+1):=by
 obtain⟨h1,h2⟩:=h.drop hn;unfold Pst.fin;generalize st.drop n=sd at h1 h2;obtain⟨fs,fa⟩:=sd
 match fs,h1,h2 with
 | f::r,h1,h2 =>
  have ha:∀q,wtR (q.add ⟨f.kind,[],[],[],f.row.flush.sp⟩)≤wtR q+1:=fun q=>by
   have h3:=wtR_add q ⟨f.kind,[],[],[],f.row.flush.sp⟩;have:wtS ⟨f.kind,[],[],[],f.row.flush.sp⟩=1:=by unfold wtS;split<;>rfl
   omega
  have:=wt_onTop ha r
  unfold Inv at *;simp only[Pst.shut,onTop_length,wtFs_cons,List.length_cons] at *;omega
theorem lastK_lt (k:Nat):∀(l:List Fr),lastK k l=0∨lastK k l<l.length
 | []=>.inl rfl
 | f::r=>by
  unfold lastK;split
  ·exact .inl rfl
  ·split
   ·exact .inr (by simp)
   ·rcases lastK_lt k r with h|h
    ·exact .inl h
    ·exact .inr (by simp only[List.length_cons];omega)
theorem Inv.begin {st:Pst}{i:Nat} (h:Inv st i) (hr:st.room=true) (k j:Nat) (sign:Bs) (hs:1≤sign.length):Inv (st.begin k j sign) (i+sign.length):=by
 unfold Pst.room at hr;have:=of_decide_eq_true hr
 unfold Inv Pst.begin at *;simp only[wtFs_cons,wtF,wtR,wtL,Rw.none,List.map_nil,List.sum_nil,List.length_nil,List.length_cons];omega
theorem nextAt_some {s:Bs}{i n:Nat}{sign:Bs} (hi:i≤s.length) (h:nextAt s i sign=some n):i≤n∧n+sign.length≤s.length:=by
 unfold nextAt at h;split at h
 ·cases h
 ·rename_i h0;have h1:=Lib.index_room (s.drop i) sign (by omega);rw[List.length_drop] at h1;cases h
  omega
theorem as_wt {asf:Bs→Sp ⊕ Nat}{l:Bs}{x:Sp} (h:asf=codeS∨asf=refS∨asf=termS) (hx:asf l=.inl x):wtS x=1∧x.kind≠0∧x.kids=[]∧x.kind<256:=by
 rcases h with rfl|rfl|rfl
 ·cases hx;exact⟨rfl,by simp,rfl,by simp⟩
 ·unfold refS at hx;split at hx
  ·cases hx;exact⟨rfl,by simp,rfl,by simp⟩
  ·cases hx
 ·unfold termS at hx;split at hx
  ·cases hx;exact⟨rfl,by simp,rfl,by simp⟩
  ·cases hx
theorem Inv.between {st:Pst}{s a b:Bs}{i:Nat}{asf:Bs→Sp ⊕ Nat} (h:Inv st i) (has:asf=codeS∨asf=refS∨asf=termS) (ha:1≤a.length) (hb:1≤b.length) (hi:i+a.length≤s.length) :
  Inv (st.between s i a b asf).1 (st.between s i a b asf).2∧i<(st.between s i a b asf).2∧(st.between s i a b asf).2≤s.length:=by
 unfold Pst.between;split
 ·refine⟨?_,by omega,by omega⟩;have h1:=(h.write a);unfold Inv Pst.tell Pst.write Pst.top at *;simp only[List.length_append,List.length_cons,List.length_nil,onTop_length] at *;omega
 ·rename_i n hn;obtain⟨h1,h2⟩:=nextAt_some hi hn;split
  ·refine⟨?_,by simp only;omega,by simp only;omega⟩;have h3:=h.write ((s.drop i).take (n+b.length-i));rw[List.length_take,List.length_drop] at h3;unfold Inv Pst.tell Pst.write Pst.top at *;simp only[List.length_append,List.length_cons,List.length_nil,onTop_length] at *;omega
  ·rename_i x hx;have hw:=(as_wt has hx).1;refine⟨?_,by simp only;omega,by simp only;omega⟩;exact (h.top (n:=1) (g:=(·.add x)) (fun r=>by have:=wtR_add r x;omega)).more (by simp only;omega)
theorem Inv.tellw {st:Pst}{i:Nat} (h:Inv st i) (s:Bs) (hs:1≤s.length) (a f:Nat):Inv ((st.write s).tell a f) (i+s.length):=by
 have h1:=(h.write s);unfold Inv Pst.tell Pst.write Pst.top at *;simp only[List.length_append,List.length_cons,List.length_nil,onTop_length] at *;omega
theorem Inv.mark {st:Pst}{s:Bs}{i k:Nat} (h:Inv st i):Inv (st.mark s i k) (i+1):=by
 unfold Pst.mark;split
 ·rename_i hc
  rcases lastK_lt k st.fs with h0|h0
  ·omega
  ·exact h.fin hc.1 h0
 ·split
  ·exact h.write _
  ·split
   ·exact h.tellw _ (by simp) _ _
   ·exact h.begin (by simp_all) _ _ _ (by simp)
theorem prefix_two {a b:UInt8}{s:Bs}{i:Nat} (h:[a,b].isPrefixOf (s.drop i)=true):i+2≤s.length:=by
 obtain⟨t,ht⟩:=List.isPrefixOf_iff_prefix.1 h;have:=congrArg List.length ht
 simp at this;omega
theorem Inv.step {st:Pst}{s:Bs}{i:Nat} (h:Inv st i) (hi:i<s.length):Inv (st.step s i).1 (st.step s i).2∧i<(st.step s i).2∧(st.step s i).2≤s.length:=by
 unfold Pst.step;split
 ·rename_i hc;exact⟨(h.write _).more (by simp),by simp only;omega,by simp only;omega⟩
 split
 ·exact h.between (.inl rfl) (by simp) (by simp) (by simp;omega)
 split
 ·rename_i hp;exact h.between (.inr (.inl rfl)) (by simp) (by simp) (prefix_two hp)
 split
 ·rename_i hp;exact h.between (.inr (.inr rfl)) (by simp) (by simp) (prefix_two hp)
 split
 ·rename_i hp;have:=prefix_two hp
  refine⟨?_,by simp only;omega,by simp only;omega⟩;simp only;split
  ·rename_i hr;exact h.begin hr _ _ _ (by simp)
  ·exact h.tellw _ (by simp) _ _
 split
 ·rename_i hc;refine⟨?_,by simp only;omega,by simp only;omega⟩
  rcases lastK_lt 6 st.fs with h0|h0
  ·omega
  ·exact h.fin hc.2 h0
 split
 ·exact⟨h.mark,by simp only;omega,by simp only;omega⟩
 split
 ·exact⟨h.mark,by simp only;omega,by simp only;omega⟩
 ·exact⟨h.write _,by simp only;omega,by simp only;omega⟩
end Go.Bd
namespace Go.Bd
open Go.RowKit
def tS:TypeId:=129
def tB:TypeId:=5
def tF:TypeId:=254
def tT:TypeId:=257
def tP:TypeId:=246
def TextRow (w:World) (B:Nat) (v:Value) (l:Bs):Prop:=w.ownsRow B tB 1 v l.length (l.map byteV)
structure FrAt (w:World) (B:Nat) (col:Nat→Nat) (cs:Array Value) (k:Nat) (f:Fr) (sv tv:Value):Prop where
 c0:cs[k*5]? = some sv
 c1:cs[k*5+1]? = some tv
 c2:cs[k*5+2]? = some (.int .u8 (f.kind:Int))
 c3:cs[k*5+3]? = some (strV f.sign)
 c4:cs[k*5+4]? = some (.int .i64 (f.at':Int))
 sp:SpanRow w B tS (col ·=4) sv f.row.sp
 tx:TextRow w B tv f.row.tx
 csp:∀b,sv.ownBlock=some b→col b=10+2*k
 ctx:∀b,tv.ownBlock=some b→col b=11+2*k
def toldCells (l:List (Nat×Nat)):List Value:=l.flatMap fun p=>[.int .i64 (p.1:Int),.int .i64 (p.2:Int)]
def Gone (gn:List Bs) (s:Bs) (i:Nat):Prop:=∀g∈gn,∀j,i≤j→nextAt s j g=none
def GoneAt (P:Program) (w:World) (gb:Nat) (gn:List Bs):Prop:=w.ownsMap (H:=Unit) P 9 unitElem gb gn.length (Maps.setOf (.agg []) (gn.map Lit.string))
structure PSx (P:Program) (w:World) (B:Nat) (col:Nat→Nat) (pb ob cap len:Nat) (s:ByteArray) (st:Pst) (i:Nat) (fv:Value) (gb:Nat) (cs:Array Value) (gn:List Bs):Prop where
 hpB:B≤pb
 hp:Holds w pb tP #[.string s,.slice (some ⟨ob,0,none⟩) len cap,fv,.map (some gb)]
 cp:col pb=0
 hoB:B≤ob
 ho:Holds w ob tF cs
 co:col ob=1
 hcs:cs.size=cap*5
 hcap:len≤cap
 hlen:st.fs.length≤len
 hmax:cap≤maxLen
 fr:∀k f,st.fs.reverse[k]? = some f→∃sv tv,FrAt w B col cs k f sv tv
 hf:w.ownsRow B tT 2 fv st.faults.length (toldCells st.faults)
 cf:∀b,fv.ownBlock=some b→col b=3
 hgB:B≤gb
 hg:GoneAt P w gb gn
 cg:col gb=2
 gone:Gone gn s.data.toList i
 gnl:gn.length≤i
 new:∀b,w.heap.size≤b→col b=9
 old:∀b,b<B→col b=5
def PS (P:Program) (w:World) (B:Nat) (col:Nat→Nat) (pb ob cap:Nat) (s:ByteArray) (st:Pst) (i:Nat):Prop:=∃fv gb cs gn,PSx P w B col pb ob cap st.fs.length s st i fv gb cs gn
structure Stay (B:Nat) (w w':World) (col col':Nat→Nat):Prop where
 below:Below B w w'
 tree:∀c b,c=4∨c=8→col b=c→b<w.heap.size→col' b=c∧w'.heap[b]? = w.heap[b]?
section
variable {P:Program} {w w' w'':World} {B:Nat} {col col' col'':Nat→Nat} {pb ob cap len:Nat} {s:ByteArray} {st:Pst} {i:Nat} {fv:Value} {gb:Nat} {cs:Array Value} {gn:List Bs}
theorem GoneAt.chg {S:Nat→Prop} (h:GoneAt P w gb gn) (hc:Chg w w' S) (hS:¬S gb):GoneAt P w' gb gn:=by
 have hlt:=World.ownsMap.lt h;obtain⟨es,clock,hb,r⟩:=h;exact⟨es,clock,(hc.block gb hlt hS).trans hb,r⟩
theorem TextRow.chg {S:Nat→Prop}{v:Value}{l:Bs} (h:TextRow w B v l) (hc:Chg w w' S) (hS:∀b,v.ownBlock=some b→¬S b):TextRow w' B v l:=hc.owns h hS
theorem TextRow.lt {v:Value}{l:Bs} (h:TextRow w B v l):∀k,v.ownBlock=some k→B≤k∧k<w.heap.size:=World.ownsRow.lt h
theorem own_apart {B' sz sz' n n':Nat}{e e':TypeId}{v v':Value}{xs xs':List Value} (h:w.ownsRow B e sz v n xs) (h':w.ownsRow B' e' sz' v' n' xs') (he:e≠e'){b:Nat} (hb:v.ownBlock=some b):v'.ownBlock≠some b:=by
 intro hb'
 rcases h.2 with ⟨rfl,_⟩|⟨g,c,cur,rfl,_,hg,_⟩
 ·cases hb
 ·rcases h'.2 with ⟨rfl,_⟩|⟨g',c',cur',rfl,_,hg',_⟩
  ·cases hb'
  ·simp only[Value.ownBlock,Option.some.injEq] at hb hb';subst hb;subst hb';rw[hg] at hg';injection hg' with h1
   injection h1 with _ h2 _
   exact he h2
theorem FrAt.chg {S:Nat→Prop}{k:Nat}{f:Fr}{sv tv:Value} (h:FrAt w B col cs k f sv tv) (hc:Chg w w' S) (hcol:∀b,b<w.heap.size→col' b=col b) (cs':Array Value) (hcs:∀j,k*5≤j→j<k*5+5→cs'[j]? = cs[j]?)
  (hS:∀b,S b→b<w.heap.size→col b≠4∧col b≠10+2*k∧col b≠11+2*k) (hF:∀b,w.heap.size≤b→col b≠4):FrAt w' B col' cs' k f sv tv:=by
 have hlt:∀b,col b=4→b<w.heap.size:=fun b hb=>by
  by_cases h1:b<w.heap.size
  ·exact h1
  ·exact absurd hb (hF b (by omega))
 refine⟨(hcs _ (by omega) (by omega)).trans h.c0,(hcs _ (by omega) (by omega)).trans h.c1,(hcs _ (by omega) (by omega)).trans h.c2,(hcs _ (by omega) (by omega)).trans h.c3,(hcs _ (by omega) (by omega)).trans h.c4,?_,?_,?_,?_⟩
 ·refine h.sp.chg hc (fun b hb=>by rw[hcol b (hlt b hb)];exact hb) (fun b hb hs=>(hS b hs (hlt b hb)).1 hb) (fun b hb hs=>?_);exact (hS b hs (h.sp.lt b hb).2).2.1 (h.csp b hb)
 ·exact h.tx.chg hc fun b hb hs=>(hS b hs (h.tx.lt b hb).2).2.2 (h.ctx b hb)
 ·exact fun b hb=>by rw[hcol b (h.sp.lt b hb).2];exact h.csp b hb
 ·exact fun b hb=>by rw[hcol b (h.tx.lt b hb).2];exact h.ctx b hb
theorem rev_get {α:Type}{f g:α}{r:List α}{k:Nat} (h:(f::r).reverse[k]? = some g):(k=r.length∧g=f)∨(k<r.length∧r.reverse[k]? = some g):=by
 rw[List.reverse_cons] at h
 by_cases hk:k<r.length
 ·rw[List.getElem?_append_left (by simpa using hk)] at h;exact .inr ⟨hk,h⟩
 ·rw[List.getElem?_append_right (by simpa using hk)] at h;simp only[List.length_reverse] at h;cases hj:k-r.length with
  | zero =>
   rw[hj] at h;simp at h;exact .inl ⟨by omega,h.symm⟩
  | succ n=>rw[hj] at h;simp at h
theorem rev_last {α:Type} (f:α) (r:List α):(f::r).reverse[r.length]? = some f:=by
 rw[List.reverse_cons,List.getElem?_append_right (by simp)];simp
theorem rev_old {α:Type}{f g:α}{r:List α}{k:Nat} (h:r.reverse[k]? = some g):(f::r).reverse[k]? = some g:=by
 have:=(List.getElem?_eq_some_iff.1 h).1
 rw[List.reverse_cons,List.getElem?_append_left this];exact h
theorem PSx.lt4 (h:PSx P w B col pb ob cap len s st i fv gb cs gn){b:Nat} (hb:col b=4):b<w.heap.size:=by
 by_cases h1:b<w.heap.size
 ·exact h1
 ·have:=h.new b (by omega);omega
theorem PSx.ge4 (h:PSx P w B col pb ob cap len s st i fv gb cs gn){b:Nat} (hb:col b=4):B≤b:=by
 by_cases h1:b<B
 ·have:=h.old b h1;omega
 ·omega
theorem PSx.put (h:PSx P w B col pb ob cap len s st i fv gb cs gn){f:Fr}{r:List Fr} (hfs:st.fs=f::r){sv tv sv' tv':Value}{row':Rw} (hfr:FrAt w B col cs r.length f sv tv){S:Nat→Prop}
  (hch:Chg w w' S) (hS:∀b,S b→b=ob∨sv.ownBlock=some b∨tv.ownBlock=some b)
  (hob:Holds w' ob tF ((cs.setIfInBounds (r.length*5) sv').setIfInBounds (r.length*5+1) tv'))
  (hsp:SpanRow w' B tS (col ·=4) sv' row'.sp) (htx:TextRow w' B tv' row'.tx)
  (h1:∀b,sv'.ownBlock=some b→sv.ownBlock=some b∨w.heap.size≤b) (h2:∀b,tv'.ownBlock=some b→tv.ownBlock=some b∨w.heap.size≤b) :
  ∃col',PSx P w' B col' pb ob cap len s { st with fs:={ f with row:=row' } :: r } i fv gb ((cs.setIfInBounds (r.length*5) sv').setIfInBounds (r.length*5+1) tv') gn∧Stay B w w' col col':=by
 have hlen:st.fs.length=r.length+1:=by rw[hfs];rfl
 have hbo:=h.ho.lt;have hcol:∀b,S b→col b=1∨col b=10+2*r.length∨col b=11+2*r.length:=fun b hb=>by
  rcases hS b hb with rfl|hb|hb
  ·exact .inl h.co
  ·exact .inr (.inl (hfr.csp b hb))
  ·exact .inr (.inr (hfr.ctx b hb))
 have hSB:∀b,S b→B≤b:=fun b hb=>by
  rcases hS b hb with rfl|hb|hb
  ·exact h.hoB
  ·exact (hfr.sp.lt b hb).1
  ·exact (hfr.tx.lt b hb).1
 have hsz:=hch.size;have hap:∀b,sv'.ownBlock=some b→tv'.ownBlock≠some b:=fun b hb=>by
  obtain⟨kvs,_,ho,_⟩:=hsp;exact own_apart ho htx (by decide) hb
 obtain⟨col',hc'⟩:∃col':Nat→Nat,col'=fun b=>if b<w.heap.size then col b else if sv'.ownBlock=some b then 10+2*r.length else if tv'.ownBlock=some b then 11+2*r.length else 9:=⟨_,rfl⟩
 have hold:∀b,b<w.heap.size→col' b=col b:=fun b hb=>by rw[hc'];exact if_pos hb
 have hne:∀{c:Nat} {b:Nat},col b=c→b<w.heap.size→c≠1→c≠10+2*r.length→c≠11+2*r.length→¬S b:=fun hc _ n1 n2 n3 hs=>by
  rcases hcol _ hs with h'|h'|h'<;>omega
 refine⟨col',⟨h.hpB,?_,?_,h.hoB,hob,?_,?_,h.hcap,?_,h.hmax,?_,?_,?_,h.hgB,?_,?_,h.gone,h.gnl,?_,fun b hb=>(hold b (by have:=h.hpB;have:=h.hp.lt;omega)).trans (h.old b hb)⟩,?_,?_⟩
 ·exact hch.holds (hne h.cp h.hp.lt (by omega) (by omega) (by omega)) h.hp
 ·rw[hold _ h.hp.lt];exact h.cp
 ·rw[hold _ hbo];exact h.co
 ·simp only[Array.size_setIfInBounds];exact h.hcs
 ·have:=h.hlen;rw[hlen] at this;exact this
 ·intro k g hg
  rcases rev_get hg with ⟨rfl,rfl⟩|⟨hk,hg⟩
  ·have hs5:r.length*5+5≤cs.size:=by
    have h3:=h.hcap;have h4:=h.hlen;rw[h.hcs];have:=Nat.mul_le_mul_right 5 (show r.length+1≤cap by omega)
    omega
   have hget:∀j,r.length*5+1<j→((cs.setIfInBounds (r.length*5) sv').setIfInBounds (r.length*5+1) tv')[j]? = cs[j]?:=fun j hj=>by
    rw[Array.getElem?_setIfInBounds_ne (by omega),Array.getElem?_setIfInBounds_ne (by omega)]
   refine⟨sv',tv',⟨?_,?_,(hget _ (by omega)).trans hfr.c2,(hget _ (by omega)).trans hfr.c3,(hget _ (by omega)).trans hfr.c4,?_,htx,?_,?_⟩⟩
   ·rw[Array.getElem?_setIfInBounds_ne (by omega),Array.getElem?_setIfInBounds_self_of_lt (by omega)]
   ·rw[Array.getElem?_setIfInBounds_self_of_lt (by simp;omega)]
   ·exact hsp.chg (Chg.refl w' (fun _=>False)) (fun b hb=>by rw[hold b (h.lt4 hb)];exact hb) (fun _ _ h=>h) (fun _ _ h=>h)
   ·intro b hb
    by_cases hlt:b<w.heap.size
    ·rw[hold b hlt]
     rcases h1 b hb with h3|h3
     ·exact hfr.csp b h3
     ·omega
    ·rw[hc'];simp only[if_neg hlt,if_pos hb]
   ·intro b hb
    by_cases hlt:b<w.heap.size
    ·rw[hold b hlt]
     rcases h2 b hb with h3|h3
     ·exact hfr.ctx b h3
     ·omega
    ·rw[hc'];simp only[if_neg hlt,if_pos hb];rw[if_neg (fun h3=>hap b h3 hb)]
  ·obtain⟨sw,tw,hf⟩:=h.fr k g (by rw[hfs];exact rev_old hg);refine⟨sw,tw,hf.chg hch hold _ (fun j h3 h4=>?_) (fun b hb hl=>?_) (fun b hb h4=>by have:=h.new b hb;omega)⟩
   ·have:k*5+5≤r.length*5:=by have:=Nat.mul_le_mul_right 5 (show k+1≤r.length by omega);omega
    rw[Array.getElem?_setIfInBounds_ne (by omega),Array.getElem?_setIfInBounds_ne (by omega)]
   ·rcases hcol b hb with h3|h3|h3<;>omega
 ·exact hch.owns h.hf fun b hb=>hne (h.cf b hb) (h.hf.lt b hb).2 (by omega) (by omega) (by omega)
 ·exact fun b hb=>by rw[hold b (h.hf.lt b hb).2];exact h.cf b hb
 ·exact h.hg.chg hch (hne h.cg (World.ownsMap.lt h.hg) (by omega) (by omega) (by omega))
 ·rw[hold _ (World.ownsMap.lt h.hg)];exact h.cg
 ·intro b hb;have n1:¬b<w.heap.size:=by omega
  have n2:sv'.ownBlock≠some b:=fun h3=>by have:=(hsp.lt b h3).2;omega
  have n3:tv'.ownBlock≠some b:=fun h3=>by have:=(htx.lt b h3).2;omega
  rw[hc'];simp only[if_neg n1,if_neg n2,if_neg n3]
 ·exact hch.toBelow (by have:=h.hoB;omega) hSB
 ·intro c b hc hb hl;exact⟨by rw[hold b hl];exact hb,hch.block b hl (hne hb hl (by omega) (by omega) (by omega))⟩
theorem PSx.keep (h:PSx P w B col pb ob cap len s st i fv gb cs gn){S:Nat→Prop} (hch:Chg w w' S) (hS:∀b,S b→b<w.heap.size→col b=7∨col b=9):PSx P w' B col pb ob cap len s st i fv gb cs gn:=by
 have hne:∀{c:Nat} {b:Nat},col b=c→b<w.heap.size→c≠7→c≠9→¬S b:=fun hc hl n1 n2 hs=>by
  rcases hS _ hs hl with h'|h'<;>omega
 have hsz:=hch.size;refine⟨h.hpB,hch.holds (hne h.cp h.hp.lt (by omega) (by omega)) h.hp,h.cp,h.hoB,hch.holds (hne h.co h.ho.lt (by omega) (by omega)) h.ho,h.co,h.hcs,h.hcap,h.hlen,h.hmax,?_,?_,h.cf,h.hgB,?_,h.cg,h.gone,h.gnl,fun b hb=>h.new b (by omega),h.old⟩
 ·intro k g hg;obtain⟨sw,tw,hf⟩:=h.fr k g hg;exact⟨sw,tw,hf.chg hch (fun _ _=>rfl) cs (fun _ _ _=>rfl) (fun b hb hl=>by rcases hS b hb hl with h3|h3<;>omega) (fun b hb h4=>by have:=h.new b hb;omega)⟩
 ·exact hch.owns h.hf fun b hb=>hne (h.cf b hb) (h.hf.lt b hb).2 (by omega) (by omega)
 ·exact h.hg.chg hch (hne h.cg (World.ownsMap.lt h.hg) (by omega) (by omega))
theorem PSx.on (h:PSx P w B col pb ob cap len s st i fv gb cs gn){j:Nat} (hj:i≤j):PSx P w B col pb ob cap len s st j fv gb cs gn :=
 ⟨h.hpB,h.hp,h.cp,h.hoB,h.ho,h.co,h.hcs,h.hcap,h.hlen,h.hmax,h.fr,h.hf,h.cf,h.hgB,h.hg,h.cg,fun g hg k hk=>h.gone g hg k (by omega),by have:=h.gnl;omega,h.new,h.old⟩
end
def Near (w:World) (v v':Value):Prop:=v'.ownBlock=v.ownBlock∨v'.ownBlock=some w.heap.size
theorem Near.old {w:World}{v v':Value} (h:Near w v v'):∀b,v'.ownBlock=some b→v.ownBlock=some b∨w.heap.size≤b:=fun b hb=>by
 rcases h with h|h
 ·exact .inl (h.symm.trans hb)
 ·rw[h] at hb;cases hb;exact .inr (Nat.le_refl _)
theorem own_app_string {P:Program} (w:World) (base:Nat) (t u ty e:TypeId) (i:TypeInfo) (ht:P.underlying t=some (.slice e)) (hu:P.underlying u=some .string) (hi:P.info? e=some i) (hz:i.zero=some (.int .u8 0)) (hsize:i.size=1) (hby:i.bytes=1)
  (v:Value) (n:Nat) (xs:List Value) (hown:w.ownsRow base e 1 v n xs) (s:ByteArray) (h63:n+s.size≤maxLen) (hbytes:n+s.size≤140737488355328) (hbase:base≤w.heap.size) :
  ∃v' w',(Builtin.append_ #[t,u] ty #[v,.string s]).run P w=.ok v' w'∧w'.ownsRow base e 1 v' (n+s.size) (xs++s.data.toList.map byteV)∧w.grownBy w' v.ownBlock∧Near w v v':=by
 obtain⟨v',w',hr,h2,h3,h4⟩:=Lib.run_append_own_string (P:=P) w base t u ty e i ht hu hi hz hsize hby v n xs hown s h63 hbytes hbase;refine⟨v',w',hr,h2,h3,?_⟩;have hsmall:n+s.size≤9223372036854775807:=by simp only[maxLen] at h63;omega
 have hxl:xs.length=n:=by simpa using hown.1
 rcases hown.2 with ⟨rfl,rfl⟩|⟨g,cap,cur,rfl,hbg,hg,hnc,hcm,hcs,htake⟩
 ·by_cases hm:s.size=0
  ·exact .inl (by rw[h4.2 ⟨rfl,hm⟩])
  ·have hq:=run_append_nil_string (P:=P) w t u ty e i (.int .u8 0) ht hu hi hz s (by omega) (by omega) (by rw[hby];omega);rw[hr] at hq;injection hq with e1 e2
   exact .inr (by rw[e1];rfl)
 ·by_cases hroom:n+s.size≤cap
  ·have hq:=Lib.run_append_room_string (P:=P) w t u ty e i ht hu hi hsize g n cap cur hg s hroom (by omega);rw[hr] at hq;injection hq with e1 e2
   exact .inl (by rw[e1];rfl)
  ·have hq:=Lib.run_append_grow_string (P:=P) w t u ty e i (.int .u8 0) ht hu hi hz ⟨g,0,none⟩ n cap xs (by rw[hsize];simpa using hxl) (hown.cells (g:=g) rfl) s (by omega) (by omega) (by rw[hby];exact growslice_fits (by omega) (by omega));rw[hr] at hq;injection hq with e1 e2
   exact .inr (by rw[e1];rfl)
theorem wpList_app_string {P:Program} (w:World){ops:Array Oper}{rest:List Oper}{o:Oper}{a:Act}{Q:Exit→Act→World→Prop} (hgd:o.guard=none) (sl x:Operand) (t u:TypeId)
  (ho:o.op=.call { callee:=.builtin .append,args:=#[sl,x],argTypes:=#[t,u] })
  (base:Nat) (e:TypeId) (ht:P.underlying t=some (.slice e)) (hu:P.underlying u=some .string) (hi:(P.info? e).map (fun i=>(i.zero,i.size,i.bytes))=some (some (.int .u8 0),1,1))
  (v:Value) (n:Nat) (xs:List Value) (hs:a.eval sl=v) (hown:w.ownsRow base e 1 v n xs) (s:ByteArray) (hx:a.eval x=.string s) (hb:n+s.size≤140737488355328) (hbase:base≤w.heap.size)
  (h:∀v' w',w'.ownsRow base e 1 v' (n+s.size) (xs++s.data.toList.map byteV)→w.grownBy w' v.ownBlock→Near w v v'→wpList P ops Q rest (a.put o.dst v') w'):wpList P ops Q (o::rest) a w:=by
 obtain⟨i,hi,h2,h3,h4⟩:=info_parts hi;refine wpList_plain hgd fun K hK=>?_
 obtain⟨v',w',hr,k2,k3,k4⟩:=own_app_string (P:=P) w base t u o.type e i ht hu hi h2 h3 h4 v n xs hown s (by unfold maxLen;omega) hb hbase;unfold Oper.wp execOp;simp only[ho,resolve,invoke,builtin,Sem.run_bind,Sem.run_pure,Result.andThen_ok,List.map_toArray,List.map_cons,List.map_nil,hs,hx,hr];exact hK _ _ (h v' w' k2 k3 k4)
end Go.Bd
