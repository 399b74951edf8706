/-
  What the chapter's laws share, part 1: plain facts, memory, and walks of functions. Its conditions: those that each theorem names.
-/
import Derived.WalkKit
import Derived.Lib.Index
import Derived.Laws.MakeOwn
import Derived.Laws.NewBlocks
import Derived.Laws.Rows
import Derived.Laws.IdiomStrings
import Derived.Laws.OwnMore
import Derived.Deep.Draws
import Derived.WalkSmall
import Derived.OwnWalk
import Derived.Lib.IndexMore
import Derived.Maps.OwnSet
import Derived.Lib.AppendStr
import Derived.Maps.AppendAt
import Derived.Laws.AppendOwnNone
import Derived.Test.YtkkebmciiiajeaaGreatDoorChecked
import Derived.IntWalk
import Derived.Deep.Light
import Derived.Handy
import Derived.Lib.Hide
import Derived.BigQuiet
import Derived.Deep.LoopGhost
import Derived.Below
import Derived.WalkSpells
import Derived.Deep.RegionHeld3
import Derived.Deep.AppendLies
import Derived.Deep.DrawnRows
import Derived.Outline
import Derived.Test.YtkkebmciiiajeaaGreatDoorK0
set_option linter.unusedSimpArgs false
set_option linter.unusedVariables false
set_option maxHeartbeats 16000000
set_option maxRecDepth 100000
namespace Go.Bd
abbrev Bs:=List UInt8
def first (l:Bs) (c:Int):Nat:=l.findIdx (fun b=>(b.toNat:Int)==c)
theorem first_le (l:Bs) (c:Int):first l c≤l.length:=List.findIdx_le_length
def partB (l:Bs):Bool:=!l.isEmpty&&(first l 59==l.length&&(first l 62==l.length&&(first l 60==l.length&&(first l 40==l.length&&first l 41==l.length))))
def blank (c:UInt8):Bool:=c.toNat==32 || c.toNat==9
def dropL (l:Bs):Bs:=l.dropWhile blank
def dropR (l:Bs):Bs:=(l.reverse.dropWhile blank).reverse
def trim (l:Bs):Bs:=dropR (dropL l)
theorem size_mk (l:Bs):(ByteArray.mk l.toArray).size=l.length:=rfl
theorem size_list (s:ByteArray):s.size=s.data.toList.length:=by simp
theorem extract_list (s:ByteArray) (a b:Nat):(s.extract a b).data.toList=(s.data.toList.drop a).take (b-a):=by
 simp[ByteArray.extract,ByteArray.copySlice]
theorem blank_iff (c:UInt8):blank c=true↔(c.toNat:Int)=32∨(c.toNat:Int)=9:=by
 simp only[blank,Bool.or_eq_true,beq_iff_eq];omega
theorem dropR_cons (x:UInt8) (xs:Bs):dropR (x::xs)=if dropR xs=[]∧blank x=true then [] else x::dropR xs:=by
 unfold dropR;rw[List.reverse_cons,List.dropWhile_append]
 by_cases h:(xs.reverse.dropWhile blank)=[]
 ·rw[h]
  by_cases hb:blank x=true
  ·simp[hb]
  ·simp[hb]
 ·rw[if_neg (by simpa using h),if_neg (by simp[h])];simp
theorem dropLR (l:Bs):dropL (dropR l)=trim l:=by
 unfold trim
 induction l with
 | nil=>rfl
 | cons x xs ih =>
  by_cases hb:blank x=true
  ·have e:dropL (x::xs)=dropL xs:=List.dropWhile_cons_of_pos hb;rw[e,←ih,dropR_cons]
   by_cases h:dropR xs=[]
   ·rw[if_pos ⟨h,hb⟩,h]
   ·rw[if_neg (by simp[h])];exact List.dropWhile_cons_of_pos hb
  ·have e:dropL (x::xs)=x::xs:=List.dropWhile_cons_of_neg hb;rw[e,dropR_cons,if_neg (by simp[hb])];exact List.dropWhile_cons_of_neg hb
def signs:Bs:=[59,62,60,40,41]
theorem first_eq (l:Bs) (c:UInt8):(first l c.toNat==l.length)=!l.contains c:=by
 rw[Bool.eq_iff_iff,beq_iff_eq,first,List.findIdx_eq_length];simp only[Bool.not_eq_true',beq_eq_false_iff_ne,List.contains_eq_mem,decide_eq_false_iff_not];constructor
 ·intro h hm;exact h c hm rfl
 ·intro h x hx e;have:x=c:=UInt8.toNat_inj.1 (by omega)
  exact h (this ▸ hx)
theorem partB_signs (l:Bs):partB l=(!l.isEmpty && !l.any (signs.contains ·)):=by
 have h59:=first_eq l 59;have h62:=first_eq l 62;have h60:=first_eq l 60;have h40:=first_eq l 40;have h41:=first_eq l 41;have e59:((59:UInt8).toNat:Int)=59:=rfl;have e62:((62:UInt8).toNat:Int)=62:=rfl;have e60:((60:UInt8).toNat:Int)=60:=rfl;have e40:((40:UInt8).toNat:Int)=40:=rfl;have e41:((41:UInt8).toNat:Int)=41:=rfl;rw[e59] at h59;rw[e62] at h62;rw[e60] at h60;rw[e40] at h40;rw[e41] at h41;rw[partB,h59,h62,h60,h40,h41]
 congr 1
 rw[Bool.eq_iff_iff];simp only[Bool.and_eq_true,Bool.not_eq_true',List.contains_eq_mem,decide_eq_false_iff_not,List.any_eq_false];constructor
 ·rintro⟨a,b,c,d,e⟩ x hx;simp only[signs,List.mem_cons,List.not_mem_nil,or_false,decide_eq_true_eq];rintro (rfl|rfl|rfl|rfl|rfl)<;>contradiction
 ·intro h;refine⟨fun m=>?_,fun m=>?_,fun m=>?_,fun m=>?_,fun m=>?_⟩
  all_goals exact h _ m (by decide)
def parseB (l:Bs):Option (Bs×Bs×Bs) :=
 if 240<l.length then none
 else if partB (trim (l.take (min (first l 59) (first l 62))))=false then none
 else if min (first l 59) (first l 62)=l.length then some (trim (l.take (min (first l 59) (first l 62))),[],[])
 else if partB (trim (l.drop (min (first l 59) (first l 62)+1)))=false then none
 else if (l.getD (min (first l 59) (first l 62)) 0).toNat=59 then some (trim (l.take (min (first l 59) (first l 62))),trim (l.drop (min (first l 59) (first l 62)+1)),[])
 else some (trim (l.take (min (first l 59) (first l 62))),[],trim (l.drop (min (first l 59) (first l 62)+1)))
def strV (l:Bs):Value:=.string ⟨l.toArray⟩
def parseV (l:Bs):Value:=match parseB l with
 | none=>.tuple #[strV [],strV [],strV [],.int .i64 4]
 | some (a,b,c)=>.tuple #[strV a,strV b,strV c,.int .i64 0]
theorem trim_le (l:Bs):(trim l).length≤l.length:=by
 have h1:∀(p:UInt8→Bool) (l:Bs),(l.dropWhile p).length≤l.length:=fun p l=>(List.dropWhile_sublist p).length_le
 unfold trim dropR dropL;have a:=h1 blank (l.dropWhile blank).reverse;have b:=h1 blank l;simp only[List.length_reverse] at *;omega
theorem getD_get {s:ByteArray}{m:Nat} (h:m<s.size):s.data.toList.getD m 0=s[m]:=by
 rw[List.getD_eq_getElem?_getD,List.getElem?_eq_getElem (by simpa using h)];rfl
structure Sp where
 kind:Nat
 text:Bs
 sub:Bs
 see:Bs
 kids:List Sp
def txt (s:Bs):Sp:=⟨0,s,[],[],[]⟩
structure Rw where
 sp:List Sp
 tx:Bs
def Rw.none:Rw:=⟨[],[]⟩
def Rw.write (r:Rw) (s:Bs):Rw:=⟨r.sp,r.tx++s⟩
def Rw.flush (r:Rw):Rw:=if r.tx=[] then ⟨r.sp,[]⟩ else ⟨r.sp++[txt r.tx],[]⟩
def Rw.add (r:Rw) (x:Sp):Rw:=if x.kind=0 then r.write x.text else ⟨r.flush.sp++[x],[]⟩
structure Fr where
 row:Rw
 kind:Nat
 sign:Bs
 at':Nat
structure Pst where
 fs:List Fr
 faults:List (Nat×Nat)
def onTop (g:Rw→Rw):List Fr→List Fr
 | []=>[]
 | f::r=>{ f with row:=g f.row } :: r
def Pst.top (st:Pst) (g:Rw→Rw):Pst:={ st with fs:=onTop g st.fs }
def Pst.write (st:Pst) (s:Bs):Pst:=st.top (·.write s)
def Pst.tell (st:Pst) (i f:Nat):Pst:={ st with faults:=st.faults++[(i,f)] }
def lastK (k:Nat):List Fr→Nat
 | []=>0
 | f::r=>if r=[] then 0 else if f.kind=k then r.length else lastK k r
def Pst.room (st:Pst):Bool:=decide (st.fs.length≤16)
def Pst.begin (st:Pst) (k i:Nat) (sign:Bs):Pst:={ st with fs:=⟨Rw.none,k,sign,i⟩::st.fs }
def spill (f:Fr) (r:Rw):Rw:=(f.row.sp.foldl Rw.add (r.write f.sign)).write f.row.tx
def Pst.drop1 (st:Pst):Pst :=
 match st.fs with
 | f::g::r=>⟨onTop (spill f) (g::r),st.faults++[(f.at',7)]⟩
 | _=>st
def Pst.dropN:Nat→Pst→Pst
 | 0,st=>st
 | n+1,st=>dropN n st.drop1
def Pst.drop (st:Pst) (n:Nat):Pst:=st.dropN (st.fs.length-1-n)
def Pst.shut (st:Pst):Pst :=
 match st.fs with
 | f::r=>{ st with fs:=onTop (·.add ⟨f.kind,[],[],[],f.row.flush.sp⟩) r }
 | _=>st
def Pst.fin (st:Pst) (n:Nat):Pst:=(st.drop n).shut
def nextAt (s:Bs) (i:Nat) (sign:Bs):Option Nat:=if Lib.index (s.drop i) sign<0 then none else some (i+(Lib.index (s.drop i) sign).toNat)
def Pst.between (st:Pst) (s:Bs) (i:Nat) (a b:Bs) (asf:Bs→Sp ⊕ Nat):Pst×Nat :=
 match nextAt s (i+a.length) b with
 | none=>((st.write a).tell i 7,i+a.length)
 | some n =>
  match asf ((s.drop (i+a.length)).take (n-(i+a.length))) with
  | .inr f=>((st.write ((s.drop i).take (n+b.length-i))).tell i f,n+b.length)
  | .inl x=>(st.top (·.add x),n+b.length)
def escB (c:UInt8):Bool:=c==42 || c==95 || c==60 || c==40 || c==94 || c==93 || c==92 || c==96
def solid (c:UInt8):Bool:=(65≤c&&c≤90) || (97≤c&&c≤122) || (48≤c&&c≤57)
def letterB (c:UInt8):Bool:=(65≤c&&c≤90) || (97≤c&&c≤122)
def nameB (l:Bs):Bool:=decide (1≤l.length)&&decide (l.length≤60)&&letterB (l.headD 0)&&l.all fun c=>solid c || c==45
def codeS (l:Bs):Sp ⊕ Nat:=.inl ⟨3,l,[],[],[]⟩
def refS (l:Bs):Sp ⊕ Nat:=if nameB l=true then .inl ⟨4,l,[],[],[]⟩ else .inr 10
def termS (l:Bs):Sp ⊕ Nat:=match parseB l with|some (a,b,c)=>.inl ⟨5,a,b,c,[]⟩|none=>.inr 8
def atOf (fs:List Fr) (n:Nat):Nat:=match fs.reverse[n]? with|some f=>f.at'|none=>0
def Pst.mark (st:Pst) (s:Bs) (i k:Nat):Pst :=
 if lastK k st.fs > 0∧atOf st.fs (lastK k st.fs)+1≠i∧0<i∧blank (s.getD (i-1) 0)=false∧¬(i+1<s.length∧solid (s.getD (i+1) 0)=true) then st.fin (lastK k st.fs)
 else if (0<i∧solid (s.getD (i-1) 0)=true)∨s.length≤i+1∨blank (s.getD (i+1) 0)=true then st.write [s.getD i 0]
 else if st.room=false then (st.write [s.getD i 0]).tell i 7
 else st.begin k i [s.getD i 0]
def Pst.step (st:Pst) (s:Bs) (i:Nat):Pst×Nat :=
 if s.getD i 0=92∧i+1<s.length∧escB (s.getD (i+1) 0)=true then (st.write [s.getD (i+1) 0],i+2)
 else if s.getD i 0=96 then st.between s i [96] [96] codeS
 else if [60,60].isPrefixOf (s.drop i)=true then st.between s i [60,60] [62,62] refS
 else if [40,40].isPrefixOf (s.drop i)=true then st.between s i [40,40] [41,41] termS
 else if [94,91].isPrefixOf (s.drop i)=true then (if st.room=true then st.begin 6 i [94,91] else (st.write [94,91]).tell i 7,i+2)
 else if s.getD i 0=93∧0<lastK 6 st.fs then (st.fin (lastK 6 st.fs),i+1)
 else if s.getD i 0=42 then (st.mark s i 1,i+1)
 else if s.getD i 0=95 then (st.mark s i 2,i+1)
 else (st.write [s.getD i 0],i+1)
def Pst.first:Pst:=⟨[⟨Rw.none,0,[],0⟩],[]⟩
def runP (s:Bs):Nat→Nat→Pst→Pst
 | 0,_,st=>st
 | n+1,i,st=>if i<s.length then runP s n (st.step s i).2 (st.step s i).1 else st
def endP (s:Bs):Pst:=(runP s s.length 0 Pst.first).drop 0
def spansOf (s:Bs):List Sp:=match (endP s).fs with|f::_=>f.row.flush.sp|[]=>[]
def faultsAt (s:Bs):List (Nat×Nat):=(endP s).faults
end Go.Bd
namespace Go.Bd
open Go.RowKit
def Holds (w:World) (g:Nat) (t:TypeId) (cs:Array Value):Prop:=w.heap[g]? = some (.cells cs t (0,0))
section
variable {w w':World} {g:Nat} {t:TypeId} {cs:Array Value}
theorem Holds.lt (h:Holds w g t cs):g<w.heap.size:=(Array.getElem?_eq_some_iff.1 h).1
theorem Holds.cell (h:Holds w g t cs) (i:Nat):w.cell? ⟨g,i,none⟩=cs[i]?:=cell_of_row w g i cs t (0,0) h
theorem Holds.free (h:Holds w g t cs) (i:Nat):w.frozen? ⟨g,i,none⟩=false:=frozen_of_row w g i cs t h
theorem Holds.new (w:World) (t:TypeId) (cs:Array Value):Holds (w.alloc (.cells cs t)) w.heap.size t cs:=heap_alloc_new w _
theorem Holds.drew (h:Holds w g t cs):Holds w.drew g t cs:=h
theorem Holds.alloc (h:Holds w g t cs) (o:Obj):Holds (w.alloc o) g t cs:=(Below.heap_alloc w o g h.lt).trans h
theorem Holds.set (h:Holds w g t cs) (i:Nat) (u:Value):Holds (w.setCell ⟨g,i,none⟩ u) g t (cs.setIfInBounds i u):=by
 unfold Holds at h ⊢;simp[World.setCell,Array.getElem?_modify,h]
theorem Holds.far (h:Holds w g t cs){p:Addr} (hp:g≠p.block) (u:Value):Holds (w.setCell p u) g t cs:=(Below.heap_setCell w p u g hp).trans h
theorem Holds.below {B:Nat} (h:Holds w g t cs) (hb:Below B w w') (hg:g<B):Holds w' g t cs:=(hb.block g hg).trans h
end
def byteV (b:UInt8):Value:=.int .u8 (b.toNat:Int)
section
variable {w w':World} {g n k:Nat} {t:TypeId} {l:Bs}
end
theorem addr_add (g j:Nat):(⟨g,0,none⟩:Addr).add j=⟨g,j,none⟩:=by unfold Addr.add;split<;>simp_all
def Rd (w:World) (B:Nat) (v:Value) (xs:List Value):Prop :=
 ∃A c,v=.slice A xs.length c∧xs.length≤c∧(0<xs.length→∃b off,A=some ⟨b,off,none⟩∧b<B∧∀(j:Nat) u,xs[j]? = some u→w.cell? ⟨b,off+j,none⟩=some u)
section
variable {w w':World} {B B':Nat} {v:Value} {xs:List Value}
theorem Rd.form (h:Rd w B v xs):∃A c,v=.slice A xs.length c∧xs.length≤c∧∀(j:Nat) u,xs[j]? = some u→∃b off,A=some ⟨b,off,none⟩∧b<B∧w.cell? ⟨b,off+j,none⟩=some u:=by
 obtain⟨A,c,e,hc,h⟩:=h;refine⟨A,c,e,hc,fun j u hu=>?_⟩;obtain⟨b,off,hA,hb,hcell⟩:=h (by have:=(List.getElem?_eq_some_iff.1 hu).1;omega);exact⟨b,off,hA,hb,hcell j u hu⟩
end
section
variable {w w':World} {base:Nat} {e:TypeId} {v:Value} {n:Nat} {xs:List Value}
theorem own_length (h:w.ownsRow base e 1 v n xs):xs.length=n:=by simpa using h.1
theorem own_some (h:w.ownsRow base e 1 v n xs) (hn:0<n):∃g cap,v=.slice (some ⟨g,0,none⟩) n cap∧base≤g∧g<w.heap.size∧n≤cap∧cap≤maxLen∧w.shape? g=some (e,cap):=by
 rcases h.2 with ⟨_,h0⟩|⟨g,cap,cur,hv,hb,hh,hc,hm,hs,_⟩
 ·omega
 ·exact⟨g,cap,hv,hb,(Array.getElem?_eq_some_iff.1 hh).1,hc,hm,by simp[World.shape?,hh];omega⟩
theorem own_slice (h:w.ownsRow base e 1 v n xs):∃A cap,v=.slice A n cap∧n≤cap:=by
 rcases h.2 with ⟨hv,h0⟩|⟨g,cap,cur,hv,_,_,hc,_⟩
 ·exact⟨none,0,by rw[hv,h0],by omega⟩
 ·exact⟨_,_,hv,hc⟩
theorem own_cell {g cap:Nat} (h:w.ownsRow base e 1 (.slice (some ⟨g,0,none⟩) n cap) n xs){j:Nat}{u:Value} (hu:xs[j]? = some u):w.cell? ⟨g,j,none⟩=some u:=by
 have:=h.cells (g:=g) rfl j u hu
 rwa [addr_add] at this
theorem own_free {g cap:Nat} (h:w.ownsRow base e 1 (.slice (some ⟨g,0,none⟩) n cap) n xs) (j:Nat):w.frozen? ⟨g,j,none⟩=false:=by
 rcases h.2 with ⟨hv,_⟩|⟨g',cap',cur,hv,_,hh,_⟩
 ·cases hv
 ·injection hv with h1
  injection h1 with h1
  injection h1 with h1
  subst h1;exact frozen_of_row w g j cur e hh
theorem own_set {g cap:Nat} (h:w.ownsRow base e 1 (.slice (some ⟨g,0,none⟩) n cap) n xs) (j:Nat) (u:Value):(w.setCell ⟨g,j,none⟩ u).ownsRow base e 1 (.slice (some ⟨g,0,none⟩) n cap) n (xs.set j u):=by
 rcases h.2 with ⟨hv,_⟩|⟨g',cap',cur,hv,hb,hh,hc,hm,hs,ht⟩
 ·cases hv
 ·injection hv with h1 h2 h3
  injection h1 with h1
  injection h1 with h1
  subst h1;subst h3;refine⟨by simpa using h.1,.inr ⟨g,cap,cur.setIfInBounds j u,rfl,hb,by simp[World.setCell,Array.getElem?_modify,hh],hc,hm,by simpa using hs,?_⟩⟩;rw[Array.toList_setIfInBounds,←ht,List.take_set]
theorem own_below (h:w.ownsRow base e 1 v n xs) (hb:Below w.heap.size w w'):w'.ownsRow base e 1 v n xs:=by
 refine⟨h.1,?_⟩
 rcases h.2 with hn|⟨g,cap,cur,hv,hg,hh,r⟩
 ·exact .inl hn
 ·exact .inr ⟨g,cap,cur,hv,hg,(hb.block g (Array.getElem?_eq_some_iff.1 hh).1).trans hh,r⟩
theorem own_far (h:w.ownsRow base e 1 v n xs){p:Addr} (hp:v.ownBlock≠some p.block) (u:Value):(w.setCell p u).ownsRow base e 1 v n xs:=by
 refine⟨h.1,?_⟩
 rcases h.2 with hn|⟨g,cap,cur,hv,hg,hh,r⟩
 ·exact .inl hn
 ·refine .inr ⟨g,cap,cur,hv,hg,?_,r⟩;rw[Below.heap_setCell _ _ _ _ (fun e=>hp (by rw[hv,←e];rfl))];exact hh
theorem own_rd (h:w.ownsRow base e 1 v n xs):Rd w w.heap.size v xs:=by
 have hl:=own_length h;obtain⟨A,cap,hv,hc⟩:=own_slice h;subst hv;refine⟨A,cap,by rw[hl],by omega,fun hn=>?_⟩;obtain⟨g,cap',hv,_,hg,_⟩:=own_some h (by omega);injection hv with h1 h2 h3
 subst h1;subst h3;exact⟨g,0,rfl,hg,fun j u hu=>by rw[Nat.zero_add];exact own_cell h hu⟩
theorem wpList_app1 {P:Program} (w:World){ops:Array Oper}{rest:List Oper}{o:Oper}{a:Act}{Q:Exit→Act→World→Prop} (hgd:o.guard=none) (s x:Operand) (t:TypeId)
  (ho:o.op=.call { callee:=.builtin .append,args:=#[s,x],argTypes:=#[t,t] })
  (base:Nat) (e:TypeId) (z:Value) (bytes:Nat) (ht:P.underlying t=some (.slice e)) (hi:(P.info? e).map (fun i=>(i.zero,i.size,i.bytes))=some (some z,1,bytes)) (hz:z.cells.size=1)
  (v:Value) (n:Nat) (xs:List Value) (hs:a.eval s=v) (hown:w.ownsRow base e 1 v n xs)
  (g c:Nat) (u:Value) (hx:a.eval x=.slice (some ⟨g,0,none⟩) 1 c) (hc:w.cell? ⟨g,0,none⟩=some u) (h1:u.oneCell'=true)
  (h63:n+1≤maxLen) (hb:(n+1)*bytes≤140737488355328) (hbase:base≤w.heap.size)
  (h:∀v' w',w'.ownsRow base e 1 v' (n+1) (xs++[u])→w.grownBy w' v.ownBlock→wpList P ops Q rest (a.put o.dst v') w'):wpList P ops Q (o::rest) a w:=by
 obtain⟨i,hi,h2,h3,h4⟩:=info_parts hi;refine wpList_append_own w hgd s x t ho base e i z 1 bytes ht hi h2 h3 h4 hz (by decide) v n xs hs hown ⟨g,0,none⟩ 1 c [u] hx rfl (fun j u' hj=>?_) (fun u' hu=>?_) h63 hb hbase (fun v' w' k1 k2 _=>h v' w' k1 k2)
 ·obtain⟨rfl,rfl⟩:j=0∧u=u':=by
   cases j with
   | zero=>exact⟨rfl,by simpa using hj⟩
   | succ j=>simp at hj
  rw[addr_add];exact hc
 ·rw[List.mem_singleton] at hu;subst hu;exact h1
theorem wpList_make1 {P:Program} (w:World){ops:Array Oper}{rest:List Oper}{o:Oper}{a:Act}{Q:Exit→Act→World→Prop} (hg:o.guard=none) (l c:Operand) (t:TypeId) (hop:o.op=Op.makeSlice t l c)
  (base:Nat) (e:TypeId) (z:Value) (bytes:Nat) (ht:P.underlying t=some (.slice e)) (hi:(P.info? e).map (fun i=>(i.zero,i.size,i.bytes))=some (some z,1,bytes)) (hz:z.cells=#[z])
  (kl kc:IntKind) (L C:Int) (n:Nat) (hl:a.eval l=.int kl L) (hc:a.eval c=.int kc C) (hL:L=(n:Int)) (hC:C=(n:Int)) (b2:bytes*n≤281474976710656) (b3:n≤maxLen) (b4:base≤w.heap.size)
  (hK:∀w',w'.ownsRow base e 1 (.slice (some ⟨w.heap.size,0,none⟩) n n) n (List.replicate n z)→w.grownBy w' none→wpList P ops Q rest (a.put o.dst (.slice (some ⟨w.heap.size,0,none⟩) n n)) w'):wpList P ops Q (o::rest) a w:=by
 obtain⟨i,hi',h2,h3,h4⟩:=info_parts hi;subst h4;refine wpList_make_full w hg l c t hop base e i z 1 ht hi' h2 h3 kl kc L C n hl hc hL hC b2 b3 b4 fun w' k1 k2=>hK w' ?_ k2
 rw[hz,Nat.mul_one,toList_madeCells_one] at k1;exact k1
theorem own_copy {P:Program} (w:World) (t ty:TypeId) (base:Nat) (e:TypeId) (ht:P.underlying t=some (.slice e)) (hi:(P.info? e).map (·.size)=some 1)
  (g n cap:Nat) (zs xs:List Value) (hown:w.ownsRow base e 1 (.slice (some ⟨g,0,none⟩) n cap) n zs)
  (b off c:Nat) (hl:xs.length=n) (hc:∀(j:Nat) u,xs[j]? = some u→w.cell? ⟨b,off+j,none⟩=some u) (h1:∀u∈xs,u.oneCell'=true) :
  ∃w',(Builtin.copy_ #[t,t] ty #[.slice (some ⟨g,0,none⟩) n cap,.slice (some ⟨b,off,none⟩) n c]).run P w=.ok (goInt n) w'∧w'.ownsRow base e 1 (.slice (some ⟨g,0,none⟩) n cap) n xs∧w.grownBy w' (some g):=by
 rcases hown.2 with ⟨h0,_⟩|⟨g',cap',cur,hv,hb,hh,hnc,hcm,hcs,_⟩
 ·cases h0
 injection hv with e1 e2 e3
 injection e1 with e1
 injection e1 with e1
 subst e1;subst e3;have hr:=run_copy_row (P:=P) (ty:=ty) w t t e g 0 n cap ⟨b,off,none⟩ n c cur e xs ht hi hh (by rw[hl];exact (Nat.min_self n).symm) (fun j u hj=>by rw[Addr.add_lit];exact hc j u hj) (by rw[hl,hcs];omega) h1;rw[hl] at hr;refine⟨_,hr,⟨by rw[hl,Nat.mul_one],.inr ⟨g,cap,_,rfl,hb,setRow_heap w g cur _ e _ hh,hnc,hcm,?_,?_⟩⟩,⟨rfl,rfl,rfl,by simp,fun k _ hk=>setRow_other w g k _ (fun e=>hk (by simp[e]))⟩⟩
 ·simp;omega
 ·simp[hl]
end
structure Chg (w w':World) (S:Nat→Prop):Prop where
 os:w'.os=w.os
 tape:w'.tape=w.tape
 output:w'.output=w.output
 size:w.heap.size≤w'.heap.size
 block:∀k,k<w.heap.size→¬S k→w'.heap[k]? = w.heap[k]?
section
variable {w w' w'':World} {S T:Nat→Prop}
theorem Chg.refl (w:World) (S:Nat→Prop):Chg w w S:=⟨rfl,rfl,rfl,Nat.le_refl _,fun _ _ _=>rfl⟩
theorem Chg.trans (h:Chg w w' S) (h2:Chg w' w'' T) (hT:∀k,k<w.heap.size→T k→S k):Chg w w'' S :=
 ⟨h2.os.trans h.os,h2.tape.trans h.tape,h2.output.trans h.output,Nat.le_trans h.size h2.size,fun k hk hs =>
  (h2.block k (Nat.lt_of_lt_of_le hk h.size) (fun ht=>hs (hT k hk ht))).trans (h.block k hk hs)⟩
theorem Chg.mono (h:Chg w w' S) (hT:∀k,k<w.heap.size→S k→T k):Chg w w' T:=⟨h.os,h.tape,h.output,h.size,fun k hk ht=>h.block k hk (fun hs=>ht (hT k hk hs))⟩
theorem Chg.alloc (h:Chg w w' S) (o:Obj):Chg w (w'.alloc o) S :=
 ⟨h.os,h.tape,h.output,Nat.le_trans h.size (by simp),fun k hk hs=>(Below.heap_alloc w' o k (Nat.lt_of_lt_of_le hk h.size)).trans (h.block k hk hs)⟩
theorem Chg.drew (h:Chg w w' S):Chg w w'.drew S:=⟨h.os,h.tape,h.output,h.size,h.block⟩
theorem Chg.drewN (h:Chg w w' S) (n:Nat):Chg w (w'.drewN n) S:=⟨h.os,h.tape,h.output,h.size,h.block⟩
theorem Chg.grown {row:Option Nat} (h:w.grownBy w' row):Chg w w' (fun k=>some k=row):=⟨h.os,h.tape,h.output,h.size,fun k hk hs=>h.block k hk hs⟩
theorem Chg.below (h:Below w.heap.size w w') (S:Nat→Prop):Chg w w' S:=⟨h.os,h.tape,h.output,h.size,fun k hk _=>h.block k hk⟩
theorem Chg.toBelow {B:Nat} (h:Chg w w' S) (hB:B≤w.heap.size) (hS:∀k,S k→B≤k):Below B w w' :=
 ⟨h.os,h.tape,h.output,h.size,fun k hk=>h.block k (by omega) (fun hs=>by have:=hS k hs;omega)⟩
theorem Chg.set (w:World) (p:Addr) (u:Value):Chg w (w.setCell p u) (fun k=>k=p.block) :=
 ⟨rfl,rfl,rfl,by simp[World.setCell],fun k _ hs=>Below.heap_setCell w p u k hs⟩
theorem Chg.cell (h:Chg w w' S){p:Addr}{v:Value} (hp:¬S p.block) (hc:w.cell? p=some v):w'.cell? p=some v :=
 (World.cell?_of_block (h.block _ (World.block_lt_of_cell? w _ hc) hp)).trans hc
theorem Chg.holds (h:Chg w w' S){g:Nat}{t:TypeId}{cs:Array Value} (hp:¬S g) (hh:Holds w g t cs):Holds w' g t cs:=(h.block g hh.lt hp).trans hh
theorem Chg.owns (h:Chg w w' S){base:Nat}{e:TypeId}{sz:Nat}{v:Value}{n:Nat}{xs:List Value} (ho:w.ownsRow base e sz v n xs) (hp:∀k,v.ownBlock=some k→¬S k):w'.ownsRow base e sz v n xs:=by
 refine⟨ho.1,?_⟩
 rcases ho.2 with hn|⟨g,cap,cur,hv,hg,hh,r⟩
 ·exact .inl hn
 ·exact .inr ⟨g,cap,cur,hv,hg,(h.block g (Array.getElem?_eq_some_iff.1 hh).1 (hp g (by rw[hv];rfl))).trans hh,r⟩
end
theorem cell_off {w:World}{b i j:Nat}{v:Value} (h:i≠j) (u:Value) (hc:w.cell? ⟨b,j,none⟩=some v):(w.setCell ⟨b,i,none⟩ u).cell? ⟨b,j,none⟩=some v:=by
 unfold World.cell? World.setCell at *;simp only[Array.getElem?_modify,if_true] at *;cases hw:w.heap[b]? with
 | none=>rw[hw] at hc;simp at hc
 | some o =>
  rw[hw] at hc;cases o<;>simp_all
theorem cell_far {w:World}{g b i j:Nat}{v:Value} (h:g≠b) (u:Value) (hc:w.cell? ⟨b,j,none⟩=some v):(w.setCell ⟨g,i,none⟩ u).cell? ⟨b,j,none⟩=some v :=
 (World.cell?_of_block (a:=⟨b,j,none⟩) (Below.heap_setCell w ⟨g,i,none⟩ u b (fun e=>h e.symm))).trans hc
theorem own_take {w:World}{base sz n c j:Nat}{e:TypeId}{A:Option Addr}{xs:List Value} (h:w.ownsRow base e sz (.slice A n c) n xs) (hj:j≤n):∃v',v'=.slice A j c∧w.ownsRow base e sz v' j (xs.take (j*sz)):=by
 refine⟨_,rfl,?_,?_⟩
 ·rw[List.length_take,h.1];have:j*sz≤n*sz:=Nat.mul_le_mul_right _ hj
  omega
 ·rcases h.2 with ⟨hv,h0⟩|⟨g,cap,cur,hv,hg,hh,hc,hm,hs,ht⟩
  ·injection hv with h1 h2 h3
   subst h1;subst h2;subst h3;obtain rfl:j=0:=by omega
   exact .inl ⟨rfl,by simp⟩
  ·injection hv with h1 h2 h3
   subst h1;subst h3;refine .inr ⟨g,_,cur,rfl,hg,hh,by omega,hm,hs,?_⟩;rw[←ht,List.take_take]
   congr 1
   have:j*sz≤n*sz:=Nat.mul_le_mul_right _ hj
   have h1:=h.1;have h2:xs.length≤cur.toList.length:=by rw[←ht,List.length_take];omega
   omega
def spCells (x:Sp) (kv:Value):List Value:=[.int .u8 (x.kind:Int),strV x.text,strV x.sub,strV x.see,kv]
inductive Forest (w:World) (F:Nat→Prop):Value→List Sp→Prop
 | mk (A:Option Addr) (c:Nat) (l:List Sp) (kvs:List Value) (hlen:kvs.length=l.length) (hc:l.length≤c)
   (hA:l≠[]→∃b off,A=some ⟨b,off,none⟩∧F b∧∀(j:Nat) x kv,l[j]? = some x→kvs[j]? = some kv→∀(i:Nat) u,(spCells x kv)[i]? = some u→w.cell? ⟨b,off+j*5+i,none⟩=some u)
   (hk:∀(j:Nat) x kv,l[j]? = some x→kvs[j]? = some kv→Forest w F kv x.kids):Forest w F (.slice A l.length c) l
section
variable {w w':World} {F G:Nat→Prop} {v:Value} {l:List Sp}
theorem Forest.nil (w:World) (F:Nat→Prop):Forest w F (.slice none 0 0) [] :=
 .mk none 0 [] [] rfl (Nat.le_refl _) (fun h=>absurd rfl h) (fun _ _ _ h=>by simp at h)
theorem Forest.keep (h:Forest w F v l) (hk:∀b,F b→G b) (hc:∀(p:Addr) u,F p.block→w.cell? p=some u→w'.cell? p=some u):Forest w' G v l:=by
 induction h with
 | mk A c l kvs hlen hcap hA _ ih =>
  refine .mk A c l kvs hlen hcap (fun hn=>?_) (fun j x kv h1 h2=>ih j x kv h1 h2);obtain⟨b,off,h1,h2,h3⟩:=hA hn;exact⟨b,off,h1,hk b h2,fun j x kv e1 e2 i u e3=>hc ⟨b,off+j*5+i,none⟩ u h2 (h3 j x kv e1 e2 i u e3)⟩
theorem Forest.chg {S:Nat→Prop} (h:Forest w F v l) (hc:Chg w w' S) (hk:∀b,F b→G b) (hS:∀b,F b→¬S b):Forest w' G v l :=
 h.keep hk fun _ _ hF hu=>hc.cell (hS _ hF) hu
theorem Forest.under {B:Nat} (h:Forest w F v l) (hb:Below B w w') (hF:∀b,F b→b<B):Forest w' F v l :=
 h.keep (fun _ h=>h) fun p u hp hu=>(hb.cell (hF _ hp)).trans hu
theorem Forest.form (h:Forest w F v l):∃A c,v=.slice A l.length c∧l.length≤c∧∀(j:Nat) x,l[j]? = some x→∃b off kv,A=some ⟨b,off,none⟩∧F b∧Forest w F kv x.kids ∧
  w.cell? ⟨b,off+j*5,none⟩=some (.int .u8 (x.kind:Int))∧w.cell? ⟨b,off+j*5+1,none⟩=some (strV x.text)∧w.cell? ⟨b,off+j*5+2,none⟩=some (strV x.sub)∧w.cell? ⟨b,off+j*5+3,none⟩=some (strV x.see)∧w.cell? ⟨b,off+j*5+4,none⟩=some kv:=by
 cases h with
 | mk A c l kvs hlen hcap hA hk =>
  refine⟨A,c,rfl,hcap,fun j x hx=>?_⟩;have hj:j<l.length:=(List.getElem?_eq_some_iff.1 hx).1;obtain⟨kv,hkv⟩:∃kv,kvs[j]? = some kv:=⟨_,List.getElem?_eq_getElem (by omega)⟩;obtain⟨b,off,h1,h2,h3⟩:=hA (by rintro rfl;simp at hj);have h4:=h3 j x kv hx hkv;exact⟨b,off,kv,h1,h2,hk j x kv hx hkv,h4 0 _ rfl,h4 1 _ rfl,h4 2 _ rfl,h4 3 _ rfl,h4 4 _ rfl⟩
end
def rowCells:List Sp→List Value→List Value
 | x::l,kv::kvs=>spCells x kv++rowCells l kvs
 | _,_=>[]
theorem rowCells_length:∀{l:List Sp}{kvs:List Value},kvs.length=l.length→(rowCells l kvs).length=l.length*5
 | [],[],_=>rfl
 | [],_::_,h=>by simp at h
 | _::_,[],h=>by simp at h
 | x::l,kv::kvs,h=>by
  rw[rowCells,List.length_append,rowCells_length (l:=l) (kvs:=kvs) (by simpa using h)];simp[spCells];omega
theorem rowCells_snoc:∀{l:List Sp}{kvs:List Value} (x:Sp) (kv:Value),kvs.length=l.length→rowCells (l++[x]) (kvs++[kv])=rowCells l kvs++spCells x kv
 | [],[],x,kv,_=>by simp[rowCells]
 | [],_::_,_,_,h=>by simp at h
 | _::_,[],_,_,h=>by simp at h
 | y::l,kw::kvs,x,kv,h=>by
  rw[List.cons_append,List.cons_append,rowCells,rowCells_snoc (l:=l) (kvs:=kvs) x kv (by simpa using h),rowCells,List.append_assoc]
theorem rowCells_get:∀{l:List Sp}{kvs:List Value}{j:Nat}{x:Sp}{kv:Value}{i:Nat}{u:Value},l[j]? = some x→kvs[j]? = some kv→(spCells x kv)[i]? = some u→(rowCells l kvs)[j*5+i]? = some u
 | [],_,_,_,_,_,_,h,_,_=>by simp at h
 | _::_,[],_,_,_,_,_,_,h,_=>by simp at h
 | y::l,kw::kvs,0,x,kv,i,u,h1,h2,h3=>by
  simp at h1 h2;subst h1;subst h2;have hi:i<(spCells y kw).length:=(List.getElem?_eq_some_iff.1 h3).1;rw[rowCells,List.getElem?_append_left (by simpa using hi)];simpa using h3
 | y::l,kw::kvs,j+1,x,kv,i,u,h1,h2,h3=>by
  have ih:=rowCells_get (l:=l) (kvs:=kvs) (j:=j) (i:=i) (by simpa using h1) (by simpa using h2) h3;rw[rowCells,List.getElem?_append_right (by simp[spCells];omega),←ih]
  congr 1
  simp[spCells];omega
def SpanRow (w:World) (B:Nat) (t:TypeId) (F:Nat→Prop) (v:Value) (l:List Sp):Prop :=
 ∃kvs,kvs.length=l.length∧w.ownsRow B t 5 v l.length (rowCells l kvs)∧∀(j:Nat) x kv,l[j]? = some x→kvs[j]? = some kv→Forest w F kv x.kids
section
variable {w w':World} {F G:Nat→Prop} {v:Value} {l:List Sp} {B:Nat} {t:TypeId}
theorem SpanRow.nil (w:World) (B:Nat) (t:TypeId) (F:Nat→Prop):SpanRow w B t F (.slice none 0 0) []:=⟨[],rfl,World.ownsRow_nil _ _ _ _,fun _ _ _ h=>by simp at h⟩
theorem SpanRow.chg {S:Nat→Prop} (h:SpanRow w B t F v l) (hc:Chg w w' S) (hk:∀b,F b→G b) (hS:∀b,F b→¬S b) (hv:∀b,v.ownBlock=some b→¬S b):SpanRow w' B t G v l:=by
 obtain⟨kvs,h1,h2,h3⟩:=h;exact⟨kvs,h1,hc.owns h2 hv,fun j x kv e1 e2=>(h3 j x kv e1 e2).chg hc hk hS⟩
theorem SpanRow.lt (h:SpanRow w B t F v l):∀k,v.ownBlock=some k→B≤k∧k<w.heap.size:=by
 obtain⟨kvs,h1,h2,h3⟩:=h;exact h2.lt
theorem SpanRow.form (h:SpanRow w B t F v l):∃A c,v=.slice A l.length c∧l.length≤c:=by
 obtain⟨kvs,h1,h2,h3⟩:=h
 rcases h2.2 with ⟨hv,h0⟩|⟨g,cap,cur,hv,_,_,hc,_⟩
 ·exact⟨none,0,by rw[hv,h0],by omega⟩
 ·exact⟨_,_,hv,hc⟩
theorem SpanRow.forest (h:SpanRow w B t F v l) (hk:∀b,F b→G b) (hv:∀b,v.ownBlock=some b→G b):Forest w G v l:=by
 obtain⟨kvs,h1,h2,h3⟩:=h;obtain⟨A,c,rfl,hc⟩:=SpanRow.form ⟨kvs,h1,h2,h3⟩;refine .mk A c l kvs h1 hc (fun hn=>?_) (fun j x kv e1 e2=>(h3 j x kv e1 e2).keep hk fun _ _ _ h=>h);have hl:0<l.length:=List.length_pos_iff.2 hn
 rcases h2.2 with ⟨hv,h0⟩|⟨g,cap,cur,hv2,hb,hh,_⟩
 ·omega
 ·injection hv2 with e1 e2 e3
  subst e1;subst e3;refine⟨g,0,rfl,hv g rfl,fun j x kv e1 e2 i u e3=>?_⟩;have:=h2.cells (g:=g) rfl (j*5+i) u (rowCells_get e1 e2 e3)
  rw[addr_add] at this;rw[←this];congr 2;omega
end
end Go.Bd
namespace Go.Bd
def wtS (x:Sp):Nat:=if x.kind=0 then max 1 x.text.length else 1
def wtL (l:List Sp):Nat:=(l.map wtS).sum
def wtR (r:Rw):Nat:=wtL r.sp+r.tx.length
def wtF (f:Fr):Nat:=wtR f.row+f.sign.length
def wtFs (l:List Fr):Nat:=(l.map wtF).sum
theorem wtS_pos (x:Sp):1≤wtS x:=by unfold wtS;split<;>omega
theorem wtL_len:∀l:List Sp,l.length≤wtL l
 | []=>Nat.zero_le _
 | x::l=>by
  have:=wtL_len l
  have:=wtS_pos x
  simp only[wtL,List.map_cons,List.sum_cons,List.length_cons] at *;omega
theorem wtL_app (a b:List Sp):wtL (a++b)=wtL a+wtL b:=by simp[wtL]
theorem wtL_one (x:Sp):wtL [x]=wtS x:=by simp[wtL]
theorem wtR_write (r:Rw) (s:Bs):wtR (r.write s)=wtR r+s.length:=by simp[wtR,Rw.write];omega
theorem wtR_flush (r:Rw):wtR r.flush=wtR r:=by
 unfold Rw.flush;split
 ·rename_i h;simp[wtR,h]
 ·rename_i h;have:1≤r.tx.length:=List.length_pos_iff.2 h
  simp only[wtR,wtL_app,wtL_one,wtS,txt,if_true,List.length_nil];omega
theorem wtL_flush (r:Rw):wtL r.flush.sp=wtR r:=by
 have:=wtR_flush r
 have h0:r.flush.tx=[]:=by unfold Rw.flush;split<;>rfl
 rw[wtR,h0] at this;simpa using this
theorem wtR_add (r:Rw) (x:Sp):wtR (r.add x)≤wtR r+wtS x:=by
 unfold Rw.add;split
 ·rename_i h;rw[wtR_write,wtS,if_pos h];omega
 ·simp only[wtR,wtL_app,wtL_one,List.length_nil];rw[wtL_flush,wtR];omega
theorem wtR_adds:∀(l:List Sp) (r:Rw),wtR (l.foldl Rw.add r)≤wtR r+wtL l
 | [],r=>by simp[wtL]
 | x::l,r=>by
  have h1:=wtR_adds l (r.add x);have h2:=wtR_add r x;simp only[List.foldl_cons,wtL,List.map_cons,List.sum_cons] at *;omega
theorem wtR_spill (f:Fr) (r:Rw):wtR (spill f r)≤wtR r+wtF f:=by
 have:=wtR_adds f.row.sp (r.write f.sign)
 rw[wtR_write] at this;rw[spill,wtR_write,wtF,show wtR f.row=wtL f.row.sp+f.row.tx.length from rfl];omega
theorem wtFs_cons (f:Fr) (l:List Fr):wtFs (f::l)=wtF f+wtFs l:=by simp[wtFs]
theorem onTop_length (g:Rw→Rw) (l:List Fr):(onTop g l).length=l.length:=by cases l<;>rfl
theorem wt_onTop {g:Rw→Rw}{n:Nat} (h:∀r,wtR (g r)≤wtR r+n) (l:List Fr):wtFs (onTop g l)≤wtFs l+n:=by
 cases l with
 | nil=>simp[onTop]
 | cons f r =>
  have:=h f.row
  simp only[onTop,wtFs_cons,wtF];omega
def Inv (st:Pst) (i:Nat):Prop:=wtFs st.fs≤i∧st.faults.length+st.fs.length≤i+1∧1≤st.fs.length∧st.fs.length≤17
theorem Inv.more {st:Pst}{i j:Nat} (h:Inv st i) (hj:i≤j):Inv st j:=by unfold Inv at *;omega
theorem Inv.first:Inv Pst.first 0:=by simp[Inv,Pst.first,wtFs,wtF,wtR,wtL,Rw.none]
theorem Inv.top {st:Pst}{i n:Nat}{g:Rw→Rw} (h:Inv st i) (hg:∀r,wtR (g r)≤wtR r+n):Inv (st.top g) (i+n):=by
 have:=wt_onTop hg st.fs
 unfold Inv Pst.top at *;simp only[onTop_length];omega
theorem Inv.write {st:Pst}{i:Nat} (h:Inv st i) (s:Bs):Inv (st.write s) (i+s.length):=h.top fun r=>by rw[wtR_write];omega
theorem drop1_length {st:Pst} (h:2≤st.fs.length):st.drop1.fs.length+1=st.fs.length:=by
 obtain⟨fs,fa⟩:=st
 match fs,h with
 | f::g::r,_=>simp[Pst.drop1,onTop]
theorem Inv.drop1 {st:Pst}{i:Nat} (h:Inv st i) (h2:2≤st.fs.length):Inv st.drop1 i:=by
 obtain⟨fs,fa⟩:=st
 match fs,h2 with
 | f::g::r,_ =>
  have:=wt_onTop (wtR_spill f) (g::r)
  unfold Inv at *;simp only[Pst.drop1,onTop_length,wtFs_cons,List.length_append,List.length_cons,List.length_nil] at *;omega
theorem Inv.dropN {i:Nat}:∀(n:Nat){st:Pst},Inv st i→n+1≤st.fs.length→Inv (st.dropN n) i∧(st.dropN n).fs.length+n=st.fs.length
 | 0,_,h,_=>⟨h,rfl⟩
 | n+1,st,h,hl=>by
  have h1:=drop1_length (st:=st) (by omega);obtain⟨h2,h3⟩:=Inv.dropN n (h.drop1 (by omega)) (by omega);refine⟨h2,?_⟩;rw[Pst.dropN];omega
theorem Inv.drop {st:Pst}{i n:Nat} (h:Inv st i) (hn:n<st.fs.length):Inv (st.drop n) i∧(st.drop n).fs.length=n+1:=by
 obtain⟨h1,h2⟩:=Inv.dropN (st.fs.length-1-n) h (by omega);exact⟨h1,by rw[Pst.drop];omega⟩
theorem Inv.fin {st:Pst}{i n:Nat} (h:Inv st i) (h0:0<n) (hn:n<st.fs.length):Inv (st.fin n) (i+1):=by
 obtain⟨h1,h2⟩:=h.drop hn;unfold Pst.fin;generalize st.drop n=sd at h1 h2;obtain⟨fs,fa⟩:=sd
 match fs,h1,h2 with
 | f::r,h1,h2 =>
  have ha:∀q,wtR (q.add ⟨f.kind,[],[],[],f.row.flush.sp⟩)≤wtR q+1:=fun q=>by
   have h3:=wtR_add q ⟨f.kind,[],[],[],f.row.flush.sp⟩;have:wtS ⟨f.kind,[],[],[],f.row.flush.sp⟩=1:=by unfold wtS;split<;>rfl
   omega
  have:=wt_onTop ha r
  unfold Inv at *;simp only[Pst.shut,onTop_length,wtFs_cons,List.length_cons] at *;omega
theorem lastK_lt (k:Nat):∀(l:List Fr),lastK k l=0∨lastK k l<l.length
 | []=>.inl rfl
 | f::r=>by
  unfold lastK;split
  ·exact .inl rfl
  ·split
   ·exact .inr (by simp)
   ·rcases lastK_lt k r with h|h
    ·exact .inl h
    ·exact .inr (by simp only[List.length_cons];omega)
theorem Inv.begin {st:Pst}{i:Nat} (h:Inv st i) (hr:st.room=true) (k j:Nat) (sign:Bs) (hs:1≤sign.length):Inv (st.begin k j sign) (i+sign.length):=by
 unfold Pst.room at hr;have:=of_decide_eq_true hr
 unfold Inv Pst.begin at *;simp only[wtFs_cons,wtF,wtR,wtL,Rw.none,List.map_nil,List.sum_nil,List.length_nil,List.length_cons];omega
theorem nextAt_some {s:Bs}{i n:Nat}{sign:Bs} (hi:i≤s.length) (h:nextAt s i sign=some n):i≤n∧n+sign.length≤s.length:=by
 unfold nextAt at h;split at h
 ·cases h
 ·rename_i h0;have h1:=Lib.index_room (s.drop i) sign (by omega);rw[List.length_drop] at h1;cases h
  omega
theorem as_wt {asf:Bs→Sp ⊕ Nat}{l:Bs}{x:Sp} (h:asf=codeS∨asf=refS∨asf=termS) (hx:asf l=.inl x):wtS x=1∧x.kind≠0∧x.kids=[]∧x.kind<256:=by
 rcases h with rfl|rfl|rfl
 ·cases hx;exact⟨rfl,by simp,rfl,by simp⟩
 ·unfold refS at hx;split at hx
  ·cases hx;exact⟨rfl,by simp,rfl,by simp⟩
  ·cases hx
 ·unfold termS at hx;split at hx
  ·cases hx;exact⟨rfl,by simp,rfl,by simp⟩
  ·cases hx
theorem Inv.between {st:Pst}{s a b:Bs}{i:Nat}{asf:Bs→Sp ⊕ Nat} (h:Inv st i) (has:asf=codeS∨asf=refS∨asf=termS) (ha:1≤a.length) (hb:1≤b.length) (hi:i+a.length≤s.length) :
  Inv (st.between s i a b asf).1 (st.between s i a b asf).2∧i<(st.between s i a b asf).2∧(st.between s i a b asf).2≤s.length:=by
 unfold Pst.between;split
 ·refine⟨?_,by omega,by omega⟩;have h1:=(h.write a);unfold Inv Pst.tell Pst.write Pst.top at *;simp only[List.length_append,List.length_cons,List.length_nil,onTop_length] at *;omega
 ·rename_i n hn;obtain⟨h1,h2⟩:=nextAt_some hi hn;split
  ·refine⟨?_,by simp only;omega,by simp only;omega⟩;have h3:=h.write ((s.drop i).take (n+b.length-i));rw[List.length_take,List.length_drop] at h3;unfold Inv Pst.tell Pst.write Pst.top at *;simp only[List.length_append,List.length_cons,List.length_nil,onTop_length] at *;omega
  ·rename_i x hx;have hw:=(as_wt has hx).1;refine⟨?_,by simp only;omega,by simp only;omega⟩;exact (h.top (n:=1) (g:=(·.add x)) (fun r=>by have:=wtR_add r x;omega)).more (by simp only;omega)
theorem Inv.tellw {st:Pst}{i:Nat} (h:Inv st i) (s:Bs) (hs:1≤s.length) (a f:Nat):Inv ((st.write s).tell a f) (i+s.length):=by
 have h1:=(h.write s);unfold Inv Pst.tell Pst.write Pst.top at *;simp only[List.length_append,List.length_cons,List.length_nil,onTop_length] at *;omega
theorem Inv.mark {st:Pst}{s:Bs}{i k:Nat} (h:Inv st i):Inv (st.mark s i k) (i+1):=by
 unfold Pst.mark;split
 ·rename_i hc
  rcases lastK_lt k st.fs with h0|h0
  ·omega
  ·exact h.fin hc.1 h0
 ·split
  ·exact h.write _
  ·split
   ·exact h.tellw _ (by simp) _ _
   ·exact h.begin (by simp_all) _ _ _ (by simp)
theorem prefix_two {a b:UInt8}{s:Bs}{i:Nat} (h:[a,b].isPrefixOf (s.drop i)=true):i+2≤s.length:=by
 obtain⟨t,ht⟩:=List.isPrefixOf_iff_prefix.1 h;have:=congrArg List.length ht
 simp at this;omega
theorem Inv.step {st:Pst}{s:Bs}{i:Nat} (h:Inv st i) (hi:i<s.length):Inv (st.step s i).1 (st.step s i).2∧i<(st.step s i).2∧(st.step s i).2≤s.length:=by
 unfold Pst.step;split
 ·rename_i hc;exact⟨(h.write _).more (by simp),by simp only;omega,by simp only;omega⟩
 split
 ·exact h.between (.inl rfl) (by simp) (by simp) (by simp;omega)
 split
 ·rename_i hp;exact h.between (.inr (.inl rfl)) (by simp) (by simp) (prefix_two hp)
 split
 ·rename_i hp;exact h.between (.inr (.inr rfl)) (by simp) (by simp) (prefix_two hp)
 split
 ·rename_i hp;have:=prefix_two hp
  refine⟨?_,by simp only;omega,by simp only;omega⟩;simp only;split
  ·rename_i hr;exact h.begin hr _ _ _ (by simp)
  ·exact h.tellw _ (by simp) _ _
 split
 ·rename_i hc;refine⟨?_,by simp only;omega,by simp only;omega⟩
  rcases lastK_lt 6 st.fs with h0|h0
  ·omega
  ·exact h.fin hc.2 h0
 split
 ·exact⟨h.mark,by simp only;omega,by simp only;omega⟩
 split
 ·exact⟨h.mark,by simp only;omega,by simp only;omega⟩
 ·exact⟨h.write _,by simp only;omega,by simp only;omega⟩
end Go.Bd
namespace Go.Bd
open Go.RowKit
def tS:TypeId:=138
def tB:TypeId:=5
def tF:TypeId:=245
def tT:TypeId:=248
def tP:TypeId:=237
def TextRow (w:World) (B:Nat) (v:Value) (l:Bs):Prop:=w.ownsRow B tB 1 v l.length (l.map byteV)
structure FrAt (w:World) (B:Nat) (col:Nat→Nat) (cs:Array Value) (k:Nat) (f:Fr) (sv tv:Value):Prop where
 c0:cs[k*5]? = some sv
 c1:cs[k*5+1]? = some tv
 c2:cs[k*5+2]? = some (.int .u8 (f.kind:Int))
 c3:cs[k*5+3]? = some (strV f.sign)
 c4:cs[k*5+4]? = some (.int .i64 (f.at':Int))
 sp:SpanRow w B tS (col ·=4) sv f.row.sp
 tx:TextRow w B tv f.row.tx
 csp:∀b,sv.ownBlock=some b→col b=10+2*k
 ctx:∀b,tv.ownBlock=some b→col b=11+2*k
def toldCells (l:List (Nat×Nat)):List Value:=l.flatMap fun p=>[.int .i64 (p.1:Int),.int .i64 (p.2:Int)]
def Gone (gn:List Bs) (s:Bs) (i:Nat):Prop:=∀g∈gn,∀j,i≤j→nextAt s j g=none
def GoneAt (P:Program) (w:World) (gb:Nat) (gn:List Bs):Prop:=w.ownsMap (H:=Unit) P 9 unitElem gb gn.length (Maps.setOf (.agg []) (gn.map Lit.string))
structure PSx (P:Program) (w:World) (B:Nat) (col:Nat→Nat) (pb ob cap len:Nat) (s:ByteArray) (st:Pst) (i:Nat) (fv:Value) (gb:Nat) (cs:Array Value) (gn:List Bs):Prop where
 hpB:B≤pb
 hp:Holds w pb tP #[.string s,.slice (some ⟨ob,0,none⟩) len cap,fv,.map (some gb)]
 cp:col pb=0
 hoB:B≤ob
 ho:Holds w ob tF cs
 co:col ob=1
 hcs:cs.size=cap*5
 hcap:len≤cap
 hlen:st.fs.length≤len
 hmax:cap≤maxLen
 fr:∀k f,st.fs.reverse[k]? = some f→∃sv tv,FrAt w B col cs k f sv tv
 hf:w.ownsRow B tT 2 fv st.faults.length (toldCells st.faults)
 cf:∀b,fv.ownBlock=some b→col b=3
 hgB:B≤gb
 hg:GoneAt P w gb gn
 cg:col gb=2
 gone:Gone gn s.data.toList i
 gnl:gn.length≤i
 new:∀b,w.heap.size≤b→col b=9
 old:∀b,b<B→col b=5
def PS (P:Program) (w:World) (B:Nat) (col:Nat→Nat) (pb ob cap:Nat) (s:ByteArray) (st:Pst) (i:Nat):Prop:=∃fv gb cs gn,PSx P w B col pb ob cap st.fs.length s st i fv gb cs gn
structure Stay (B:Nat) (w w':World) (col col':Nat→Nat):Prop where
 below:Below B w w'
 tree:∀c b,c=4∨c=8→col b=c→b<w.heap.size→col' b=c∧w'.heap[b]? = w.heap[b]?
section
variable {P:Program} {w w' w'':World} {B:Nat} {col col' col'':Nat→Nat} {pb ob cap len:Nat} {s:ByteArray} {st:Pst} {i:Nat} {fv:Value} {gb:Nat} {cs:Array Value} {gn:List Bs}
theorem Stay.refl (B:Nat) (w:World) (col:Nat→Nat):Stay B w w col col:=⟨Below.refl _ _,fun _ _ _ h _=>⟨h,rfl⟩⟩
theorem Stay.trans (h:Stay B w w' col col') (h2:Stay B w' w'' col' col''):Stay B w w'' col col'' :=
 ⟨h.below.trans h2.below,fun c b hc hb hl=>by
  obtain⟨h3,h4⟩:=h.tree c b hc hb hl;obtain⟨h5,h6⟩:=h2.tree c b hc h3 (Nat.lt_of_lt_of_le hl h.below.size);exact⟨h5,h6.trans h4⟩⟩
theorem Stay.forest (h:Stay B w w' col col'){v:Value}{l:List Sp} (hf:Forest w (col ·=4) v l):Forest w' (col' ·=4) v l:=by
 induction hf with
 | mk A c l kvs hlen hcap hA _ ih =>
  refine .mk A c l kvs hlen hcap (fun hn=>?_) (fun j x kv h1 h2=>ih j x kv h1 h2);obtain⟨b,off,h1,h2,h3⟩:=hA hn;have hlt:b<w.heap.size:=by
   cases l with
   | nil=>exact absurd rfl hn
   | cons x l =>
    cases kvs with
    | nil=>simp at hlen
    | cons kv kvs=>exact World.block_lt_of_cell? w _ (h3 0 x kv rfl rfl 0 _ rfl)
  obtain⟨h4,h5⟩:=h.tree 4 b (.inl rfl) h2 hlt;exact⟨b,off,h1,h4,fun j x kv e1 e2 i u e3=>(World.cell?_of_block h5).trans (h3 j x kv e1 e2 i u e3)⟩
theorem GoneAt.chg {S:Nat→Prop} (h:GoneAt P w gb gn) (hc:Chg w w' S) (hS:¬S gb):GoneAt P w' gb gn:=by
 have hlt:=World.ownsMap.lt h;obtain⟨es,clock,hb,r⟩:=h;exact⟨es,clock,(hc.block gb hlt hS).trans hb,r⟩
theorem TextRow.chg {S:Nat→Prop}{v:Value}{l:Bs} (h:TextRow w B v l) (hc:Chg w w' S) (hS:∀b,v.ownBlock=some b→¬S b):TextRow w' B v l:=hc.owns h hS
theorem TextRow.lt {v:Value}{l:Bs} (h:TextRow w B v l):∀k,v.ownBlock=some k→B≤k∧k<w.heap.size:=World.ownsRow.lt h
theorem own_apart {B' sz sz' n n':Nat}{e e':TypeId}{v v':Value}{xs xs':List Value} (h:w.ownsRow B e sz v n xs) (h':w.ownsRow B' e' sz' v' n' xs') (he:e≠e'){b:Nat} (hb:v.ownBlock=some b):v'.ownBlock≠some b:=by
 intro hb'
 rcases h.2 with ⟨rfl,_⟩|⟨g,c,cur,rfl,_,hg,_⟩
 ·cases hb
 ·rcases h'.2 with ⟨rfl,_⟩|⟨g',c',cur',rfl,_,hg',_⟩
  ·cases hb'
  ·simp only[Value.ownBlock,Option.some.injEq] at hb hb';subst hb;subst hb';rw[hg] at hg';injection hg' with h1
   injection h1 with _ h2 _
   exact he h2
theorem own_apart_holds {sz n g:Nat}{e t:TypeId}{v:Value}{xs:List Value}{cs:Array Value} (h:w.ownsRow B e sz v n xs) (h':Holds w g t cs) (he:e≠t):v.ownBlock≠some g:=by
 intro hb
 rcases h.2 with ⟨rfl,_⟩|⟨g',c,cur,rfl,_,hg,_⟩
 ·cases hb
 ·simp only[Value.ownBlock,Option.some.injEq] at hb;subst hb;unfold Holds at h';rw[hg] at h';injection h' with h1
  injection h1 with _ h2 _
  exact he h2
theorem FrAt.chg {S:Nat→Prop}{k:Nat}{f:Fr}{sv tv:Value} (h:FrAt w B col cs k f sv tv) (hc:Chg w w' S) (hcol:∀b,b<w.heap.size→col' b=col b) (cs':Array Value) (hcs:∀j,k*5≤j→j<k*5+5→cs'[j]? = cs[j]?)
  (hS:∀b,S b→b<w.heap.size→col b≠4∧col b≠10+2*k∧col b≠11+2*k) (hF:∀b,w.heap.size≤b→col b≠4):FrAt w' B col' cs' k f sv tv:=by
 have hlt:∀b,col b=4→b<w.heap.size:=fun b hb=>by
  by_cases h1:b<w.heap.size
  ·exact h1
  ·exact absurd hb (hF b (by omega))
 refine⟨(hcs _ (by omega) (by omega)).trans h.c0,(hcs _ (by omega) (by omega)).trans h.c1,(hcs _ (by omega) (by omega)).trans h.c2,(hcs _ (by omega) (by omega)).trans h.c3,(hcs _ (by omega) (by omega)).trans h.c4,?_,?_,?_,?_⟩
 ·refine h.sp.chg hc (fun b hb=>by rw[hcol b (hlt b hb)];exact hb) (fun b hb hs=>(hS b hs (hlt b hb)).1 hb) (fun b hb hs=>?_);exact (hS b hs (h.sp.lt b hb).2).2.1 (h.csp b hb)
 ·exact h.tx.chg hc fun b hb hs=>(hS b hs (h.tx.lt b hb).2).2.2 (h.ctx b hb)
 ·exact fun b hb=>by rw[hcol b (h.sp.lt b hb).2];exact h.csp b hb
 ·exact fun b hb=>by rw[hcol b (h.tx.lt b hb).2];exact h.ctx b hb
theorem rev_get {α:Type}{f g:α}{r:List α}{k:Nat} (h:(f::r).reverse[k]? = some g):(k=r.length∧g=f)∨(k<r.length∧r.reverse[k]? = some g):=by
 rw[List.reverse_cons] at h
 by_cases hk:k<r.length
 ·rw[List.getElem?_append_left (by simpa using hk)] at h;exact .inr ⟨hk,h⟩
 ·rw[List.getElem?_append_right (by simpa using hk)] at h;simp only[List.length_reverse] at h;cases hj:k-r.length with
  | zero =>
   rw[hj] at h;simp at h;exact .inl ⟨by omega,h.symm⟩
  | succ n=>rw[hj] at h;simp at h
theorem rev_last {α:Type} (f:α) (r:List α):(f::r).reverse[r.length]? = some f:=by
 rw[List.reverse_cons,List.getElem?_append_right (by simp)];simp
theorem rev_old {α:Type}{f g:α}{r:List α}{k:Nat} (h:r.reverse[k]? = some g):(f::r).reverse[k]? = some g:=by
 have:=(List.getElem?_eq_some_iff.1 h).1
 rw[List.reverse_cons,List.getElem?_append_left this];exact h
theorem PSx.lt4 (h:PSx P w B col pb ob cap len s st i fv gb cs gn){b:Nat} (hb:col b=4):b<w.heap.size:=by
 by_cases h1:b<w.heap.size
 ·exact h1
 ·have:=h.new b (by omega);omega
theorem PSx.ge4 (h:PSx P w B col pb ob cap len s st i fv gb cs gn){b:Nat} (hb:col b=4):B≤b:=by
 by_cases h1:b<B
 ·have:=h.old b h1;omega
 ·omega
theorem PSx.put (h:PSx P w B col pb ob cap len s st i fv gb cs gn){f:Fr}{r:List Fr} (hfs:st.fs=f::r){sv tv sv' tv':Value}{row':Rw} (hfr:FrAt w B col cs r.length f sv tv){S:Nat→Prop}
  (hch:Chg w w' S) (hS:∀b,S b→b=ob∨sv.ownBlock=some b∨tv.ownBlock=some b)
  (hob:Holds w' ob tF ((cs.setIfInBounds (r.length*5) sv').setIfInBounds (r.length*5+1) tv'))
  (hsp:SpanRow w' B tS (col ·=4) sv' row'.sp) (htx:TextRow w' B tv' row'.tx)
  (h1:∀b,sv'.ownBlock=some b→sv.ownBlock=some b∨w.heap.size≤b) (h2:∀b,tv'.ownBlock=some b→tv.ownBlock=some b∨w.heap.size≤b) :
  ∃col',PSx P w' B col' pb ob cap len s { st with fs:={ f with row:=row' } :: r } i fv gb ((cs.setIfInBounds (r.length*5) sv').setIfInBounds (r.length*5+1) tv') gn∧Stay B w w' col col':=by
 have hlen:st.fs.length=r.length+1:=by rw[hfs];rfl
 have hbo:=h.ho.lt;have hcol:∀b,S b→col b=1∨col b=10+2*r.length∨col b=11+2*r.length:=fun b hb=>by
  rcases hS b hb with rfl|hb|hb
  ·exact .inl h.co
  ·exact .inr (.inl (hfr.csp b hb))
  ·exact .inr (.inr (hfr.ctx b hb))
 have hSB:∀b,S b→B≤b:=fun b hb=>by
  rcases hS b hb with rfl|hb|hb
  ·exact h.hoB
  ·exact (hfr.sp.lt b hb).1
  ·exact (hfr.tx.lt b hb).1
 have hsz:=hch.size;have hap:∀b,sv'.ownBlock=some b→tv'.ownBlock≠some b:=fun b hb=>by
  obtain⟨kvs,_,ho,_⟩:=hsp;exact own_apart ho htx (by decide) hb
 obtain⟨col',hc'⟩:∃col':Nat→Nat,col'=fun b=>if b<w.heap.size then col b else if sv'.ownBlock=some b then 10+2*r.length else if tv'.ownBlock=some b then 11+2*r.length else 9:=⟨_,rfl⟩
 have hold:∀b,b<w.heap.size→col' b=col b:=fun b hb=>by rw[hc'];exact if_pos hb
 have hne:∀{c:Nat} {b:Nat},col b=c→b<w.heap.size→c≠1→c≠10+2*r.length→c≠11+2*r.length→¬S b:=fun hc _ n1 n2 n3 hs=>by
  rcases hcol _ hs with h'|h'|h'<;>omega
 refine⟨col',⟨h.hpB,?_,?_,h.hoB,hob,?_,?_,h.hcap,?_,h.hmax,?_,?_,?_,h.hgB,?_,?_,h.gone,h.gnl,?_,fun b hb=>(hold b (by have:=h.hpB;have:=h.hp.lt;omega)).trans (h.old b hb)⟩,?_,?_⟩
 ·exact hch.holds (hne h.cp h.hp.lt (by omega) (by omega) (by omega)) h.hp
 ·rw[hold _ h.hp.lt];exact h.cp
 ·rw[hold _ hbo];exact h.co
 ·simp only[Array.size_setIfInBounds];exact h.hcs
 ·have:=h.hlen;rw[hlen] at this;exact this
 ·intro k g hg
  rcases rev_get hg with ⟨rfl,rfl⟩|⟨hk,hg⟩
  ·have hs5:r.length*5+5≤cs.size:=by
    have h3:=h.hcap;have h4:=h.hlen;rw[h.hcs];have:=Nat.mul_le_mul_right 5 (show r.length+1≤cap by omega)
    omega
   have hget:∀j,r.length*5+1<j→((cs.setIfInBounds (r.length*5) sv').setIfInBounds (r.length*5+1) tv')[j]? = cs[j]?:=fun j hj=>by
    rw[Array.getElem?_setIfInBounds_ne (by omega),Array.getElem?_setIfInBounds_ne (by omega)]
   refine⟨sv',tv',⟨?_,?_,(hget _ (by omega)).trans hfr.c2,(hget _ (by omega)).trans hfr.c3,(hget _ (by omega)).trans hfr.c4,?_,htx,?_,?_⟩⟩
   ·rw[Array.getElem?_setIfInBounds_ne (by omega),Array.getElem?_setIfInBounds_self_of_lt (by omega)]
   ·rw[Array.getElem?_setIfInBounds_self_of_lt (by simp;omega)]
   ·exact hsp.chg (Chg.refl w' (fun _=>False)) (fun b hb=>by rw[hold b (h.lt4 hb)];exact hb) (fun _ _ h=>h) (fun _ _ h=>h)
   ·intro b hb
    by_cases hlt:b<w.heap.size
    ·rw[hold b hlt]
     rcases h1 b hb with h3|h3
     ·exact hfr.csp b h3
     ·omega
    ·rw[hc'];simp only[if_neg hlt,if_pos hb]
   ·intro b hb
    by_cases hlt:b<w.heap.size
    ·rw[hold b hlt]
     rcases h2 b hb with h3|h3
     ·exact hfr.ctx b h3
     ·omega
    ·rw[hc'];simp only[if_neg hlt,if_pos hb];rw[if_neg (fun h3=>hap b h3 hb)]
  ·obtain⟨sw,tw,hf⟩:=h.fr k g (by rw[hfs];exact rev_old hg);refine⟨sw,tw,hf.chg hch hold _ (fun j h3 h4=>?_) (fun b hb hl=>?_) (fun b hb h4=>by have:=h.new b hb;omega)⟩
   ·have:k*5+5≤r.length*5:=by have:=Nat.mul_le_mul_right 5 (show k+1≤r.length by omega);omega
    rw[Array.getElem?_setIfInBounds_ne (by omega),Array.getElem?_setIfInBounds_ne (by omega)]
   ·rcases hcol b hb with h3|h3|h3<;>omega
 ·exact hch.owns h.hf fun b hb=>hne (h.cf b hb) (h.hf.lt b hb).2 (by omega) (by omega) (by omega)
 ·exact fun b hb=>by rw[hold b (h.hf.lt b hb).2];exact h.cf b hb
 ·exact h.hg.chg hch (hne h.cg (World.ownsMap.lt h.hg) (by omega) (by omega) (by omega))
 ·rw[hold _ (World.ownsMap.lt h.hg)];exact h.cg
 ·intro b hb;have n1:¬b<w.heap.size:=by omega
  have n2:sv'.ownBlock≠some b:=fun h3=>by have:=(hsp.lt b h3).2;omega
  have n3:tv'.ownBlock≠some b:=fun h3=>by have:=(htx.lt b h3).2;omega
  rw[hc'];simp only[if_neg n1,if_neg n2,if_neg n3]
 ·exact hch.toBelow (by have:=h.hoB;omega) hSB
 ·intro c b hc hb hl;exact⟨by rw[hold b hl];exact hb,hch.block b hl (hne hb hl (by omega) (by omega) (by omega))⟩
theorem PSx.keep (h:PSx P w B col pb ob cap len s st i fv gb cs gn){S:Nat→Prop} (hch:Chg w w' S) (hS:∀b,S b→b<w.heap.size→col b=7∨col b=9):PSx P w' B col pb ob cap len s st i fv gb cs gn:=by
 have hne:∀{c:Nat} {b:Nat},col b=c→b<w.heap.size→c≠7→c≠9→¬S b:=fun hc hl n1 n2 hs=>by
  rcases hS _ hs hl with h'|h'<;>omega
 have hsz:=hch.size;refine⟨h.hpB,hch.holds (hne h.cp h.hp.lt (by omega) (by omega)) h.hp,h.cp,h.hoB,hch.holds (hne h.co h.ho.lt (by omega) (by omega)) h.ho,h.co,h.hcs,h.hcap,h.hlen,h.hmax,?_,?_,h.cf,h.hgB,?_,h.cg,h.gone,h.gnl,fun b hb=>h.new b (by omega),h.old⟩
 ·intro k g hg;obtain⟨sw,tw,hf⟩:=h.fr k g hg;exact⟨sw,tw,hf.chg hch (fun _ _=>rfl) cs (fun _ _ _=>rfl) (fun b hb hl=>by rcases hS b hb hl with h3|h3<;>omega) (fun b hb h4=>by have:=h.new b hb;omega)⟩
 ·exact hch.owns h.hf fun b hb=>hne (h.cf b hb) (h.hf.lt b hb).2 (by omega) (by omega)
 ·exact h.hg.chg hch (hne h.cg (World.ownsMap.lt h.hg) (by omega) (by omega))
theorem PSx.pop (h:PSx P w B col pb ob cap len s st i fv gb cs gn){f:Fr}{r:List Fr} (hfs:st.fs=f::r) (c:Nat) :
  ∃col' sv tv,cs[r.length*5]? = some sv∧cs[r.length*5+1]? = some tv∧cs[r.length*5+2]? = some (.int .u8 (f.kind:Int))∧cs[r.length*5+3]? = some (strV f.sign)∧cs[r.length*5+4]? = some (.int .i64 (f.at':Int)) ∧
   PSx P w B col' pb ob cap len s { st with fs:=r } i fv gb cs gn∧Stay B w w col col'∧SpanRow w B tS (col' ·=4) sv f.row.sp∧TextRow w B tv f.row.tx∧(∀b,sv.ownBlock=some b→col' b=c)∧(∀b,tv.ownBlock=some b→col' b=c):=by
 obtain⟨sv,tv,hf⟩:=h.fr r.length f (by rw[hfs];exact rev_last f r);obtain⟨col',hc'⟩:∃col':Nat→Nat,col'=fun b=>if col b=10+2*r.length∨col b=11+2*r.length then c else col b:=⟨_,rfl⟩
 have hold:∀{b d:Nat},col b=d→d≠10+2*r.length→d≠11+2*r.length→col' b=d:=fun h1 h2 h3=>by
  rw[hc'];simp only;rw[if_neg (by omega)];exact h1
 have h4:∀b,col b=4→col' b=4:=fun b hb=>hold hb (by omega) (by omega)
 refine⟨col',sv,tv,hf.c0,hf.c1,hf.c2,hf.c3,hf.c4,⟨h.hpB,h.hp,hold h.cp (by omega) (by omega),h.hoB,h.ho,hold h.co (by omega) (by omega),h.hcs,h.hcap,?_,h.hmax,?_,h.hf,?_,h.hgB,h.hg,hold h.cg (by omega) (by omega),h.gone,h.gnl,?_,fun b hb=>hold (h.old b hb) (by omega) (by omega)⟩,⟨Below.refl _ _,fun c b hc hb _=>⟨hold hb (by omega) (by omega),rfl⟩⟩,?_,hf.tx,?_,?_⟩
 ·have:=h.hlen;rw[hfs] at this;simp only[List.length_cons] at this;simp only;omega
 ·intro k g hg;have hk:k<r.length:=by have:=(List.getElem?_eq_some_iff.1 hg).1;simpa using this
  obtain⟨sw,tw,hg'⟩:=h.fr k g (by rw[hfs];exact rev_old hg);exact⟨sw,tw,⟨hg'.c0,hg'.c1,hg'.c2,hg'.c3,hg'.c4,hg'.sp.chg (Chg.refl w (fun _=>False)) h4 (fun _ _ h=>h) (fun _ _ h=>h),hg'.tx,fun b hb=>hold (hg'.csp b hb) (by omega) (by omega),fun b hb=>hold (hg'.ctx b hb) (by omega) (by omega)⟩⟩
 ·exact fun b hb=>hold (h.cf b hb) (by omega) (by omega)
 ·exact fun b hb=>hold (h.new b hb) (by omega) (by omega)
 ·exact hf.sp.chg (Chg.refl w (fun _=>False)) h4 (fun _ _ h=>h) (fun _ _ h=>h)
 ·exact fun b hb=>by rw[hc'];simp only;rw[if_pos (.inl (hf.csp b hb))]
 ·exact fun b hb=>by rw[hc'];simp only;rw[if_pos (.inr (hf.ctx b hb))]
theorem PSx.cut (h:PSx P w B col pb ob cap len s st i fv gb cs gn){n:Nat} (hn:st.fs.length≤n) (hnl:n≤len):PSx P (w.setCell ⟨pb,1,none⟩ (.slice (some ⟨ob,0,none⟩) n cap)) B col pb ob cap n s st i fv gb cs gn∧Stay B w (w.setCell ⟨pb,1,none⟩ (.slice (some ⟨ob,0,none⟩) n cap)) col col:=by
 have hch:=Chg.set w ⟨pb,1,none⟩ (.slice (some ⟨ob,0,none⟩) n cap);have hne:∀{c:Nat} {b:Nat},col b=c→c≠0→b≠pb:=fun hc n1 e=>by subst e;have:=h.cp;omega
 refine⟨⟨h.hpB,?_,h.cp,h.hoB,hch.holds (hne h.co (by omega)) h.ho,h.co,h.hcs,Nat.le_trans hnl h.hcap,hn,h.hmax,?_,?_,h.cf,h.hgB,?_,h.cg,h.gone,h.gnl,?_,h.old⟩,?_,?_⟩
 ·have:=h.hp.set 1 (.slice (some ⟨ob,0,none⟩) n cap)
  simpa using this
 ·intro k g hg;obtain⟨sw,tw,hf⟩:=h.fr k g hg;exact⟨sw,tw,hf.chg hch (fun _ _=>rfl) cs (fun _ _ _=>rfl) (fun b hb hl=>by subst hb;have:=h.cp;omega) (fun b hb h4=>by have:=h.new b hb;omega)⟩
 ·exact hch.owns h.hf fun b hb=>hne (h.cf b hb) (by omega)
 ·exact h.hg.chg hch (hne h.cg (by omega))
 ·intro b hb;exact h.new b (by simpa [World.setCell] using hb)
 ·exact hch.toBelow (by have:=h.hpB;have:=h.hp.lt;omega) (fun b hb=>by subst hb;exact h.hpB)
 ·intro c b hc hb hl;exact⟨hb,hch.block b hl (hne hb (by omega))⟩
theorem PSx.faults (h:PSx P w B col pb ob cap len s st i fv gb cs gn){fv':Value}{fa:List (Nat×Nat)}{S:Nat→Prop}
  (hch:Chg w w' S) (hS:∀b,S b→b=pb∨fv.ownBlock=some b) (hp:Holds w' pb tP #[.string s,.slice (some ⟨ob,0,none⟩) len cap,fv',.map (some gb)])
  (hf:w'.ownsRow B tT 2 fv' fa.length (toldCells fa)) (h1:∀b,fv'.ownBlock=some b→fv.ownBlock=some b∨w.heap.size≤b) :
  ∃col',PSx P w' B col' pb ob cap len s { st with faults:=fa } i fv' gb cs gn∧Stay B w w' col col':=by
 have hcol:∀b,S b→col b=0∨col b=3:=fun b hb=>by
  rcases hS b hb with rfl|hb
  ·exact .inl h.cp
  ·exact .inr (h.cf b hb)
 have hsz:=hch.size;obtain⟨col',hc'⟩:∃col':Nat→Nat,col'=fun b=>if b<w.heap.size then col b else if fv'.ownBlock=some b then 3 else 9:=⟨_,rfl⟩
 have hold:∀b,b<w.heap.size→col' b=col b:=fun b hb=>by rw[hc'];exact if_pos hb
 have hne:∀{c:Nat} {b:Nat},col b=c→c≠0→c≠3→¬S b:=fun hc n1 n2 hs=>by rcases hcol _ hs with h'|h'<;>omega
 refine⟨col',⟨h.hpB,hp,?_,h.hoB,hch.holds (hne h.co (by omega) (by omega)) h.ho,?_,h.hcs,h.hcap,h.hlen,h.hmax,?_,hf,?_,h.hgB,h.hg.chg hch (hne h.cg (by omega) (by omega)),?_,h.gone,h.gnl,?_,fun b hb=>(hold b (by have:=h.hpB;have:=h.hp.lt;omega)).trans (h.old b hb)⟩,?_,?_⟩
 ·rw[hold _ h.hp.lt];exact h.cp
 ·rw[hold _ h.ho.lt];exact h.co
 ·intro k g hg;obtain⟨sw,tw,hf⟩:=h.fr k g hg;exact⟨sw,tw,hf.chg hch hold cs (fun _ _ _=>rfl) (fun b hb hl=>by rcases hcol b hb with h3|h3<;>omega) (fun b hb h4=>by have:=h.new b hb;omega)⟩
 ·intro b hb
  by_cases hlt:b<w.heap.size
  ·rw[hold b hlt]
   rcases h1 b hb with h3|h3
   ·exact h.cf b h3
   ·omega
  ·rw[hc'];simp only[if_neg hlt,if_pos hb]
 ·rw[hold _ (World.ownsMap.lt h.hg)];exact h.cg
 ·intro b hb;have n1:¬b<w.heap.size:=by omega
  have n2:fv'.ownBlock≠some b:=fun h3=>by have:=(hf.lt b h3).2;omega
  rw[hc'];simp only[if_neg n1,if_neg n2]
 ·exact hch.toBelow (by have:=h.hpB;have:=h.hp.lt;omega) (fun b hb=>by
   rcases hS b hb with rfl|hb
   ·exact h.hpB
   ·exact (h.hf.lt b hb).1)
 ·intro c b hc hb hl;exact⟨by rw[hold b hl];exact hb,hch.block b hl (hne hb (by omega) (by omega))⟩
theorem PSx.push (h:PSx P w B col pb ob cap len s st i fv gb cs gn){f:Fr}{ob' cap':Nat}{cs':Array Value}{S:Nat→Prop} (hl:len=st.fs.length) (hrow:f.row=Rw.none)
  (hch:Chg w w' S) (hS:∀b,S b→b=pb∨b=ob) (hp:Holds w' pb tP #[.string s,.slice (some ⟨ob',0,none⟩) (len+1) cap',fv,.map (some gb)])
  (ho:Holds w' ob' tF cs') (hob:ob'=ob∨w.heap.size≤ob') (hcs:cs'.size=cap'*5) (hcap:len+1≤cap') (hmax:cap'≤maxLen)
  (hsame:∀j,j<len*5→cs'[j]? = cs[j]?) (hnew:∀(j:Nat) u,([.slice none 0 0,.slice none 0 0,.int .u8 (f.kind:Int),strV f.sign,.int .i64 (f.at':Int)]:List Value)[j]? = some u→cs'[len*5+j]? = some u) :
  ∃col',PSx P w' B col' pb ob' cap' (len+1) s { st with fs:=f::st.fs } i fv gb cs' gn∧Stay B w w' col col':=by
 have hcol:∀b,S b→col b=0∨col b=1:=fun b hb=>by
  rcases hS b hb with rfl|rfl
  ·exact .inl h.cp
  ·exact .inr h.co
 have hsz:=hch.size;obtain⟨col',hc'⟩:∃col':Nat→Nat,col'=fun b=>if b<w.heap.size then col b else if ob'=b then 1 else 9:=⟨_,rfl⟩
 have hold:∀b,b<w.heap.size→col' b=col b:=fun b hb=>by rw[hc'];exact if_pos hb
 have hne:∀{c:Nat} {b:Nat},col b=c→c≠0→c≠1→¬S b:=fun hc n1 n2 hs=>by rcases hcol _ hs with h'|h'<;>omega
 have hoB:B≤ob':=by
  rcases hob with rfl|h1
  ·exact h.hoB
  ·have:=h.hoB;have:=h.ho.lt;omega
 refine⟨col',⟨h.hpB,hp,?_,hoB,ho,?_,hcs,hcap,?_,hmax,?_,?_,?_,h.hgB,h.hg.chg hch (hne h.cg (by omega) (by omega)),?_,h.gone,h.gnl,?_,fun b hb=>(hold b (by have:=h.hpB;have:=h.hp.lt;omega)).trans (h.old b hb)⟩,?_,?_⟩
 ·rw[hold _ h.hp.lt];exact h.cp
 ·by_cases hlt:ob'<w.heap.size
  ·rw[hold _ hlt]
   rcases hob with rfl|h1
   ·exact h.co
   ·omega
  ·rw[hc'];simp only[if_neg hlt,if_true]
 ·simp only[List.length_cons];omega
 ·intro k g hg
  rcases rev_get hg with ⟨rfl,rfl⟩|⟨hk,hg⟩
  ·have hn:=hnew;rw[hl] at hn;exact⟨.slice none 0 0,.slice none 0 0,⟨hn 0 _ rfl,hn 1 _ rfl,hn 2 _ rfl,hn 3 _ rfl,hn 4 _ rfl,by rw[hrow];exact SpanRow.nil _ _ _ _,by rw[hrow];exact World.ownsRow_nil _ _ _ _,(fun b hb=>by cases hb),(fun b hb=>by cases hb)⟩⟩
  ·obtain⟨sw,tw,hf⟩:=h.fr k g hg;exact⟨sw,tw,hf.chg hch hold cs' (fun j h3 h4=>hsame j (by have:=Nat.mul_le_mul_right 5 (show k+1≤st.fs.length by omega);omega)) (fun b hb hl=>by rcases hcol b hb with h3|h3<;>omega) (fun b hb h4=>by have:=h.new b hb;omega)⟩
 ·exact hch.owns h.hf fun b hb=>hne (h.cf b hb) (by omega) (by omega)
 ·exact fun b hb=>by rw[hold b (h.hf.lt b hb).2];exact h.cf b hb
 ·rw[hold _ (World.ownsMap.lt h.hg)];exact h.cg
 ·intro b hb;have n1:¬b<w.heap.size:=by omega
  have n2:ob'≠b:=fun h3=>by have:=ho.lt;omega
  rw[hc'];simp only[if_neg n1,if_neg n2]
 ·exact hch.toBelow (by have:=h.hpB;have:=h.hp.lt;omega) (fun b hb=>by
   rcases hS b hb with rfl|rfl
   ·exact h.hpB
   ·exact h.hoB)
 ·intro c b hc hb hl;exact⟨by rw[hold b hl];exact hb,hch.block b hl (hne hb (by omega) (by omega))⟩
theorem PSx.signs (h:PSx P w B col pb ob cap len s st i fv gb cs gn){gn':List Bs}{j:Nat} (hch:Chg w w' (·=gb)) (hg:GoneAt P w' gb gn') (hgo:Gone gn' s.data.toList j) (hgl:gn'.length≤j) :
  PSx P w' B col pb ob cap len s st j fv gb cs gn'∧Stay B w w' col col:=by
 have hne:∀{c:Nat} {b:Nat},col b=c→c≠2→b≠gb:=fun hc n1 e=>by subst e;have:=h.cg;omega
 have hsz:=hch.size;refine⟨⟨h.hpB,hch.holds (hne h.cp (by omega)) h.hp,h.cp,h.hoB,hch.holds (hne h.co (by omega)) h.ho,h.co,h.hcs,h.hcap,h.hlen,h.hmax,?_,?_,h.cf,h.hgB,hg,h.cg,hgo,hgl,fun b hb=>h.new b (by omega),h.old⟩,?_,?_⟩
 ·intro k g hg;obtain⟨sw,tw,hf⟩:=h.fr k g hg;exact⟨sw,tw,hf.chg hch (fun _ _=>rfl) cs (fun _ _ _=>rfl) (fun b hb hl=>by subst hb;have:=h.cg;omega) (fun b hb h4=>by have:=h.new b hb;omega)⟩
 ·exact hch.owns h.hf fun b hb=>hne (h.cf b hb) (by omega)
 ·exact hch.toBelow (by have:=h.hgB;have:=World.ownsMap.lt h.hg;omega) (fun b hb=>by subst hb;exact h.hgB)
 ·intro c b hc hb hl;exact⟨hb,hch.block b hl (hne hb (by omega))⟩
theorem PSx.on (h:PSx P w B col pb ob cap len s st i fv gb cs gn){j:Nat} (hj:i≤j):PSx P w B col pb ob cap len s st j fv gb cs gn :=
 ⟨h.hpB,h.hp,h.cp,h.hoB,h.ho,h.co,h.hcs,h.hcap,h.hlen,h.hmax,h.fr,h.hf,h.cf,h.hgB,h.hg,h.cg,fun g hg k hk=>h.gone g hg k (by omega),by have:=h.gnl;omega,h.new,h.old⟩
theorem PSx.local (h:PSx P w B col pb ob cap len s st i fv gb cs gn) (o:Obj):∃col':Nat→Nat,PSx P (w.alloc o) B col' pb ob cap len s st i fv gb cs gn∧Stay B w (w.alloc o) col col'∧col' w.heap.size=8∧∀b,b≠w.heap.size→col' b=col b:=by
 have h0:=h.keep (S:=fun _=>False) ((Chg.refl w _).alloc o) (fun _ h=>h.elim);obtain⟨col',hc'⟩:∃col':Nat→Nat,col'=fun b=>if b=w.heap.size then 8 else col b:=⟨_,rfl⟩
 have hold:∀{b:Nat},b≠w.heap.size→col' b=col b:=fun h1=>by rw[hc'];exact if_neg h1
 have h9:col w.heap.size=9:=h.new _ (Nat.le_refl _);have hne:∀{c b:Nat},col b=c→c≠9→col' b=c:=fun {c b} h1 h2=>by
  rw[hold (fun e=>by subst e;omega)];exact h1
 refine⟨col',⟨h0.hpB,h0.hp,hne h0.cp (by omega),h0.hoB,h0.ho,hne h0.co (by omega),h0.hcs,h0.hcap,h0.hlen,h0.hmax,?_,h0.hf,?_,h0.hgB,h0.hg,hne h0.cg (by omega),h0.gone,h0.gnl,?_,fun b hb=>hne (h0.old b hb) (by omega)⟩,⟨(Below.refl _ _).alloc (by have:=h.hpB;have:=h.hp.lt;omega) _,fun c b hc hb hl=>⟨hne hb (by omega),Below.heap_alloc w o b hl⟩⟩,by rw[hc'];simp,fun b hb=>hold hb⟩
 ·intro k g hg;obtain⟨sw,tw,hg'⟩:=h0.fr k g hg;exact⟨sw,tw,⟨hg'.c0,hg'.c1,hg'.c2,hg'.c3,hg'.c4,hg'.sp.chg (Chg.refl _ (fun _=>False)) (fun b hb=>hne hb (by omega)) (fun _ _ h=>h) (fun _ _ h=>h),hg'.tx,fun b hb=>hne (hg'.csp b hb) (by omega),fun b hb=>hne (hg'.ctx b hb) (by omega)⟩⟩
 ·exact fun b hb=>hne (h0.cf b hb) (by omega)
 ·intro b hb;rw[hold (fun e=>by subst e;simp at hb;omega)];exact h0.new b hb
theorem Stay.holds (h:Stay B w w' col col'){g:Nat}{t:TypeId}{ds:Array Value} (hc:col g=8) (hh:Holds w g t ds):col' g=8∧Holds w' g t ds:=by
 obtain⟨h1,h2⟩:=h.tree 8 g (.inr rfl) hc hh.lt;exact⟨h1,h2.trans hh⟩
theorem Stay.text (h:Stay B w w' col col'){v:Value}{l:Bs} (ht:TextRow w B v l) (hc:∀b,v.ownBlock=some b→col b=4):TextRow w' B v l∧∀b,v.ownBlock=some b→col' b=4:=by
 refine⟨⟨ht.1,?_⟩,fun b hb=>(h.tree 4 b (.inl rfl) (hc b hb) (ht.lt b hb).2).1⟩
 rcases ht.2 with hn|⟨g,cap,cur,hv,hg,hh,r⟩
 ·exact .inl hn
 ·exact .inr ⟨g,cap,cur,hv,hg,((h.tree 4 g (.inl rfl) (hc g (by rw[hv];rfl)) (Array.getElem?_eq_some_iff.1 hh).1).2).trans hh,r⟩
end
def Near (w:World) (v v':Value):Prop:=v'.ownBlock=v.ownBlock∨v'.ownBlock=some w.heap.size
theorem Near.old {w:World}{v v':Value} (h:Near w v v'):∀b,v'.ownBlock=some b→v.ownBlock=some b∨w.heap.size≤b:=fun b hb=>by
 rcases h with h|h
 ·exact .inl (h.symm.trans hb)
 ·rw[h] at hb;cases hb;exact .inr (Nat.le_refl _)
theorem own_slice2 {w:World}{base n sz:Nat}{e:TypeId}{v:Value}{xs:List Value} (h:w.ownsRow base e sz v n xs):∃A cap,v=.slice A n cap∧n≤cap:=by
 rcases h.2 with ⟨hv,h0⟩|⟨g,cap,cur,hv,_,_,hc,_⟩
 ·exact⟨none,0,by rw[hv,h0],by omega⟩
 ·exact⟨_,_,hv,hc⟩
theorem own_app_string {P:Program} (w:World) (base:Nat) (t u ty e:TypeId) (i:TypeInfo) (ht:P.underlying t=some (.slice e)) (hu:P.underlying u=some .string) (hi:P.info? e=some i) (hz:i.zero=some (.int .u8 0)) (hsize:i.size=1) (hby:i.bytes=1)
  (v:Value) (n:Nat) (xs:List Value) (hown:w.ownsRow base e 1 v n xs) (s:ByteArray) (h63:n+s.size≤maxLen) (hbytes:n+s.size≤140737488355328) (hbase:base≤w.heap.size) :
  ∃v' w',(Builtin.append_ #[t,u] ty #[v,.string s]).run P w=.ok v' w'∧w'.ownsRow base e 1 v' (n+s.size) (xs++s.data.toList.map byteV)∧w.grownBy w' v.ownBlock∧Near w v v':=by
 obtain⟨v',w',hr,h2,h3,h4⟩:=Lib.run_append_own_string (P:=P) w base t u ty e i ht hu hi hz hsize hby v n xs hown s h63 hbytes hbase;refine⟨v',w',hr,h2,h3,?_⟩;have hsmall:n+s.size≤9223372036854775807:=by simp only[maxLen] at h63;omega
 have hxl:xs.length=n:=by simpa using hown.1
 rcases hown.2 with ⟨rfl,rfl⟩|⟨g,cap,cur,rfl,hbg,hg,hnc,hcm,hcs,htake⟩
 ·by_cases hm:s.size=0
  ·exact .inl (by rw[h4.2 ⟨rfl,hm⟩])
  ·have hq:=run_append_nil_string (P:=P) w t u ty e i (.int .u8 0) ht hu hi hz s (by omega) (by omega) (by rw[hby];omega);rw[hr] at hq;injection hq with e1 e2
   exact .inr (by rw[e1];rfl)
 ·by_cases hroom:n+s.size≤cap
  ·have hq:=Lib.run_append_room_string (P:=P) w t u ty e i ht hu hi hsize g n cap cur hg s hroom (by omega);rw[hr] at hq;injection hq with e1 e2
   exact .inl (by rw[e1];rfl)
  ·have hq:=Lib.run_append_grow_string (P:=P) w t u ty e i (.int .u8 0) ht hu hi hz ⟨g,0,none⟩ n cap xs (by rw[hsize];simpa using hxl) (hown.cells (g:=g) rfl) s (by omega) (by omega) (by rw[hby];exact growslice_fits (by omega) (by omega));rw[hr] at hq;injection hq with e1 e2
   exact .inr (by rw[e1];rfl)
theorem wpList_app_string {P:Program} (w:World){ops:Array Oper}{rest:List Oper}{o:Oper}{a:Act}{Q:Exit→Act→World→Prop} (hgd:o.guard=none) (sl x:Operand) (t u:TypeId)
  (ho:o.op=.call { callee:=.builtin .append,args:=#[sl,x],argTypes:=#[t,u] })
  (base:Nat) (e:TypeId) (ht:P.underlying t=some (.slice e)) (hu:P.underlying u=some .string) (hi:(P.info? e).map (fun i=>(i.zero,i.size,i.bytes))=some (some (.int .u8 0),1,1))
  (v:Value) (n:Nat) (xs:List Value) (hs:a.eval sl=v) (hown:w.ownsRow base e 1 v n xs) (s:ByteArray) (hx:a.eval x=.string s) (hb:n+s.size≤140737488355328) (hbase:base≤w.heap.size)
  (h:∀v' w',w'.ownsRow base e 1 v' (n+s.size) (xs++s.data.toList.map byteV)→w.grownBy w' v.ownBlock→Near w v v'→wpList P ops Q rest (a.put o.dst v') w'):wpList P ops Q (o::rest) a w:=by
 obtain⟨i,hi,h2,h3,h4⟩:=info_parts hi;refine wpList_plain hgd fun K hK=>?_
 obtain⟨v',w',hr,k2,k3,k4⟩:=own_app_string (P:=P) w base t u o.type e i ht hu hi h2 h3 h4 v n xs hown s (by unfold maxLen;omega) hb hbase;unfold Oper.wp execOp;simp only[ho,resolve,invoke,builtin,Sem.run_bind,Sem.run_pure,Result.andThen_ok,List.map_toArray,List.map_cons,List.map_nil,hs,hx,hr];exact hK _ _ (h v' w' k2 k3 k4)
theorem wpList_app_el {P:Program} (w:World){ops:Array Oper}{rest:List Oper}{o:Oper}{a:Act}{Q:Exit→Act→World→Prop} (hgd:o.guard=none) (s x:Operand) (t:TypeId)
  (ho:o.op=.call { callee:=.builtin .append,args:=#[s,x],argTypes:=#[t,t] })
  (base:Nat) (e:TypeId) (z:Value) (size bytes:Nat) (ht:P.underlying t=some (.slice e)) (hi:(P.info? e).map (fun i=>(i.zero,i.size,i.bytes))=some (some z,size,bytes)) (hz:z.cells.size=size) (hsz:0<size)
  (v:Value) (n:Nat) (xs:List Value) (hs:a.eval s=v) (hown:w.ownsRow base e size v n xs)
  (g c:Nat) (news:List Value) (hx:a.eval x=.slice (some ⟨g,0,none⟩) 1 c) (hl:news.length=size) (hc:Holds w g e news.toArray) (h1:∀u∈news,u.oneCell'=true)
  (hb:(n+1)*bytes≤140737488355328) (hb2:n+1≤140737488355328) (hbase:base≤w.heap.size)
  (h:∀v' w',w'.ownsRow base e size v' (n+1) (xs++news)→w.grownBy w' v.ownBlock→Near w v v'→wpList P ops Q rest (a.put o.dst v') w'):wpList P ops Q (o::rest) a w:=by
 obtain⟨i,hi,h2,h3,h4⟩:=info_parts hi;refine wpList_append_own_at w hgd s x t ho base e i z size bytes ht hi h2 h3 h4 hz hsz v n xs hs hown ⟨g,0,none⟩ 1 c news hx (by omega) (fun j u hj=>?_) h1 (by unfold maxLen;omega) hb hbase (fun v' w' k1 k2 _ k4=>h v' w' k1 k2 k4);rw[addr_add,hc.cell];simpa using hj
end Go.Bd
namespace Go.Proofs.YtkkebmciiiajeaaGreatDoor
open Go.RowKit Go.Bd
theorem u8_info:(Tryz.prog.info? 5).map (fun i=>(i.zero,i.size,i.bytes))=some (some (.int .u8 0),1,1):=by kernel_rfl
theorem span_info:(Tryz.prog.info? 138).map (fun i=>(i.zero,i.size,i.bytes))=some (some (.agg #[.int .u8 0,.string ⟨#[]⟩,.string ⟨#[]⟩,.string ⟨#[]⟩,.slice none 0 0]),5,80):=by kernel_rfl
theorem write_any (b off:Nat) (cs:Array Value) (t:TypeId) (tv:Value) (l:Bs) (s:ByteArray) (w:World) (B:Nat) (hh:Holds w b t cs) (hc:cs[off+1]? = some tv) (ht:TextRow w B tv l) (hb:tv.ownBlock≠some b) (hB:B≤w.heap.size) (hl:l.length≤10000000000) (hs:s.size≤10000000000) :
  Calls Tryz.prog 200 #[.pointer (some ⟨b,off,none⟩),.string s] w fun e w'=>e=.returned (.tuple #[])∧∃tv',Holds w' b t (cs.setIfInBounds (off+1) tv')∧TextRow w' B tv' (l++s.data.toList)∧Chg w w' (fun k=>k=b∨tv.ownBlock=some k)∧Near w tv tv':=by
 have hcell:=(hh.cell (off+1)).trans hc
 go_enter Tryz.func200,Tryz.ntmps200
 go_wp2_with (at_builtin;refine wpList_app_string _ rfl _ _ 107 9 rfl B 5 Tryz.underlying107 Tryz.underlying9 u8_info _ l.length (l.map byteV) rfl ht s rfl (by omega) hB ?_)
 intro v1 w1 ho1 hg1 hn1;have hch:=Chg.grown hg1;have hh1:=hch.holds (fun h=>hb h.symm) hh;have hc1:=(hh1.cell (off+1)).trans hc;have hf1:=hh1.free (off+1);obtain⟨A1,c1,rfl,hle⟩:=own_slice ho1;have HN:=Lib.hid hn1;clear hn1;go_wp2
 go_end0
 refine⟨rfl,_,hh1.set (off+1) _,?_,?_,HN.out⟩
 ·have hap:(Value.slice A1 (l.length+s.size) c1).ownBlock≠some b:=fun h=>by
   rcases HN.out with h1|h1
   ·exact hb (h1.symm.trans h)
   ·rw[h] at h1;injection h1 with h1
    have:=hh.lt
    omega
  have:=own_far ho1 (p:=⟨b,off+1,none⟩) hap (.slice A1 (l.length+s.size) c1)
  unfold TextRow;rw[List.length_append,←size_list,List.map_append];exact this
 ·exact (hch.mono (fun k _ h=>Or.inr h.symm)).trans ((Chg.set w1 ⟨b,off+1,none⟩ _).mono (fun k _ h=>Or.inl h)) (fun k _ h=>h)
theorem Chg.step {w W:World}{S:Nat→Prop}{g i:Nat}{u:Value} (h:Chg w W S) (hg:∀k,k<w.heap.size→k=g→S k):Chg w (W.setCell ⟨g,i,none⟩ u) S:=h.trans (Chg.set W ⟨g,i,none⟩ u) hg
theorem set_same {cs:Array Value}{i:Nat}{v:Value} (h:cs[i]? = some v):cs.setIfInBounds i v=cs:=by
 apply Array.ext_getElem?
 intro j;rw[Array.getElem?_setIfInBounds];split
 ·rename_i e;subst e;split
  ·exact h.symm
  ·rename_i h2;rw[Array.getElem?_eq_none (by omega)]
 ·rfl
theorem set_five (xs:List Value) (n:Nat) (hl:xs.length=n) (a b c d e z0 z1 z2 z3 z4:Value):((((((xs++[z0,z1,z2,z3,z4]).set n a).set (n+1) b).set (n+2) c).set (n+3) d).set (n+4) e)=xs++[a,b,c,d,e]:=by
 subst hl;simp[List.set_append]
theorem flushed_row {w W:World}{B:Nat}{F S:Nat→Prop}{sv':Value}{sp:List Sp}{tx:Bs}{kvs:List Value}{z0 z1 z2 z3 z4:Value} (hkl:kvs.length=sp.length) (hrl:(rowCells sp kvs).length=sp.length*5) (htx:tx≠[])
  (hkf:∀(j:Nat) x kv,sp[j]? = some x→kvs[j]? = some kv→Forest w F kv x.kids) (hch:Chg w W S) (hFS:∀k,F k→¬S k)
  (hO:W.ownsRow B tS 5 sv' (sp.length+1) ((((((rowCells sp kvs++[z0,z1,z2,z3,z4]).set (sp.length*5) (.int .u8 0)).set (sp.length*5+1) (.string ⟨tx.toArray⟩)).set (sp.length*5+2) (.string ⟨#[]⟩)).set (sp.length*5+3) (.string ⟨#[]⟩)).set (sp.length*5+4) (.slice none 0 0))) :
  SpanRow W B tS F sv' (Rw.mk sp tx).flush.sp:=by
 rw[set_five _ _ hrl] at hO;have e:(Rw.mk sp tx).flush.sp=sp++[txt tx]:=by simp[Rw.flush,htx]
 rw[e];refine⟨kvs++[.slice none 0 0],by simp[hkl],?_,fun j x kv hx hkv=>?_⟩
 ·rw[rowCells_snoc _ _ hkl,List.length_append];exact hO
 ·by_cases hj:j<sp.length
  ·rw[List.getElem?_append_left hj] at hx;rw[List.getElem?_append_left (by omega)] at hkv;exact (hkf j x kv hx hkv).chg hch (fun _ h=>h) hFS
  ·have hj2:j=sp.length:=by have:=(List.getElem?_eq_some_iff.1 hx).1;simp at this;omega
   subst hj2;rw[List.getElem?_append_right (Nat.le_refl _),Nat.sub_self] at hx;rw[List.getElem?_append_right (by omega),hkl,Nat.sub_self] at hkv;cases hx;cases hkv
   exact Forest.nil W F
theorem text_nil {w W:World}{B g n c:Nat}{l:Bs}{cur:Array Value} (h:TextRow w B (.slice (some ⟨g,0,none⟩) n c) l) (hw:Holds w g tB cur) (hW:Holds W g tB cur):TextRow W B (.slice (some ⟨g,0,none⟩) 0 c) []:=by
 rcases h.2 with ⟨hv,_⟩|⟨g',cap',cur',hv,hb,hh,_,hm,hs,_⟩
 ·cases hv
 ·injection hv with h1 h2 h3
  injection h1 with h1
  injection h1 with h1
  subst h1;subst h3;unfold Holds at hw;rw[hh] at hw;injection hw with hw
  injection hw with hw
  subst hw;exact⟨rfl,.inr ⟨g,c,cur',rfl,hb,hW,Nat.zero_le _,hm,hs,by simp⟩⟩
def Flushed (w:World) (B:Nat) (F:Nat→Prop) (b off:Nat) (cs:Array Value) (t:TypeId) (sv tv:Value) (r:Rw) (w':World):Prop :=
 ∃sv' tv',Holds w' b t ((cs.setIfInBounds off sv').setIfInBounds (off+1) tv')∧SpanRow w' B tS F sv' r.flush.sp∧TextRow w' B tv' []∧Chg w w' (fun k=>k=b∨sv.ownBlock=some k∨tv.ownBlock=some k)∧(∀k,sv'.ownBlock=some k→sv.ownBlock=some k∨w.heap.size≤k)∧(∀k,tv'.ownBlock=some k→tv.ownBlock=some k)
theorem flush_any (b off:Nat) (cs:Array Value) (t:TypeId) (sv tv:Value) (r:Rw) (w:World) (B:Nat) (F:Nat→Prop) (hh:Holds w b t cs) (hc0:cs[off]? = some sv) (hc:cs[off+1]? = some tv) (hsp:SpanRow w B tS F sv r.sp) (ht:TextRow w B tv r.tx)
  (hbs:sv.ownBlock≠some b) (hb:tv.ownBlock≠some b) (hF:∀k,F k→k<w.heap.size∧k≠b∧sv.ownBlock≠some k∧tv.ownBlock≠some k) (hB:B≤w.heap.size) (hl:r.sp.length≤10000000000) (hs:r.tx.length≤10000000000) :
  Calls Tryz.prog 167 #[.pointer (some ⟨b,off,none⟩)] w fun e w'=>e=.returned (.tuple #[])∧Flushed w B F b off cs t sv tv r w':=by
 have hcell0:=(hh.cell off).trans hc0;have hcell:=(hh.cell (off+1)).trans hc;obtain⟨A,c,rfl,hle⟩:=own_slice ht
 go_enter Tryz.func167,Tryz.ntmps167
 by_cases hn:r.tx.length=0
 ·rw[hn] at hcell;go_wp2
  go_end0
  have htx:r.tx=[]:=List.eq_nil_of_length_eq_zero hn;have hfl:r.flush.sp=r.sp:=by unfold Rw.flush;rw[if_pos htx]
  rw[hn] at hc ht hb;refine⟨rfl,sv,.slice A 0 c,?_,?_,?_,Chg.refl _ _,fun k h=>.inl h,fun k h=>by rw[hn];exact h⟩
  ·have e1:cs.setIfInBounds off sv=cs:=set_same hc0;rw[e1];have e2:cs.setIfInBounds (off+1) (.slice A 0 c)=cs:=set_same hc;rw[e2];exact hh
  ·rw[hfl];exact hsp
  ·rw[htx] at ht;exact ht
 ·have hn1:decide (0<r.tx.length)=true:=by simp;omega
  obtain⟨As,cs',rfl,hcs'⟩:=hsp.form;obtain⟨kvs,hkl,hso,hkf⟩:=hsp;obtain⟨g,cap,hv,_,hglt,_⟩:=own_some ht (by omega);injection hv with e1 e2 e3
  subst e1;subst e3;obtain⟨cur,hgh⟩:∃cur,Holds w g tB cur:=by
   rcases ht.2 with ⟨hv,_⟩|⟨g',cap',cur,hv,_,hh,_⟩
   ·cases hv
   ·injection hv with h1
    injection h1 with h1
    injection h1 with h1
    subst h1;exact⟨cur,hh⟩
  have hcur:∀(j:Nat) u,(r.tx.map byteV)[j]? = some u→cur[j]? = some u:=fun j u hj=>by
   have:=own_cell ht hj
   rwa [hgh.cell] at this
  have hcv:∀W,Holds W g tB cur→(convert 107 9 (.slice (some ⟨g,0,none⟩) r.tx.length c)).run Tryz.prog W=.ok (.string ⟨r.tx.toArray⟩) W:=fun W hW=>by
   refine run_convert_bytes_back W 107 9 5 ⟨g,0,none⟩ c r.tx Tryz.underlying107 Tryz.underlying5 Tryz.underlying9 fun j hj=>?_
   rw[addr_add,hW.cell];exact hcur j _ (by rw[List.getElem?_map,List.getElem?_eq_getElem hj];rfl)
  obtain⟨i0,hi0,hz0,hz1,hz2⟩:=info_parts span_info;have hgb:g≠b:=fun e=>hb (by rw[e];rfl)
  have hgs:(Value.slice As r.sp.length cs').ownBlock≠some g:=fun e=>by
   have hq:w.ownsRow B tB 1 (.slice (some ⟨g,0,none⟩) r.tx.length c) r.tx.length (r.tx.map byteV):=ht;exact own_apart hso hq (by decide) e rfl
  have hbw:=hh.lt;have hrl:=rowCells_length hkl;have hrc:∀i,i<5→(rowCells r.sp kvs++[.int .u8 0,.string ⟨#[]⟩,.string ⟨#[]⟩,.string ⟨#[]⟩,.slice none 0 0])[r.sp.length*5+i]? = ([.int .u8 0,.string ⟨#[]⟩,.string ⟨#[]⟩,.string ⟨#[]⟩,.slice none 0 0]:List Value)[i]?:=fun i _=>by
   rw[List.getElem?_append_right (by omega)]
   congr 1;omega
  have hrc0:Hid ((rowCells r.sp kvs++[.int .u8 0,.string ⟨#[]⟩,.string ⟨#[]⟩,.string ⟨#[]⟩,.slice none 0 0])[r.sp.length*5]? = some (.int .u8 0)):=hrc 0 (by omega);have hrc1:Hid ((rowCells r.sp kvs++[.int .u8 0,.string ⟨#[]⟩,.string ⟨#[]⟩,.string ⟨#[]⟩,.slice none 0 0])[r.sp.length*5+1]? = some (.string ⟨#[]⟩)):=hrc 1 (by omega);have hrc2:Hid ((rowCells r.sp kvs++[.int .u8 0,.string ⟨#[]⟩,.string ⟨#[]⟩,.string ⟨#[]⟩,.slice none 0 0])[r.sp.length*5+2]? = some (.string ⟨#[]⟩)):=hrc 2 (by omega);have hrc3:Hid ((rowCells r.sp kvs++[.int .u8 0,.string ⟨#[]⟩,.string ⟨#[]⟩,.string ⟨#[]⟩,.slice none 0 0])[r.sp.length*5+3]? = some (.string ⟨#[]⟩)):=hrc 3 (by omega);have hrc4:Hid ((rowCells r.sp kvs++[.int .u8 0,.string ⟨#[]⟩,.string ⟨#[]⟩,.string ⟨#[]⟩,.slice none 0 0])[r.sp.length*5+4]? = some (.slice none 0 0)):=hrc 4 (by omega);have HCV:=Lib.hid hcv;have HKF:=Lib.hid hkf;have HFF:=Lib.hid hF;have HRL:=Lib.hid hrl;have HKL:=Lib.hid hkl;clear hrc hcv hkf hF hcur hrl hkl;have hi0':(0:Int)≤(r.sp.length:Int):=by omega
  have hi1':(r.sp.length:Int)<(r.sp.length:Int)+1:=by omega
  go_wp2;refine wp_region_held_drew (S:=(fun w'=>w'.cell? ⟨b,off+1,none⟩=some (.slice (some ⟨g,0,none⟩) r.tx.length c)∧(convert 107 9 (.slice (some ⟨g,0,none⟩) r.tx.length c)).run Tryz.prog w'=.ok (.string ⟨r.tx.toArray⟩) w')) (by kernel_rfl) ?_ (fun hHeld0=>?_)
  ·(try dsimp only)
   (repeat' apply And.intro)<;>first
    | with_reducible exact HCV.out _ hgh
    | with_reducible exact HCV.out _ (hgh.alloc _)
    | with_reducible exact HCV.out _ hgh.drew
    | with_reducible exact HCV.out _ (hgh.alloc _).drew
    | with_reducible exact HCV.out _ hg1
    | (with_reducible refine HCV.out _ ?_
       repeat (first|with_reducible exact hg1|with_reducible refine Holds.far ?_ hggg _|with_reducible refine Holds.far ?_ hgb _)
       done)
    | (repeat (first|with_reducible exact k1|with_reducible refine cell_off (by omega) _ ?_|with_reducible refine cell_far hggb _ ?_)
       done)
    | go_keep
  refine tkHo 0 ?_;refine tkHo 1 ?_;refine tkHo 2 ?_;refine tkHo 4 ?_;refine tkHo 5 ?_;refine tkHo 6 ?_;refine tkHo 7 ?_;refine tkHo 8 ?_;refine tkHo 9 ?_;refine rdyH [3,11] ?_;refine AllReadyH.cons rfl (fun K hK=>?_) ?_
  ·skip
   go_simp;refine hK.out _ _ ?_ (fun hHeld1=>?_)
   ·(try dsimp only)
    (repeat' apply And.intro)<;>first
     | with_reducible exact HCV.out _ hgh
     | with_reducible exact HCV.out _ (hgh.alloc _)
     | with_reducible exact HCV.out _ hgh.drew
     | with_reducible exact HCV.out _ (hgh.alloc _).drew
     | with_reducible exact HCV.out _ hg1
     | (with_reducible refine HCV.out _ ?_
        repeat (first|with_reducible exact hg1|with_reducible refine Holds.far ?_ hggg _|with_reducible refine Holds.far ?_ hgb _)
        done)
     | (repeat (first|with_reducible exact k1|with_reducible refine cell_off (by omega) _ ?_|with_reducible refine cell_far hggb _ ?_)
        done)
     | go_keep
   clear hK K hHeld0
   (try go_frame)
   refine tkHo 10 ?_;refine rdyH [11] ?_;refine AllReadyH.cons rfl (fun K hK=>?_) AllReadyH.nil;go_simp;refine hK.out _ _ ?_ (fun hHeld2=>?_)
   ·(try dsimp only)
    (repeat' apply And.intro)<;>first
     | with_reducible exact HCV.out _ hgh
     | with_reducible exact HCV.out _ (hgh.alloc _)
     | with_reducible exact HCV.out _ hgh.drew
     | with_reducible exact HCV.out _ (hgh.alloc _).drew
     | with_reducible exact HCV.out _ hg1
     | (with_reducible refine HCV.out _ ?_
        repeat (first|with_reducible exact hg1|with_reducible refine Holds.far ?_ hggg _|with_reducible refine Holds.far ?_ hgb _)
        done)
     | (repeat (first|with_reducible exact k1|with_reducible refine cell_off (by omega) _ ?_|with_reducible refine cell_far hggb _ ?_)
        done)
     | go_keep
   clear hK K hHeld1
   (try go_frame)
   refine rdyH [12] ?_;refine AllReadyH.cons rfl (fun K hK=>?_) AllReadyH.nil;refine step_append_lies _ (by rfl) _ _ _ (by rfl) B 138 i0 _ 5 80 Tryz.underlying59 hi0 hz0 hz1 hz2 rfl (by omega) (.slice As r.sp.length cs') r.sp.length (rowCells r.sp kvs) (by rfl) ((hso.alloc _).drew)
    ⟨w.heap.size,0,none⟩ 1 1 [.int .u8 0,.string ⟨#[]⟩,.string ⟨#[]⟩,.string ⟨#[]⟩,.slice none 0 0] (by rfl) (by rfl) (World.news_of_block (cs:=#[.int .u8 0,.string ⟨#[]⟩,.string ⟨#[]⟩,.string ⟨#[]⟩,.slice none 0 0]) (t:=138) (fr:=(0,0)) (heap_alloc_new w _)) (by simp[Value.oneCell'])
    (by omega) (by unfold maxLen;omega) (by omega) (by simp;omega) (w.heap.size+1) (by simp) ?_
   intro gg cap1 w1 hown1 hgrow hat hlt;have hggb:gg≠b:=fun e=>by
    rcases hat with h|h
    ·exact hbs (h.trans (by rw[e]))
    ·omega
   have hggg:g≠gg:=fun e=>by
    rcases hat with h|h
    ·exact hgs (h.trans (by rw[e]))
    ·omega
   have hbgg:b≠gg:=fun e=>hggb e.symm
   have hch1:=Chg.grown hgrow;have hh1:Holds w1 b t cs:=hch1.holds (fun h=>hbs h.symm) ((hh.alloc _).drew);have hg1:Holds w1 g tB cur:=hch1.holds (fun h=>hgs h.symm) ((hgh.alloc _).drew);have k0:=(hh1.cell off).trans hc0;have k1:=(hh1.cell (off+1)).trans hc;have k2:=hh1.free off;have k3:=hh1.free (off+1);have z0:=hown1.cellAt (r.sp.length*5) (by omega);have z1:=hown1.cellAt (r.sp.length*5+1) (by omega);have z2:=hown1.cellAt (r.sp.length*5+2) (by omega);have z3:=hown1.cellAt (r.sp.length*5+3) (by omega);have z4:=hown1.cellAt (r.sp.length*5+4) (by omega);have y0:=hown1.frozenAt (r.sp.length*5);have y1:=hown1.frozenAt (r.sp.length*5+1);have y2:=hown1.frozenAt (r.sp.length*5+2);have y3:=hown1.frozenAt (r.sp.length*5+3);have y4:=hown1.frozenAt (r.sp.length*5+4);rw[hrc0.out] at z0;rw[hrc1.out] at z1;rw[hrc2.out] at z2;rw[hrc3.out] at z3;rw[hrc4.out] at z4;have HOWN:=Lib.hid hown1;have HAT:=Lib.hid hat;have HCH:=Lib.hid hch1;have hggo:(Value.slice (some ⟨gg,0,none⟩) (r.sp.length+1) cap1).ownBlock≠some b:=fun e=>hggb (by simpa [Value.ownBlock] using e)
   have HC0:Hid (Chg w w1 (fun k=>k=b∨(Value.slice As r.sp.length cs').ownBlock=some k)):=(((Chg.refl w _).alloc _).drew).trans hch1 (fun k _ h=>Or.inr h.symm);have HTG:Hid (∀k,k<w.heap.size→k=gg→(k=b∨(Value.slice As r.sp.length cs').ownBlock=some k)):=fun k hk e=>by
    subst e
    rcases hat with h|h
    ·exact Or.inr h
    ·omega
   have HTB:Hid (∀k,k<w.heap.size→k=b→(k=b∨(Value.slice As r.sp.length cs').ownBlock=some k)):=fun k _ e=>Or.inl e
   clear hown1 hat hch1 hgrow;refine hK.out _ _ ?_ (fun hHeld3=>?_)
   ·(try dsimp only)
    (repeat' apply And.intro)<;>first
     | with_reducible exact HCV.out _ hgh
     | with_reducible exact HCV.out _ (hgh.alloc _)
     | with_reducible exact HCV.out _ hgh.drew
     | with_reducible exact HCV.out _ (hgh.alloc _).drew
     | with_reducible exact HCV.out _ hg1
     | (with_reducible refine HCV.out _ ?_
        repeat (first|with_reducible exact hg1|with_reducible refine Holds.far ?_ hggg _|with_reducible refine Holds.far ?_ hgb _)
        done)
     | (repeat (first|with_reducible exact k1|with_reducible refine cell_off (by omega) _ ?_|with_reducible refine cell_far hggb _ ?_)
        done)
     | go_keep
   clear hK K hHeld2
   (try go_frame)
   refine tkHo 13 ?_;refine tkHo 15 ?_;refine tkHo 16 ?_;refine rdyH [14,17] ?_;refine AllReadyH.cons rfl (fun K hK=>?_) ?_
   ·skip
    go_simp;refine hK.out _ _ ?_ (fun hHeld4=>?_)
    ·(try dsimp only)
     (repeat' apply And.intro)<;>first
      | with_reducible exact HCV.out _ hgh
      | with_reducible exact HCV.out _ (hgh.alloc _)
      | with_reducible exact HCV.out _ hgh.drew
      | with_reducible exact HCV.out _ (hgh.alloc _).drew
      | with_reducible exact HCV.out _ hg1
      | (with_reducible refine HCV.out _ ?_
         repeat (first|with_reducible exact hg1|with_reducible refine Holds.far ?_ hggg _|with_reducible refine Holds.far ?_ hgb _)
         done)
      | (repeat (first|with_reducible exact k1|with_reducible refine cell_off (by omega) _ ?_|with_reducible refine cell_far hggb _ ?_)
         done)
      | go_keep
    clear hK K hHeld3
    (try go_frame)
    refine rdyH [17] ?_;refine AllReadyH.cons rfl (fun K hK=>?_) AllReadyH.nil;go_simp;refine hK.out _ _ ?_ (fun hHeld5=>?_)
    ·(try dsimp only)
     (repeat' apply And.intro)<;>first
      | with_reducible exact HCV.out _ hgh
      | with_reducible exact HCV.out _ (hgh.alloc _)
      | with_reducible exact HCV.out _ hgh.drew
      | with_reducible exact HCV.out _ (hgh.alloc _).drew
      | with_reducible exact HCV.out _ hg1
      | (with_reducible refine HCV.out _ ?_
         repeat (first|with_reducible exact hg1|with_reducible refine Holds.far ?_ hggg _|with_reducible refine Holds.far ?_ hgb _)
         done)
      | (repeat (first|with_reducible exact k1|with_reducible refine cell_off (by omega) _ ?_|with_reducible refine cell_far hggb _ ?_)
         done)
      | go_keep
    clear hK K hHeld4
    (try go_frame)
    refine wpAnyH_done (by kernel_rfl) ?_ _;clear hHeld5;go_wp2
    go_end0
    refine⟨rfl,.slice (some ⟨gg,0,none⟩) (r.sp.length+1) cap1,.slice (some ⟨g,0,none⟩) 0 c,?_,?_,?_,?_,?_,?_⟩
    ·repeat (first|with_reducible exact hh1|with_reducible refine Holds.set ?_ _ _|with_reducible refine Holds.far ?_ hbgg _)
    ·refine flushed_row (z0:=.int .u8 0) (z1:=.string ⟨#[]⟩) (z2:=.string ⟨#[]⟩) (z3:=.string ⟨#[]⟩) (z4:=.slice none 0 0) (S:=fun k=>k=b∨(Value.slice As r.sp.length cs').ownBlock=some k) HKL.out HRL.out (fun e=>hn (by rw[e];rfl)) HKF.out ?_ (fun k hk h=>by have:=HFF.out k hk;rcases h with h|h;exact this.2.1 h;exact this.2.2.1 h) ?_
     ·repeat (first|with_reducible exact HC0.out|with_reducible refine Chg.step ?_ HTG.out|with_reducible refine Chg.step ?_ HTB.out)
     ·repeat (first|with_reducible refine (World.ownsRow.stored ?_ _ _).1|with_reducible refine ownsRow_setCell_other ?_ hggo _)
      exact HOWN.out
    ·refine text_nil (g:=g) (cur:=cur) ht hgh ?_
     repeat (first|with_reducible exact hg1|with_reducible refine Holds.far ?_ hggg _|with_reducible refine Holds.far ?_ hgb _)
    ·refine Chg.mono (S:=fun k=>k=b∨(Value.slice As r.sp.length cs').ownBlock=some k) ?_ (fun k _ h=>by rcases h with h|h;exact .inl h;exact .inr (.inl h))
     repeat (first|with_reducible exact HC0.out|with_reducible refine Chg.step ?_ HTG.out|with_reducible refine Chg.step ?_ HTB.out)
    ·intro k hk;simp only[Value.ownBlock,Option.some.injEq] at hk;subst hk
     rcases HAT.out with h|h
     ·exact .inl h
     ·exact .inr (by omega)
    ·intro k hk;exact hk
   refine AllReadyH.cons rfl (fun K hK=>?_) AllReadyH.nil;go_simp;refine hK.out _ _ ?_ (fun hHeld4=>?_)
   ·(try dsimp only)
    (repeat' apply And.intro)<;>first
     | with_reducible exact HCV.out _ hgh
     | with_reducible exact HCV.out _ (hgh.alloc _)
     | with_reducible exact HCV.out _ hgh.drew
     | with_reducible exact HCV.out _ (hgh.alloc _).drew
     | with_reducible exact HCV.out _ hg1
     | (with_reducible refine HCV.out _ ?_
        repeat (first|with_reducible exact hg1|with_reducible refine Holds.far ?_ hggg _|with_reducible refine Holds.far ?_ hgb _)
        done)
     | (repeat (first|with_reducible exact k1|with_reducible refine cell_off (by omega) _ ?_|with_reducible refine cell_far hggb _ ?_)
        done)
     | go_keep
   clear hK K hHeld3
   (try go_frame)
   refine rdyH [14] ?_;refine AllReadyH.cons rfl (fun K hK=>?_) AllReadyH.nil;go_simp;refine hK.out _ _ ?_ (fun hHeld5=>?_)
   ·(try dsimp only)
    (repeat' apply And.intro)<;>first
     | with_reducible exact HCV.out _ hgh
     | with_reducible exact HCV.out _ (hgh.alloc _)
     | with_reducible exact HCV.out _ hgh.drew
     | with_reducible exact HCV.out _ (hgh.alloc _).drew
     | with_reducible exact HCV.out _ hg1
     | (with_reducible refine HCV.out _ ?_
        repeat (first|with_reducible exact hg1|with_reducible refine Holds.far ?_ hggg _|with_reducible refine Holds.far ?_ hgb _)
        done)
     | (repeat (first|with_reducible exact k1|with_reducible refine cell_off (by omega) _ ?_|with_reducible refine cell_far hggb _ ?_)
        done)
     | go_keep
   clear hK K hHeld4
   (try go_frame)
   refine wpAnyH_done (by kernel_rfl) ?_ _;clear hHeld5;go_wp2
   go_end0
   refine⟨rfl,.slice (some ⟨gg,0,none⟩) (r.sp.length+1) cap1,.slice (some ⟨g,0,none⟩) 0 c,?_,?_,?_,?_,?_,?_⟩
   ·repeat (first|with_reducible exact hh1|with_reducible refine Holds.set ?_ _ _|with_reducible refine Holds.far ?_ hbgg _)
   ·refine flushed_row (z0:=.int .u8 0) (z1:=.string ⟨#[]⟩) (z2:=.string ⟨#[]⟩) (z3:=.string ⟨#[]⟩) (z4:=.slice none 0 0) (S:=fun k=>k=b∨(Value.slice As r.sp.length cs').ownBlock=some k) HKL.out HRL.out (fun e=>hn (by rw[e];rfl)) HKF.out ?_ (fun k hk h=>by have:=HFF.out k hk;rcases h with h|h;exact this.2.1 h;exact this.2.2.1 h) ?_
    ·repeat (first|with_reducible exact HC0.out|with_reducible refine Chg.step ?_ HTG.out|with_reducible refine Chg.step ?_ HTB.out)
    ·repeat (first|with_reducible refine (World.ownsRow.stored ?_ _ _).1|with_reducible refine ownsRow_setCell_other ?_ hggo _)
     exact HOWN.out
   ·refine text_nil (g:=g) (cur:=cur) ht hgh ?_
    repeat (first|with_reducible exact hg1|with_reducible refine Holds.far ?_ hggg _|with_reducible refine Holds.far ?_ hgb _)
   ·refine Chg.mono (S:=fun k=>k=b∨(Value.slice As r.sp.length cs').ownBlock=some k) ?_ (fun k _ h=>by rcases h with h|h;exact .inl h;exact .inr (.inl h))
    repeat (first|with_reducible exact HC0.out|with_reducible refine Chg.step ?_ HTG.out|with_reducible refine Chg.step ?_ HTB.out)
   ·intro k hk;simp only[Value.ownBlock,Option.some.injEq] at hk;subst hk
    rcases HAT.out with h|h
    ·exact .inl h
    ·exact .inr (by omega)
   ·intro k hk;exact hk
  refine AllReadyH.cons rfl (fun K hK=>?_) AllReadyH.nil;go_simp;refine hK.out _ _ ?_ (fun hHeld1=>?_)
  ·(try dsimp only)
   (repeat' apply And.intro)<;>first
    | with_reducible exact HCV.out _ hgh
    | with_reducible exact HCV.out _ (hgh.alloc _)
    | with_reducible exact HCV.out _ hgh.drew
    | with_reducible exact HCV.out _ (hgh.alloc _).drew
    | with_reducible exact HCV.out _ hg1
    | (with_reducible refine HCV.out _ ?_
       repeat (first|with_reducible exact hg1|with_reducible refine Holds.far ?_ hggg _|with_reducible refine Holds.far ?_ hgb _)
       done)
    | (repeat (first|with_reducible exact k1|with_reducible refine cell_off (by omega) _ ?_|with_reducible refine cell_far hggb _ ?_)
       done)
    | go_keep
  clear hK K hHeld0
  (try go_frame)
  refine rdyH [3] ?_;refine AllReadyH.cons rfl (fun K hK=>?_) AllReadyH.nil;go_simp;refine hK.out _ _ ?_ (fun hHeld2=>?_)
  ·(try dsimp only)
   (repeat' apply And.intro)<;>first
    | with_reducible exact HCV.out _ hgh
    | with_reducible exact HCV.out _ (hgh.alloc _)
    | with_reducible exact HCV.out _ hgh.drew
    | with_reducible exact HCV.out _ (hgh.alloc _).drew
    | with_reducible exact HCV.out _ hg1
    | (with_reducible refine HCV.out _ ?_
       repeat (first|with_reducible exact hg1|with_reducible refine Holds.far ?_ hggg _|with_reducible refine Holds.far ?_ hgb _)
       done)
    | (repeat (first|with_reducible exact k1|with_reducible refine cell_off (by omega) _ ?_|with_reducible refine cell_far hggb _ ?_)
       done)
    | go_keep
  clear hK K hHeld1
  (try go_frame)
  refine tkHo 10 ?_;refine rdyH [12] ?_;refine AllReadyH.cons rfl (fun K hK=>?_) AllReadyH.nil;refine step_append_lies _ (by rfl) _ _ _ (by rfl) B 138 i0 _ 5 80 Tryz.underlying59 hi0 hz0 hz1 hz2 rfl (by omega) (.slice As r.sp.length cs') r.sp.length (rowCells r.sp kvs) (by rfl) ((hso.alloc _).drew)
   ⟨w.heap.size,0,none⟩ 1 1 [.int .u8 0,.string ⟨#[]⟩,.string ⟨#[]⟩,.string ⟨#[]⟩,.slice none 0 0] (by rfl) (by rfl) (World.news_of_block (cs:=#[.int .u8 0,.string ⟨#[]⟩,.string ⟨#[]⟩,.string ⟨#[]⟩,.slice none 0 0]) (t:=138) (fr:=(0,0)) (heap_alloc_new w _)) (by simp[Value.oneCell'])
   (by omega) (by unfold maxLen;omega) (by omega) (by simp;omega) (w.heap.size+1) (by simp) ?_
  intro gg cap1 w1 hown1 hgrow hat hlt;have hggb:gg≠b:=fun e=>by
   rcases hat with h|h
   ·exact hbs (h.trans (by rw[e]))
   ·omega
  have hggg:g≠gg:=fun e=>by
   rcases hat with h|h
   ·exact hgs (h.trans (by rw[e]))
   ·omega
  have hbgg:b≠gg:=fun e=>hggb e.symm
  have hch1:=Chg.grown hgrow;have hh1:Holds w1 b t cs:=hch1.holds (fun h=>hbs h.symm) ((hh.alloc _).drew);have hg1:Holds w1 g tB cur:=hch1.holds (fun h=>hgs h.symm) ((hgh.alloc _).drew);have k0:=(hh1.cell off).trans hc0;have k1:=(hh1.cell (off+1)).trans hc;have k2:=hh1.free off;have k3:=hh1.free (off+1);have z0:=hown1.cellAt (r.sp.length*5) (by omega);have z1:=hown1.cellAt (r.sp.length*5+1) (by omega);have z2:=hown1.cellAt (r.sp.length*5+2) (by omega);have z3:=hown1.cellAt (r.sp.length*5+3) (by omega);have z4:=hown1.cellAt (r.sp.length*5+4) (by omega);have y0:=hown1.frozenAt (r.sp.length*5);have y1:=hown1.frozenAt (r.sp.length*5+1);have y2:=hown1.frozenAt (r.sp.length*5+2);have y3:=hown1.frozenAt (r.sp.length*5+3);have y4:=hown1.frozenAt (r.sp.length*5+4);rw[hrc0.out] at z0;rw[hrc1.out] at z1;rw[hrc2.out] at z2;rw[hrc3.out] at z3;rw[hrc4.out] at z4;have HOWN:=Lib.hid hown1;have HAT:=Lib.hid hat;have HCH:=Lib.hid hch1;have hggo:(Value.slice (some ⟨gg,0,none⟩) (r.sp.length+1) cap1).ownBlock≠some b:=fun e=>hggb (by simpa [Value.ownBlock] using e)
  have HC0:Hid (Chg w w1 (fun k=>k=b∨(Value.slice As r.sp.length cs').ownBlock=some k)):=(((Chg.refl w _).alloc _).drew).trans hch1 (fun k _ h=>Or.inr h.symm);have HTG:Hid (∀k,k<w.heap.size→k=gg→(k=b∨(Value.slice As r.sp.length cs').ownBlock=some k)):=fun k hk e=>by
   subst e
   rcases hat with h|h
   ·exact Or.inr h
   ·omega
  have HTB:Hid (∀k,k<w.heap.size→k=b→(k=b∨(Value.slice As r.sp.length cs').ownBlock=some k)):=fun k _ e=>Or.inl e
  clear hown1 hat hch1 hgrow;refine hK.out _ _ ?_ (fun hHeld3=>?_)
  ·(try dsimp only)
   (repeat' apply And.intro)<;>first
    | with_reducible exact HCV.out _ hgh
    | with_reducible exact HCV.out _ (hgh.alloc _)
    | with_reducible exact HCV.out _ hgh.drew
    | with_reducible exact HCV.out _ (hgh.alloc _).drew
    | with_reducible exact HCV.out _ hg1
    | (with_reducible refine HCV.out _ ?_
       repeat (first|with_reducible exact hg1|with_reducible refine Holds.far ?_ hggg _|with_reducible refine Holds.far ?_ hgb _)
       done)
    | (repeat (first|with_reducible exact k1|with_reducible refine cell_off (by omega) _ ?_|with_reducible refine cell_far hggb _ ?_)
       done)
    | go_keep
  clear hK K hHeld2
  (try go_frame)
  refine tkHo 13 ?_;refine tkHo 15 ?_;refine tkHo 16 ?_;refine rdyH [14,17] ?_;refine AllReadyH.cons rfl (fun K hK=>?_) ?_
  ·skip
   go_simp;refine hK.out _ _ ?_ (fun hHeld4=>?_)
   ·(try dsimp only)
    (repeat' apply And.intro)<;>first
     | with_reducible exact HCV.out _ hgh
     | with_reducible exact HCV.out _ (hgh.alloc _)
     | with_reducible exact HCV.out _ hgh.drew
     | with_reducible exact HCV.out _ (hgh.alloc _).drew
     | with_reducible exact HCV.out _ hg1
     | (with_reducible refine HCV.out _ ?_
        repeat (first|with_reducible exact hg1|with_reducible refine Holds.far ?_ hggg _|with_reducible refine Holds.far ?_ hgb _)
        done)
     | (repeat (first|with_reducible exact k1|with_reducible refine cell_off (by omega) _ ?_|with_reducible refine cell_far hggb _ ?_)
        done)
     | go_keep
   clear hK K hHeld3
   (try go_frame)
   refine rdyH [17] ?_;refine AllReadyH.cons rfl (fun K hK=>?_) AllReadyH.nil;go_simp;refine hK.out _ _ ?_ (fun hHeld5=>?_)
   ·(try dsimp only)
    (repeat' apply And.intro)<;>first
     | with_reducible exact HCV.out _ hgh
     | with_reducible exact HCV.out _ (hgh.alloc _)
     | with_reducible exact HCV.out _ hgh.drew
     | with_reducible exact HCV.out _ (hgh.alloc _).drew
     | with_reducible exact HCV.out _ hg1
     | (with_reducible refine HCV.out _ ?_
        repeat (first|with_reducible exact hg1|with_reducible refine Holds.far ?_ hggg _|with_reducible refine Holds.far ?_ hgb _)
        done)
     | (repeat (first|with_reducible exact k1|with_reducible refine cell_off (by omega) _ ?_|with_reducible refine cell_far hggb _ ?_)
        done)
     | go_keep
   clear hK K hHeld4
   (try go_frame)
   refine wpAnyH_done (by kernel_rfl) ?_ _;clear hHeld5;go_wp2
   go_end0
   refine⟨rfl,.slice (some ⟨gg,0,none⟩) (r.sp.length+1) cap1,.slice (some ⟨g,0,none⟩) 0 c,?_,?_,?_,?_,?_,?_⟩
   ·repeat (first|with_reducible exact hh1|with_reducible refine Holds.set ?_ _ _|with_reducible refine Holds.far ?_ hbgg _)
   ·refine flushed_row (z0:=.int .u8 0) (z1:=.string ⟨#[]⟩) (z2:=.string ⟨#[]⟩) (z3:=.string ⟨#[]⟩) (z4:=.slice none 0 0) (S:=fun k=>k=b∨(Value.slice As r.sp.length cs').ownBlock=some k) HKL.out HRL.out (fun e=>hn (by rw[e];rfl)) HKF.out ?_ (fun k hk h=>by have:=HFF.out k hk;rcases h with h|h;exact this.2.1 h;exact this.2.2.1 h) ?_
    ·repeat (first|with_reducible exact HC0.out|with_reducible refine Chg.step ?_ HTG.out|with_reducible refine Chg.step ?_ HTB.out)
    ·repeat (first|with_reducible refine (World.ownsRow.stored ?_ _ _).1|with_reducible refine ownsRow_setCell_other ?_ hggo _)
     exact HOWN.out
   ·refine text_nil (g:=g) (cur:=cur) ht hgh ?_
    repeat (first|with_reducible exact hg1|with_reducible refine Holds.far ?_ hggg _|with_reducible refine Holds.far ?_ hgb _)
   ·refine Chg.mono (S:=fun k=>k=b∨(Value.slice As r.sp.length cs').ownBlock=some k) ?_ (fun k _ h=>by rcases h with h|h;exact .inl h;exact .inr (.inl h))
    repeat (first|with_reducible exact HC0.out|with_reducible refine Chg.step ?_ HTG.out|with_reducible refine Chg.step ?_ HTB.out)
   ·intro k hk;simp only[Value.ownBlock,Option.some.injEq] at hk;subst hk
    rcases HAT.out with h|h
    ·exact .inl h
    ·exact .inr (by omega)
   ·intro k hk;exact hk
  refine AllReadyH.cons rfl (fun K hK=>?_) AllReadyH.nil;go_simp;refine hK.out _ _ ?_ (fun hHeld4=>?_)
  ·(try dsimp only)
   (repeat' apply And.intro)<;>first
    | with_reducible exact HCV.out _ hgh
    | with_reducible exact HCV.out _ (hgh.alloc _)
    | with_reducible exact HCV.out _ hgh.drew
    | with_reducible exact HCV.out _ (hgh.alloc _).drew
    | with_reducible exact HCV.out _ hg1
    | (with_reducible refine HCV.out _ ?_
       repeat (first|with_reducible exact hg1|with_reducible refine Holds.far ?_ hggg _|with_reducible refine Holds.far ?_ hgb _)
       done)
    | (repeat (first|with_reducible exact k1|with_reducible refine cell_off (by omega) _ ?_|with_reducible refine cell_far hggb _ ?_)
       done)
    | go_keep
  clear hK K hHeld3
  (try go_frame)
  refine rdyH [14] ?_;refine AllReadyH.cons rfl (fun K hK=>?_) AllReadyH.nil;go_simp;refine hK.out _ _ ?_ (fun hHeld5=>?_)
  ·(try dsimp only)
   (repeat' apply And.intro)<;>first
    | with_reducible exact HCV.out _ hgh
    | with_reducible exact HCV.out _ (hgh.alloc _)
    | with_reducible exact HCV.out _ hgh.drew
    | with_reducible exact HCV.out _ (hgh.alloc _).drew
    | with_reducible exact HCV.out _ hg1
    | (with_reducible refine HCV.out _ ?_
       repeat (first|with_reducible exact hg1|with_reducible refine Holds.far ?_ hggg _|with_reducible refine Holds.far ?_ hgb _)
       done)
    | (repeat (first|with_reducible exact k1|with_reducible refine cell_off (by omega) _ ?_|with_reducible refine cell_far hggb _ ?_)
       done)
    | go_keep
  clear hK K hHeld4
  (try go_frame)
  refine wpAnyH_done (by kernel_rfl) ?_ _;clear hHeld5;go_wp2
  go_end0
  refine⟨rfl,.slice (some ⟨gg,0,none⟩) (r.sp.length+1) cap1,.slice (some ⟨g,0,none⟩) 0 c,?_,?_,?_,?_,?_,?_⟩
  ·repeat (first|with_reducible exact hh1|with_reducible refine Holds.set ?_ _ _|with_reducible refine Holds.far ?_ hbgg _)
  ·refine flushed_row (z0:=.int .u8 0) (z1:=.string ⟨#[]⟩) (z2:=.string ⟨#[]⟩) (z3:=.string ⟨#[]⟩) (z4:=.slice none 0 0) (S:=fun k=>k=b∨(Value.slice As r.sp.length cs').ownBlock=some k) HKL.out HRL.out (fun e=>hn (by rw[e];rfl)) HKF.out ?_ (fun k hk h=>by have:=HFF.out k hk;rcases h with h|h;exact this.2.1 h;exact this.2.2.1 h) ?_
   ·repeat (first|with_reducible exact HC0.out|with_reducible refine Chg.step ?_ HTG.out|with_reducible refine Chg.step ?_ HTB.out)
   ·repeat (first|with_reducible refine (World.ownsRow.stored ?_ _ _).1|with_reducible refine ownsRow_setCell_other ?_ hggo _)
    exact HOWN.out
  ·refine text_nil (g:=g) (cur:=cur) ht hgh ?_
   repeat (first|with_reducible exact hg1|with_reducible refine Holds.far ?_ hggg _|with_reducible refine Holds.far ?_ hgb _)
  ·refine Chg.mono (S:=fun k=>k=b∨(Value.slice As r.sp.length cs').ownBlock=some k) ?_ (fun k _ h=>by rcases h with h|h;exact .inl h;exact .inr (.inl h))
   repeat (first|with_reducible exact HC0.out|with_reducible refine Chg.step ?_ HTG.out|with_reducible refine Chg.step ?_ HTB.out)
  ·intro k hk;simp only[Value.ownBlock,Option.some.injEq] at hk;subst hk
   rcases HAT.out with h|h
   ·exact .inl h
   ·exact .inr (by omega)
  ·intro k hk;exact hk
end Go.Proofs.YtkkebmciiiajeaaGreatDoor
