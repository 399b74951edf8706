/-
  What the chapter's laws share, part 8: plain facts, memory, and walks of functions. Its conditions: those that each theorem names.
-/
import Derived.Lib.SplitLaws
import Derived.IntWalk
import Derived.Handy
import Derived.Deep.LoopGhost
import Derived.Laws.AppendOwnNone
import Derived.Deep.AppendLies
import Derived.Test.YtkkebmciiiajeaaGreatDoorK0
import Derived.Test.YtkkebmciiiajeaaGreatDoorK1
import Derived.Test.YtkkebmciiiajeaaGreatDoorK3
import Derived.Test.YtkkebmciiiajeaaGreatDoorK7
set_option linter.unusedSimpArgs false
set_option linter.unusedVariables false
set_option maxHeartbeats 16000000
set_option maxRecDepth 100000
namespace Go.Bd
def tr (b:ByteArray):ByteArray:=⟨(trim b.data.toList).toArray⟩
def bar:ByteArray:=⟨#[124]⟩
def pieces (b:ByteArray):List ByteArray:=Lib.splitB bar 0 (Lib.countB b bar) b
def dropEnd (xs:List ByteArray):List ByteArray:=if 1<xs.length∧xs.getD (xs.length-1) ⟨#[]⟩=⟨#[]⟩ then xs.take (xs.length-1) else xs
def beginsB (s:ByteArray):Bool:=Lib.hasPrefix (trim s.data.toList) [124]
def rowOf (s:ByteArray):List ByteArray:=dropEnd ((pieces ⟨(Lib.trimPrefix (trim s.data.toList) [124]).toArray⟩).map tr)
theorem pieces_length (b:ByteArray):(pieces b).length=Lib.countB b bar+1:=Lib.splitB_all bar (by decide) 0 _ b rfl
theorem tr_le (b:ByteArray):(tr b).size≤b.size:=by
 have:=trim_le b.data.toList
 rw[←size_list] at this;exact this
theorem extract_size_le (s:ByteArray) (a b:Nat):(s.extract a b).size≤s.size:=by rw[ByteArray.size_extract];omega
theorem splitB_size:∀(k:Nat) (s p:ByteArray),p∈Lib.splitB bar 0 k s→p.size≤s.size
 | 0,s,p,h=>by
  rw[Lib.splitB,List.mem_singleton] at h;subst h;exact Nat.le_refl _
 | k+1,s,p,h=>by
  rw[Lib.splitB] at h;split at h
  ·rw[List.mem_singleton] at h;subst h;exact Nat.le_refl _
  ·rcases List.mem_cons.1 h with rfl|h
   ·exact extract_size_le _ _ _
   ·exact Nat.le_trans (splitB_size k _ p h) (extract_size_le _ _ _)
theorem pieces_size {b p:ByteArray} (h:p∈pieces b):p.size≤b.size:=splitB_size _ _ _ h
end Go.Bd
namespace Go.Proofs.YtkkebmciiiajeaaGreatDoor
open Go.RowKit Go.Bd
theorem ba_ext {s t:ByteArray} (h:s.data.toList=t.data.toList):s=t:=by
 cases s;cases t
 rw[ByteArray.mk.injEq];exact Array.toList_inj.1 h
theorem ba_nonempty {s:ByteArray} (h:¬s=⟨#[]⟩):s.toList.isEmpty=false:=by
 rw[ByteArray.toList_eq];cases e:s.data.toList with
 | nil=>exact absurd (ba_ext (t:=⟨#[]⟩) e) h
 | cons a l=>rfl
theorem str_info:(Tryz.prog.info? 9).map (fun i=>(i.zero,i.size,i.bytes))=some (some (.string ⟨#[]⟩),1,16):=by kernel_rfl
theorem mix_step {α β:Type} (f:α→β) (g:α→β) (xs:List α) (k:Nat) (x:α) (h:xs[k]? = some x) :
  ((xs.take k).map f++(xs.drop k).map g).set k (f x)=(xs.take (k+1)).map f++(xs.drop (k+1)).map g:=by
 obtain⟨hk,e⟩:=List.getElem?_eq_some_iff.1 h;rw[List.set_append,if_neg (by simp;omega),List.take_succ_eq_append_getElem hk,e,List.map_append,List.append_assoc]
 congr 1
 rw[List.length_map,List.length_take,Nat.min_eq_left (by omega),Nat.sub_self,List.drop_eq_getElem_cons hk,List.map_cons,List.set_cons_zero];rfl
theorem mix_at {α β:Type} (f:α→β) (g:α→β) (xs:List α) (k:Nat) (x:α) (h:xs[k]? = some x):((xs.take k).map f++(xs.drop k).map g)[k]? = some (g x):=by
 obtain⟨hk,e⟩:=List.getElem?_eq_some_iff.1 h;rw[List.getElem?_append_right (by simp;omega),List.length_map,List.length_take,Nat.min_eq_left (by omega),Nat.sub_self,List.drop_eq_getElem_cons hk,e];rfl
def trV (b:ByteArray):Value:=strV (trim b.data.toList)
theorem row_none (s:ByteArray) (w:World) (hs:s.size≤2147483647) (hb:beginsB s=false) :
  Calls Tryz.prog 123 #[.string s] w fun e w'=>e=.returned (.tuple #[.slice none 0 0,.int .i64 4])∧Below w.heap.size w w':=by
 have ct:=strTrim_any s w (by omega);have cp:=fun w'=>Tryz.strings_CutPrefix ⟨(trim s.data.toList).toArray⟩ bar w'
 rw[show Lib.hasPrefix (⟨(trim s.data.toList).toArray⟩:ByteArray).data.toList bar.data.toList=false from hb] at cp;unfold bar at cp;generalize (⟨(trim s.data.toList).toArray⟩:ByteArray).data.toList=l at cp;generalize Lib.trimPrefix l _=r at cp;unfold strV at ct
 go_enter Tryz.func123,Tryz.ntmps123
 go_wp2_with (first
  | (go_at_call 50;refine ct.mono ?_;rintro e w1 ⟨rfl,hb⟩)
  | (go_at_call 177;refine (cp _).mono ?_;rintro e w2 ⟨rfl,hw⟩;subst hw))
 go_ret2
 exact⟨rfl,hb⟩
theorem own_lit (w:World) (e:TypeId) (xs:List Value) (h:xs.length≤maxLen):(w.alloc (.cells xs.toArray e)).ownsRow w.heap.size e 1 (.slice (some ⟨w.heap.size,0,none⟩) xs.length xs.length) xs.length xs :=
 ⟨by simp,.inr ⟨w.heap.size,xs.length,xs.toArray,rfl,Nat.le_refl _,heap_alloc_new w _,Nat.le_refl _,h,by simp,by simp⟩⟩
theorem row_some (s:ByteArray) (w:World) (m:Int) (hm:w.cell? ⟨0,0,none⟩=some (.int .i64 m)) (hs:s.size≤2147483647) (hb:beginsB s=true) :
  Calls Tryz.prog 123 #[.string s] w fun e w'=>∃v,e=.returned (.tuple #[v,.int .i64 0])∧w'.ownsRow w.heap.size 9 1 v (rowOf s).length ((rowOf s).map Value.string)∧Below w.heap.size w w':=by
 have hle:=trim_le s.data.toList;rw[←size_list] at hle;have ct:=strTrim_any s w (by omega);have hmg:0<w.heap.size:=World.block_lt_of_cell? w _ hm;have cp:=fun w'=>Tryz.strings_CutPrefix ⟨(trim s.data.toList).toArray⟩ bar w'
 rw[show Lib.hasPrefix (⟨(trim s.data.toList).toArray⟩:ByteArray).data.toList bar.data.toList=true from hb] at cp;obtain⟨bh,hbh⟩:∃bh:ByteArray,bh=⟨(Lib.trimPrefix (trim s.data.toList) [124]).toArray⟩:=⟨_,rfl⟩;have hbs:bh.size≤2147483647:=by
  rw[hbh,size_mk];have:(Lib.trimPrefix (trim s.data.toList) [124]).length≤(trim s.data.toList).length:=by
   unfold Lib.trimPrefix;split<;>simp
  omega
 have hro:rowOf s=dropEnd ((pieces bh).map tr):=by rw[hbh];rfl
 rw[show (⟨(Lib.trimPrefix (⟨(trim s.data.toList).toArray⟩:ByteArray).data.toList bar.data.toList).toArray⟩:ByteArray)=bh from hbh.symm] at cp;clear hbh;have cs:=fun (w':World) (hm':w'.cell? ⟨0,0,none⟩=some (.int .i64 m))=>Tryz.strings_Split bh bar m w' (by omega) hm' (by decide)
 have hpl:=pieces_length bh;have hcl:=Lib.countB_le bar (by decide) _ bh (Nat.le_refl _);unfold bar at cp;generalize (trim s.data.toList)=l at ct cp;unfold strV at ct;rw[hro];clear hro hb hle
 go_enter Tryz.func123,Tryz.ntmps123
 go_wp2_with (first
  | (go_at_call 50;refine ct.mono ?_;rintro e w1 ⟨rfl,hb1⟩)
  | (go_at_call 177;refine (cp _).mono ?_;rintro e w2 ⟨rfl,hw⟩;subst hw))
 have hm1:=(hb1.cell (p:=⟨0,0,none⟩) hmg).trans hm;have c1:Calls Tryz.prog 53 #[.string bh,.string ⟨#[124]⟩] w2 fun e w'=>e=.returned (.slice (some ⟨w2.heap.size,0,none⟩) (pieces bh).length (pieces bh).length)∧w'=w2.alloc (.cells ((pieces bh).map Value.string).toArray 9):=by
  rw[hpl];exact cs _ hm1
 have ho:=own_lit w2 9 ((pieces bh).map Value.string) (by rw[List.length_map];unfold maxLen;omega);rw[List.length_map] at ho;have hb2:Below w.heap.size w (w2.alloc (.cells ((pieces bh).map Value.string).toArray 9)):=hb1.alloc hb1.size _;have HPS:=Lib.hid (fun p (hp:p∈pieces bh)=>pieces_size hp);have hn1:1≤(pieces bh).length:=by omega
 have hn2:(pieces bh).length≤2147483648:=by omega
 generalize hP:pieces bh=P at c1 ho hb2 HPS hn1 hn2 ⊢;have HP:=Lib.hid hP;clear hP cs hpl hcl cp ct;generalize hn:P.length=n at c1 ho hn1 hn2;have HN:=Lib.hid hn;clear hn;refine c1.mono ?_;clear c1;rintro e w3 ⟨rfl,rfl⟩;have hg0:=hb1.size;generalize w2.alloc (.cells (P.map Value.string).toArray 9)=w3 at ho hb2 ⊢;generalize w2.heap.size=g at ho hg0 ⊢;go_wp2
 go_loopg [23] n (fun r i wr=>∃k:Nat,k+r=n∧i=.int .i64 k∧wr.ownsRow g 9 1 (.slice (some ⟨g,0,none⟩) n n) n ((P.take k).map trV++(P.drop k).map Value.string)∧Below w.heap.size w wr)
 case atStart=>exact⟨0,by omega,rfl,by simpa using ho,hb2⟩
 case round =>
  clear ho hb2;obtain⟨k,hk,rfl,hown,hbl⟩:=hrel
  by_cases hlt:k<n
  ·obtain⟨p,hp⟩:∃p,P[k]? = some p:=⟨_,List.getElem?_eq_getElem (by rw[HN.out];exact hlt)⟩;have HST:=Lib.hid (mix_step trV Value.string P k p hp);have hcp:=own_cell hown (mix_at trV Value.string P k p hp);have hsz:=HPS.out p (List.mem_of_getElem? hp);have ct:=fun w'=>strTrim_any p w' (by omega)
   have hv:strV (trim p.data.toList)=Value.string (tr p):=rfl;have hv2:trV p=Value.string (tr p):=rfl;rw[hv] at ct;rw[hv2] at HST;clear hv hv2 hp;generalize tr p=q at ct HST;have hfr:=own_free hown k
   go_wp2_with (go_at_call 50;refine (ct _).mono ?_;rintro e w4 ⟨rfl,hb4⟩;have hown4:=own_below hown hb4;have hc4:=(hb4.cell (p:=⟨g,k,none⟩) (World.block_lt_of_cell? _ _ hcp)).trans hcp;have hf4:=own_free hown4 k)
   have hset:=own_set hown4 k (.string q);have hbl4:=(hbl.trans (hb4.mono hbl.size)).setCell (p:=⟨g,k,none⟩) hg0 (.string q)
   go_roundg (gk-1)
   case measure=>omega
   case rel=>exact⟨k+1,by omega,by go_num,by rw[←HST.out];exact hset,hbl4⟩
  ·have hkn:k=n:=by omega
   subst hkn;have e0:(P.take k).map trV++(P.drop k).map Value.string=(P.map tr).map Value.string:=by
    rw[List.take_of_length_le (by rw[HN.out];omega),List.drop_of_length_le (by rw[HN.out];omega),List.map_nil,List.append_nil,List.map_map];rfl
   rw[e0] at hown;clear e0;have hQ:(P.map tr).length=k:=by rw[List.length_map,HN.out]
   clear HPS HN;obtain⟨Q,hQd⟩:∃Q,P.map tr=Q:=⟨_,rfl⟩;rw[hQd] at hown hQ;have HQ:=Lib.hid hQd;clear hQd;obtain⟨q,hq⟩:∃q,Q[k-1]? = some q:=⟨_,List.getElem?_eq_getElem (by omega)⟩;have hcq:=own_cell hown (j:=k-1) (u:=.string q) (by rw[List.getElem?_map,hq];rfl);have hcells:=fun (j:Nat) u (hj:(Q.map Value.string)[j]? = some u)=>own_cell hown hj
   have hgl:=World.block_lt_of_cell? _ _ hcq;simp only at hgl
   by_cases hk1:1<k
   ·by_cases hqe:q=⟨#[]⟩
    focus
     have e1:dropEnd Q=Q.take (k-1):=by
      rw[dropEnd,if_pos,hQ];rw[hQ,List.getD_eq_getElem?_getD,hq];exact⟨hk1,hqe⟩
     have hl1:(Q.take (k-1)).length=k-1:=by rw[List.length_take];omega
     have HC:=Lib.hid hcells;have HD:Hid (∀(j:Nat) u,((Q.take (k-1)).map Value.string)[j]? = some u→wr.cell? ⟨g,0+j,none⟩=some u):=by
      intro j u hj;rw[Nat.zero_add];refine HC.out j u ?_;rw[List.map_take] at hj;rw[List.getElem?_take] at hj;split at hj
      ·exact hj
      ·cases hj
     have HL1:=Lib.hid hl1;have H1:Hid (∀u∈(Q.take (k-1)).map Value.string,u.oneCell'=true):=by
      intro u hu;obtain⟨_,_,rfl⟩:=List.mem_map.1 hu;rfl
     subst hqe;have E1:=Lib.hid e1;clear hcells e1 hl1 HC hq hQ;generalize (Q.take (k-1))=R at HD HL1 H1 E1;obtain⟨m,rfl⟩:∃m,k=m+1:=⟨k-1,by omega⟩;simp only[Nat.add_sub_cancel] at HL1 hcq
     go_wp2_with (at_make;refine wpList_make1 _ rfl _ _ 30 rfl w.heap.size 9 (.string ⟨#[]⟩) 16 Tryz.underlying30 str_info rfl _ _ _ _ m rfl rfl (by omega) (by omega) (by omega) (by unfold maxLen;omega) (by have:=hbl.size;omega) ?_)
     intro w5 hown5 hgr5;have hb5:Below wr.heap.size wr w5:=(Below.refl _ _).grown hgr5 (Nat.le_refl _) (fun k h=>by cases h);have HD5:Hid (∀(j:Nat) u,(R.map Value.string)[j]? = some u→w5.cell? ⟨g,0+j,none⟩=some u):=fun j u hj=>(hb5.cell (p:=⟨g,0+j,none⟩) hgl).trans (HD.out j u hj)
     obtain⟨w6,hcp,hown6,hgr6⟩:=own_copy (P:=Tryz.prog) w5 30 3 w.heap.size 9 Tryz.underlying30 (by kernel_rfl) wr.heap.size m _ _ (R.map Value.string) hown5 g 0 (m+1) (by rw[List.length_map];exact HL1.out) HD5.out H1.out
    rotate_left
    focus
     have e1:dropEnd Q=Q:=by
      rw[dropEnd,if_neg];rw[hQ,List.getD_eq_getElem?_getD,hq];exact fun h=>hqe h.2
     have hne:=ba_nonempty hqe;have HD:Hid (∀(j:Nat) u,(Q.map Value.string)[j]? = some u→wr.cell? ⟨g,0+j,none⟩=some u):=by
      intro j u hj;rw[Nat.zero_add];exact hcells j u hj
     have HL1:=Lib.hid hQ;have H1:Hid (∀u∈Q.map Value.string,u.oneCell'=true):=by
      intro u hu;obtain⟨_,_,rfl⟩:=List.mem_map.1 hu;rfl
     have E1:=Lib.hid e1;clear hcells e1 hq hQ;obtain⟨R,hR⟩:∃R,R=Q:=⟨Q,rfl⟩;subst hR;obtain⟨m,rfl⟩:∃m,k=m+1:=⟨k-1,by omega⟩;simp only[Nat.add_sub_cancel] at hcq
     go_wp2_with (at_make;refine wpList_make1 _ rfl _ _ 30 rfl w.heap.size 9 (.string ⟨#[]⟩) 16 Tryz.underlying30 str_info rfl _ _ _ _ (m+1) rfl rfl (by omega) (by omega) (by omega) (by unfold maxLen;omega) (by have:=hbl.size;omega) ?_)
     intro w5 hown5 hgr5;have hb5:Below wr.heap.size wr w5:=(Below.refl _ _).grown hgr5 (Nat.le_refl _) (fun k h=>by cases h);have HD5:Hid (∀(j:Nat) u,(R.map Value.string)[j]? = some u→w5.cell? ⟨g,0+j,none⟩=some u):=fun j u hj=>(hb5.cell (p:=⟨g,0+j,none⟩) hgl).trans (HD.out j u hj)
     obtain⟨w6,hcp,hown6,hgr6⟩:=own_copy (P:=Tryz.prog) w5 30 3 w.heap.size 9 Tryz.underlying30 (by kernel_rfl) wr.heap.size (m+1) _ _ (R.map Value.string) hown5 g 0 (m+1) (by rw[List.length_map];exact HL1.out) HD5.out H1.out
    rotate_left
    all_goals
     unfold goInt at hcp;go_wp2
     go_ret2
     rw[HP.out,HQ.out,E1.out,HL1.out];exact⟨_,rfl,hown6,(hbl.grown hgr5 hbl.size (fun k h=>by cases h)).grown hgr6 (by have:=hbl.size;have:=hgr5.size;omega) (fun k h=>by cases h;exact hbl.size)⟩
   ·have e1:dropEnd Q=Q:=by
     rw[dropEnd,if_neg];rw[hQ];exact fun h=>hk1 h.1
    have HD:Hid (∀(j:Nat) u,(Q.map Value.string)[j]? = some u→wr.cell? ⟨g,0+j,none⟩=some u):=by
     intro j u hj;rw[Nat.zero_add];exact hcells j u hj
    have HL1:=Lib.hid hQ;have H1:Hid (∀u∈Q.map Value.string,u.oneCell'=true):=by
     intro u hu;obtain⟨_,_,rfl⟩:=List.mem_map.1 hu;rfl
    have E1:=Lib.hid e1;clear hcells e1 hq hQ;obtain⟨R,hR⟩:∃R,R=Q:=⟨Q,rfl⟩;subst hR
    go_wp2_with (at_make;refine wpList_make1 _ rfl _ _ 30 rfl w.heap.size 9 (.string ⟨#[]⟩) 16 Tryz.underlying30 str_info rfl _ _ _ _ k rfl rfl (by omega) (by omega) (by omega) (by unfold maxLen;omega) (by have:=hbl.size;omega) ?_)
    intro w5 hown5 hgr5;have hb5:Below wr.heap.size wr w5:=(Below.refl _ _).grown hgr5 (Nat.le_refl _) (fun k h=>by cases h);have HD5:Hid (∀(j:Nat) u,(R.map Value.string)[j]? = some u→w5.cell? ⟨g,0+j,none⟩=some u):=fun j u hj=>(hb5.cell (p:=⟨g,0+j,none⟩) hgl).trans (HD.out j u hj)
    obtain⟨w6,hcp,hown6,hgr6⟩:=own_copy (P:=Tryz.prog) w5 30 3 w.heap.size 9 Tryz.underlying30 (by kernel_rfl) wr.heap.size k _ _ (R.map Value.string) hown5 g 0 k (by rw[List.length_map];exact HL1.out) HD5.out H1.out;unfold goInt at hcp;go_wp2
    go_ret2
    rw[HP.out,HQ.out,E1.out,HL1.out];exact⟨_,rfl,hown6,(hbl.grown hgr5 hbl.size (fun k h=>by cases h)).grown hgr6 (by have:=hbl.size;have:=hgr5.size;omega) (fun k h=>by cases h;exact hbl.size)⟩
end Go.Proofs.YtkkebmciiiajeaaGreatDoor
namespace Go.Proofs.YtkkebmciiiajeaaGreatDoor
open Go.RowKit Go.Bd
def evenB (ns:List Nat):Bool:=ns.all (· == ns.headD 0)
theorem evenB_true {ns:List Nat} (h:∀(j:Nat) n,j<ns.length→ns[j]? = some n→n=ns.headD 0):evenB ns=true:=by
 rw[evenB,List.all_eq_true];intro n hn;obtain⟨j,hj⟩:=List.mem_iff_getElem?.1 hn;have:=h j n (List.getElem?_eq_some_iff.1 hj).1 hj
 rw[this];simp
theorem evenB_false {ns:List Nat}{j n:Nat} (h:ns[j]? = some n) (hn:n≠ns.headD 0):evenB ns=false:=by
 rw[evenB,List.all_eq_false];exact⟨n,List.mem_of_getElem? h,by simpa using hn⟩
theorem even_any (v:Value) (vs:List Value) (ns:List Nat) (w:World) (B:Nat) (hR:Rd w B v vs) (hB:B≤w.heap.size) (hl:vs.length=ns.length) (hc:∀(j n:Nat),ns[j]? = some n→∃A c,vs[j]? = some (.slice A n c)) (hlen:ns.length≤1000000000) :
  Calls Tryz.prog 124 #[v] w fun e w'=>e=.returned (.bool (evenB ns))∧Below w.heap.size w w':=by
 obtain⟨A,c,rfl,hcl,f⟩:=hR.form;have HL:=Lib.hid hl;rw[hl] at hcl ⊢;have F:Hid (∀(j n:Nat),ns[j]? = some n→∃b off A' c',A=some ⟨b,off,none⟩∧b<w.heap.size∧w.cell? ⟨b,off+j,none⟩=some (.slice A' n c')):=fun j n hj=>by
  obtain⟨A',c',hv⟩:=hc j n hj;obtain⟨b,off,h1,h2,h3⟩:=f j _ hv;exact⟨b,off,A',c',h1,by omega,h3⟩
 clear f hc hR hl;generalize hm:ns.length=m at hlen hcl ⊢;have HM:=Lib.hid hm;clear hm
 go_enter Tryz.func124,Tryz.ntmps124
 go_wp2
 go_loopg [7] m (fun r i wr=>∃k:Nat,k+r=m∧i=.int .i64 k∧Hid (∀(j n:Nat),j<k→ns[j]? = some n→n=ns.headD 0)∧Below w.heap.size w wr)
 case atStart=>exact⟨0,by omega,rfl,fun _ _ h=>absurd h (by omega),Below.refl _ _⟩
 case round =>
  obtain⟨k,hk,rfl,HE,hbl⟩:=hrel
  by_cases hlt:k<m
  ·obtain⟨n,hn⟩:∃x,ns[k]? = some x:=⟨_,List.getElem?_eq_getElem (by rw[HM.out];exact hlt)⟩;obtain⟨n0,hn0⟩:∃x,ns[0]? = some x:=⟨_,List.getElem?_eq_getElem (by rw[HM.out];omega)⟩;obtain⟨b,off,A1,c1,rfl,hb,hc1⟩:=F.out k n hn;obtain⟨_,_,A0,c0,e1,_,hc0⟩:=F.out 0 n0 hn0;cases e1
   replace hc1:=(hbl.cell (p:=⟨b,off+k,none⟩) hb).trans hc1
   replace hc0:=(hbl.cell (p:=⟨b,off+0,none⟩) hb).trans hc0
   have HH:Hid (ns.headD 0=n0):=by
    cases ns with
    | nil=>simp at hn0
    | cons a l=>simp at hn0;exact hn0
   have HN:=Lib.hid hn;clear hn hn0;rw[Nat.add_zero] at hc0;have hbs:=hbl.size;have hbw:b<wr.heap.size:=by omega
   by_cases he:n=n0
   ·have HN0:=Lib.hid he;have ht:((n:Int) != (n0:Int))=false:=by simp;exact_mod_cast he
    clear he;go_wp2
    go_quiet (fail)
    go_wp2
    go_roundg (gk-1)
    case measure=>omega
    case rel =>
     refine⟨k+1,by omega,by go_num,fun j q hj hq=>?_,Go.below_drewN (hbl.alloc hbs _) _⟩
     by_cases hjk:j<k
     ·exact HE.out j q hjk hq
     ·obtain rfl:j=k:=by omega
      rw[HN.out] at hq;cases hq
      rw[HH.out];exact HN0.out
   ·have hv:evenB ns=false:=evenB_false HN.out (by rw[HH.out];exact he);have HV:=Lib.hid hv;have ht:((n:Int) != (n0:Int))=true:=by simp;exact_mod_cast he
    clear he hv;go_wp2
    go_quiet (fail)
    go_wp2
    go_ret
    exact⟨ret_bool HV.out.symm,Go.below_drewN (hbl.alloc hbs _) _⟩
  ·have HV:Hid (evenB ns=true):=evenB_true fun j n hj hn=>HE.out j n (by rw[HM.out] at hj;omega) hn
   go_wp2
   go_ret
   exact⟨ret_bool HV.out.symm,hbl⟩
end Go.Proofs.YtkkebmciiiajeaaGreatDoor
namespace Go.Bd
open Go.RowKit
theorem faults_le (s:Bs):(faultsOf s).length≤s.length:=by
 have hI:=Inv.run (s:=s) s.length 0 Pst.first Inv.first (Nat.zero_le _) (by omega);have h1:=(hI.drop (n:=0) hI.2.2.1).1;have h2:Inv (endP s) s.length:=h1;unfold faultsOf;rw[List.length_map,(sortF_perm (faultsAt s)).length_eq];have h3:=h2.2.1;have h4:=h2.2.2.1;have h5:(faultsAt s).length=(endP s).faults.length:=rfl;omega
def wtX:List Ln→Nat
 | []=>0
 | x::l=>x.text.size+1+wtX l
theorem wtX_append:∀a b:List Ln,wtX (a++b)=wtX a+wtX b
 | [],b=>by simp[wtX]
 | x::a,b=>by rw[List.cons_append,wtX,wtX,wtX_append a b];omega
theorem wtX_split (l:List Ln) (k:Nat):wtX (l.take k)+wtX (l.drop k)=wtX l:=by rw[←wtX_append,List.take_append_drop]
theorem wtX_len:∀l:List Ln,l.length≤wtX l
 | []=>Nat.le_refl _
 | x::l=>by have:=wtX_len l;rw[wtX,List.length_cons];omega
theorem wtX_mem:∀{l:List Ln}{x:Ln},x∈l→x.text.size+1≤wtX l
 | [],x,h=>by cases h
 | y::l,x,h=>by
  rw[wtX]
  rcases List.mem_cons.1 h with rfl|h
  ·omega
  ·have:=wtX_mem h;omega
def endN (k n:Nat):Nat:=if k<n then k+1 else k
theorem endN_le {k n:Nat} (h:k≤n):endN k n≤n:=by unfold endN;split<;>omega
end Go.Bd
namespace Go.Proofs.YtkkebmciiiajeaaGreatDoor
open Go.RowKit Go.Bd
def rowT (x:Ln):List (List (List Sp)):=if trim x.text.data.toList=[]∨beginsB (tr x.text)=false then [] else [(rowOf (tr x.text)).map fun t=>spansOf t.data.toList]
def rowF (x:Ln):List Dg:=if trim x.text.data.toList=[] then [] else if beginsB (tr x.text)=false then [⟨x.file,x.no,9,tr x.text⟩] else (rowOf (tr x.text)).flatMap fun t=>(faultsOf t.data.toList).map (dgOf x.file x.no t)
def tabN (rest:List Ln):Nat:=untilN (fun t=>t==barsL) rest
def tabR (rest:List Ln):List (List (List Sp)):=(rest.take (tabN rest)).flatMap rowT
def tabF (rest:List Ln):List Dg:=(rest.take (tabN rest)).flatMap rowF
def tabT (s:ByteArray):ByteArray:=⟨(dropL (s.data.toList.drop 4)).toArray⟩
def tabE (f:ByteArray) (no:Int) (s:ByteArray) (rest:List Ln):List Dg:=(if tabN rest<rest.length then [] else [⟨f,no,4,s⟩])++(if evenB ((tabR rest).map List.length)=true then [] else [⟨f,no,9,s⟩])
abbrev Told:Type:=Nat×List Bl×List Dg
def tableR (f:ByteArray) (no:Int) (s:ByteArray) (rest:List Ln):Told :=
 (endN (tabN rest) rest.length,[titledB ⟨6,0,false,⟨#[]⟩,⟨#[]⟩,[],tabR rest,⟨#[]⟩,0⟩ f no (tabT s)],tabE f no s rest++titledD f no (tabT s)++tabF rest)
def codeR (f:ByteArray) (no:Int) (s:ByteArray) (rest:List Ln):Told :=
 (endN (codeN rest 0) rest.length,[⟨4,0,false,⟨#[]⟩,⟨(Lib.join (codeT rest 0) [10]).toArray⟩,[],[],f,no⟩],if codeN rest 0<rest.length then [] else [⟨f,no,4,s⟩])
def paraR (f:ByteArray) (no:Int) (s:ByteArray) (rest:List Ln):Told :=
 (untilN (fun t=>!plainL t) rest,[⟨2,0,false,⟨#[]⟩,⟨#[]⟩,spansOf (paraB rest 0 s),[],f,no⟩],(faultsOf (paraB rest 0 s)).map (dgOf f no ⟨(paraB rest 0 s).toArray⟩))
def headR (f:ByteArray) (no:Int) (s:ByteArray):Told :=
 (0,[titledB ⟨1,(leadB s.data.toList 61).1,false,⟨#[]⟩,⟨#[]⟩,[],[],⟨#[]⟩,0⟩ f no ⟨(leadB s.data.toList 61).2.toArray⟩],titledD f no ⟨(leadB s.data.toList 61).2.toArray⟩)
def itemR (f:ByteArray) (no:Int) (s:ByteArray):Told :=
 (0,[⟨3,(itemB s.data.toList).1,(itemB s.data.toList).2.1,⟨#[]⟩,⟨#[]⟩,spansOf (itemB s.data.toList).2.2,[],f,no⟩],(faultsOf (itemB s.data.toList).2.2).map (dgOf f no ⟨(itemB s.data.toList).2.2.toArray⟩))
def readR (f:ByteArray) (no:Int) (s:ByteArray) (rest:List Ln):Told :=
 if 0<(leadB s.data.toList 61).1 then headR f no s
 else if 0<(itemB s.data.toList).1 then itemR f no s
 else if s.data.toList=[] then (0,[],[])
 else if s.data.toList=fenceL then codeR f no s rest
 else if Lib.hasPrefix s.data.toList barsL=true then tableR f no s rest
 else paraR f no s rest
def noteR (f:ByteArray) (no:Int) (wd bh:Bs):Told :=
 (0,[⟨5,0,false,⟨#[]⟩,⟨wd.toArray⟩,spansOf bh,[],f,no⟩],(faultsOf bh).map (dgOf f no ⟨bh.toArray⟩))
def figR (f:ByteArray) (no:Int) (bh:Bs):Told :=
 (0,[titledB ⟨7,0,false,⟨#[]⟩,⟨(figB bh).1.toArray⟩,[],[],⟨#[]⟩,0⟩ f no ⟨(figB bh).2.toArray⟩],titledD f no ⟨(figB bh).2.toArray⟩)
def wordR (f:ByteArray) (no:Int) (s:ByteArray):Told:=(0,[],[⟨f,no,3,s⟩])
def cmdR (f:ByteArray) (no:Int) (s:ByteArray) (wd bh:Bs):Told :=
 if wd=[102,105,103] then (if bh=[] then wordR f no s else figR f no bh)
 else if wd=[110,111,116,101]∨wd=[116,105,112]∨wd=[119,97,114,110] then noteR f no wd bh
 else wordR f no s
def stepR (x:Ln) (rest:List Ln):Told :=
 match commandB (trim x.text.data.toList) with
 | some p=>cmdR x.file x.no (tr x.text) p.1 p.2
 | none=>readR x.file x.no (tr x.text) rest
def parseR:Nat→List Ln→List Bl×List Dg
 | 0,_=>([],[])
 | _+1,[]=>([],[])
 | n+1,x::rest=>((stepR x rest).2.1++(parseR n (rest.drop (stepR x rest).1)).1,(stepR x rest).2.2++(parseR n (rest.drop (stepR x rest).1)).2)
def blocksOf (l:List Ln):List Bl:=(parseR l.length l).1
def diagsOf (l:List Ln):List Dg:=(parseR l.length l).2
theorem parseR_fuel:∀(n m:Nat) (l:List Ln),l.length≤n→l.length≤m→parseR n l=parseR m l
 | 0,m,l,h,_=>by
  have:l=[]:=List.length_eq_zero_iff.1 (by omega)
  subst this;cases m<;>rfl
 | n+1,0,l,_,h=>by
  have:l=[]:=List.length_eq_zero_iff.1 (by omega)
  subst this;rfl
 | n+1,m+1,[],_,_=>rfl
 | n+1,m+1,x::rest,h,h'=>by
  have e:=parseR_fuel n m (rest.drop (stepR x rest).1) (by simp at h ⊢;omega) (by simp at h' ⊢;omega);rw[parseR,parseR,e]
theorem blocksOf_nil:blocksOf []=[]:=rfl
theorem diagsOf_nil:diagsOf []=[]:=rfl
theorem blocksOf_cons (x:Ln) (rest:List Ln):blocksOf (x::rest)=(stepR x rest).2.1++blocksOf (rest.drop (stepR x rest).1):=by
 unfold blocksOf;rw[List.length_cons,parseR,parseR_fuel rest.length (rest.drop (stepR x rest).1).length _ (by simp) (Nat.le_refl _)]
theorem diagsOf_cons (x:Ln) (rest:List Ln):diagsOf (x::rest)=(stepR x rest).2.2++diagsOf (rest.drop (stepR x rest).1):=by
 unfold diagsOf;rw[List.length_cons,parseR,parseR_fuel rest.length (rest.drop (stepR x rest).1).length _ (by simp) (Nat.le_refl _)]
theorem titledD_le (f:ByteArray) (no:Int) (s:ByteArray):(titledD f no s).length≤1+s.size:=by
 have h1:=titleB_le s.data.toList;have h2:=faults_le (titleB s.data.toList).1;have h3:=size_list s;have h4:(titledW f no s).length≤1:=by unfold titledW;split<;>simp
 unfold titledD;rw[List.length_append,List.length_map];omega
theorem untilN_take (st:Bs→Bool) (l:List Ln):wtX (l.take (untilN st l))≤wtX l:=by have:=wtX_split l (untilN st l);omega
theorem read_le (f:ByteArray) (no:Int) (s:ByteArray) (rest:List Ln):(readR f no s rest).1≤rest.length:=by
 unfold readR;split
 ·exact Nat.zero_le _
 ·split
  ·exact Nat.zero_le _
  ·split
   ·exact Nat.zero_le _
   ·split
    ·exact endN_le (untilN_le _ _)
    ·split
     ·exact endN_le (untilN_le _ _)
     ·exact untilN_le _ _
theorem cmd_le (f:ByteArray) (no:Int) (s:ByteArray) (wd bh:Bs):(cmdR f no s wd bh).1=0:=by
 unfold cmdR
 repeat' split
 all_goals rfl
theorem step_le (x:Ln) (rest:List Ln):(stepR x rest).1≤rest.length:=by
 unfold stepR;split
 ·rw[cmd_le];exact Nat.zero_le _
 ·exact read_le _ _ _ _
theorem read_one (f:ByteArray) (no:Int) (s:ByteArray) (rest:List Ln):(readR f no s rest).2.1.length≤1:=by
 unfold readR
 repeat' split
 all_goals first|exact Nat.le_refl _|exact Nat.zero_le _
theorem cmd_one (f:ByteArray) (no:Int) (s:ByteArray) (wd bh:Bs):(cmdR f no s wd bh).2.1.length≤1:=by
 unfold cmdR
 repeat' split
 all_goals first|exact Nat.le_refl _|exact Nat.zero_le _
theorem step_one (x:Ln) (rest:List Ln):(stepR x rest).2.1.length≤1:=by
 unfold stepR;split
 ·exact cmd_one _ _ _ _ _
 ·exact read_one _ _ _ _
end Go.Proofs.YtkkebmciiiajeaaGreatDoor
namespace Go.Bd
open Go.RowKit
def tCl:TypeId:=203
def tRo:TypeId:=201
def BuiltF {α:Type} (R:Rel α) (t:TypeId) (w:World) (B:Nat) (F:Nat→Prop) (v:Value) (l:List α):Prop :=
 ∃kvs:List Value,kvs.length=l.length∧w.ownsRow B t 1 v l.length kvs∧∀(j:Nat) x kv,l[j]? = some x→kvs[j]? = some kv→R w F kv x
section
variable {α:Type} {R:Rel α} {t:TypeId} {w w':World} {B:Nat} {F G S:Nat→Prop} {v:Value} {l:List α}
theorem BuiltF.nil (R:Rel α) (t:TypeId) (w:World) (B:Nat) (F:Nat→Prop):BuiltF R t w B F (.slice none 0 0) []:=⟨[],rfl,World.ownsRow_nil _ _ _ _,fun _ _ _ h=>by simp at h⟩
theorem BuiltF.chg (hR:R.Stays) (h:BuiltF R t w B F v l) (hc:Chg w w' S) (hk:∀b,F b→G b) (hS:∀b,F b→¬S b) (hv:∀b,v.ownBlock=some b→¬S b):BuiltF R t w' B G v l:=by
 obtain⟨kvs,h1,h2,h3⟩:=h;exact⟨kvs,h1,hc.owns h2 hv,fun j x kv e1 e2=>hR.go (h3 j x kv e1 e2) hc hk hS⟩
theorem BuiltF.snoc (hR:R.Stays){kvs:List Value} (h1:kvs.length=l.length) (h3:∀(j:Nat) x kv,l[j]? = some x→kvs[j]? = some kv→R w F kv x){kv v':Value}{x:α} (hx:R w' G kv x) (hc:Chg w w' S) (hk:∀b,F b→G b) (hS:∀b,F b→¬S b) (ho:w'.ownsRow B t 1 v' (l.length+1) (kvs++[kv])):BuiltF R t w' B G v' (l++[x]):=by
 refine⟨kvs++[kv],by simp[h1],by rw[List.length_append];exact ho,fun j y ku e1 e2=>?_⟩
 by_cases hj:j<l.length
 ·rw[List.getElem?_append_left hj] at e1;rw[List.getElem?_append_left (by omega)] at e2;exact hR.go (h3 j y ku e1 e2) hc hk hS
 ·have hjl:j=l.length:=by have:=(List.getElem?_eq_some_iff.1 e1).1;simp at this;omega
  subst hjl;rw[List.getElem?_append_right (Nat.le_refl _),Nat.sub_self] at e1;rw[List.getElem?_append_right (by omega),h1,Nat.sub_self] at e2;cases e1;cases e2
  exact hx
theorem BuiltF.form (h:BuiltF R t w B F v l):∃A c,v=.slice A l.length c∧l.length≤c∧∀k,v.ownBlock=some k→B≤k∧k<w.heap.size:=by
 obtain⟨kvs,_,h2,_⟩:=h
 rcases h2.2 with ⟨h3,h4⟩|⟨g,cap,cur,h3,h4,h5,h6,_⟩
 ·exact⟨none,0,by rw[h3,h4],by omega,by rw[h3];intro k hk;cases hk⟩
 ·refine⟨_,_,h3,h6,?_⟩;rw[h3];intro k hk;have e:g=k:=by simpa [Value.ownBlock] using hk
  exact e ▸ ⟨h4,(Array.getElem?_eq_some_iff.1 h5).1⟩
theorem BuiltF.rowF (hR:R.Stays) (h:BuiltF R t w B F v l) (hk:∀b,F b→G b) (hv:∀b,v.ownBlock=some b→G b):RowF R w G v l:=by
 obtain⟨A,c,rfl,hc,_⟩:=h.form;obtain⟨kvs,h1,h2,h3⟩:=h;refine⟨A,c,kvs,rfl,hc,h1,fun hn=>?_,fun j x kv e1 e2=>hR.go (h3 j x kv e1 e2) (Chg.refl w (fun _=>False)) hk (fun _ _ h=>h)⟩;have hl:0<l.length:=List.length_pos_iff.2 hn;obtain⟨g,cap,e,_⟩:=own_some h2 hl;injection e with e1 e2 e3
 subst e1 e3;exact⟨g,0,rfl,hv g rfl,fun j kv e=>by rw[Nat.zero_add];exact own_cell h2 e⟩
end
section
variable {w w':World} {O F O' F' S:Nat→Prop} {rb:Nat} {lv:Value} {pos:Nat} {bv:Value} {bs:List Bl} {dv:Value} {ds:List Dg}
theorem Rdr.toldL (h:Rdr w O F rb lv pos bv bs dv ds){dv':Value}{l:List Dg} (hc:Chg w w' (fun k=>k=rb∨dv.ownBlock=some k)) (hh:Holds w' rb tR #[lv,.int .i64 (pos:Int),bv,dv']) (ho:w'.ownsRow 0 tDg 4 dv' (ds.length+l.length) (rowD ds++rowD l))
  (hn:∀k,dv'.ownBlock=some k→(dv.ownBlock=some k∨w.heap.size≤k)∧k<w'.heap.size):Rdr w' (fun k=>O k∨dv'.ownBlock=some k) F rb lv pos bv bs dv' (ds++l)∧Turn w w' O F (fun k=>O k∨dv'.ownBlock=some k) F:=by
 obtain⟨kvs,h1,h2,h3⟩:=h.bl;have hS:∀k,(k=rb∨dv.ownBlock=some k)→O k:=fun k hk=>by
  rcases hk with rfl|hk
  ·exact h.oR
  ·exact (h.oD k hk).1
 have hF:∀k,F k→¬(k=rb∨dv.ownBlock=some k):=fun k hk hs=>h.off k hk (hS k hs)
 refine⟨⟨hh,⟨kvs,h1,hc.owns h2 (fun k hk hs=>?_),fun j x kv hx hk=>⟨(h3 j x kv hx hk).1.chg hc (fun _ h=>h) hF,RowsF.stays.go (h3 j x kv hx hk).2 hc (fun _ h=>h) hF⟩⟩,?_,.inl h.oR,fun k hk=>⟨.inl (h.oB k hk).1,(h.oB k hk).2⟩,fun k hk=>⟨.inr hk,?_,?_⟩,fun k hk hs=>?_,fun k hk=>?_,fun k hk=>Nat.lt_of_lt_of_le (h.ltF k hk) hc.size⟩,
  ⟨hc.mono (fun k _ hk=>hS k hk),fun k hk=>?_,fun k hk=>.inl hk,fun k hk=>hk⟩⟩
 ·rcases hs with hs|hs
  ·exact (h.oB k hk).2 hs
  ·exact (h.oD k hs).2.2 hk
 ·rw[List.length_append,rowD_append];exact ho
 ·rcases (hn k hk).1 with h4|h4
  ·exact (h.oD k h4).2.1
  ·intro e;have:=h.ltO rb h.oR;omega
 ·rcases (hn k hk).1 with h4|h4
  ·exact (h.oD k h4).2.2
  ·intro e;have:=h.ltO k (h.oB k e).1;omega
 ·rcases hs with hs|hs
  ·exact h.off k hk hs
  ·rcases (hn k hs).1 with h4|h4
   ·exact h.off k hk (h.oD k h4).1
   ·have:=h.ltF k hk;omega
 ·rcases hk with hk|hk
  ·exact Nat.lt_of_lt_of_le (h.ltO k hk) hc.size
  ·exact (hn k hk).2
 ·rcases hk with hk|hk
  ·exact .inl hk
  ·rcases (hn k hk).1 with h4|h4
   ·exact .inl (h.oD k h4).1
   ·exact .inr h4
end
theorem rowD_one:∀{l:List Dg}{u:Value},u∈rowD l→u.oneCell'=true
 | [],u,h=>by cases h
 | d::l,u,h=>by
  rw[rowD,List.mem_append] at h
  rcases h with h|h
  ·simp only[dgCells,List.mem_cons,List.not_mem_nil,or_false] at h
   rcases h with rfl|rfl|rfl|rfl<;>rfl
  ·exact rowD_one h
theorem le_sum_mem:∀{l:List Nat}{x:Nat},x∈l→x≤l.sum
 | [],x,h=>by cases h
 | y::l,x,h=>by
  rw[List.sum_cons]
  rcases List.mem_cons.1 h with rfl|h
  ·omega
  ·have:=le_sum_mem h;omega
theorem splitB_sum:∀(k:Nat) (s:ByteArray),((Lib.splitB bar 0 k s).map (·.size)).sum≤s.size
 | 0,s=>by simp[Lib.splitB]
 | k+1,s=>by
  rw[Lib.splitB];split
  ·simp
  ·have h:=splitB_sum k (s.extract ((Lib.indexB s bar).toNat+bar.size) s.size);rw[List.map_cons,List.sum_cons];simp only[ByteArray.size_extract] at h ⊢;have hb:bar.size=1:=rfl;omega
theorem sum_take_le (l:List Nat) (k:Nat):(l.take k).sum≤l.sum:=by
 have:=congrArg List.sum (List.take_append_drop k l)
 rw[List.sum_append] at this;omega
theorem sum_tr_le:∀l:List ByteArray,((l.map tr).map (·.size)).sum≤(l.map (·.size)).sum
 | []=>Nat.le_refl _
 | x::l=>by
  have h1:=sum_tr_le l;have h2:=tr_le x;simp only[List.map_cons,List.sum_cons];omega
theorem rowOf_sum (s:ByteArray):((rowOf s).map (·.size)).sum≤s.size:=by
 have h1:=splitB_sum (Lib.countB ⟨(Lib.trimPrefix (trim s.data.toList) [124]).toArray⟩ bar) ⟨(Lib.trimPrefix (trim s.data.toList) [124]).toArray⟩;have h2:(⟨(Lib.trimPrefix (trim s.data.toList) [124]).toArray⟩:ByteArray).size≤s.size:=by
  rw[size_mk];have h3:=trim_le s.data.toList;rw[←size_list] at h3;have h4:(Lib.trimPrefix (trim s.data.toList) [124]).length≤(trim s.data.toList).length:=by unfold Lib.trimPrefix;split<;>simp
  omega
 have h3:=sum_tr_le (pieces ⟨(Lib.trimPrefix (trim s.data.toList) [124]).toArray⟩);have h4:(pieces ⟨(Lib.trimPrefix (trim s.data.toList) [124]).toArray⟩)=Lib.splitB bar 0 (Lib.countB ⟨(Lib.trimPrefix (trim s.data.toList) [124]).toArray⟩ bar) ⟨(Lib.trimPrefix (trim s.data.toList) [124]).toArray⟩:=rfl;rw[←h4] at h1;unfold rowOf dropEnd;split
 ·rw[List.map_take];have:=sum_take_le (((pieces ⟨(Lib.trimPrefix (trim s.data.toList) [124]).toArray⟩).map tr).map (·.size)) (((pieces ⟨(Lib.trimPrefix (trim s.data.toList) [124]).toArray⟩).map tr).length-1)
  omega
 ·omega
theorem flat_faults (f:ByteArray→List Dg) (hf:∀t,(f t).length≤t.size):∀l:List ByteArray,(l.flatMap f).length≤(l.map (·.size)).sum
 | []=>Nat.le_refl _
 | x::l=>by
  have h1:=flat_faults f hf l;have h2:=hf x;simp only[List.flatMap_cons,List.length_append,List.map_cons,List.sum_cons];omega
theorem step_append_none {P:Program}{ops:Array Oper}{o:Oper}{a:Act}{w:World}{K:Act→World→Prop}{Q:Exit→Act→World→Prop}{E:Prop} (hgd:o.guard=none) (s x:Operand) (t:TypeId)
  (ho:o.op=.call { callee:=.builtin .append,args:=#[s,x],argTypes:=#[t,t] })
  (base:Nat) (e:TypeId) (i:TypeInfo) (size:Nat) (ht:P.underlying t=some (.slice e)) (hi:P.info? e=some i)
  (v:Value) (n:Nat) (xs:List Value) (hs:a.eval s=v) (hown:w.ownsRow base e size v n xs) (hx:a.eval x=.slice none 0 0)
  (h:K (a.put o.dst v) w):if Region.wanted o (yielded ops a.tmps)=true then Oper.wp P o a w K Q else E:=by
 have hw:Region.wanted o (yielded ops a.tmps)=true:=by simp[Region.wanted,hgd]
 rw[if_pos hw];have hrun:=run_append_owned_none (P:=P) (w:=w) base t o.type e i size ht hi v n xs hown;unfold Oper.wp;simp[execOp,ho,resolve,invoke,builtin,hs,hx,hrun,Result.andThen];exact h
def tabBlk (rv:Value):Array Value:=#[.int .u8 6,.int .i64 0,.bool false,.string ⟨#[]⟩,.string ⟨#[]⟩,.slice none 0 0,rv,.string ⟨#[]⟩,.int .i64 0]
structure TabS (w:World) (B0:Nat) (Ow Fw:Nat→Prop) (wi:Nat) (dvw:Value) (dsw:List Dg) (nb:Nat) (rv:Value) (rows:List (List (List Sp))):Prop where
 rd:Rdr w Ow Fw wi (.slice none 0 0) 0 (.slice none 0 0) [] dvw dsw
 blk:Holds w nb tBl (tabBlk rv)
 rows:BuiltF CellsF tRo w B0 Fw rv rows
 geO:∀k,Ow k→B0≤k
 geF:∀k,Fw k→B0≤k
 geN:B0≤nb
 nbO:¬Ow nb
 nbF:¬Fw nb
 rvO:∀k,rv.ownBlock=some k→¬Ow k∧¬Fw k∧k≠nb
structure CelS (w:World) (B0:Nat) (Ow Fw:Nat→Prop) (nb:Nat) (rv:Value) (gb:Nat) (cv:Value) (xs:List (List Sp)):Prop where
 box:Holds w gb tRo #[cv]
 cells:BuiltF Forest tCl w B0 Fw cv xs
 geG:B0≤gb
 gbO:¬Ow gb∧¬Fw gb∧gb≠nb∧rv.ownBlock≠some gb
 cvO:∀k,cv.ownBlock=some k→¬Ow k∧¬Fw k∧k≠nb∧rv.ownBlock≠some k∧k≠gb
section
variable {w w':World} {B0:Nat} {Ow Fw O' F' S:Nat→Prop} {wi:Nat} {dvw dvw':Value} {dsw dsw':List Dg} {nb gb:Nat} {rv cv:Value} {rows:List (List (List Sp))} {xs:List (List Sp)}
theorem TabS.chg (h:TabS w B0 Ow Fw wi dvw dsw nb rv rows) (hc:Chg w w' S) (hO:∀k,Ow k→¬S k) (hF:∀k,Fw k→¬S k) (hN:¬S nb) (hR:∀k,rv.ownBlock=some k→¬S k):TabS w' B0 Ow Fw wi dvw dsw nb rv rows :=
 ⟨h.rd.chg hc hO hF,hc.holds hN h.blk,h.rows.chg CellsF.stays hc (fun _ h=>h) hF hR,h.geO,h.geF,h.geN,h.nbO,h.nbF,h.rvO⟩
theorem TabS.below (h:TabS w B0 Ow Fw wi dvw dsw nb rv rows) (hb:Below w.heap.size w w'):TabS w' B0 Ow Fw wi dvw dsw nb rv rows:=h.chg (Chg.below hb (fun _=>False)) (fun _ _ h=>h) (fun _ _ h=>h) (fun h=>h) (fun _ _ h=>h)
theorem TabS.turn (h:TabS w B0 Ow Fw wi dvw dsw nb rv rows) (hr:Rdr w' O' F' wi (.slice none 0 0) 0 (.slice none 0 0) [] dvw' dsw') (ht:Turn w w' Ow Fw O' F'):TabS w' B0 O' F' wi dvw' dsw' nb rv rows:=by
 have hn:=h.blk.lt;have hB:B0≤w.heap.size:=by have:=h.geN;omega
 have hrv:=h.rows.form;obtain⟨_,_,_,_,hrk⟩:=hrv;exact⟨hr,ht.chg.holds h.nbO h.blk,h.rows.chg CellsF.stays ht.chg ht.moF h.rd.off (fun k hk=>(h.rvO k hk).1),fun k hk=>(ht.inO k hk).elim (h.geO k) (fun e=>by omega),fun k hk=>(ht.inF k hk).elim (h.geF k) (fun e=>by omega),h.geN,
  ht.offO hn h.nbO,ht.offF hn h.nbF,fun k hk=>⟨ht.offO (hrk k hk).2 (h.rvO k hk).1,ht.offF (hrk k hk).2 (h.rvO k hk).2.1,(h.rvO k hk).2.2⟩⟩
theorem CelS.turn (h:CelS w B0 Ow Fw nb rv gb cv xs) (hoff:∀k,Fw k→¬Ow k) (ht:Turn w w' Ow Fw O' F'):CelS w' B0 O' F' nb rv gb cv xs:=by
 have hg:=h.box.lt;obtain⟨_,_,_,_,hck⟩:=h.cells.form;exact⟨ht.chg.holds h.gbO.1 h.box,h.cells.chg Forest.stays ht.chg ht.moF hoff (fun k hk=>(h.cvO k hk).1),h.geG,⟨ht.offO hg h.gbO.1,ht.offF hg h.gbO.2.1,h.gbO.2.2⟩,
  fun k hk=>⟨ht.offO (hck k hk).2 (h.cvO k hk).1,ht.offF (hck k hk).2 (h.cvO k hk).2.1,(h.cvO k hk).2.2⟩⟩
theorem TabS.start (W:World):TabS ((W.alloc (.cells #[.slice none 0 0,.int .i64 0,.slice none 0 0,.slice none 0 0] tR)).alloc (.cells (tabBlk (.slice none 0 0)) tBl)) W.heap.size (fun k=>k=W.heap.size) (fun _=>False) W.heap.size (.slice none 0 0) [] (W.heap.size+1) (.slice none 0 0) []:=by
 have h1:=(Holds.new W tR #[.slice none 0 0,.int .i64 0,.slice none 0 0,.slice none 0 0]).alloc (.cells (tabBlk (.slice none 0 0)) tBl);have h2:=Holds.new (W.alloc (.cells #[.slice none 0 0,.int .i64 0,.slice none 0 0,.slice none 0 0] tR)) tBl (tabBlk (.slice none 0 0));rw[World.size_alloc] at h2;exact⟨⟨h1,⟨[],rfl,World.ownsRow_nil _ _ _ _,(fun _ _ _ h=>by simp at h)⟩,World.ownsRow_nil _ _ _ _,rfl,(fun k hk=>by cases hk),(fun k hk=>by cases hk),(fun _ h=>h.elim),(fun k hk=>by have:=h1.lt;omega),(fun _ h=>h.elim)⟩,
  h2,BuiltF.nil _ _ _ _ _,(fun k hk=>by omega),(fun _ h=>h.elim),by omega,by omega,(fun h=>h),(fun k hk=>by cases hk)⟩
theorem TabS.told (h:TabS w B0 Ow Fw wi dvw dsw nb rv rows):∃F2,RowsF w F2 rv rows∧(∀k,F2 k→Fw k∨rv.ownBlock=some k)∧∀k,F2 k→B0≤k∧k<w.heap.size:=by
 obtain⟨_,_,_,_,hrk⟩:=h.rows.form;exact⟨fun k=>Fw k∨rv.ownBlock=some k,h.rows.rowF CellsF.stays (fun k hk=>.inl hk) (fun k hk=>.inr hk),fun k hk=>hk,fun k hk=>hk.elim (fun e=>⟨h.geF k e,h.rd.ltF k e⟩) (hrk k)⟩
theorem CelS.start (h:TabS w B0 Ow Fw wi dvw dsw nb rv rows):CelS (w.alloc (.cells #[.slice none 0 0] tRo)) B0 Ow Fw nb rv w.heap.size (.slice none 0 0) []:=by
 have hn:=h.blk.lt;obtain⟨_,_,_,_,hrk⟩:=h.rows.form;exact⟨Holds.new _ _ _,BuiltF.nil _ _ _ _ _,by have:=h.geN;omega,⟨fun e=>by have:=h.rd.ltO _ e;omega,fun e=>by have:=h.rd.ltF _ e;omega,by omega,fun e=>by have:=(hrk _ e).2;omega⟩,fun k hk=>by cases hk⟩
theorem CelS.add {w1 w2:World}{sv v':Value}{x:List Sp}{g c:Nat} (hT:TabS w1 B0 Ow Fw wi dvw dsw nb rv rows) (h:CelS w1 B0 Ow Fw nb rv gb cv xs) (hf:Forest w1 Fw sv x) (hv:v'=.slice (some ⟨g,0,none⟩) (xs.length+1) c)
  (hc2:Chg w1 w2 (fun b=>cv.ownBlock=some b)) {kvs:List Value} (hk1:kvs.length=xs.length) (hk3:∀(j:Nat) x kv,xs[j]? = some x→kvs[j]? = some kv→Forest w1 Fw kv x) (ho:w2.ownsRow B0 tCl 1 v' (xs.length+1) (kvs++[sv])) (hg:cv.ownBlock=some g∨w1.heap.size≤g) (hg2:g<w2.heap.size) :
  CelS (w2.setCell ⟨gb,0,none⟩ v') B0 Ow Fw nb rv gb v' (xs++[x])∧TabS (w2.setCell ⟨gb,0,none⟩ v') B0 Ow Fw wi dvw dsw nb rv rows∧Chg w1 (w2.setCell ⟨gb,0,none⟩ v') (fun b=>b=gb∨cv.ownBlock=some b):=by
 have hgb:=h.box.lt;have hnb:=hT.blk.lt;obtain⟨_,_,_,_,hrk⟩:=hT.rows.form;have hc3:Chg w2 (w2.setCell ⟨gb,0,none⟩ v') (fun k=>k=gb):=Chg.set w2 ⟨gb,0,none⟩ v';have hF1:∀k,Fw k→¬cv.ownBlock=some k:=fun k hk e=>(h.cvO k e).2.1 hk
 have hF2:∀k,Fw k→¬k=gb:=fun k hk e=>h.gbO.2.1 (e ▸ hk)
 have hgne:g≠gb:=by
  rcases hg with e|e
  ·exact (h.cvO g e).2.2.2.2
  ·omega
 have hgall:¬Ow g∧¬Fw g∧g≠nb∧rv.ownBlock≠some g:=by
  rcases hg with e|e
  ·exact⟨(h.cvO g e).1,(h.cvO g e).2.1,(h.cvO g e).2.2.1,(h.cvO g e).2.2.2.1⟩
  ·exact⟨fun e2=>by have:=hT.rd.ltO _ e2;omega,fun e2=>by have:=hT.rd.ltF _ e2;omega,by omega,fun e2=>by have:=(hrk _ e2).2;omega⟩
 have hall:Chg w1 (w2.setCell ⟨gb,0,none⟩ v') (fun b=>b=gb∨cv.ownBlock=some b):=(hc2.mono (T:=fun b=>b=gb∨cv.ownBlock=some b) (fun k _ h=>.inr h)).trans hc3 (fun k _ h=>.inl h);have hbx:=(hc2.holds (fun e=>(h.cvO gb e).2.2.2.2 rfl) h.box).set 0 v';refine⟨⟨by simpa using hbx,?_,h.geG,h.gbO,fun k hk=>?_⟩,hT.chg hall (fun k hk e=>?_) (fun k hk e=>e.elim (hF2 k hk) (hF1 k hk)) (fun e=>e.elim (fun e=>h.gbO.2.2.1 e.symm) (fun e=>(h.cvO nb e).2.2.1 rfl)) (fun k hk e=>?_),hall⟩
 ·refine BuiltF.snoc Forest.stays hk1 hk3 (kv:=sv) (hf.chg hall (fun _ h=>h) (fun k hk e=>e.elim (hF2 k hk) (hF1 k hk))) hall (fun _ h=>h) (fun k hk e=>e.elim (hF2 k hk) (hF1 k hk)) ?_;refine hc3.owns ho (fun k hk e=>?_);rw[hv] at hk;have e2:g=k:=by simpa [Value.ownBlock] using hk
  exact hgne (e2.trans e)
 ·rw[hv] at hk;have e2:g=k:=by simpa [Value.ownBlock] using hk
  exact e2 ▸ ⟨hgall.1,hgall.2.1,hgall.2.2.1,hgall.2.2.2,hgne⟩
 ·rcases e with e|e
  ·exact h.gbO.1 (e ▸ hk)
  ·exact (h.cvO k e).1 hk
 ·rcases e with e|e
  ·exact h.gbO.2.2.2 (e ▸ hk)
  ·exact (h.cvO k e).2.2.2.1 hk
theorem TabS.row {w1 w2:World}{v':Value}{g c:Nat} (hT:TabS w1 B0 Ow Fw wi dvw dsw nb rv rows) (h:CelS w1 B0 Ow Fw nb rv gb cv xs) (hv:v'=.slice (some ⟨g,0,none⟩) (rows.length+1) c)
  (hc2:Chg w1 w2 (fun b=>rv.ownBlock=some b)) {kvs:List Value} (hk1:kvs.length=rows.length) (hk3:∀(j:Nat) x kv,rows[j]? = some x→kvs[j]? = some kv→CellsF w1 Fw kv x) (ho:w2.ownsRow B0 tRo 1 v' (rows.length+1) (kvs++[cv])) (hg:rv.ownBlock=some g∨w1.heap.size≤g) (hg2:g<w2.heap.size) :
  ∃F2,TabS (w2.setCell ⟨nb,6,none⟩ v') B0 Ow F2 wi dvw dsw nb v' (rows++[xs])∧Chg w1 (w2.setCell ⟨nb,6,none⟩ v') (fun b=>b=nb∨rv.ownBlock=some b)∧(∀k,Fw k→F2 k)∧(∀k,F2 k→Fw k∨cv.ownBlock=some k):=by
 have hnb:=hT.blk.lt;have hB:B0≤w1.heap.size:=by have:=hT.geN;omega
 obtain⟨_,_,_,_,hck⟩:=h.cells.form;have hc3:Chg w2 (w2.setCell ⟨nb,6,none⟩ v') (fun k=>k=nb):=Chg.set w2 ⟨nb,6,none⟩ v';have hall:Chg w1 (w2.setCell ⟨nb,6,none⟩ v') (fun b=>b=nb∨rv.ownBlock=some b):=(hc2.mono (T:=fun b=>b=nb∨rv.ownBlock=some b) (fun k _ h=>.inr h)).trans hc3 (fun k _ h=>.inl h);have hgne:g≠nb:=by
  rcases hg with e|e
  ·exact (hT.rvO g e).2.2
  ·omega
 have hO:∀k,Ow k→¬(k=nb∨rv.ownBlock=some k):=fun k hk e=>e.elim (fun e=>hT.nbO (e ▸ hk)) (fun e=>(hT.rvO k e).1 hk)
 have hF2:∀k,(Fw k∨cv.ownBlock=some k)→¬(k=nb∨rv.ownBlock=some k):=fun k hk e=>by
  rcases hk with hk|hk
  ·exact e.elim (fun e=>hT.nbF (e ▸ hk)) (fun e=>(hT.rvO k e).2.1 hk)
  ·exact e.elim (h.cvO k hk).2.2.1 (h.cvO k hk).2.2.2.1
 have hrd:=(hT.rd.more (F':=fun k=>Fw k∨cv.ownBlock=some k) (fun k hk=>.inl hk) (fun k hk=>hk.elim (hT.rd.off k) (fun e=>(h.cvO k e).1)) (fun k hk=>hk.elim (hT.rd.ltF k) (fun e=>(hck k e).2))).chg hall hO hF2;have hrow:CellsF w1 (fun k=>Fw k∨cv.ownBlock=some k) cv xs:=h.cells.rowF Forest.stays (fun k hk=>.inl hk) (fun k hk=>.inr hk);have hbx:=(hc2.holds (fun e=>(hT.rvO nb e).2.2 rfl) hT.blk).set 6 v';refine⟨fun k=>Fw k∨cv.ownBlock=some k,⟨hrd,by simpa [tabBlk] using hbx,?_,hT.geO,fun k hk=>hk.elim (hT.geF k) (fun e=>(hck k e).1),hT.geN,hT.nbO,fun e=>e.elim hT.nbF (fun e=>(h.cvO nb e).2.2.1 rfl),fun k hk=>?_⟩,hall,fun k hk=>.inl hk,fun k hk=>hk⟩
 ·refine BuiltF.snoc CellsF.stays hk1 hk3 (kv:=cv) (CellsF.stays.go hrow hall (fun _ h=>h) hF2) hall (fun k hk=>.inl hk) (fun k hk=>hF2 k (.inl hk)) ?_;refine hc3.owns ho (fun k hk e=>?_);rw[hv] at hk;have e2:g=k:=by simpa [Value.ownBlock] using hk
  exact hgne (e2.trans e)
 ·rw[hv] at hk;have e2:g=k:=by simpa [Value.ownBlock] using hk
  subst e2
  rcases hg with e|e
  ·exact⟨(hT.rvO g e).1,fun e3=>e3.elim (hT.rvO g e).2.1 (fun e3=>(h.cvO g e3).2.2.2.1 e),hgne⟩
  ·exact⟨fun e2=>by have:=hT.rd.ltO _ e2;omega,fun e3=>e3.elim (fun e3=>by have:=hT.rd.ltF _ e3;omega) (fun e3=>by have:=(hck g e3).2;omega),hgne⟩
end
end Go.Bd
namespace Go.Proofs.YtkkebmciiiajeaaGreatDoor
open Go.RowKit Go.Bd
theorem rowF_le (x:Ln):(rowF x).length≤x.text.size+1:=by
 unfold rowF;split
 ·simp
 ·split
  ·simp
  ·have h1:=flat_faults (fun t=>(faultsOf t.data.toList).map (dgOf x.file x.no t)) (fun t=>by have:=faults_le t.data.toList;rw[←size_list] at this;simpa using this) (rowOf (tr x.text));have h2:=rowOf_sum (tr x.text);have h3:=tr_le x.text;omega
theorem rowFs_le:∀l:List Ln,(l.flatMap rowF).length≤wtX l
 | []=>Nat.le_refl _
 | x::l=>by
  have h1:=rowFs_le l;have h2:=rowF_le x;simp only[List.flatMap_cons,List.length_append,wtX];omega
theorem rowT_le (x:Ln):(rowT x).length≤1:=by unfold rowT;split<;>simp
theorem rowTs_le:∀l:List Ln,(l.flatMap rowT).length≤l.length
 | []=>Nat.le_refl _
 | x::l=>by
  have h1:=rowTs_le l;have h2:=rowT_le x;simp only[List.flatMap_cons,List.length_append,List.length_cons];omega
end Go.Proofs.YtkkebmciiiajeaaGreatDoor
