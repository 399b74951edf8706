/- part 12 -/
import Derived.Laws.CopyRow
import Derived.Shelf.Spec.SlicesInsertGrow
import Derived.Deep.DeepCutAuto
import Derived.Shelf.RegionOpenPlain
import Derived.Test.YtkkebmciiiajeaaGreatDoorK0
import Derived.Test.YtkkebmciiiajeaaGreatDoorK7
import Derived.Test.YtkkebmciiiajeaaGreatDoorK11
set_option linter.unusedSimpArgs false
set_option linter.unusedVariables false
set_option maxHeartbeats 16000000
set_option maxRecDepth 100000
namespace Go.Bd
open Go.RowKit
theorem run_copy_rowN {P:Program} (w:World) (dT sT ty elem:TypeId) (g o dLen dCap:Nat) (a:Addr) (sLen sCap:Nat) (cur:Array Value) (t:TypeId) (cs:List Value) (sz m:Nat)
  (hu:P.underlying dT=some (.slice elem)) (hs:(P.info? elem).map (·.size)=some sz)
  (hg:w.heap[g]? = some (.cells cur t (0,0))) (hm:Nat.min sLen dLen=m) (hn:cs.length=m*sz)
  (hsrc:∀j v,cs[j]? = some v→w.cell? (a.add j)=some v) (hfit:o+cs.length≤cur.size) (h1:∀v∈cs,v.oneCell'=true) :
  (Builtin.copy_ #[dT,sT] ty #[.slice (some ⟨g,o,none⟩) dLen dCap,.slice (some a) sLen sCap]).run P w =
   .ok (goInt m) (w.setRow g (cur.toList.take o++cs++cur.toList.drop (o+cs.length)).toArray):=by
 have hl:=run_loadCells_list (P:=P) w a cs hsrc;rw[hn] at hl;have hst:=run_storeCells_at P g o t cs 0 cur w hg (by simpa using hfit) h1;cases hq:P.info? elem with
 | none=>simp[hq] at hs
 | some i =>
  have hi:i.size=sz:=by simpa [hq] using hs
  simp[Builtin.copy_,run_underlying hu,Builtin.lenOf,Builtin.firstCells,sizeOf,typeInfo,hq,hi,hm,hl,hst]
end Go.Bd
namespace Go.Proofs.YtkkebmciiiajeaaGreatDoor
open Go.RowKit Go.Bd Go.Lib
theorem at_size:(Tryz.prog.info? 47).map (·.size)=some 2:=by kernel_rfl
theorem at_sizeOf (w:World):(sizeOf 47).run Tryz.prog w=.ok 2 w:=by kernel_rfl
theorem own_open {w:World}{base sz n g c:Nat}{e:TypeId}{xs:List Value} (h:w.ownsRow base e sz (.slice (some ⟨g,0,none⟩) n c) n xs):∃cur,w.heap[g]? = some (.cells cur e (0,0))∧cur.size=c*sz∧cur.toList.take (n*sz)=xs∧n≤c∧c≤maxLen∧base≤g:=by
 obtain⟨_,⟨h2,_⟩|⟨g',cap,cur,h2,h3,h4,h5,h6,h7,h8⟩⟩:=h
 ·cases h2
 ·cases h2;exact⟨cur,h4,h7,h8,h5,h6,h3⟩
theorem own_shut {w:World}{base sz n g c:Nat}{e:TypeId}{xs:List Value}{cur:Array Value} (h1:w.heap[g]? = some (.cells cur e (0,0))) (h2:cur.size=c*sz) (h3:cur.toList.take (n*sz)=xs) (h4:n≤c) (h5:c≤maxLen) (h6:base≤g):w.ownsRow base e sz (.slice (some ⟨g,0,none⟩) n c) n xs:=by
 refine⟨?_,.inr ⟨g,c,cur,rfl,h6,h1,h4,h5,h2,h3⟩⟩;rw[←h3,List.length_take,Array.length_toList,h2];exact Nat.min_eq_left (Nat.mul_le_mul_right _ h4)
theorem setRow_chg (w:World) (g:Nat) (cs:Array Value):Chg w (w.setRow g cs) (fun k=>k=g):=⟨rfl,rfl,rfl,by simp[World.setRow],fun k hk hs=>setRow_other w g k _ hs⟩
theorem insert_room {w:World}{g n c i vb:Nat}{xs:List Value}{a b:ByteArray} (h:w.ownsRow 0 47 2 (.slice (some ⟨g,0,none⟩) n c) n xs) (h1:∀u∈xs,u.oneCell'=true) (hi:i<n) (hroom:n+1≤c) (hn:n≤1000000000) (hv:Holds w vb 47 #[.string a,.string b]) (hvg:vb≠g) :
  Calls Tryz.prog 106 #[.slice (some ⟨g,0,none⟩) n c,.int .i64 (i:Int),.slice (some ⟨vb,0,none⟩) 1 1] w fun e w'=>e=.returned (.slice (some ⟨g,0,none⟩) (n+1) c)∧w'.ownsRow 0 47 2 (.slice (some ⟨g,0,none⟩) (n+1) c) (n+1) (xs.take (i*2)++[.string a,.string b]++xs.drop (i*2))∧Chg w w' (fun k=>k=g):=by
 obtain⟨cur,e1,e2,e3,e4,e5,e6⟩:=own_open h;have hxl:xs.length=n*2:=h.1;have hov:∀lb cb,(callFunc 151 #[.slice (some ⟨vb,0,none⟩) 1 1,.slice (some ⟨g,(i+1)*2,none⟩) lb cb]).run Tryz.prog w=.ok (.value (.bool false)) w:=fun lb cb=>by
  rw[run_callFunc_extern (P:=Tryz.prog) Tryz.func151 (by kernel_rfl) (by kernel_rfl) (by kernel_rfl) (e:=Extern.SlicesOverlaps.overlaps #[23,23] #[4]) (by kernel_rfl),
   Lib.run_overlaps_apart w 23 4 47 ats_under 2 at_sizeOf ⟨vb,0,none⟩ ⟨g,(i+1)*2,none⟩ 1 1 lb cb hvg 47 47 2 (c*2) (by unfold World.shape?;rw[hv];rfl) (by unfold World.shape?;rw[e1];simp[e2]) (by omega) (hv.free 0) (hv.free 2)]
  rfl
 have hcs:∀(W:World),W.heap=w.heap→∀j v,(xs.drop (i*2))[j]? = some v→W.cell? ((⟨g,i*2,none⟩:Addr).add j)=some v:=fun W hW j v hj=>by
  rw[Addr.add_lit];unfold World.cell?;rw[hW,e1];rw[List.getElem?_drop,←e3] at hj;have hl:=(List.getElem?_eq_some_iff.1 hj).1;rw[List.getElem?_take_of_lt (by simp at hl;omega)] at hj;simpa using hj
 obtain⟨cur2,hcur2⟩:∃cur2:Array Value,(cur.toList.take ((i+1)*2)++xs.drop (i*2)++cur.toList.drop ((i+1)*2+(xs.drop (i*2)).length)).toArray=cur2:=⟨_,rfl⟩;have hcp1:∀(W:World),W.heap=w.heap→∀ty dc sc,(Builtin.copy_ #[23,23] ty #[.slice (some ⟨g,(i+1)*2,none⟩) (n-i) dc,.slice (some ⟨g,i*2,none⟩) (n+1-i) sc]).run Tryz.prog W=.ok (goInt ((n-i:Nat):Int)) (W.setRow g cur2):=fun W hW ty dc sc=>by
  rw[←hcur2];exact run_copy_rowN W _ _ ty 47 g ((i+1)*2) _ dc ⟨g,i*2,none⟩ _ sc cur 47 (xs.drop (i*2)) 2 (n-i) ats_under at_size (by rw[hW];exact e1) (by simp only[Nat.min_def];split<;>omega) (by rw[List.length_drop,hxl];omega) (hcs W hW) (by rw[List.length_drop,hxl,e2];omega) (fun v hv=>h1 v (List.mem_of_mem_drop hv))
 have hs2:cur2.size=c*2:=by
  rw[←hcur2];simp[hxl,e2];omega
 obtain⟨cur3,hcur3⟩:∃cur3:Array Value,(cur2.toList.take (i*2)++[Value.string a,Value.string b]++cur2.toList.drop (i*2+[Value.string a,Value.string b].length)).toArray=cur3:=⟨_,rfl⟩;have hcp2:∀(W:World),W.heap=(w.setRow g cur2).heap→∀ty dc,(Builtin.copy_ #[23,23] ty #[.slice (some ⟨g,i*2,none⟩) (n+1-i) dc,.slice (some ⟨vb,0,none⟩) 1 1]).run Tryz.prog W=.ok (goInt ((1:Nat):Int)) (W.setRow g cur3):=fun W hW ty dc=>by
  rw[←hcur3];refine run_copy_rowN W _ _ ty 47 g (i*2) _ dc ⟨vb,0,none⟩ _ 1 cur2 47 [.string a,.string b] 2 1 ats_under at_size (by rw[hW];exact setRow_heap w g cur cur2 _ _ e1) (by simp only[Nat.min_def];split<;>omega) rfl (fun j v hj=>?_) (by rw[hs2];simp;omega) (by simp[Value.oneCell']);rw[Addr.add_lit];unfold World.cell?;rw[hW,setRow_other w g vb _ hvg,hv];simpa using hj
 have hs3:cur3.size=c*2:=by
  rw[←hcur3];simp[hs2];omega
 have hfin:cur3.toList.take ((n+1)*2)=xs.take (i*2)++[.string a,.string b]++xs.drop (i*2):=by
  have t2:cur2.toList.take (i*2)=xs.take (i*2):=by
   rw[←hcur2,←e3];simp only[List.toList_toArray,List.append_assoc];rw[List.take_append_of_le_length (by simp[e2];omega),List.take_take,List.take_take,Nat.min_eq_left (by omega),Nat.min_eq_left (by omega)]
  have d2:cur2.toList.drop (i*2+2)=xs.drop (i*2)++cur.toList.drop ((i+1)*2+(xs.drop (i*2)).length):=by
   rw[←hcur2];simp only[List.toList_toArray,List.append_assoc];have hl:(cur.toList.take ((i+1)*2)).length=i*2+2:=by simp[e2];omega
   rw[←hl,List.drop_left]
  rw[←hcur3];simp only[List.toList_toArray,List.length_cons,List.length_nil];rw[t2,d2,←List.append_assoc,List.take_append_of_le_length (by simp[hxl];omega)]
  apply List.take_of_length_le
  simp[hxl];omega
 have hown:∀W:World,W.heap=((w.setRow g cur2).setRow g cur3).heap→W.ownsRow 0 47 2 (.slice (some ⟨g,0,none⟩) (n+1) c) (n+1) (xs.take (i*2)++[.string a,.string b]++xs.drop (i*2)):=fun W hW =>
  own_shut (by rw[hW];exact setRow_heap _ g cur2 cur3 _ _ (setRow_heap w g cur cur2 _ _ e1)) hs3 hfin hroom e5 (Nat.zero_le _)
 have HO:=Lib.hid hown;have HF:=hidH2 hcp1 hcp2;have hz2:¬((i:Int)=(n:Int)):=by omega
 have hw1:IntKind.i64.wrap ((i:Int)+1)=(i:Int)+1:=by rw[IntKind.wrap_i64];omega
 have hw2:IntKind.i64.wrap ((n:Int)+1)=(n:Int)+1:=by rw[IntKind.wrap_i64];omega
 have hb1:(0:Int)≤(i:Int)+1:=by omega
 have hb3:(i:Int)≤(n:Int):=by omega
 have hb4:(i:Int)+1≤(n:Int)+1:=by omega
 have hb6:(i:Int)≤(n:Int)+1:=by omega
 have htn:((i:Int)+1).toNat=i+1:=by omega
 have htm:((n:Int)+1).toNat=n+1:=by omega
 have hb2:¬(c=i+1):=by omega
 have hb5:¬(c=i):=by omega
 have hb7:¬((c:Int)<(n:Int)+1):=by omega
 have hb8:(n:Int)+1≤(c:Int):=by omega
 clear hcs hcp1 hcp2 hcur2 hcur3 hs2 hs3 hfin hown e1 e2 e3 e4 e5 e6 h;have mixed:Tryz.prog.follows Departure.mixedOrders=true:=by kernel_rfl
 go_enter Tryz.func106,Tryz.ntmps106
 go_wp2_with (simp only[hov])
 go_region_law_o (refine step_copy_runI rfl _ _ 23 23 rfl (.slice (some ⟨g,(i+1)*2,none⟩) (n-i) (c-(i+1))) (.slice (some ⟨g,i*2,none⟩) (n+1-i) (c-i)) (by simp[Act.eval,Act.put]) (by simp[Act.eval,Act.put]) (HF.out.1 w.drew rfl _ _ _) ?_)
 have hq:=HF.out.2 (w.drew.setRow g cur2) rfl 3 (c-i);go_wp2
 go_ret
 refine⟨rfl,HO.out _ rfl,?_⟩;exact (((setRow_chg w g cur2).drew).trans (setRow_chg _ g cur3) (fun _ _ h=>h))
theorem zeroA_len (k:Nat):(Builtin.zeroCells (Value.agg #[.string ⟨#[]⟩,.string ⟨#[]⟩]).cells k).size=k*2:=by
 rw[zeros_size];have:(Value.agg #[.string ⟨#[]⟩,.string ⟨#[]⟩]).cells.size=2:=by decide
 rw[this]
theorem insert_grow {w:World}{g n c i vb:Nat}{xs:List Value}{a b:ByteArray} (h:w.ownsRow 0 47 2 (.slice (some ⟨g,0,none⟩) n c) n xs) (h1:∀u∈xs,u.oneCell'=true) (hi:i<n) (hroom:c<n+1) (hn:n≤1000000000) (hv:Holds w vb 47 #[.string a,.string b]) :
  Calls Tryz.prog 106 #[.slice (some ⟨g,0,none⟩) n c,.int .i64 (i:Int),.slice (some ⟨vb,0,none⟩) 1 1] w fun e w'=>∃G,e=.returned (.slice (some ⟨w.heap.size,0,none⟩) (n+1) G)∧w'.ownsRow 0 47 2 (.slice (some ⟨w.heap.size,0,none⟩) (n+1) G) (n+1) (xs.take (i*2)++[.string a,.string b]++xs.drop (i*2))∧Below w.heap.size w w':=by
 obtain⟨i0,hi0,hz0,hz1,hz2⟩:=info_parts atA_info;obtain⟨cur,e1,e2,e3,e4,e5,e6⟩:=own_open h;have hxl:xs.length=n*2:=h.1;have hgl:g<w.heap.size:=(Array.getElem?_eq_some_iff.1 e1).1;have hvl:=hv.lt;have hcell:∀(W:World),W.heap[g]? = w.heap[g]?→∀j v,xs[j]? = some v→W.cell? ⟨g,j,none⟩=some v:=fun W hW j v hj=>by
  unfold World.cell?;rw[hW,e1];rw[←e3] at hj;have hl:=(List.getElem?_eq_some_iff.1 hj).1;rw[List.getElem?_take_of_lt (by simp at hl;omega)] at hj;simpa using hj
 have hold:(Builtin.firstCells i0.size i (.slice (some ⟨g,0,none⟩) i c)).run Tryz.prog w.drew=.ok (xs.take (i*2)).toArray w.drew:=by
  rw[hz1];exact run_firstCells_some w.drew 2 i ⟨g,0,none⟩ i c (xs.take (i*2)) (by rw[List.length_take,hxl];omega) (fun j v hj=>by
   rw[Addr.add_lit,Nat.zero_add];rw[List.getElem?_take] at hj;split at hj
   ·exact hcell _ rfl j v hj
   ·cases hj)
 have hrz:=Lib.run_append_grow_zeros (P:=Tryz.prog) w 23 3 23 47 i0 _ .i64 .i64 ats_under int_underA hi0 hz0 (some ⟨g,0,none⟩) i c (xs.take (i*2)) hold (n+1-i) (by omega) (by omega) (by omega) (by omega) (by rw[hz2];omega) (by rw[hz2,show i+(n+1-i)=n+1 by omega];exact growslice_fits hroom (by omega));rw[show i+(n+1-i)=n+1 by omega] at hrz;obtain⟨G,hG⟩:∃G,grownCap w (n+1) c 47=G:=⟨_,rfl⟩;have hGn:n+1≤G:=by rw[←hG];exact grownCap_ge w _ _ _
 have hG63:G≤maxLen:=by rw[←hG];exact grownCap_le_maxLen w (n+1) c _ (by unfold maxLen;omega)
 rw[hG] at hrz;obtain⟨ROW,hROW⟩:∃ROW:Array Value,(xs.take (i*2)).toArray++Builtin.zeroCells (Value.agg #[.string ⟨#[]⟩,.string ⟨#[]⟩]).cells (n+1-i)++Builtin.zeroCells (Value.agg #[.string ⟨#[]⟩,.string ⟨#[]⟩]).cells (G-(n+1))=ROW:=⟨_,rfl⟩;have hRs:ROW.size=G*2:=by
  rw[←hROW,Array.size_append,Array.size_append,zeroA_len,zeroA_len];simp[hxl];omega
 have hRt:ROW.toList.take (i*2)=xs.take (i*2):=by
  rw[←hROW];simp only[Array.toList_append,List.append_assoc];rw[List.take_append_of_le_length (by simp[hxl];omega)]
  first|(rw[List.take_take,Nat.min_self];done)|exact List.take_of_length_le (by simp[hxl];omega)|simp
 rw[hROW] at hrz;obtain⟨W1,hW1⟩:∃W1,w.drew.alloc (.cells ROW 47)=W1:=⟨_,rfl⟩;have hB1:Below w.heap.size w W1:=by rw[←hW1];exact (((Chg.refl w (fun _=>False)).drew).alloc _).toBelow (Nat.le_refl _) (fun _ h=>h.elim)
 have hH1:W1.heap[w.heap.size]? = some (.cells ROW 47 (0,0)):=by rw[←hW1];exact heap_alloc_new w.drew _
 rw[hW1] at hrz;obtain⟨N,hN⟩:∃N,w.heap.size=N:=⟨_,rfl⟩;rw[hN] at hrz hH1 hB1 hgl hvl ⊢;obtain⟨R2,hR2⟩:∃R2:Array Value,(ROW.toList.take (i*2)++[Value.string a,Value.string b]++ROW.toList.drop (i*2+[Value.string a,Value.string b].length)).toArray=R2:=⟨_,rfl⟩;have hcpA:∀ty dc,(Builtin.copy_ #[23,23] ty #[.slice (some ⟨N,i*2,none⟩) (n+1-i) dc,.slice (some ⟨vb,0,none⟩) 1 1]).run Tryz.prog W1=.ok (goInt ((1:Nat):Int)) (W1.setRow N R2):=fun ty dc=>by
  rw[←hR2];refine run_copy_rowN W1 _ _ ty 47 N (i*2) _ dc ⟨vb,0,none⟩ _ 1 ROW 47 [.string a,.string b] 2 1 ats_under at_size hH1 (by simp only[Nat.min_def];split<;>omega) rfl (fun j v hj=>?_) (by rw[hRs];simp;omega) (by simp[Value.oneCell']);rw[Addr.add_lit];refine (hB1.cell (p:=⟨vb,0+j,none⟩) hvl).trans ?_;rw[hv.cell];simpa using hj
 have hs2:R2.size=G*2:=by
  rw[←hR2];simp[hRs];omega
 have hH2:∀W:World,W.heap=(W1.setRow N R2).heap→W.heap[N]? = some (.cells R2 47 (0,0)):=fun W hW=>by rw[hW];exact setRow_heap W1 N ROW R2 _ _ hH1
 obtain⟨R3,hR3⟩:∃R3:Array Value,(R2.toList.take ((i+1)*2)++xs.drop (i*2)++R2.toList.drop ((i+1)*2+(xs.drop (i*2)).length)).toArray=R3:=⟨_,rfl⟩;have hcpB:∀(W:World),W.heap=(W1.setRow N R2).heap→∀ty dc sc,(Builtin.copy_ #[23,23] ty #[.slice (some ⟨N,(i+1)*2,none⟩) (n-i) dc,.slice (some ⟨g,i*2,none⟩) (n-i) sc]).run Tryz.prog W=.ok (goInt ((n-i:Nat):Int)) (W.setRow N R3):=fun W hW ty dc sc=>by
  rw[←hR3];refine run_copy_rowN W _ _ ty 47 N ((i+1)*2) _ dc ⟨g,i*2,none⟩ _ sc R2 47 (xs.drop (i*2)) 2 (n-i) ats_under at_size (hH2 W hW) (by simp only[Nat.min_def];split<;>omega) (by rw[List.length_drop,hxl];omega) (fun j v hj=>?_) (by rw[List.length_drop,hxl,hs2];omega) (fun v hv=>h1 v (List.mem_of_mem_drop hv));rw[Addr.add_lit];rw[List.getElem?_drop] at hj;exact hcell W (by rw[hW,setRow_other W1 N g _ (by omega)];exact hB1.block g hgl) _ v hj
 have hs3:R3.size=G*2:=by
  rw[←hR3];simp[hs2,hxl];omega
 have hfin:R3.toList.take ((n+1)*2)=xs.take (i*2)++[.string a,.string b]++xs.drop (i*2):=by
  have t2:R2.toList.take ((i+1)*2)=xs.take (i*2)++[.string a,.string b]:=by
   rw[←hR2];simp only[List.toList_toArray,List.append_assoc];rw[hRt,←List.append_assoc,List.take_append_of_le_length (by simp[hxl];omega)]
   apply List.take_of_length_le
   simp[hxl];omega
  rw[←hR3];simp only[List.toList_toArray];rw[t2,List.take_append_of_le_length (by simp[hxl];omega)]
  apply List.take_of_length_le
  simp[hxl];omega
 have hown:∀W:World,W.heap=((W1.setRow N R2).setRow N R3).heap→W.ownsRow 0 47 2 (.slice (some ⟨N,0,none⟩) (n+1) G) (n+1) (xs.take (i*2)++[.string a,.string b]++xs.drop (i*2)):=fun W hW =>
  own_shut (by rw[hW];exact setRow_heap _ N R2 R3 _ _ (hH2 _ rfl)) hs3 hfin hGn hG63 (Nat.zero_le _)
 have hbel:Below N w (((W1.setRow N R2).drew).setRow N R3):=by
  have hc:=(((setRow_chg W1 N R2).drew).trans (setRow_chg _ N R3) (fun _ _ h=>h));exact hB1.trans (hc.toBelow (by have:=hB1.size;omega) (fun k hk=>Nat.le_of_eq hk.symm))
 have HO:=hidH2 hown hbel;have HF:=hidH3 hrz hcpA hcpB;have hz2:¬((i:Int)=(n:Int)):=by omega
 have hw1:IntKind.i64.wrap ((i:Int)+1)=(i:Int)+1:=by rw[IntKind.wrap_i64];omega
 have hw2:IntKind.i64.wrap ((n:Int)+1)=(n:Int)+1:=by rw[IntKind.wrap_i64];omega
 have hw3:IntKind.i64.wrap ((n:Int)+1-(i:Int))=((n+1-i:Nat):Int):=by rw[IntKind.wrap_i64];omega
 have hb1:(0:Int)≤(i:Int)+1:=by omega
 have hb3:(i:Int)≤(n:Int):=by omega
 have hb4:(i:Int)+1≤(n:Int)+1:=by omega
 have hb6:(i:Int)≤(n:Int)+1:=by omega
 have htn:((i:Int)+1).toNat=i+1:=by omega
 have hci:¬(c=i):=by omega
 have hGi:¬(G=i):=by omega
 have hGim:¬(G=i+1):=by omega
 have hb7:(c:Int)<(n:Int)+1:=by omega
 have hbc:(i:Int)≤(c:Int):=by omega
 have mixed:Tryz.prog.follows Departure.mixedOrders=true:=by kernel_rfl
 clear hcell hold hrz hROW hRs hRt hW1 hB1 hH1 hR2 hcpA hs2 hH2 hR3 hcpB hs3 hfin hown hbel e1 e2 e3 e4 e5 e6 h hi0 hz0 hz1 hG hGn
 go_enter Tryz.func106,Tryz.ntmps106
 have hq1:=HF.out.2.1 3 (G-i)
 go_wp2_with (at_builtin;refine Lib.wpList_append_run _ rfl _ _ _ _ rfl _ _ rfl rfl _ _ HF.out.1 ?_)
 go_region_law_o (refine step_copy_runI rfl _ _ 23 23 rfl (.slice (some ⟨N,(i+1)*2,none⟩) (n-i) (G-(i+1))) (.slice (some ⟨g,i*2,none⟩) (n-i) (c-i)) (by simp[Act.eval,Act.put]) (by simp[Act.eval,Act.put]) (HF.out.2.2 ((W1.setRow N R2).drew) rfl _ _ _) ?_)
 go_wp2
 go_ret
 exact⟨G,rfl,HO.out.1 _ rfl,HO.out.2⟩
theorem insert_end {w:World}{n c vb:Nat}{A:Option Addr}{xs:List Value}{a b:ByteArray} (h:w.ownsRow 0 47 2 (.slice A n c) n xs) (hn:n≤1000000000) (hv:Holds w vb 47 #[.string a,.string b]) :
  Calls Tryz.prog 106 #[.slice A n c,.int .i64 (n:Int),.slice (some ⟨vb,0,none⟩) 1 1] w fun e w'=>∃g cap,e=.returned (.slice (some ⟨g,0,none⟩) (n+1) cap)∧w'.ownsRow 0 47 2 (.slice (some ⟨g,0,none⟩) (n+1) cap) (n+1) (xs++[.string a,.string b])∧Chg w w' (fun k=>(Value.slice A n c).ownBlock=some k)∧((Value.slice A n c).ownBlock=some g∨w.heap.size≤g)∧g<w'.heap.size:=by
 obtain⟨i0,hi0,hz0,hz1,hz2⟩:=info_parts atA_info;have hnc:n≤c:=by obtain⟨_,_,h1,h2⟩:=own_rowL h;cases h1;exact h2
 have HI:=hidH4 hi0 hz0 hz1 hz2;have HH:=hidH2 h hv;have hnn:¬((c:Int)<(n:Int)):=by omega
 clear hi0 hz0 hz1 hz2 h hv;cases A with
 | none =>
  have hz:n=0∧c=0:=by
   rcases HH.out.1.2 with ⟨h1,h2⟩|⟨g,cap,cur,h1,_⟩
   ·cases h1;exact⟨rfl,rfl⟩
   ·cases h1
  obtain⟨rfl,rfl⟩:=hz
  go_enter Tryz.func106,Tryz.ntmps106
  go_wp2_with (at_builtin;refine wpList_append_lies _ rfl _ _ 23 rfl 0 47 i0 _ 2 32 ats_under HI.out.1 HI.out.2.1 HI.out.2.2.1 HI.out.2.2.2 rfl (by omega) _ 0 xs rfl HH.out.1 ⟨vb,0,none⟩ 1 1 [.string a,.string b] rfl rfl (fun j u hu=>by rw[addr_add,HH.out.2.cell];simpa using hu) (by simp[Value.oneCell']) (by omega) (by decide) (by decide) (Nat.zero_le _) _ rfl ?_;intro g2 k2 w2 ho2 hg2 hat2 hl2)
  go_ret
  exact⟨g2,k2,rfl,ho2,(Chg.grown hg2).mono (fun k _ hk=>hk.symm),by rcases hat2 with h|h;exact .inl h;exact .inr (by omega),hl2⟩
 | some ad =>
  go_enter Tryz.func106,Tryz.ntmps106
  go_wp2_with (at_builtin;refine wpList_append_lies _ rfl _ _ 23 rfl 0 47 i0 _ 2 32 ats_under HI.out.1 HI.out.2.1 HI.out.2.2.1 HI.out.2.2.2 rfl (by omega) _ n xs rfl HH.out.1 ⟨vb,0,none⟩ 1 1 [.string a,.string b] rfl rfl (fun j u hu=>by rw[addr_add,HH.out.2.cell];simpa using hu) (by simp[Value.oneCell']) (by omega) (by unfold maxLen;omega) (by omega) (Nat.zero_le _) _ rfl ?_;intro g2 k2 w2 ho2 hg2 hat2 hl2)
  all_goals
   go_ret
   exact⟨g2,k2,rfl,ho2,(Chg.grown hg2).mono (fun k _ hk=>hk.symm),by rcases hat2 with h|h;exact .inl h;exact .inr (by omega),hl2⟩
theorem insertA_any {w:World}{n i vb:Nat}{v:Value}{xs:List Value}{a b:ByteArray} (h:w.ownsRow 0 47 2 v n xs) (h1:∀u∈xs,u.oneCell'=true) (hi:i≤n) (hn:n≤1000000000) (hv:Holds w vb 47 #[.string a,.string b]) (hvg:v.ownBlock≠some vb) :
  Calls Tryz.prog 106 #[v,.int .i64 (i:Int),.slice (some ⟨vb,0,none⟩) 1 1] w fun e w'=>∃g cap,e=.returned (.slice (some ⟨g,0,none⟩) (n+1) cap)∧w'.ownsRow 0 47 2 (.slice (some ⟨g,0,none⟩) (n+1) cap) (n+1) (xs.take (i*2)++[.string a,.string b]++xs.drop (i*2))∧Chg w w' (fun k=>v.ownBlock=some k)∧(v.ownBlock=some g∨w.heap.size≤g)∧g<w'.heap.size:=by
 have hxl:xs.length=n*2:=h.1
 by_cases hin:i=n
 ·subst hin;obtain⟨A,c,rfl,_⟩:=own_rowL h;refine (insert_end h hn hv).mono ?_;rintro e w' ⟨g,cap,rfl,h2,h3,h4,h5⟩;refine⟨g,cap,rfl,?_,h3,h4,h5⟩;rw[List.take_of_length_le (by omega),List.drop_of_length_le (by omega),List.append_nil];exact h2
 ·obtain⟨g,c,rfl,hc,_,hgl,_⟩:=own_rowN h (by omega)
  by_cases hroom:n+1≤c
  ·refine (insert_room h h1 (by omega) hroom hn hv (fun e=>hvg (by rw[e];rfl))).mono ?_;rintro e w' ⟨rfl,h2,h3⟩;exact⟨g,c,rfl,h2,h3.mono (fun k _ hk=>by rw[show k=g from hk];rfl),.inl rfl,Nat.lt_of_lt_of_le hgl h3.size⟩
  ·refine (insert_grow h h1 (by omega) (by omega) hn hv).mono ?_;rintro e w' ⟨G,rfl,h2,h3⟩;refine⟨w.heap.size,G,rfl,h2,(Chg.below h3 _),.inr (Nat.le_refl _),?_⟩;obtain⟨_,_,hh,_,_,hlt,_⟩:=own_rowN h2 (by omega);cases hh
   exact hlt
end Go.Proofs.YtkkebmciiiajeaaGreatDoor
namespace Go.Bd
open Go.RowKit
theorem run_append_fit {P:Program} (w:World) (t ty e:TypeId) (i:TypeInfo) (sz g n c:Nat) (A:Option Addr) (m cc:Nat) (cur:Array Value) (news:List Value) (ht:P.underlying t=some (.slice e)) (hi:P.info? e=some i) (hs:i.size=sz)
  (hg:w.heap[g]? = some (.cells cur e (0,0))) (hfit:n+m≤c) (hcs:cur.size=c*sz) (hl:news.length=m*sz) (hsrc:∀j v,news[j]? = some v→∃ad,A=some ad∧w.cell? (ad.add j)=some v) (h1:∀v∈news,v.oneCell'=true) :
  (Builtin.append_ #[t,t] ty #[.slice (some ⟨g,0,none⟩) n c,.slice A m cc]).run P w=.ok (.slice (some ⟨g,0,none⟩) (n+m) c) (w.setRow g (cur.toList.take (n*sz)++news++cur.toList.drop (n*sz+news.length)).toArray):=by
 have hload:(Builtin.firstCells sz m (.slice A m cc)).run P w=.ok news.toArray w:=by
  cases A with
  | none =>
   have:news=[]:=by
    cases news with
    | nil=>rfl
    | cons x l=>obtain⟨ad,h,_⟩:=hsrc 0 x rfl;cases h
   rw[this];rfl
  | some ad =>
   have:=run_loadCells_list (P:=P) w ad news (fun j v hj=>by obtain⟨a',h,h2⟩:=hsrc j v hj;cases h;exact h2)
   rw[hl] at this;exact this
 have hle:n*sz+m*sz≤c*sz:=by rw[←Nat.add_mul];exact Nat.mul_le_mul_right _ hfit
 have hst:=run_storeCells_at P g (n*sz) e news 0 cur w hg (by rw[hcs,hl];simpa using hle) h1;have hadd:(⟨g,0,none⟩:Addr).add (n*sz)=⟨g,n*sz,none⟩:=addr_add g (n*sz);simp[Builtin.append_,run_underlying ht,sizeOf,typeInfo,hi,hs,Builtin.lenOf,hfit,hload,hadd,hst]
theorem step_append_runI {P:Program}{ops:Array Oper}{o:Oper}{a:Act}{w:World}{K:Act→World→Prop}{Q:Exit→Act→World→Prop}{E:Prop}
  (hg:o.guard=none) (d x:Operand) (dT sT:TypeId) (hop:o.op=Op.call { callee:=Callee.builtin Builtin.append,args:=#[d,x],argTypes:=#[dT,sT] })
  (v u:Value) (hd:a.eval d=v) (hx:a.eval x=u) {v':Value} {w':World} (hr:(Builtin.append_ #[dT,sT] o.type #[v,u]).run P w=.ok v' w') (hK:K (a.put o.dst v') w') :
  if Region.wanted o (yielded ops a.tmps)=true then Oper.wp P o a w K Q else E:=by
 have hw:Region.wanted o (yielded ops a.tmps)=true:=by simp[Region.wanted,hg]
 rw[if_pos hw];unfold Oper.wp;simp[execOp,hop,resolve,invoke,builtin,hd,hx,hr,Result.andThen];exact hK
end Go.Bd
namespace Go.Proofs.YtkkebmciiiajeaaGreatDoor
open Go.RowKit Go.Bd Go.Lib
theorem atA_zero (w:World):(zeroValue 47).run Tryz.prog w=.ok (.agg #[.string ⟨#[]⟩,.string ⟨#[]⟩]) w:=by kernel_rfl
theorem run_clear1 (w:World) (ty:TypeId) (g n c:Nat) (cur:Array Value) (hg:w.heap[g]? = some (.cells cur 47 (0,0))) (hfit:(n+1)*2≤cur.size) :
  ∃cur':Array Value,(Builtin.clear_ #[23] ty #[.slice (some ⟨g,n*2,none⟩) 1 c]).run Tryz.prog w=.ok (.tuple #[]) (w.setRow g cur')∧cur'.size=cur.size∧cur'.toList.take (n*2)=cur.toList.take (n*2):=by
 have hz:(Builtin.zeroCells (Value.agg #[.string ⟨#[]⟩,.string ⟨#[]⟩]).cells 1).toList=[.string ⟨#[]⟩,.string ⟨#[]⟩]:=by
  first|rfl|kernel_rfl
 have hst:=run_storeCells_at Tryz.prog g (n*2) 47 [.string ⟨#[]⟩,.string ⟨#[]⟩] 0 cur w hg (by simp;omega) (by simp[Value.oneCell']);refine⟨(cur.toList.take (n*2+0)++[Value.string ⟨#[]⟩,Value.string ⟨#[]⟩]++cur.toList.drop (n*2+0+[Value.string ⟨#[]⟩,Value.string ⟨#[]⟩].length)).toArray,?_,?_,?_⟩
 ·have hst':=hst;simp at hst';simp[Builtin.clear_,run_underlying ats_under,atA_zero,hz,hst']
 ·simp;omega
 ·simp only[List.toList_toArray,Nat.add_zero,List.append_assoc];rw[List.take_append_of_le_length (by simp;omega),List.take_take,Nat.min_self]
theorem delete_any {w:World}{n i:Nat}{v:Value}{xs:List Value} (h:w.ownsRow 0 47 2 v n xs) (h1:∀u∈xs,u.oneCell'=true) (hi:i<n) (hn:n≤1000000000) :
  Calls Tryz.prog 108 #[v,.int .i64 (i:Int),.int .i64 ((i:Int)+1)] w fun e w'=>∃v',e=.returned v'∧v'.ownBlock=v.ownBlock∧w'.ownsRow 0 47 2 v' (n-1) (xs.take (i*2)++xs.drop ((i+1)*2))∧Chg w w' (fun k=>v.ownBlock=some k):=by
 obtain⟨g,c,rfl,hc,hcm,hgl,_⟩:=own_rowN h (by omega);obtain⟨cur,e1,e2,e3,e4,e5,e6⟩:=own_open h;obtain⟨i0,hi0,hz0,hz1,hz2⟩:=info_parts atA_info;have hxl:xs.length=n*2:=h.1;have hcell:∀(W:World),W.heap=w.heap→∀j v,xs[j]? = some v→W.cell? ⟨g,j,none⟩=some v:=fun W hW j v hj=>by
  unfold World.cell?;rw[hW,e1];rw[←e3] at hj;have hl:=(List.getElem?_eq_some_iff.1 hj).1;rw[List.getElem?_take_of_lt (by simp at hl;omega)] at hj;simpa using hj
 obtain⟨A,hA,hsrc⟩:∃A:Addr,(if c=i+1 then some (⟨g,0,none⟩:Addr) else some ⟨g,(i+1)*2,none⟩)=some A∧Hid (∀(W:World),W.heap=w.heap→∀t u,(xs.drop ((i+1)*2))[t]? = some u→∃ad,(some A:Option Addr)=some ad∧W.cell? (ad.add t)=some u):=by
  by_cases hci:c=i+1
  ·refine⟨⟨g,0,none⟩,by simp[hci],Lib.hid fun W hW t u hu=>?_⟩;rw[List.drop_of_length_le (by omega)] at hu;simp at hu
  ·refine⟨⟨g,(i+1)*2,none⟩,by simp[hci],Lib.hid fun W hW t u hu=>⟨_,rfl,?_⟩⟩;rw[List.getElem?_drop] at hu;rw[Addr.add_lit];exact hcell W hW _ u hu
 obtain⟨cur2,hcur2⟩:∃cur2:Array Value,(cur.toList.take (i*2)++xs.drop ((i+1)*2)++cur.toList.drop (i*2+(xs.drop ((i+1)*2)).length)).toArray=cur2:=⟨_,rfl⟩;have hap:∀(W:World),W.heap=w.heap→∀ty cc,(Builtin.append_ #[23,23] ty #[.slice (some ⟨g,0,none⟩) i c,.slice (some A) (n-(i+1)) cc]).run Tryz.prog W=.ok (.slice (some ⟨g,0,none⟩) (n-1) c) (W.setRow g cur2):=fun W hW ty cc=>by
  rw[←hcur2,show n-1=i+(n-(i+1)) by omega];exact run_append_fit W _ ty 47 i0 2 g i c (some A) (n-(i+1)) cc cur (xs.drop ((i+1)*2)) ats_under hi0 hz1 (by rw[hW];exact e1) (by omega) e2 (by rw[List.length_drop,hxl];omega) (hsrc.out W hW) (fun v hv=>h1 v (List.mem_of_mem_drop hv))
 have hs2:cur2.size=c*2:=by
  rw[←hcur2];simp[hxl,e2];omega
 have hfin:cur2.toList.take ((n-1)*2)=xs.take (i*2)++xs.drop ((i+1)*2):=by
  have t0:cur.toList.take (i*2)=xs.take (i*2):=by
   rw[←e3,List.take_take,Nat.min_eq_left (by omega)]
  rw[←hcur2];simp only[List.toList_toArray];rw[t0,List.take_append_of_le_length (by simp[hxl];omega)]
  apply List.take_of_length_le
  simp[hxl];omega
 have hH2:∀W:World,W.heap=w.heap→(W.setRow g cur2).heap[g]? = some (.cells cur2 47 (0,0)):=fun W hW=>setRow_heap W g cur cur2 _ _ (by rw[hW];exact e1)
 have hcl:∀ty,∃cur3:Array Value,(Builtin.clear_ #[23] ty #[.slice (some ⟨g,(n-1)*2,none⟩) 1 (c-(n-1))]).run Tryz.prog (w.drew.setRow g cur2)=.ok (.tuple #[]) ((w.drew.setRow g cur2).setRow g cur3)∧cur3.size=cur2.size∧cur3.toList.take ((n-1)*2)=cur2.toList.take ((n-1)*2):=fun ty=>run_clear1 (w.drew.setRow g cur2) ty g (n-1) (c-(n-1)) cur2 (hH2 w.drew rfl) (by rw[hs2];omega)
 obtain⟨cur3,q1,q2,q3⟩:=hcl 0;have q1':∀ty,(Builtin.clear_ #[23] ty #[.slice (some ⟨g,(n-1)*2,none⟩) 1 (c-(n-1))]).run Tryz.prog (w.drew.setRow g cur2)=.ok (.tuple #[]) ((w.drew.setRow g cur2).setRow g cur3):=fun ty=>by rw[←q1];rfl
 have hown:((w.drew.setRow g cur2).setRow g cur3).ownsRow 0 47 2 (.slice (some ⟨g,0,none⟩) (n-1) c) (n-1) (xs.take (i*2)++xs.drop ((i+1)*2)) :=
  own_shut (setRow_heap _ g cur2 cur3 _ _ (hH2 w.drew rfl)) (q2.trans hs2) (q3.trans hfin) (by omega) hcm (Nat.zero_le _)
 have hchg:Chg w ((w.drew.setRow g cur2).setRow g cur3) (fun k=>(Value.slice (some ⟨g,0,none⟩) n c).ownBlock=some k):=(((((Chg.refl w (fun k=>k=g)).drew).trans (setRow_chg _ g cur2) (fun _ _ h=>h)).trans (setRow_chg _ g cur3) (fun _ _ h=>h))).mono (fun k _ hk=>by rw[show k=g from hk];rfl);have HO:=hidH2 hown hchg;have HF:=hidH2 hap q1';have hw1:IntKind.i64.wrap ((i:Int)+1)=(i:Int)+1:=by rw[IntKind.wrap_i64];omega
 have hz2:¬((i:Int)=(i:Int)+1):=by omega
 have hb1:(0:Int)≤(i:Int)+1:=by omega
 have hb2:(i:Int)≤(i:Int)+1:=by omega
 have hb3:(i:Int)+1≤(n:Int):=by omega
 have hb4:(n:Int)≤(c:Int):=by omega
 have hb5:(i:Int)≤(c:Int):=by omega
 have htn:((i:Int)+1).toNat=i+1:=by omega
 have hnc:¬(c=n-1):=by omega
 have hnn:n-(n-1)=1:=by omega
 have hcast:((n-1:Nat):Int)≤(n:Int):=by omega
 have mixed:Tryz.prog.follows Departure.mixedOrders=true:=by kernel_rfl
 clear hcell hsrc hcur2 hap hs2 hfin hH2 hcl q1 q1' q2 q3 hown hchg e1 e2 e3 e4 e5 e6 h hi0 hz0 hz1
 go_enter Tryz.func108,Tryz.ntmps108
 go_wp2_with fail
 go_region_law_o (refine step_append_runI rfl _ _ 23 23 rfl (.slice (some ⟨g,0,none⟩) i c) (.slice (some A) (n-(i+1)) (c-(i+1))) (by simp[Act.eval,Act.put]) (by simp[Act.eval,Act.put,hA]) (HF.out.1 w.drew rfl _ _) ?_)
 have hq:=HF.out.2 0;go_wp2
 go_ret
 exact⟨_,rfl,rfl,HO.out.1,HO.out.2⟩
theorem cloneA_any (l:List At) (S:Nat→Prop) (v:Value) (w:World) (hv:AtS w S v l) (hS:∀k,S k→k<w.heap.size) (hl:l.length≤1000000000) :
  Calls Tryz.prog 33 #[v] w fun e w'=>∃v',e=.returned v'∧w'.ownsRow w.heap.size 47 2 v' l.length (rowAt l)∧Below w.heap.size w w':=by
 obtain⟨i0,hi,hz0,hz1,hz2⟩:=info_parts atA_info;have hne:∀(w:World) (a:Option Addr) (n c n' c':Nat),(binOp .eql 23 (.slice a n c) (.slice none n' c')).run Tryz.prog w=.ok (.bool a.isNone) w:=fun w a n c n' c'=>Lib.run_eql_slice_nil w _ _ a n c n' c' ats_under
 obtain⟨A,c,rfl,hc,h1⟩:=hv;rw[List.length_map] at hc ⊢;cases A with
 | none =>
  have hl0:l=[]:=by
   cases l with
   | nil=>rfl
   | cons a l=>obtain⟨b,off,h2,_⟩:=h1 0 (atP a) rfl;cases h2
  subst hl0;clear h1
  go_enter Tryz.func33,Tryz.ntmps33
  go_wp2
  go_ret
  exact⟨_,rfl,World.ownsRow_nil _ _ _ _,Below.refl _ _⟩
 | some ad =>
  have hnews:∀(j:Nat) u,(rowAt l)[j]? = some u→(w.alloc (.cells #[] 47)).cell? (ad.add j)=some u:=fun j u hu=>by
   have hj:=(List.getElem?_eq_some_iff.1 hu).1;have hll:=rowAt_len l;obtain⟨f,hf⟩:∃f,l[j / 2]? = some f:=⟨_,List.getElem?_eq_getElem (by omega)⟩;obtain⟨b,off,h2,h3,h4,h5⟩:=h1 (j / 2) (atP f) (by rw[List.getElem?_map,hf];rfl);have k1:=flat_get atCells 2 (fun _=>rfl) (i:=0) (u:=.string f.name) hf rfl;have k2:=flat_get atCells 2 (fun _=>rfl) (i:=1) (u:=.string f.value) hf rfl;injection h2 with h2
   subst h2;rw[Addr.add_lit];unfold rowAt at hu
   rcases Nat.mod_two_eq_zero_or_one j with hm|hm
   ·have e:j / 2*2=j:=by omega
    rw[e] at h4;rw[e,Nat.add_zero] at k1;rw[k1] at hu;injection hu with hu
    subst hu;exact ((Below.refl w.heap.size w).alloc (Nat.le_refl _) _).cell (p:=⟨b,off+j,none⟩) (hS b h3) |>.trans h4
   ·have e:j / 2*2+1=j:=by omega
    rw[Nat.add_assoc,e] at h5;rw[e] at k2;rw[k2] at hu;injection hu with hu
    subst hu;exact ((Below.refl w.heap.size w).alloc (Nat.le_refl _) _).cell (p:=⟨b,off+j,none⟩) (hS b h3) |>.trans h5
  have HN:=Lib.hid hnews;clear h1 hnews;obtain⟨n,hn⟩:∃n,l.length=n:=⟨_,rfl⟩;rw[hn] at hl hc ⊢;have HL:=Lib.hid hn;clear hn
  go_enter Tryz.func33,Tryz.ntmps33
  go_wp2_with (at_builtin;refine wpList_append_own _ rfl _ _ 23 rfl w.heap.size 47 i0 _ 2 32 ats_under hi hz0 hz1 hz2 rfl (by decide) _ _ _ rfl (World.ownsRow_made w #[] 0 (Nat.le_refl _) (Nat.zero_le _) (by simp)) ad n c (rowAt l) rfl (by rw[rowAt_len,HL.out]) HN.out (fun u hu=>by unfold rowAt atCells at hu;obtain⟨s,_,hs⟩:=List.mem_flatMap.1 hu;rcases List.mem_cons.1 hs with rfl|hs;rfl;rw[List.mem_singleton.1 hs];rfl) (by simp only[maxLen];omega) (by omega) (by simp) ?_)
  intro v' w1 ho hg hnn;go_wp2
  go_ret
  refine⟨_,rfl,?_,((Below.refl _ w).alloc (Nat.le_refl _) _).grown hg (by simp) (fun k e=>by cases e;exact Nat.le_refl _)⟩;simpa using ho
end Go.Proofs.YtkkebmciiiajeaaGreatDoor
namespace Go.Bd
open Go.RowKit
def askedV (o:Option Bs):Value:=match o with|none=>.tuple #[.string ⟨#[]⟩,.bool false]|some a=>.tuple #[.string (ofB a),.bool true]
theorem ofB_lst (s:ByteArray):ofB s.data.toList=s:=by unfold ofB;cases s;simp
theorem ext_lst (s:ByteArray) (a b:Nat):(s.extract a b).data.toList=(s.data.toList.take b).drop a:=by
 rw[List.drop_take];simp[ByteArray.data_extract]
theorem asked_head {s:Bs} (h:s.headD 0≠123):askedB s=none:=by
 cases s with
 | nil=>rfl
 | cons c l =>
  have hc:c≠123:=h;unfold askedB;split
  ·rename_i h1;cases h1;exact absurd rfl hc
  ·rfl
theorem asked_cut {l:Bs}:askedB (123::l)=match cutB 125 (l.take 61) with|some (a,_)=>if nameB a then some a else none|none=>none:=rfl
end Go.Bd
namespace Go.Proofs.YtkkebmciiiajeaaGreatDoor
open Go.RowKit Go.Bd
theorem asked_any (s:ByteArray) (w:World) (hs:s.size≤1000000000) :
  Calls Tryz.prog 189 #[.string s] w fun e w'=>e=.returned (askedV (askedB s.data.toList))∧w=w':=by
 by_cases h0:s.size=0
 ·have hl:s.data.toList=[]:=List.length_eq_zero_iff.1 (by rw[size_lst];exact h0);have hs0:s=⟨#[]⟩:=by rw[←ofB_lst s,hl];rfl
  subst hs0
  go_enter Tryz.func189,Tryz.ntmps189
  go_wp2_with fail
  go_ret2
  exact⟨rfl,rfl⟩
 have hne:¬s=⟨#[]⟩:=fun e=>h0 (by rw[e];rfl)
 have hE:s.toList.isEmpty=false:=by
  rw[Lib.toList_data,List.isEmpty_eq_false_iff];intro e
  apply h0
  rw[←size_lst,e];rfl
 have h1:0<s.size:=by omega
 by_cases hb:s[0].toNat=123
 ·obtain⟨l,hl⟩:∃l,s.data.toList=123::l:=by
   have:=headD_get s h1
   cases hs:s.data.toList with
   | nil=>rw[←size_lst,hs] at h1;simp at h1
   | cons c l =>
    rw[hs] at this;have e:c=123:=by rw[show c=s[0] from this];exact UInt8.toNat_inj.1 hb
    exact⟨l,by rw[e]⟩
  have hll:l.length+1=s.size:=by rw[←size_lst,hl];rfl
  obtain⟨m,hm⟩:∃m:Nat,(if s.size≤62 then s.size else 62)=m:=⟨_,rfl⟩;have hm1:1≤m∧m≤s.size∧m≤62:=by subst hm;split<;>omega
  obtain⟨t,ht⟩:∃t,s.extract 1 m=t:=⟨_,rfl⟩;have htl:t.data.toList=l.take 61:=by
   rw[←ht,ext_lst,hl];subst hm;split
   ·rw[List.take_of_length_le (by rw[List.length_cons];omega),List.take_of_length_le (by omega)];rfl
   ·rfl
  have hts:t.size≤61:=by rw[←size_lst,htl,List.length_take];omega
  have hix:=Tryz.strings_IndexByte t 125 w;rw[htl] at hix;have e125:(125:Int).toNat.toUInt8=125:=by decide
  rw[e125,←Lib.index_one] at hix;rw[hl,asked_cut];have hbi:((s[0].toNat:Int)=123):=by omega
  have hmn:(min (s.size:Int) 62)=(m:Int):=by
   subst hm;split<;>omega
  have HT:=Lib.hid ht
  rcases index_cut 125 (l.take 61) with ⟨hi,hcut⟩|⟨k,hi,hcut⟩
  ·rw[hcut];rw[hi] at hix;have HX:=Lib.hid hix;clear hix hl hll htl hcut hi ht
   go_enter Tryz.func189,Tryz.ntmps189
   go_wp2_with fail
   rw[HT.out];refine HX.out.mono ?_;rintro e w2 ⟨rfl,rfl⟩
   go_wp2_with fail
   go_ret2
   exact⟨rfl,rfl⟩
  ·rw[hcut];rw[hi] at hix;have hkt:k≤t.size:=by
    have:=Lib.index_le (l.take 61) [125]
    rw[hi] at this;rw[←size_lst,htl];omega
   obtain⟨u,hu⟩:∃u,t.extract 0 k=u:=⟨_,rfl⟩;have hul:u.data.toList=(l.take 61).take k:=by rw[←hu,ext_lst,htl];rfl
   have huo:ofB ((l.take 61).take k)=u:=by rw[←hul,ofB_lst]
   have hn:=fun W=>name_any u W (by rw[←size_lst,hul,List.length_take,List.length_take];omega)
   rw[hul] at hn;dsimp only;obtain⟨bn,hbn⟩:∃bn,nameB ((l.take 61).take k)=bn:=⟨_,rfl⟩;rw[hbn] at hn ⊢;have HX:=hidH4 hix hn hu huo;have hk0:¬((k:Int)<0):=by omega
   clear hix hl hll htl hcut hi ht hu hul huo hn hbn;cases bn with
   | false =>
    go_enter Tryz.func189,Tryz.ntmps189
    go_wp2_with fail
    rw[HT.out];refine HX.out.1.mono ?_;rintro e w2 ⟨rfl,rfl⟩
    go_wp2_with fail
    rw[HX.out.2.2.1];refine (HX.out.2.1 _).mono ?_;rintro e w2 ⟨rfl,rfl⟩
    go_wp2_with fail
    go_ret2
    exact⟨rfl,rfl⟩
   | true =>
    go_enter Tryz.func189,Tryz.ntmps189
    go_wp2_with fail
    rw[HT.out];refine HX.out.1.mono ?_;rintro e w2 ⟨rfl,rfl⟩
    go_wp2_with fail
    rw[HX.out.2.2.1];refine (HX.out.2.1 _).mono ?_;rintro e w2 ⟨rfl,rfl⟩
    go_wp2_with fail
    go_ret2
    rw[HX.out.2.2.1];refine⟨?_,rfl⟩
    show _=Ending.returned (.tuple #[.string (ofB ((l.take 61).take k)),.bool true])
    rw[HX.out.2.2.2];rfl
 ·have hd:askedB s.data.toList=none:=asked_head (by
   intro e
   apply hb
   rw[←headD_get s h1,e];rfl)
  rw[hd];have hbi:¬((s[0].toNat:Int)=123):=by omega
  go_enter Tryz.func189,Tryz.ntmps189
  go_wp2_with fail
  go_ret2
  exact⟨rfl,rfl⟩
end Go.Proofs.YtkkebmciiiajeaaGreatDoor
namespace Go.Bd
open Go.RowKit
theorem fill_fuel (l:List At):∀(n m:Nat) (s:Bs) (ns:List ByteArray),s.length≤n→s.length≤m→fillB l n s ns=fillB l m s ns
 | 0,0,_,_,_,_=>rfl
 | 0,m+1,[],_,_,_=>rfl
 | n+1,0,[],_,_,_=>rfl
 | n+1,m+1,[],_,_,_=>rfl
 | 0,_+1,_::_,_,h,_=>by simp at h
 | _+1,0,_::_,_,_,h=>by simp at h
 | n+1,m+1,c::s,ns,h,h'=>by
  rw[List.length_cons] at h h';have e1:=fill_fuel l n m s ns (by omega) (by omega);unfold fillB;cases ha:askedB (c::s) with
  | none=>dsimp only;rw[e1]
  | some a =>
   have e2:=fill_fuel l n m (s.drop (a.length+1)) (addN ns (ofB a)) (by rw[List.length_drop];omega) (by rw[List.length_drop];omega);dsimp only;rw[e2]
def fillA (l:List At) (s:Bs) (ns:List ByteArray):Bs×List ByteArray:=fillB l s.length s ns
theorem fillA_nil (l:List At) (ns:List ByteArray):fillA l [] ns=([],ns):=rfl
theorem fillA_none {l:List At}{c:UInt8}{s:Bs}{ns:List ByteArray} (h:askedB (c::s)=none):fillA l (c::s) ns=(c::(fillA l s ns).1,(fillA l s ns).2):=by
 unfold fillA;rw[List.length_cons]
 show (match askedB (c::s) with|none=>_|some a=>_)=_
 rw[h]
theorem fillA_some {l:List At}{c:UInt8}{s a:Bs}{ns:List ByteArray} (h:askedB (c::s)=some a):fillA l (c::s) ns =
  ((match getA l (ofB a) with|some v=>v.data.toList|none=>123::(a++[125]))++(fillA l (s.drop (a.length+1)) (addN ns (ofB a))).1,(fillA l (s.drop (a.length+1)) (addN ns (ofB a))).2):=by
 have e:=fill_fuel l s.length (s.drop (a.length+1)).length (s.drop (a.length+1)) (addN ns (ofB a)) (by rw[List.length_drop];omega) (Nat.le_refl _);unfold fillA;rw[←e,List.length_cons]
 show (match askedB (c::s) with|none=>_|some a=>_)=_
 rw[h];dsimp only;cases getA l (ofB a) with
 | none=>simp
 | some v=>rfl
theorem asked_form {s a:Bs} (h:askedB s=some a):s.take (a.length+2)=123::(a++[125])∧a.length+2≤s.length:=by
 have hlen:=askedB_len h;refine⟨?_,hlen.2⟩;unfold askedB at h;split at h
 ·rename_i r;cases hc:cutB 125 (r.take 61) with
  | none=>rw[hc] at h;cases h
  | some p =>
   obtain⟨x,y⟩:=p;rw[hc] at h;dsimp only at h;split at h
   ·cases h
    have key:∀(q u v:Bs),cutB 125 q=some (u,v)→q=u++125::v:=by
     intro q
     induction q with
     | nil=>intro u v h;cases h
     | cons b q ih =>
      intro u v h;unfold cutB at h;split at h
      ·rename_i hb;cases h
       rw[beq_iff_eq] at hb;rw[hb];rfl
      ·cases hq:cutB 125 q with
       | none=>rw[hq] at h;cases h
       | some p =>
        obtain⟨p1,p2⟩:=p;rw[hq] at h;cases h
        rw[ih _ _ hq];rfl
    have e:=key _ _ _ hc;have hl2:a.length+1≤(r.take 61).length:=by rw[e];simp
    have e2:r.take (a.length+1)=(r.take 61).take (a.length+1):=by
     rw[List.take_take,Nat.min_eq_left (by rw[List.length_take] at hl2;omega)]
    show 123::r.take (a.length+1)=_
    rw[e2,e,List.take_length_add_append];rfl
   ·cases h
 ·cases h
theorem fillA_skip (l:List At) (ns:List ByteArray):∀(k:Nat) (s:Bs),(∀c∈s.take k,c≠123)→fillA l s ns=(s.take k++(fillA l (s.drop k) ns).1,(fillA l (s.drop k) ns).2)
 | 0,s,_=>by simp
 | k+1,[],_=>by simp[fillA_nil]
 | k+1,c::s,h=>by
  have h1:c≠123:=h c (by simp);rw[fillA_none (asked_head (s:=c::s) h1),fillA_skip l ns k s (fun x hx=>h x (by simp[hx]))]
  first|done|rfl
theorem index_free (c:UInt8):∀(s:Bs) (k:Nat),Lib.indexByte s c=k→(∀x∈s.take k,x≠c)∧k<s.length∧s[k]? = some c
 | [],k,h=>by
  have:(-1:Int)=k:=h
  exact absurd this (by omega)
 | b::s,k,h=>by
  have e:Lib.indexByte (b::s) c=if (b==c)=true then 0 else if (Lib.indexByte s c == -1)=true then -1 else Lib.indexByte s c+1:=rfl
  rw[e] at h
  by_cases hb:b=c
  ·rw[if_pos (by simp[hb])] at h;have:k=0:=by omega
   subst this;exact⟨by simp,by simp,by simp[hb]⟩
  ·rw[if_neg (by simpa using hb)] at h
   by_cases hm:Lib.indexByte s c=-1
   ·rw[if_pos (by simp[hm])] at h;omega
   ·rw[if_neg (by simpa using hm)] at h;cases k with
    | zero =>
     exfalso;have:∀s:Bs,-1≤Lib.indexByte s c:=by
      intro s
      induction s with
      | nil=>exact Int.le_refl _
      | cons b s ih =>
       show -1≤(if (b==c)=true then (0:Int) else if (Lib.indexByte s c == -1)=true then -1 else Lib.indexByte s c+1)
       split
       ·omega
       ·split<;>omega
     have:=this s
     omega
    | succ k =>
     have ih:=index_free c s k (by omega);refine⟨fun x hx=>?_,by simpa using ih.2.1,by simpa using ih.2.2⟩;rw[List.take_succ_cons] at hx
     rcases List.mem_cons.1 hx with rfl|hx
     ·exact hb
     ·exact ih.1 x hx
theorem index_no (c:UInt8):∀(s:Bs),Lib.indexByte s c<0→∀x∈s,x≠c
 | [],_,x,hx=>by cases hx
 | b::s,h,x,hx=>by
  have e:Lib.indexByte (b::s) c=if (b==c)=true then 0 else if (Lib.indexByte s c == -1)=true then -1 else Lib.indexByte s c+1:=rfl
  rw[e] at h
  by_cases hb:b=c
  ·rw[if_pos (by simp[hb])] at h;omega
  ·rw[if_neg (by simpa using hb)] at h
   rcases List.mem_cons.1 hx with rfl|hx
   ·exact hb
   ·refine index_no c s ?_ x hx
    by_cases hm:Lib.indexByte s c=-1
    ·omega
    ·rw[if_neg (by simpa using hm)] at h;omega
structure FillAt (l:List At) (s:Bs) (frm at':Nat) (built:Bs) (ns:List ByteArray):Prop where
 le:frm≤at'
 at_le:at'≤s.length
 eq:fillA l s []=(built++((s.take at').drop frm++(fillA l (s.drop at') ns).1),(fillA l (s.drop at') ns).2)
section
variable {l:List At} {s:Bs} {frm at':Nat} {built:Bs} {ns:List ByteArray}
theorem FillAt.first (l:List At) (s:Bs):FillAt l s 0 0 [] []:=⟨Nat.le_refl _,Nat.zero_le _,by simp⟩
theorem piece (h1:frm≤at') (h2:at'≤s.length) (k:Nat):(s.take (at'+k)).drop frm=(s.take at').drop frm++(s.drop at').take k:=by
 rw[List.take_add,List.drop_append_of_le_length (by rw[List.length_take];omega)]
theorem FillAt.skip (h:FillAt l s frm at' built ns){k:Nat} (hk:at'+k≤s.length) (hf:∀c∈(s.drop at').take k,c≠123):FillAt l s frm (at'+k) built ns:=by
 refine⟨by have:=h.le;omega,hk,?_⟩;rw[h.eq,fillA_skip l ns k (s.drop at') hf,List.drop_drop,piece h.le h.at_le];simp
theorem FillAt.one (h:FillAt l s frm at' built ns) (hl:at'<s.length) (ha:askedB (s.drop at')=none):FillAt l s frm (at'+1) built ns:=by
 refine⟨by have:=h.le;omega,hl,?_⟩;obtain⟨c,t,ht⟩:∃c t,s.drop at'=c::t:=by
  cases hd:s.drop at' with
  | nil=>have:=congrArg List.length hd;rw[List.length_drop] at this;simp at this;omega
  | cons c t=>exact⟨c,t,rfl⟩
 have h2:s.drop (at'+1)=t:=by rw[←List.drop_drop,ht];rfl
 rw[h.eq,ht,fillA_none (by rw[←ht];exact ha),h2,piece h.le h.at_le,ht];simp
theorem FillAt.none (h:FillAt l s frm at' built ns){a:Bs} (ha:askedB (s.drop at')=some a) (hg:getA l (ofB a)=none):FillAt l s frm (at'+(a.length+2)) built (addN ns (ofB a)):=by
 have hf:=asked_form ha;rw[List.length_drop] at hf;refine⟨by have:=h.le;omega,by have:=h.at_le;omega,?_⟩;obtain⟨c,t,ht⟩:∃c t,s.drop at'=c::t:=by
  cases hd:s.drop at' with
  | nil=>have:=congrArg List.length hd;rw[List.length_drop] at this;simp at this;omega
  | cons c t=>exact⟨c,t,rfl⟩
 have h2:s.drop (at'+(a.length+2))=t.drop (a.length+1):=by rw[←List.drop_drop,ht];rfl
 rw[h.eq,piece h.le h.at_le,hf.1,h2,ht,fillA_some (by rw[←ht];exact ha),hg];simp
theorem FillAt.some (h:FillAt l s frm at' built ns){a:Bs} (ha:askedB (s.drop at')=some a){v:ByteArray} (hg:getA l (ofB a)=some v):FillAt l s (at'+(a.length+2)) (at'+(a.length+2)) (built++(s.take at').drop frm++v.data.toList) (addN ns (ofB a)):=by
 have hf:=asked_form ha;rw[List.length_drop] at hf;refine⟨Nat.le_refl _,by have:=h.at_le;omega,?_⟩;obtain⟨c,t,ht⟩:∃c t,s.drop at'=c::t:=by
  cases hd:s.drop at' with
  | nil=>have:=congrArg List.length hd;rw[List.length_drop] at this;simp at this;omega
  | cons c t=>exact⟨c,t,rfl⟩
 have h2:s.drop (at'+(a.length+2))=t.drop (a.length+1):=by rw[←List.drop_drop,ht];rfl
 have h3:(s.take (at'+(a.length+2))).drop (at'+(a.length+2))=[]:=List.drop_of_length_le (by rw[List.length_take];omega);rw[h.eq,h2,h3,ht,fillA_some (by rw[←ht];exact ha),hg];simp
theorem FillAt.last (h:FillAt l s frm at' built ns) (hf:∀c∈s.drop at',c≠123):fillA l s []=(built++s.drop frm,ns):=by
 have h1:=h.skip (k:=s.length-at') (by have:=h.at_le;omega) (fun c hc=>hf c (List.mem_of_mem_take hc));have e:at'+(s.length-at')=s.length:=by have:=h.at_le;omega
 rw[e] at h1;rw[h1.eq,List.drop_length,fillA_nil,List.take_length];simp
theorem FillAt.len (h:FillAt l s frm at' built ns) (hl:∀a∈l,a.value.size≤1024):built.length≤342*s.length∧built.length+((s.take at').drop frm).length≤342*s.length:=by
 have h1:=(fillB_len hl s.length s []).1;have h2:=congrArg (fun p=>p.1.length) h.eq;simp only[List.length_append] at h2;unfold fillA at h2;omega
end
end Go.Bd
namespace Go.Bd
open Go.RowKit
def plF (l:List At) (ns:List ByteArray):List Fe:=ns.map fun n=>⟨n,.int .i64 (idxA l n),[]⟩
theorem plF_find (l:List At) (n:ByteArray) (z:Value):∀ns:List ByteArray,findF (plF l ns) n=if hasN ns n then some ⟨n,.int .i64 (idxA l n),[]⟩ else none
 | []=>rfl
 | m::ns=>by
  have ih:=plF_find l n z ns;unfold findF plF hasN at *;rw[List.map_cons]
  by_cases h:m=n
  ·subst h;simp
  ·rw[List.find?_cons_of_neg (by simp[h]),ih,List.any_cons,decide_eq_false h,Bool.false_or]
theorem plF_put (l:List At){ns:List ByteArray}{n:ByteArray} (h:hasN ns n=false):putF (plF l ns) ⟨n,.int .i64 (idxA l n),[]⟩=plF l (ns++[n]):=by
 unfold putF delF plF;rw[List.map_append,List.filter_eq_self.2]
 ·rfl
 ·intro e he;obtain⟨m,hm,rfl⟩:=List.mem_map.1 he;have:m≠n:=fun e=>by
   have h2:=hasN_iff.2 (e ▸ hm);rw[h] at h2;cases h2
  simpa using this
theorem FsMap.obj {w:World}{P:Program}{K bm:Nat}{es:List Fe} (h:FsMap w P K bm es):∃m c,w.heap[bm]? = some (.map m c):=by
 obtain⟨D,⟨m,c,h1,_⟩,_⟩:=h;exact⟨m,c,h1⟩
theorem own_obj {w:World}{base sz n g:Nat}{e:TypeId}{xs:List Value}{v:Value} (h:w.ownsRow base e sz v n xs) (hg:v.ownBlock=some g):base≤g∧∃cur,w.heap[g]? = some (.cells cur e (0,0)):=by
 rcases h.2 with ⟨h1,_⟩|⟨g',cap,cur,h1,h0,h2,_⟩
 ·rw[h1] at hg;cases hg
 ·rw[h1] at hg;have:g'=g:=by simpa [Value.ownBlock] using hg
  rw[←this];exact⟨h0,cur,h2⟩
theorem own_keep {w w':World}{base sz n:Nat}{e:TypeId}{xs:List Value}{v:Value} (h:w.ownsRow base e sz v n xs) (hk:∀g,v.ownBlock=some g→w'.heap[g]? = w.heap[g]?):w'.ownsRow base e sz v n xs:=by
 refine⟨h.1,?_⟩
 rcases h.2 with h1|⟨g,cap,cur,h1,h2,h3,h4⟩
 ·exact .inl h1
 ·exact .inr ⟨g,cap,cur,h1,h2,(hk g (by rw[h1];rfl)).trans h3,h4⟩
end Go.Bd
namespace Go.Proofs.YtkkebmciiiajeaaGreatDoor
open Go.RowKit Go.Bd
theorem places_under:Tryz.prog.underlying 72=some (.map 9 3):=by kernel_rfl
theorem places_zero (w:World):(zeroValue 3).run Tryz.prog w=.ok (.int .i64 0) w:=by kernel_rfl
theorem tx_infoA:(Tryz.prog.info? 9).map (fun i=>(i.zero,i.size,i.bytes))=some (some (.string ⟨#[]⟩),1,16):=by kernel_rfl
theorem txs_underA:Tryz.prog.underlying 30=some (.slice 9):=by kernel_rfl
theorem BldF.kept {B b:Nat}{l:Bs}{w w':World}{S:Nat→Prop} (h:BldF B b l w) (hc:Chg w w' S) (hb:¬S b) (hu:∀k cs fr,S k→w.heap[k]?≠some (.cells cs 5 fr)):BldF B b l w':=by
 have so:∀{n sz:Nat} {v:Value} {xs:List Value},w.ownsRowF B 5 sz v n xs→w'.ownsRowF B 5 sz v n xs:=fun {n sz v xs} h=>by
  refine⟨h.1,?_⟩
  rcases h.2 with h1|h1
  ·exact .inl h1
  ·refine .inr ?_;obtain⟨g,cap,cur,r⟩:=h1;have hlt:g<w.heap.size∧¬S g:=by
    obtain⟨_,_,r⟩:=r
    first
     | (obtain⟨z,hh,_⟩:=r;exact⟨(Array.getElem?_eq_some_iff.1 hh).1,fun hs=>hu g _ _ hs hh⟩)
     | (obtain⟨hh,_⟩:=r;exact⟨(Array.getElem?_eq_some_iff.1 hh).1,fun hs=>hu g _ _ hs hh⟩)
   refine⟨g,cap,cur,?_⟩;rw[hc.block g hlt.1 hlt.2];exact r
 have st:∀p,Lib.BuilderAtF 109 5 B b p (Lib.byteCells l) w→Lib.BuilderAtF 109 5 B b p (Lib.byteCells l) w':=fun p h=>by
  obtain⟨h1,v,h2,h3,h4⟩:=h;exact⟨h1,v,(hc.block b (Array.getElem?_eq_some_iff.1 h2).1 hb).trans h2,so h3,h4⟩
 rcases h with h|h
 ·exact .inl (st _ h)
 ·exact .inr (st _ h)
theorem addN_old {ns:List ByteArray}{n:ByteArray} (h:hasN ns n=true):addN ns n=ns:=by unfold addN;rw[if_pos h]
theorem addN_new {ns:List ByteArray}{n:ByteArray} (h:hasN ns n=false):addN ns n=ns++[n]:=by unfold addN;rw[if_neg (by rw[h];decide)]
structure Fl (w:World) (B:Nat) (l:List At) (nv:Value) (built:Bs) (ms ns:List ByteArray) (W:World):Prop where
 bld:BldF B B built W
 map:FsMap W Tryz.prog 9 (B+1) (plF l ms)
 uniq:Uniq (plF l ms)
 row:W.ownsRow B 9 1 nv ns.length (rowTx ns)
 below:Below B w W
section
variable {w W W':World} {B:Nat} {l:List At} {nv:Value} {built:Bs} {ms ns:List ByteArray}
theorem Fl.later (h:Fl w B l nv built ms ns W) (hb:Below W.heap.size W W'):Fl w B l nv built ms ns W' :=
 ⟨h.bld.later hb,h.map.eq (hb.block _ h.map.lt),h.uniq,own_keep h.row (fun g hg=>hb.block g (by obtain⟨_,cur,hc⟩:=own_obj h.row hg;exact (Array.getElem?_eq_some_iff.1 hc).1)),h.below.trans (hb.mono (by have:=h.bld.lt;omega))⟩
theorem Fl.far (h:Fl w B l nv built ms ns W):nv.ownBlock≠some B:=fun hg=>by
 obtain⟨_,cur,hc⟩:=own_obj h.row hg
 rcases h.bld with ⟨_,v,hb,_⟩|⟨_,v,hb,_⟩<;>(rw[hb] at hc;injection hc with hc;injection hc with _ e2 _;exact absurd e2 (by decide))
theorem Fl.write (h:Fl w B l nv built ms ns W){built':Bs} (h1:BldF B B built' W') (h2:Below B W W') (h3:Kept B W W'):Fl w B l nv built' ms ns W':=by
 refine⟨h1,?_,h.uniq,?_,h.below.trans h2⟩
 ·obtain⟨m,c,hm⟩:=h.map.obj;refine h.map.eq ((h3 (B+1) _ hm (fun e=>by injection e with e;omega) (fun c fz e=>by cases e)).trans hm.symm)
 ·refine own_keep h.row (fun g hg=>?_);obtain⟨_,cur,hc⟩:=own_obj h.row hg;refine (h3 g _ hc (fun e=>?_) (fun c fz e=>by injection e with _ e2 _;exact absurd e2 (by decide))).trans hc.symm;injection e with e
  subst e;exact h.far hg
theorem Fl.named (h:Fl w B l nv built ms ns W){n:ByteArray} (hn:hasN ms n=false) (hz:n.size≤1000000000) (hl:ms.length≤1000000000000) :
  ∃w',(Instr.mapUpdate 72 (.map (some (B+1))) (.string n) (.int .i64 (idxA l n))).run Tryz.prog W=.ok () w'∧Fl w B l nv built (ms++[n]) ns w'∧w'.heap.size=W.heap.size:=by
 obtain⟨w',h1,h2,h3,h4⟩:=h.map.store h.uniq str_under places_under (by unfold plF;rw[List.length_map];unfold maxLen;omega) ⟨n,.int .i64 (idxA l n),[]⟩ (by show n.size≤_;unfold maxLen;omega);obtain⟨m,c,hm⟩:=h.map.obj;have hb:=h.bld.lt;refine⟨w',h1,⟨h.bld.kept h3 (fun e=>by have e:B=B+1:=e;omega) (fun k cs fr hk=>by rw[show k=B+1 from hk,hm];intro e;injection e with e;cases e),by rw[←plF_put l hn];exact h2,by rw[←plF_put l hn];exact h.uniq.put _,own_keep h.row (fun g hg=>?_),h.below.trans (h3.toBelow (by omega) (fun k hk=>by have hk:k=B+1:=hk;omega))⟩,h4⟩;obtain⟨_,cur,hc⟩:=own_obj h.row hg;refine h3.block g (Array.getElem?_eq_some_iff.1 hc).1 (fun e=>?_);rw[show g=B+1 from e,hm] at hc;injection hc with hc
 cases hc
theorem Fl.grow (h:Fl w B l nv built ms ns W){n:ByteArray}{nv':Value} (hc:Chg W W' (fun k=>some k=nv.ownBlock)) (ho:W'.ownsRow B 9 1 nv' (ns.length+1) (rowTx ns++[.string n])):Fl w B l nv' built ms (ns++[n]) W':=by
 refine⟨h.bld.kept hc (fun e=>h.far e.symm) (fun k cs fr hk hh=>?_),h.map.chg hc (fun e=>?_),h.uniq,?_,h.below.trans (hc.toBelow (by have:=h.bld.lt;omega) (fun k hk=>(own_obj h.row hk.symm).1))⟩
 ·obtain⟨_,cur,h1⟩:=own_obj h.row hk.symm;rw[h1] at hh;injection hh with hh
  injection hh with _ e2 _
  exact absurd e2 (by decide)
 ·obtain⟨_,cur,h1⟩:=own_obj h.row e.symm;obtain⟨m,c,hm⟩:=h.map.obj;rw[hm] at h1;injection h1 with h1
  cases h1
 ·rw[List.length_append];unfold rowTx at ho ⊢;rw[List.map_append];exact ho
theorem Fl.calls (h:Fl w B l nv built ms ns W) (s:ByteArray) (hlen:built.length+s.size≤140737488355328):Calls Tryz.prog 80 #[.pointer (some ⟨B,0,none⟩),.string s] W fun e w'=>e=.returned (.tuple #[.int .i64 s.size,.nilIface])∧Fl w B l nv (built++s.data.toList) ms ns w' :=
 (bldK_write B B built s W h.bld hlen (by have:=h.bld.lt;omega)).mono fun _ _ ⟨h1,h2,h3,h4⟩=>⟨h1,h.write h2 h3 h4⟩
theorem Fl.look (h:Fl w B l nv built ms ns W){n:ByteArray} (hz:n.size≤1000000000) :
  (Instr.lookup 72 (.map (some (B+1))) (.string n) true).run Tryz.prog W=.ok (.tuple #[.int .i64 (if hasN ms n then idxA l n else 0),.bool (hasN ms n)]) W:=by
 rw[FsMap.lookz_ok h.map str_under places_under (places_zero W) (s:=n) (by unfold maxLen;omega),plF_find l n (.int .i64 0) ms];cases hasN ms n<;>rfl
end
theorem Fill_any {w:World}{S:Nat→Prop}{v:Value}{l:List At} (hl:AtS w S v l) (hS:∀k,S k→k<w.heap.size) (hn:l.length≤1000000000) (hv:∀a∈l,a.value.size≤1024) (s:ByteArray) (hs:s.size≤1000000) :
  Calls Tryz.prog 145 #[v,.string s] w fun e w'=>∃nv,e=.returned (.tuple #[.string (fillT l s),nv])∧Below w.heap.size w w'∧w'.ownsRow w.heap.size 9 1 nv (fillN l s).length (rowTx (fillN l s)):=by
 have hmm:=@run_makeMap Tryz.prog;obtain⟨A,c,rfl,hc,h1⟩:=hl;have hl':AtS w S (.slice A (l.map atP).length c) l:=⟨A,c,rfl,hc,h1⟩;rw[List.length_map] at hc hl' ⊢;have hfill:fillA l s.data.toList []=fillB l s.size s.data.toList []:=by unfold fillA;rw[size_lst]
 have hT:∀o ns,fillA l s.data.toList []=(o,ns)→fillT l s=ofB o∧fillN l s=ns:=fun o ns h=>by
  unfold fillT fillN;rw[←hfill,h];exact⟨rfl,rfl⟩
 obtain⟨nl,hnl⟩:∃nl,l.length=nl:=⟨_,rfl⟩;rw[hnl] at hc hn hl' ⊢;have HL:=hidH5 hl' hS hT hv hnl;obtain⟨B,hB⟩:∃B,w.heap.size=B:=⟨_,rfl⟩;obtain⟨W0,hW0⟩:∃W0,(w.alloc (.cells #[.pointer none,.slice none 0 0] 109)).alloc (.map #[] 0)=W0:=⟨_,rfl⟩;have hF0:Fl w B l (.slice none 0 0) [] [] [] W0:=by
  have hm0:=FsMap.new (w.alloc (.cells #[.pointer none,.slice none 0 0] 109)) Tryz.prog 9;rw[World.size_alloc,hB,hW0] at hm0;have hb0:=(BldF.fresh w).later ((Below.refl _ _).alloc (Nat.le_refl _) (.map #[] 0));rw[hB,hW0] at hb0;exact⟨hb0,hm0,List.Pairwise.nil,World.ownsRow_nil _ _ _ _,by rw[←hW0,←hB];exact ((Below.refl _ w).alloc (Nat.le_refl _) _).alloc (by simp) _⟩
 have HF0:=Lib.hid hF0;have HBB:=Lib.hid hB;have HI:=Lib.hid (info_parts tx_infoA);clear h1 hl' hS hT hfill hv hnl hF0
 go_enter Tryz.func145,Tryz.ntmps145
 go_wp2_with fail
 (try rw[hW0])
 (try rw[hB])
 clear hW0 hB hmm
 go_loopg [7,9,10] (s.size+1) (fun q nv fv av wr=>∃(frm at':Nat) (built:Bs) (ns:List ByteArray),at'+q=s.size+1∧at'≤s.size∧frm≤at'∧fv=.int .i64 (frm:Int)∧av=.int .i64 (at':Int)∧ns.length≤at'∧Hid (FillAt l s.data.toList frm at' built ns∧Fl w B l nv built ns ns wr))
 case atStart=>exact⟨0,0,[],[],by omega,Nat.zero_le _,Nat.le_refl _,rfl,rfl,Nat.le_refl _,FillAt.first _ _,HF0.out⟩
 case round =>
  obtain⟨frm,at',built,ns,hq,hal,hfa,rfl,rfl,hnl,HR⟩:=hrel;obtain⟨sub,hsub⟩:∃sub,s.extract at' s.size=sub:=⟨_,rfl⟩;have hsl:sub.data.toList=s.data.toList.drop at':=by rw[←hsub,ext_lst,List.take_of_length_le (by rw[size_lst];exact Nat.le_refl _)]
  have hix:=fun W=>Tryz.strings_IndexByte sub 123 W
  have e123:(123:Int).toNat.toUInt8=123:=by decide
  rw[e123,hsl] at hix
  by_cases hneg:Lib.indexByte (s.data.toList.drop at') 123<0
  ·obtain⟨ii,hii⟩:∃ii,Lib.indexByte (s.data.toList.drop at') 123=ii:=⟨_,rfl⟩;have hlast:=HR.out.1.last (index_no 123 _ hneg);rw[hii] at hix hneg;obtain⟨sub2,hsub2⟩:∃sub2,s.extract frm s.size=sub2:=⟨_,rfl⟩;have hsl2:sub2.data.toList=s.data.toList.drop frm:=by rw[←hsub2,ext_lst,List.take_of_length_le (by rw[size_lst];exact Nat.le_refl _)]
   have hlen:=HR.out.1.len HL.out.2.2.2.1;have hW:=bldK_write B B built sub2 wr HR.out.2.bld (by
    have h1:sub2.size≤s.size:=by rw[←size_lst,hsl2,List.length_drop,size_lst];omega
    have h2:=hlen.1;rw[size_lst] at h2;omega) (by have:=HR.out.2.bld.lt;omega)
   have HX:=hidH6 hix hlast hsub hsub2 hsl2 hW;clear hix hlast hsub hsub2 hsl2 hW hsl hii
   go_wp2_with fail
   rw[HX.out.2.2.1];refine (HX.out.1 _).mono ?_;rintro e w1 ⟨rfl,rfl⟩
   go_wp2_with fail
   rw[HX.out.2.2.2.1];refine HX.out.2.2.2.2.2.mono ?_;rintro e w2 ⟨rfl,hb2,hB2,hk2⟩;have hF2:=HR.out.2.write hb2 hB2 hk2;have hS2:=bldF_stringK B B _ w2 hF2.bld (by have:=hF2.bld.lt;omega);have HY:=hidH2 hF2 hS2;clear hb2 hB2 hk2 hF2 hS2
   go_wp2_with fail
   refine HY.out.2.mono ?_;rintro e w3 ⟨rfl,hb3,hB3,hk3⟩;have hF3:=HY.out.1.write hb3 hB3 hk3;have HZ:=Lib.hid hF3;clear hb3 hB3 hk3 hF3
   go_wp2_with fail
   go_ret2
   obtain⟨t1,t2⟩:=HL.out.2.2.1 _ _ HX.out.2.1;rw[t1,t2];refine⟨u7,?_,by rw[HBB.out];exact HZ.out.below,by rw[HBB.out];exact HZ.out.row⟩
   show _=Ending.returned (.tuple #[.string ⟨(built++s.data.toList.drop frm).toArray⟩,u7])
   rw[←HX.out.2.2.2.2.1];rfl
  ·obtain⟨k,hii⟩:∃k:Nat,Lib.indexByte (s.data.toList.drop at') 123=k:=⟨(Lib.indexByte (s.data.toList.drop at') 123).toNat,by omega⟩;obtain⟨hfree,hkl,h123⟩:=index_free 123 _ k hii;rw[List.length_drop,size_lst] at hkl;have hskip:=HR.out.1.skip (k:=k) (by rw[size_lst];omega) hfree;obtain⟨sub3,hsub3⟩:∃sub3,s.extract (at'+k) s.size=sub3:=⟨_,rfl⟩;have hsl3:sub3.data.toList=s.data.toList.drop (at'+k):=by rw[←hsub3,ext_lst,List.take_of_length_le (by rw[size_lst];exact Nat.le_refl _)]
   have hask:=fun W=>asked_any sub3 W (by rw[←size_lst,hsl3,List.length_drop,size_lst];omega)
   rw[hsl3] at hask;rw[hii] at hix;cases ha:askedB (s.data.toList.drop (at'+k)) with
   | none =>
    rw[ha] at hask;have hone:=hskip.one (by rw[size_lst];omega) ha;have HX:=hidH5 hix hask hsub hsub3 hone;clear hix hask hsub hsub3 hone hskip hfree h123 hsl3 hsl hii ha hneg;unfold askedV at HX
    go_wp2_with fail
    rw[HX.out.2.2.1];refine (HX.out.1 _).mono ?_;rintro e w1 ⟨rfl,rfl⟩
    go_wp2_with fail
    rw[HX.out.2.2.2.1];refine (HX.out.2.1 _).mono ?_;rintro e w2 ⟨rfl,rfl⟩
    go_wp2_with fail
    go_roundg (gk-1-k)
    case measure=>omega
    case rel=>exact⟨frm,at'+k+1,built,ns,by omega,by omega,by omega,rfl,by go_num,by omega,HX.out.2.2.2.2,HR.out.2⟩
   | some a =>
    rw[ha] at hask;have haf:=asked_form ha;rw[List.length_drop,size_lst] at haf;have halen:=haf.2;have hnsz:(ofB a).size=a.length:=size_ofB a;obtain⟨n,hn'⟩:∃n,ofB a=n:=⟨_,rfl⟩;have hask':∀W,Calls Tryz.prog 189 #[.string sub3] W fun e w'=>e=.returned (.tuple #[.string n,.bool true])∧W=w':=by rw[←hn'];exact hask
    rw[hn'] at hnsz;have hlook:=HR.out.2.look (n:=n) (by omega);have HX:=hidH7 hix hask' hsub hsub3 hskip ha hn';clear hix hask hask' hsub hsub3 hskip hfree h123 hsl3 hsl hii ha hneg haf hn';cases hhas:hasN ns n
    ·rw[if_neg (by rw[hhas];decide),hhas] at hlook
     rcases getA_idx (l:=l) (n:=n) with ⟨hi,hg⟩|⟨q,b,hi,hb,hg,hnb⟩
     ·have HK:=hidH2 hg (addN_new hhas);have HK2:=Lib.hid hhas;clear hg hhas
      go_wp2_with fail
      rw[HX.out.2.2.1];refine (HX.out.1 _).mono ?_;rintro e w1 ⟨rfl,rfl⟩
      go_wp2_with fail
      rw[HX.out.2.2.2.1];refine (HX.out.2.1 _).mono ?_;rintro e w2 ⟨rfl,rfl⟩
      go_wp2_with fail
      refine (named_any n _).mono ?_;rintro e w2 ⟨rfl,rfl⟩;have HG:=Lib.hid (Holds.new w1 9 #[.string n]);have hb1:=(Below.refl w1.heap.size w1).alloc (Nat.le_refl _) (.cells #[.string n] 9);have hf1:=HR.out.2.later hb1;have hfn:=find_any (TwoS.below HL.out.1 (by rw[HBB.out];exact hf1.below)) (fun k hk=>by have h1:=HL.out.2.1 k hk;have h2:=hf1.below.size;rw[HBB.out] at h1 h2;omega) (by rw[HL.out.2.2.2.2];exact hn) HG.out;rw[hi] at hfn;have HF1:=hidH2 hf1 hfn;clear hb1 hf1 hfn
      go_wp2_with fail
      refine HF1.out.2.mono ?_;rintro e w2 ⟨rfl,hb2⟩;have hf2:=HF1.out.1.later hb2;obtain⟨w3,hup,hf3,hz3⟩:=hf2.named (n:=n) (by rw[HK2.out]) (by omega) (by omega);rw[hi] at hup;have HF3:=Lib.hid hf3;obtain⟨A',c',hu7,hcap⟩:=own_rowL hf3.row;subst hu7;have HB3:=hidH2 hf3 hf3.bld.lt;have hlb:=hf3.bld.lt;clear hb2 hf2 hf3 hz3 HF3
      go_upto_region 16 with (at_builtin;refine wpList_append_lies _ rfl _ _ 30 rfl B 9 HI.out.choose _ 1 16 txs_underA HI.out.choose_spec.1 HI.out.choose_spec.2.1 HI.out.choose_spec.2.2.1 HI.out.choose_spec.2.2.2 rfl (by omega) _ ns.length (rowTx ns) rfl (HB3.out.1.later ((Below.refl w3.heap.size w3).alloc (Nat.le_refl _) (.cells #[.string n] 9))).row ⟨w3.heap.size,0,none⟩ 1 1 [.string n] rfl rfl (World.news_of_block (cs:=#[.string n]) (t:=9) (fr:=(0,0)) (heap_alloc_new w3 _)) (by simp[Value.oneCell']) (by omega) (by unfold maxLen;omega) (by omega) (by simp;omega) _ rfl ?_;intro g2 k2 w4 ho4 hg4 hat4 hl4)
      have hf4:=(HB3.out.1.later ((Below.refl w3.heap.size w3).alloc (Nat.le_refl _) (.cells #[.string n] 9))).grow (Chg.grown hg4) ho4;have HF4:=Lib.hid hf4;clear ho4 hg4 hat4 hl4 hf4 hup
      go_wp2_with fail
      go_roundg (gk-(k+(a.length+2)))
      case measure=>omega
      case rel=>exact⟨frm,at'+k+(a.length+2),built,(ns++[n]),by omega,by omega,by omega,rfl,by go_num,by rw[List.length_append,List.length_singleton];omega,by rw[←HK.out.2,←HX.out.2.2.2.2.2.2];exact HX.out.2.2.2.2.1.none HX.out.2.2.2.2.2.1 (by rw[HX.out.2.2.2.2.2.2];exact HK.out.1),HF4.out⟩
     ·have HK:=hidH2 hg (addN_new hhas);have HK2:=Lib.hid hhas;obtain⟨sub4,hsub4⟩:∃sub4,s.extract frm (at'+k)=sub4:=⟨_,rfl⟩;have hsl4:sub4.data.toList=(s.data.toList.take (at'+k)).drop frm:=by rw[←hsub4,ext_lst]
      have hlen:=HX.out.2.2.2.2.1.len HL.out.2.2.2.1;rw[size_lst,←hsl4,size_lst] at hlen;have hwv:b.value.size≤1024:=HL.out.2.2.2.1 b (List.mem_of_getElem? hb);have hc4:=fun W nv' ms' ns' (h:Fl w B l nv' built ms' ns' W)=>h.calls sub4 (by omega)
      have hc5:=fun W nv' ms' ns' (h:Fl w B l nv' (built++sub4.data.toList) ms' ns' W)=>h.calls b.value (by rw[List.length_append,size_lst];omega)
      rw[hsl4] at hc4 hc5;obtain⟨A2,c2,heq,_,hcl⟩:=HL.out.1;injection heq with e1 e2 e3
      clear e2 e3;obtain⟨bb,off,hA,hSb,q0,q1⟩:=hcl q (atP b) (by rw[List.getElem?_map,hb];rfl);rw[←e1] at hA;subst hA;have hbw:=HL.out.2.1 bb hSb;rw[HBB.out] at hbw;have hval:∀W,Below B w W→W.cell? ⟨bb,off+q*2+1,none⟩=some (.string b.value):=fun W hW=>(hW.cell (p:=⟨bb,off+q*2+1,none⟩) hbw).trans q1
      have hql:q<nl:=by have:=(List.getElem?_eq_some_iff.1 hb).1;have:=HL.out.2.2.2.2;omega
      have HP:=hidH4 hsub4 hc4 hc5 hval;clear hnb hsub4 hsl4 hlen hc4 hc5 hcl e1 q0 q1 hval hSb hbw;clear hg hhas
      go_wp2_with fail
      rw[HX.out.2.2.1];refine (HX.out.1 _).mono ?_;rintro e w1 ⟨rfl,rfl⟩
      go_wp2_with fail
      rw[HX.out.2.2.2.1];refine (HX.out.2.1 _).mono ?_;rintro e w2 ⟨rfl,rfl⟩
      go_wp2_with fail
      refine (named_any n _).mono ?_;rintro e w2 ⟨rfl,rfl⟩;have HG:=Lib.hid (Holds.new w1 9 #[.string n]);have hb1:=(Below.refl w1.heap.size w1).alloc (Nat.le_refl _) (.cells #[.string n] 9);have hf1:=HR.out.2.later hb1;have hfn:=find_any (TwoS.below HL.out.1 (by rw[HBB.out];exact hf1.below)) (fun k hk=>by have h1:=HL.out.2.1 k hk;have h2:=hf1.below.size;rw[HBB.out] at h1 h2;omega) (by rw[HL.out.2.2.2.2];exact hn) HG.out;rw[hi] at hfn;have HF1:=hidH2 hf1 hfn;clear hb1 hf1 hfn
      go_wp2_with fail
      refine HF1.out.2.mono ?_;rintro e w2 ⟨rfl,hb2⟩;have hf2:=HF1.out.1.later hb2;obtain⟨w3,hup,hf3,hz3⟩:=hf2.named (n:=n) (by rw[HK2.out]) (by omega) (by omega);rw[hi] at hup;have HF3:=Lib.hid hf3;obtain⟨A',c',hu7,hcap⟩:=own_rowL hf3.row;subst hu7;have HB3:=hidH2 hf3 hf3.bld.lt;have hlb:=hf3.bld.lt;clear hb2 hf2 hf3 hz3 HF3
      go_upto_region 16 with (at_builtin;refine wpList_append_lies _ rfl _ _ 30 rfl B 9 HI.out.choose _ 1 16 txs_underA HI.out.choose_spec.1 HI.out.choose_spec.2.1 HI.out.choose_spec.2.2.1 HI.out.choose_spec.2.2.2 rfl (by omega) _ ns.length (rowTx ns) rfl (HB3.out.1.later ((Below.refl w3.heap.size w3).alloc (Nat.le_refl _) (.cells #[.string n] 9))).row ⟨w3.heap.size,0,none⟩ 1 1 [.string n] rfl rfl (World.news_of_block (cs:=#[.string n]) (t:=9) (fr:=(0,0)) (heap_alloc_new w3 _)) (by simp[Value.oneCell']) (by omega) (by unfold maxLen;omega) (by omega) (by simp;omega) _ rfl ?_;intro g2 k2 w4 ho4 hg4 hat4 hl4)
      have hf4:=(HB3.out.1.later ((Below.refl w3.heap.size w3).alloc (Nat.le_refl _) (.cells #[.string n] 9))).grow (Chg.grown hg4) ho4;have HF4:=Lib.hid hf4;clear ho4 hg4 hat4 hl4 hf4 hup
      go_wp2_with fail
      rw[HP.out.1];refine (HP.out.2.1 _ _ _ _ HF4.out).mono ?_;rintro e w5 ⟨rfl,hf5⟩;have q5:=HP.out.2.2.2 _ hf5.below;have HF5:=Lib.hid hf5;clear hf5
      go_wp2_with fail
      refine (HP.out.2.2.1 _ _ _ _ HF5.out).mono ?_;rintro e w6 ⟨rfl,hf6⟩;have HF6:=Lib.hid hf6;clear hf6
      go_wp2_with fail
      go_roundg (gk-(k+(a.length+2)))
      case measure=>omega
      case rel=>exact⟨at'+k+(a.length+2),at'+k+(a.length+2),_,(ns++[n]),by omega,by omega,Nat.le_refl _,by go_num,by go_num,by rw[List.length_append,List.length_singleton];omega,by rw[←HK.out.2,←HX.out.2.2.2.2.2.2];exact HX.out.2.2.2.2.1.some HX.out.2.2.2.2.2.1 (by rw[HX.out.2.2.2.2.2.2];exact HK.out.1),HF6.out⟩
    ·rw[if_pos hhas,hhas] at hlook
     rcases getA_idx (l:=l) (n:=n) with ⟨hi,hg⟩|⟨q,b,hi,hb,hg,hnb⟩
     ·have HK:=hidH2 hg (addN_old hhas);rw[hi] at hlook;clear hi hg hhas
      go_wp2_with fail
      rw[HX.out.2.2.1];refine (HX.out.1 _).mono ?_;rintro e w1 ⟨rfl,rfl⟩
      go_wp2_with fail
      rw[HX.out.2.2.2.1];refine (HX.out.2.1 _).mono ?_;rintro e w2 ⟨rfl,rfl⟩
      go_wp2_with fail
      go_roundg (gk-(k+(a.length+2)))
      case measure=>omega
      case rel=>exact⟨frm,at'+k+(a.length+2),built,ns,by omega,by omega,by omega,rfl,by go_num,by omega,by rw[←HK.out.2,←HX.out.2.2.2.2.2.2];exact HX.out.2.2.2.2.1.none HX.out.2.2.2.2.2.1 (by rw[HX.out.2.2.2.2.2.2];exact HK.out.1),HR.out.2⟩
     ·have HK:=hidH2 hg (addN_old hhas);rw[hi] at hlook;obtain⟨sub4,hsub4⟩:∃sub4,s.extract frm (at'+k)=sub4:=⟨_,rfl⟩;have hsl4:sub4.data.toList=(s.data.toList.take (at'+k)).drop frm:=by rw[←hsub4,ext_lst]
      have hlen:=HX.out.2.2.2.2.1.len HL.out.2.2.2.1;rw[size_lst,←hsl4,size_lst] at hlen;have hwv:b.value.size≤1024:=HL.out.2.2.2.1 b (List.mem_of_getElem? hb);have hc4:=fun W nv' ms' ns' (h:Fl w B l nv' built ms' ns' W)=>h.calls sub4 (by omega)
      have hc5:=fun W nv' ms' ns' (h:Fl w B l nv' (built++sub4.data.toList) ms' ns' W)=>h.calls b.value (by rw[List.length_append,size_lst];omega)
      rw[hsl4] at hc4 hc5;obtain⟨A2,c2,heq,_,hcl⟩:=HL.out.1;injection heq with e1 e2 e3
      clear e2 e3;obtain⟨bb,off,hA,hSb,q0,q1⟩:=hcl q (atP b) (by rw[List.getElem?_map,hb];rfl);rw[←e1] at hA;subst hA;have hbw:=HL.out.2.1 bb hSb;rw[HBB.out] at hbw;have hval:∀W,Below B w W→W.cell? ⟨bb,off+q*2+1,none⟩=some (.string b.value):=fun W hW=>(hW.cell (p:=⟨bb,off+q*2+1,none⟩) hbw).trans q1
      have hql:q<nl:=by have:=(List.getElem?_eq_some_iff.1 hb).1;have:=HL.out.2.2.2.2;omega
      have HP:=hidH4 hsub4 hc4 hc5 hval;clear hnb hsub4 hsl4 hlen hc4 hc5 hcl e1 q0 q1 hval hSb hbw;clear hi hg hhas
      go_wp2_with fail
      rw[HX.out.2.2.1];refine (HX.out.1 _).mono ?_;rintro e w1 ⟨rfl,rfl⟩
      go_wp2_with fail
      rw[HX.out.2.2.2.1];refine (HX.out.2.1 _).mono ?_;rintro e w2 ⟨rfl,rfl⟩
      go_wp2_with fail
      rw[HP.out.1];refine (HP.out.2.1 _ _ _ _ HR.out.2).mono ?_;rintro e w5 ⟨rfl,hf5⟩;have q5:=HP.out.2.2.2 _ hf5.below;have HF5:=Lib.hid hf5;clear hf5
      go_wp2_with fail
      refine (HP.out.2.2.1 _ _ _ _ HF5.out).mono ?_;rintro e w6 ⟨rfl,hf6⟩;have HF6:=Lib.hid hf6;clear hf6
      go_wp2_with fail
      go_roundg (gk-(k+(a.length+2)))
      case measure=>omega
      case rel=>exact⟨at'+k+(a.length+2),at'+k+(a.length+2),_,ns,by omega,by omega,Nat.le_refl _,by go_num,by go_num,by omega,by rw[←HK.out.2,←HX.out.2.2.2.2.2.2];exact HX.out.2.2.2.2.1.some HX.out.2.2.2.2.2.1 (by rw[HX.out.2.2.2.2.2.2];exact HK.out.1),HF6.out⟩
end Go.Proofs.YtkkebmciiiajeaaGreatDoor
namespace Go.Bd
open Go.RowKit
theorem fillB_sizes (l:List At):∀(n:Nat) (s:Bs) (ns:List ByteArray),∀m∈(fillB l n s ns).2,m∈ns∨m.size≤s.length
 | 0,_,_,m,h=>.inl h
 | _+1,[],_,m,h=>.inl h
 | n+1,c::s,ns,m,h=>by
  unfold fillB at h;cases ha:askedB (c::s) with
  | none =>
   rw[ha] at h
   rcases fillB_sizes l n s ns m h with h|h
   ·exact .inl h
   ·exact .inr (by rw[List.length_cons];omega)
  | some a =>
   rw[ha] at h;have hl:=askedB_len ha;have h':m∈(fillB l n (s.drop (a.length+1)) (addN ns (ofB a))).2:=by
    dsimp only at h;cases hg:getA l (ofB a)<;>rw[hg] at h<;>exact h
   rcases fillB_sizes l n _ _ m h' with h|h
   ·rcases addN_mem.1 h with h|h
    ·exact .inl h
    ·right;rw[h,size_ofB];omega
   ·right;rw[List.length_drop] at h;rw[List.length_cons];omega
theorem fillN_sizes (l:List At) (s:ByteArray):∀m∈fillN l s,m.size≤s.size:=fun m hm=>by
 rcases fillB_sizes l s.size s.data.toList [] m hm with h|h
 ·cases h
 ·rw[size_lst] at h;exact h
theorem putN_le (l:List ByteArray) (n:ByteArray):(putN l n).length≤l.length+1:=by
 unfold putN;rw[List.length_append,List.length_singleton];have:=List.length_filter_le (fun x=>!decide (x=n)) l
 omega
theorem asks_len:∀(l:List ByteArray) (s:Ast),(s.asks l).asked.length≤s.asked.length+l.length
 | [],s=>Nat.le_refl _
 | n::l,s=>by
  have h:=asks_len l (s.ask n);have e:(s.ask n).asked.length≤s.asked.length+1:=by
   unfold Ast.ask;split
   ·omega
   ·exact putN_le _ _
  rw[List.length_cons]
  show ((s.ask n).asks l).asked.length≤_
  omega
theorem asks_snoc (l:List ByteArray) (n:ByteArray) (s:Ast):s.asks (l++[n])=(s.asks l).ask n:=by unfold Ast.asks;rw[List.foldl_append];rfl
end Go.Bd
namespace Go.Proofs.YtkkebmciiiajeaaGreatDoor
open Go.RowKit Go.Bd
theorem a_fill {w:World}{κ:Nat→Nat}{rb wm:Nat}{sv:Value}{v:Rv}{st:Ast}{stk:Stk} (h:ARd w κ rb wm sv v st stk) (hv:Vals st) (hn:st.attrs.length≤1000000000) (s:ByteArray) (hs:s.size≤1000000) (ha:st.asked.length≤100000000000) :
  Calls Tryz.prog 103 #[.pointer (some ⟨rb,0,none⟩),.string s] w fun e w'=>e=.returned (.string (fillT st.attrs s))∧ARd w' κ rb wm sv v (st.fill s) stk∧Mv w w' κ κ:=by
 have hF:=Fill_any (attrs_at h.attrs) (fun k hk=>h.lt k (by rw[h.kAt k hk];decide)) hn hv s hs;have c1:=h.hold.cell 1;simp at c1;obtain⟨A,c,hav,_⟩:=own_rowL h.attrs;rw[hav] at c1 hF;have hsz:=fillN_sizes st.attrs s;have hnl:=fillN_len hv s;have hst:st.fill s=st.asks (fillN st.attrs s):=rfl;rw[hst];obtain⟨ns,hns⟩:∃ns,fillN st.attrs s=ns:=⟨_,rfl⟩;obtain⟨tx,htx⟩:∃tx,fillT st.attrs s=tx:=⟨_,rfl⟩;rw[hns] at hF hsz hnl ⊢;rw[htx] at hF ⊢;have HF:=hidH4 hF h hsz hv;clear hF hav hns htx hst hsz hv
 go_enter Tryz.func103,Tryz.ntmps103
 go_wp2_with fail
 refine HF.out.1.mono ?_;rintro e w1 ⟨nv,rfl,hb1,ho1⟩;obtain⟨A1,k1,hnv,hk1⟩:=own_rowL ho1;subst hnv;obtain⟨nl,hnlen⟩:∃nl,ns.length=nl:=⟨_,rfl⟩;have hcells:∀(W:World),Mv w1 W κ κ→∀(k:Nat) (n:ByteArray),ns[k]? = some n→∃g,A1=some ⟨g,0,none⟩∧W.cell? ⟨g,k,none⟩=some (.string n):=fun W hW k n hk=>by
  obtain⟨g,cap,hh,_,_,hgl,hcl,_⟩:=own_rowN ho1 (by have:=(List.getElem?_eq_some_iff.1 hk).1;omega);cases hh
  refine⟨g,rfl,hW.chg.cell (p:=⟨g,k,none⟩) (fun hκ=>?_) (hcl k (.string n) (by unfold rowTx;rw[List.getElem?_map,hk];rfl))⟩;have h1:=HF.out.2.1.lt g hκ;have h2:=(own_obj ho1 (g:=g) rfl).1;omega
 rw[hnlen] at hk1 hnl ⊢;have HC:=hidH3 hcells hb1 hnlen;clear hcells ho1 hb1 hnlen
 go_wp2_with fail
 go_loopg [20] nl (fun q i wr=>∃k:Nat,k+q=nl∧i=.int .i64 (k:Int)∧Hid (ARd wr κ rb wm sv v (st.asks (ns.take k)) stk∧Mv w1 wr κ κ))
 case atStart=>exact⟨0,by omega,rfl,HF.out.2.1.below HC.out.2.1,Mv.refl _ _⟩
 case round =>
  obtain⟨k,hk,rfl,HR⟩:=hrel
  by_cases hlt:k<nl
  ·obtain⟨n,hn⟩:∃n,ns[k]? = some n:=⟨_,List.getElem?_eq_getElem (by rw[HC.out.2.2];exact hlt)⟩;obtain⟨g,rfl,q0⟩:=HC.out.1 wr HR.out.2 k n hn;have hA:=a_ask HR.out.1 n (by have:=HF.out.2.2.1 n (List.mem_of_getElem? hn);omega) (by have:=asks_len (ns.take k) st;rw[List.length_take] at this;omega);have HA:=hidH2 hA hn;clear hA hn
   go_wp2_with (go_at_call 99;refine HA.out.1.mono ?_;rintro e w2 ⟨rfl,hr2,hm2⟩)
   go_roundg (gk-1)
   case measure=>omega
   case rel=>exact⟨k+1,by omega,by go_num,by rw[List.take_add_one,HA.out.2];exact (asks_snoc _ _ _) ▸ hr2,HR.out.2.trans hm2⟩
  ·obtain rfl:k=nl:=by omega
   go_wp2_with fail
   go_ret
   have h2:=HR.out.1;rw[List.take_of_length_le (by rw[HC.out.2.2];exact Nat.le_refl _)] at h2;exact⟨rfl,h2,(Mv.below HC.out.2.1 κ).trans HR.out.2⟩
end Go.Proofs.YtkkebmciiiajeaaGreatDoor
namespace Go.Proofs.YtkkebmciiiajeaaGreatDoor
open Go.RowKit Go.Bd
theorem own_setN {w:World}{base sz n g c:Nat}{e:TypeId}{xs:List Value} (h:w.ownsRow base e sz (.slice (some ⟨g,0,none⟩) n c) n xs) (j:Nat) (u:Value):(w.setCell ⟨g,j,none⟩ u).ownsRow base e sz (.slice (some ⟨g,0,none⟩) n c) n (xs.set j u):=by
 obtain⟨cur,h1,h2,h3,h4,h5,h6⟩:=own_open h;have hb:(w.setCell ⟨g,j,none⟩ u).heap[g]? = some (.cells (cur.setIfInBounds j u) e (0,0)):=by simp[World.setCell,Array.getElem?_modify,h1]
 refine own_shut hb ?_ ?_ h4 h5 h6
 ·simp[h2]
 ·rw[←h3,Array.toList_setIfInBounds,List.take_set]
def WordP (w:World) (κ:Nat→Nat) (rb wm:Nat) (sv:Value) (pre:Stk) (nm:ByteArray) (pb:List (Nat×Value)) (b:Nat) (r:Rs) (w':World):Prop :=
 ∃κ' v' rv',v'.sb=pb++[(b,rv')]∧ARd w' κ' rb wm sv v' r.1 (pre++[(nm,r.2)])∧Mv w w' κ κ'
def lnV (l:Ln):Value:=.agg #[.string l.file,.int .i64 l.no,.string l.text]
abbrev boxed (w:World) (l:Ln):World:=w.alloc (.cells #[.string l.file,.int .i64 l.no,.string l.text] 156)
section
variable {w:World} {κ:Nat→Nat} {rb wm:Nat} {sv:Value} {v:Rv} {st:Ast} {pre:Stk} {nm:ByteArray} {cs:List Cd} {pb:List (Nat×Value)} {b:Nat} {rv:Value}
theorem boxed_cell (w:World) (l:Ln){w':World} (hb:Below (boxed w l).heap.size (boxed w l) w'){n:Nat} (hn:w.heap.size=n):w'.cell? ⟨n,0,none⟩=some (.string l.file)∧w'.cell? ⟨n,1,none⟩=some (.int .i64 l.no)∧w'.cell? ⟨n,2,none⟩=some (.string l.text):=by
 subst hn;have h:=(Holds.new w 156 #[.string l.file,.int .i64 l.no,.string l.text]).below hb (by simp);have c0:=h.cell 0;have c1:=h.cell 1;have c2:=h.cell 2;simp at c0 c1 c2;exact⟨c0,c1,c2⟩
theorem cd_turn (cs:List Cd) (c:Cd):(rowCd (cs++[c])).set (cs.length*6+5) (.bool true)=rowCd (cs++[{ c with other:=true }]):=by
 unfold rowCd;rw[List.flatMap_append,List.flatMap_append,List.set_append_right _ _ (by rw[flat_len cdCells 6 (fun _=>rfl)];omega),flat_len cdCells 6 (fun _=>rfl)];rw[show cs.length*6+5-cs.length*6=5 by omega];rfl
theorem ARd.turned {g cap:Nat}{c:Cd} (h:ARd w κ rb wm sv v st (pre++[(nm,cs++[c])])) (hv:v.sb=pb++[(b,.slice (some ⟨g,0,none⟩) (cs.length+1) cap)]) :
  ARd (w.setCell ⟨g,cs.length*6+5,none⟩ (.bool true)) κ rb wm sv { v with sb:=pb++[(b,.slice (some ⟨g,0,none⟩) (cs.length+1) cap)] } st (pre++[(nm,cs++[{ c with other:=true }])])∧Mv w (w.setCell ⟨g,cs.length*6+5,none⟩ (.bool true)) κ κ:=by
 have hs:=h.last hv;have hg:κ g=21+2*pre.length:=hs.kr g rfl;have hC:=Chg.set w ⟨g,cs.length*6+5,none⟩ (.bool true);have hr:=hs.row;dsimp only at hr;rw[List.length_append,List.length_singleton] at hr;refine⟨h.set_top hv (hC.mono (fun k _ hk=>.inr (by rw[show k=g from hk];exact hg))) (fun _ _=>rfl) (fun k hk=>Nat.lt_of_lt_of_le (h.lt k hk) hC.size) ⟨hC.holds (fun e=>by have h1:κ b=20+2*pre.length:=hs.kb;have e:b=g:=e;rw[e] at h1;omega) hs.hold,?_,hs.kb,hs.kr⟩,hC.mono (fun k _ hk=>by have e:k=g:=hk;rw[e];omega),fun _ _=>rfl⟩;have h2:=own_setN hr (cs.length*6+5) (.bool true);rw[cd_turn] at h2;dsimp only;rw[List.length_append,List.length_singleton];exact h2
theorem src_cell {j g cap:Nat}{c:Cd} (hs:SrcAt w κ j (b,.slice (some ⟨g,0,none⟩) (cs.length+1) cap) (nm,cs++[c])):∀i u,(cdCells c)[i]? = some u→w.cell? ⟨g,cs.length*6+i,none⟩=some u∧w.frozen? ⟨g,cs.length*6+i,none⟩=false:=fun i u hu=>by
 have hr:=hs.row;dsimp only at hr;rw[List.length_append,List.length_singleton] at hr;obtain⟨g',cap',e,_,_,_,h2,h3⟩:=own_rowN hr (by omega);injection e with e1 _ _
 injection e1 with e1
 injection e1 with e1
 subst e1;exact⟨h2 _ _ (flat_get cdCells 6 (fun _=>rfl) (j:=cs.length) (by simp) hu),h3 _⟩
theorem ARd.shut {g cap:Nat}{c:Cd} (h:ARd w κ rb wm sv v st (pre++[(nm,cs++[c])])) (hv:v.sb=pb++[(b,.slice (some ⟨g,0,none⟩) (cs.length+1) cap)]) :
  ARd (w.setCell ⟨b,1,none⟩ (.slice (some ⟨g,0,none⟩) cs.length cap)) κ rb wm sv { v with sb:=pb++[(b,.slice (some ⟨g,0,none⟩) cs.length cap)] } st (pre++[(nm,cs)])∧Mv w (w.setCell ⟨b,1,none⟩ (.slice (some ⟨g,0,none⟩) cs.length cap)) κ κ:=by
 have hs:=h.last hv;have hb:κ b=20+2*pre.length:=hs.kb;have hg:κ g=21+2*pre.length:=hs.kr g rfl;have hC:=Chg.set w ⟨b,1,none⟩ (.slice (some ⟨g,0,none⟩) cs.length cap);have hr:=hs.row;dsimp only at hr;rw[List.length_append,List.length_singleton] at hr;refine⟨h.set_top hv (hC.mono (fun k _ hk=>.inl (by have e:k=b:=hk;rw[e];exact hb))) (fun _ _=>rfl) (fun k hk=>Nat.lt_of_lt_of_le (h.lt k hk) hC.size) ⟨hs.hold.set 1 _,?_,hs.kb,fun k hk=>by rw[←hg];exact congrArg κ (by injection hk with hk;exact hk.symm)⟩,hC.mono (fun k _ hk=>by have e:k=b:=hk;rw[e];omega),fun _ _=>rfl⟩;obtain⟨v',e,h2⟩:=own_take hr (j:=cs.length) (by omega);subst e;have h3:=ownsRow_setCell_other h2 (a:=⟨b,1,none⟩) (fun e=>by injection e with e;have e:g=b:=e;rw[e] at hg;omega) (.slice (some ⟨g,0,none⟩) cs.length cap);have e:(rowCd (cs++[c])).take (cs.length*6)=rowCd cs:=by
  unfold rowCd;rw[List.flatMap_append,List.take_append_of_le_length (by rw[flat_len cdCells 6 (fun _=>rfl)];exact Nat.le_refl _),List.take_of_length_le (by rw[flat_len cdCells 6 (fun _=>rfl)];exact Nat.le_refl _)]
 rw[e] at h3;exact h3
theorem a_turn (h:ARd w κ rb wm sv v st (pre++[(nm,cs)])) (hv:v.sb=pb++[(b,rv)]) (hn:pre.length≤1000) (hc:cs.length≤100000) (hd:st.diags.length≤1000000000) (l:Ln) (rest:ByteArray) :
  Calls Tryz.prog 55 #[.pointer (some ⟨rb,0,none⟩),lnV l,.string rest] w fun e w'=>e=.returned (.tuple #[])∧WordP w κ rb wm sv pre nm pb b (turnM l st cs) w':=by
 have hB:=(Below.refl w.heap.size w).alloc (Nat.le_refl _) (.cells #[.string l.file,.int .i64 l.no,.string l.text] 156);have h1:=h.below hB;have hm1:=Mv.below hB κ;have hbx:=fun w' hb n hn=>@boxed_cell w l w' hb n hn
 unfold boxed at hbx;unfold lnV;obtain⟨n,hnn⟩:∃n,w.heap.size=n:=⟨_,rfl⟩;obtain⟨W1,hW1⟩:∃W1,w.alloc (.cells #[.string l.file,.int .i64 l.no,.string l.text] 156)=W1:=⟨_,rfl⟩;rw[hW1] at h1 hm1 hbx;have HB:=hidH4 h1 hm1 hbx hnn;clear h1 hm1 hbx hB h
 rcases List.eq_nil_or_concat cs with hcs|⟨c0,c,hcs⟩
 ·subst hcs
  go_enter Tryz.func55,Tryz.ntmps55
  go_wp2_with fail
  (try rw[hW1])
  (try rw[hnn])
  clear hW1 hnn;refine (a_top HB.out.1 hv hn).mono ?_;rintro e w2 ⟨rfl,hb2⟩;have h2:=HB.out.1.below hb2;obtain⟨d0,d1,d2⟩:=HB.out.2.2.1 w2 hb2 n HB.out.2.2.2;have H2:=hidH2 h2 (HB.out.2.1.trans (Mv.below hb2 κ));clear h2 hb2
  go_wp2_with fail
  refine (a_last_nil (H2.out.1.last hv)).mono ?_;rintro e w3 ⟨rfl,rfl⟩
  go_wp2_with fail
  refine (a_tell H2.out.1 l.file l.text l.no 4 l.text hd).mono ?_;rintro e w4 ⟨rfl,κ',dv',hr,hm⟩;go_wp2;refine bodyPost_ret (results_none rfl _ _ _) rfl ?_;exact⟨rfl,κ',{ v with dv:=dv' },rv,hv,hr,H2.out.2.trans hm⟩
 ·rw[List.concat_eq_append] at hcs;subst hcs;rw[List.length_append,List.length_singleton] at hc;have hg2:turnM l st (c0++[c])=if c.other then (st.tell l 4 l.text,c0++[c]) else (st,c0++[{ c with other:=true }]):=by
   unfold turnM;rw[List.getLast?_concat,List.dropLast_concat]
  rw[hg2];clear hg2;cases ho:c.other
  ·rw[if_neg (by decide)]
   go_enter Tryz.func55,Tryz.ntmps55
   go_wp2_with fail
   (try rw[hW1])
   (try rw[hnn])
   clear hW1 hnn;refine (a_top HB.out.1 hv hn).mono ?_;rintro e w2 ⟨rfl,hb2⟩;have h2:=HB.out.1.below hb2;have H2:=hidH2 h2 (HB.out.2.1.trans (Mv.below hb2 κ));clear h2 hb2
   go_wp2_with fail
   refine (a_last_at (H2.out.1.last hv) (by omega)).mono ?_;rintro e w3 ⟨⟨g,cap,hrv,rfl⟩,hb3⟩;subst hrv;have h3:=H2.out.1.below hb3;have hm3:=H2.out.2.trans (Mv.below hb3 κ);obtain⟨c5,f5⟩:=src_cell (h3.last hv) 5 (.bool c.other) rfl;rw[ho] at c5;have H3:=hidH2 (h3.turned hv) hm3;clear h3 hm3 hb3 ho;generalize c0.length=n0 at *;go_wp2
   first|go_end0|refine bodyPost_ret (results_none rfl _ _ _) rfl ?_
   exact⟨rfl,κ,_,_,rfl,H3.out.1.1,H3.out.2.trans H3.out.1.2⟩
  ·rw[if_pos rfl]
   go_enter Tryz.func55,Tryz.ntmps55
   go_wp2_with fail
   (try rw[hW1])
   (try rw[hnn])
   clear hW1 hnn;refine (a_top HB.out.1 hv hn).mono ?_;rintro e w2 ⟨rfl,hb2⟩;have h2:=HB.out.1.below hb2;have H2:=hidH3 h2 (HB.out.2.1.trans (Mv.below hb2 κ)) hb2;clear h2 hb2
   go_wp2_with fail
   refine (a_last_at (H2.out.1.last hv) (by omega)).mono ?_;rintro e w3 ⟨⟨g,cap,hrv,rfl⟩,hb3⟩;subst hrv;have h3:=H2.out.1.below hb3;obtain⟨d0,d1,d2⟩:=HB.out.2.2.1 w3 (H2.out.2.2.trans (hb3.mono H2.out.2.2.size)) n HB.out.2.2.2;have hm3:=H2.out.2.1.trans (Mv.below hb3 κ);obtain⟨c5,f5⟩:=src_cell (h3.last hv) 5 (.bool c.other) rfl;rw[ho] at c5;have H3:=hidH2 h3 hm3;clear h3 hm3 hb3 ho
   go_wp2_with fail
   refine (a_tell H3.out.1 l.file l.text l.no 4 l.text hd).mono ?_;rintro e w4 ⟨rfl,κ',dv',hr,hm⟩;go_wp2;refine bodyPost_ret (results_none rfl _ _ _) rfl ?_;exact⟨rfl,κ',{ v with dv:=dv' },_,hv,hr,H3.out.2.trans hm⟩
theorem a_end (h:ARd w κ rb wm sv v st (pre++[(nm,cs)])) (hv:v.sb=pb++[(b,rv)]) (hn:pre.length≤1000) (hc:cs.length≤100000) (hd:st.diags.length≤1000000000) (l:Ln) (rest:ByteArray) :
  Calls Tryz.prog 56 #[.pointer (some ⟨rb,0,none⟩),lnV l,.string rest] w fun e w'=>e=.returned (.tuple #[])∧WordP w κ rb wm sv pre nm pb b (endM l st cs) w':=by
 have hB:=(Below.refl w.heap.size w).alloc (Nat.le_refl _) (.cells #[.string l.file,.int .i64 l.no,.string l.text] 156);have h1:=h.below hB;have hm1:=Mv.below hB κ;have hbx:=fun w' hb n hn=>@boxed_cell w l w' hb n hn
 unfold boxed at hbx;unfold lnV;obtain⟨n,hnn⟩:∃n,w.heap.size=n:=⟨_,rfl⟩;obtain⟨W1,hW1⟩:∃W1,w.alloc (.cells #[.string l.file,.int .i64 l.no,.string l.text] 156)=W1:=⟨_,rfl⟩;rw[hW1] at h1 hm1 hbx;have HB:=hidH4 h1 hm1 hbx hnn;clear h1 hm1 hbx hB h
 rcases List.eq_nil_or_concat cs with hcs|⟨c0,c,hcs⟩
 ·subst hcs
  go_enter Tryz.func56,Tryz.ntmps56
  go_wp2_with fail
  (try rw[hW1])
  (try rw[hnn])
  clear hW1 hnn;refine (a_top HB.out.1 hv hn).mono ?_;rintro e w2 ⟨rfl,hb2⟩;have h2:=HB.out.1.below hb2;obtain⟨d0,d1,d2⟩:=HB.out.2.2.1 w2 hb2 n HB.out.2.2.2;have H2:=hidH2 h2 (HB.out.2.1.trans (Mv.below hb2 κ));clear h2 hb2
  go_wp2_with fail
  refine (a_last_nil (H2.out.1.last hv)).mono ?_;rintro e w3 ⟨rfl,rfl⟩
  go_wp2_with fail
  refine (a_tell H2.out.1 l.file l.text l.no 4 l.text hd).mono ?_;rintro e w4 ⟨rfl,κ',dv',hr,hm⟩;go_wp2;refine bodyPost_ret (results_none rfl _ _ _) rfl ?_;exact⟨rfl,κ',{ v with dv:=dv' },rv,hv,hr,H2.out.2.trans hm⟩
 ·rw[List.concat_eq_append] at hcs;subst hcs;rw[List.length_append,List.length_singleton] at hc;have hg2:endM l st (c0++[c])=(st,c0):=by
   unfold endM;rw[List.getLast?_concat,List.dropLast_concat]
  rw[hg2];clear hg2
  go_enter Tryz.func56,Tryz.ntmps56
  go_wp2_with fail
  (try rw[hW1])
  (try rw[hnn])
  clear hW1 hnn;refine (a_top HB.out.1 hv hn).mono ?_;rintro e w2 ⟨rfl,hb2⟩;have h2:=HB.out.1.below hb2;have H2:=hidH2 h2 (HB.out.2.1.trans (Mv.below hb2 κ));clear h2 hb2
  go_wp2_with fail
  refine (a_last_at (H2.out.1.last hv) (by omega)).mono ?_;rintro e w3 ⟨⟨g,cap,hrv,rfl⟩,hb3⟩;subst hrv;have h3:=H2.out.1.below hb3;have hm3:=H2.out.2.trans (Mv.below hb3 κ);have c1:=(h3.last hv).hold.cell 1;have f1:=(h3.last hv).hold.free 1;simp at c1 f1;have hc1:c0.length+1≤cap:=by
   have hr:=(h3.last hv).row;dsimp only at hr;rw[List.length_append,List.length_singleton] at hr;obtain⟨_,_,_,_,h,_⟩:=own_open hr;exact h
  have e1:IntKind.i64.wrap ((c0.length:Int)+1-1)=(c0.length:Int):=by
   rw[show (c0.length:Int)+1-1=c0.length by omega];exact IntWalk.i64_in _ (by omega)
  have e2:((c0.length:Int)+1-1)=(c0.length:Int):=by omega
  have e3:IntKind.i64.wrap (c0.length:Int)=(c0.length:Int):=IntWalk.i64_in _ (by omega);have hbd:Below w3.heap.size w3 w3.drew:=(Below.refl _ w3).drew;have H3:=hidH2 ((h3.below hbd).shut hv) (hm3.trans (Mv.below hbd κ));clear h3 hm3 hb3 hbd;generalize c0.length=n0 at *
  go_wp2_with fail
  go_region
  go_wp2
  go_end0
  exact⟨rfl,κ,_,_,rfl,H3.out.1.1,H3.out.2.trans H3.out.1.2⟩
end
end Go.Proofs.YtkkebmciiiajeaaGreatDoor
