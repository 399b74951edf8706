/-
  What the chapter's laws share, part 5: plain facts, memory, and walks of functions. Its conditions: those that each theorem names.
-/
import Derived.Maps.OwnSet
import Derived.StringKeys
import Derived.Carry
import Derived.Test.YtkdknllcllhpgaaGreatDoorK0
import Derived.Test.YtkdknllcllhpgaaGreatDoorK1
import Derived.Test.YtkdknllcllhpgaaGreatDoorK4
set_option linter.unusedSimpArgs false
set_option linter.unusedVariables false
set_option maxHeartbeats 16000000
set_option maxRecDepth 100000
namespace Go.Proofs.YtkdknllcllhpgaaGreatDoor
open Go.RowKit Go.Bd
def RdPost (w:World) (O F:Nat→Prop) (rb:Nat) (lv:Value) (pos:Nat) (bs:List Bl) (ds:List Dg) (r:Told) (w':World):Prop :=
 ∃O' F' bv' dv',Rdr w' O' F' rb lv (pos+r.1) bv' (bs++r.2.1) dv' (ds++r.2.2)∧Turn w w' O F O' F'
theorem para_shift (ls:List Ln) (pos:Nat) (s:ByteArray):paraB (ls.drop pos) 0 s=paraB ls pos s:=by unfold paraB paraT;rw[List.drop_zero]
theorem tail_len (r:List Ln):(Lib.joinTail [32] (r.map fun x=>trim x.text.data.toList)).length≤wtX r:=by
 induction r with
 | nil=>simp[Lib.joinTail,wtX]
 | cons x r ih =>
  have:=trim_size x.text
  simp only[Lib.joinTail,List.map_cons,List.flatten_cons,List.length_append,List.length_cons,List.length_nil,wtX] at ih ⊢;omega
theorem paraB_len (ls:List Ln) (pos:Nat) (s:ByteArray):(paraB ls pos s).length≤s.size+wtX (ls.drop pos):=by
 have h1:=tail_len ((ls.drop pos).take (untilN (fun t=>!plainL t) (ls.drop pos)));have h2:=untilN_take (fun t=>!plainL t) (ls.drop pos);unfold paraB paraT;rw[Lib.join_cons,List.length_append,←size_list];omega
theorem read_head {w:World}{O F:Nat→Prop}{rb:Nat}{lv:Value}{pos:Nat}{bv:Value}{bs:List Bl}{dv:Value}{ds:List Dg} (h:Rdr w O F rb lv pos bv bs dv ds) (f t:ByteArray) (no:Int) (s:ByteArray) (hs:s.size≤100000000){m:Int} (hm:Glob m w) (h3:∀k,O k→3≤k)
  (hl:bs.length≤1000000000) (hd:ds.length+10+s.size≤1000000000) (hA:0<(leadB s.data.toList 61).1) (hpl:plS (titleB (⟨(leadB s.data.toList 61).2.toArray⟩:ByteArray).data.toList).1=true) :
  Calls Tryz.prog 58 #[.pointer (some ⟨rb,0,none⟩),.agg #[.string f,.int .i64 no,.string t],.string s] w fun e w'=>e=.returned (.tuple #[])∧RdPost w O F rb lv pos bs ds (headR f no s) w':=by
 have hll:=lead_le s.data.toList 61;have hl1:=leading_any s 61 (w.alloc (.cells #[.string f,.int .i64 no,.string t] 107)) hs;unfold RdPost headR;obtain⟨A,hA0⟩:∃A,leadB s.data.toList 61=A:=⟨_,rfl⟩;rw[hA0] at hl1 hA hll hpl ⊢;simp only[];obtain⟨lv1,bh⟩:=A;simp only at hl1 hA hll ⊢;unfold strV at hl1;have e61:(((61:UInt8).toNat:Nat):Int)=61:=rfl;rw[e61] at hl1;rw[←size_list] at hll;have hb:=(Below.refl w.heap.size w).alloc (Nat.le_refl _) (.cells #[.string f,.int .i64 no,.string t] 107);have hX:=Holds.new w 107 #[.string f,.int .i64 no,.string t];have HR:=hidH4 h hb hX hm;have hA1:(0:Int)<(lv1:Int):=by omega
 obtain⟨bt,hbt⟩:∃bt:ByteArray,⟨bh.toArray⟩=bt:=⟨_,rfl⟩;have hbz:bt.size≤s.size:=by rw[←hbt,size_mk];exact hll
 rw[hbt] at hl1 ⊢;have hpl2:plS (titleB bt.data.toList).1=true:=by rw[←hbt];exact hpl
 clear hpl;have hfl:(faultsOf (titleB bt.data.toList).1).length≤s.size:=by
  have h1:=faults_le (titleB bt.data.toList).1;have h2:=titleB_le bt.data.toList;rw[←size_list] at h2;omega
 clear h hb hX hm e61 hA0 hA hbt
 go_enter Tryz.func58,Tryz.ntmps58
 go_wp2_with fail
 refine hl1.mono ?_;clear hl1;rintro e w1 ⟨rfl,hb1⟩;have hB1:Below w.heap.size w w1:=HR.out.2.1.trans (hb1.mono (by simp));have hX1:=HR.out.2.2.1.below hb1 HR.out.2.2.1.lt;have hB2:Below w.heap.size w (w1.alloc (.cells #[.int .u8 1,.int .i64 (lv1:Int),.bool false,.string ⟨#[]⟩,.string ⟨#[]⟩,.slice none 0 0,.slice none 0 0,.string ⟨#[]⟩,.int .i64 0] 72)):=hB1.alloc hB1.size _;have hX2:=hX1.alloc (.cells #[.int .u8 1,.int .i64 (lv1:Int),.bool false,.string ⟨#[]⟩,.string ⟨#[]⟩,.slice none 0 0,.slice none 0 0,.string ⟨#[]⟩,.int .i64 0] 72);obtain⟨d0,d1,d2⟩:=cells3 hX2;have CT:=titled_any (HR.out.1.below hB2) ⟨1,lv1,false,⟨#[]⟩,⟨#[]⟩,[],[],⟨#[]⟩,0⟩ (.slice none 0 0) (rows_nil _ _) f t no bt (by omega) (HR.out.2.2.2.chg (Chg.below hB2 (fun _=>False)) (fun _ h=>h.elim)) h3 hl (by omega) hpl2;have e1:((1:Nat):Int)=1:=rfl;simp only[e1] at CT;have HT:Hid (Turn w _ O F O F):=Lib.hid ⟨Chg.below hB2 O,fun _ h=>.inl h,fun _ h=>.inl h,fun _ h=>h⟩;clear hB1 hX1 hB2 hX2 e1 hb1
 go_wp2_with fail
 refine CT.mono ?_;clear CT;rintro e w3 ⟨rfl,O3,F3,bv3,dv3,hr3,ht3⟩;have H3:=hidH2 hr3 ht3;clear hr3 ht3;go_wp2
 (try simp only[Exit.inBlock,Exit.then])
 refine bodyPost_ret (results_none rfl _ _ _) rfl ?_;exact⟨rfl,O3,F3,bv3,dv3,H3.out.1,HT.out.trans H3.out.2⟩
theorem read_para {w:World}{O F:Nat→Prop}{rb:Nat}{lv:Value}{pos:Nat}{bv:Value}{bs:List Bl}{dv:Value}{ds:List Dg} (h:Rdr w O F rb lv pos bv bs dv ds) (f t:ByteArray) (no:Int) (s:ByteArray) (hs:s.size≤100000000){m:Int} (hm:Glob m w) (h3:∀k,O k→3≤k)
  (hl:bs.length≤1000000000) (hd:ds.length+10+s.size≤1000000000) (hA:¬0<(leadB s.data.toList 61).1) (hI:¬0<(itemB s.data.toList).1) (h0:¬s.data.toList=[]) (h4:¬s.data.toList=fenceL) (hpf:Lib.hasPrefix s.data.toList barsL=false) {L:Nat→Prop} {ls:List Ln} (hL:LinesAt w L lv ls) (hLO:∀k,L k→¬O k) (hLl:∀k,L k→k<w.heap.size) (hsz:∀x∈ls,x.text.size≤100000000) (hp:pos≤ls.length) (hn:ls.length≤1000000) (hwt:s.size+wtX (ls.drop pos)≤100000000) (hd2:ds.length+10+s.size+wtX (ls.drop pos)≤1000000000) (hpp:plS (paraB ls pos s)=true) :
  Calls Tryz.prog 58 #[.pointer (some ⟨rb,0,none⟩),.agg #[.string f,.int .i64 no,.string t],.string s] w fun e w'=>e=.returned (.tuple #[])∧RdPost w O F rb lv pos bs ds (paraR f no s (ls.drop pos)) w':=by
 have hl1:=leading_any s 61 (w.alloc (.cells #[.string f,.int .i64 no,.string t] 107)) hs;have hit:=fun W=>item_any s W hs
 obtain⟨A,hA0⟩:∃A,leadB s.data.toList 61=A:=⟨_,rfl⟩;rw[hA0] at hl1 hA;obtain⟨lv1,bh⟩:=A;simp only at hl1 hA;obtain rfl:lv1=0:=by omega
 unfold strV at hl1;have e61:(((61:UInt8).toNat:Nat):Int)=61:=rfl;rw[e61] at hl1;have e0:((0:Nat):Int)=0:=rfl;rw[e0] at hl1;have hb:=(Below.refl w.heap.size w).alloc (Nat.le_refl _) (.cells #[.string f,.int .i64 no,.string t] 107);have hX:=Holds.new w 107 #[.string f,.int .i64 no,.string t];unfold RdPost;obtain⟨I,hI0⟩:∃I,itemB s.data.toList=I:=⟨_,rfl⟩;rw[hI0] at hit hI;obtain⟨lvl,ord,it⟩:=I;simp only at hit hI;obtain rfl:lvl=0:=by omega
 rw[e0] at hit;unfold strV at hit;have n0:(s.toList==([]:Bs))=false:=by rw[ByteArray.toList_eq];exact beq_eq_false_iff_ne.2 h0
 have n4:(s.toList==([45,45,45,45]:Bs))=false:=by rw[ByteArray.toList_eq];exact beq_eq_false_iff_ne.2 h4
 have n00:s.toList.isEmpty=false:=ba_nonempty (fun e=>h0 (by rw[e]));have hcp:=fun W=>Tryz.strings_HasPrefix s ⟨#[124,61,61,61]⟩ W
 have eb:(⟨#[124,61,61,61]⟩:ByteArray).data.toList=barsL:=rfl;rw[eb,hpf] at hcp;have hpl:=paraB_len ls pos s;have hpf2:=faults_le (paraB ls pos s);have HR:=hidH4 h hb hX hm;have hL1:=fun W (hW:Below w.heap.size w W)=>hL.chg (Chg.below hW (fun _=>False)) (fun _ _ h=>h)
 have HL:=hidH2 hL1 hLl;clear h hb hX hm e61 hA0 hA hI hI0 e0 h0 h4 hL1 eb hpf
 go_enter Tryz.func58,Tryz.ntmps58
 go_wp2_with fail
 refine hl1.mono ?_;clear hl1;rintro e w1 ⟨rfl,hb1⟩;have hB1:Below w.heap.size w w1:=HR.out.2.1.trans (hb1.mono (by simp));have hX1:=HR.out.2.2.1.below hb1 HR.out.2.2.1.lt
 go_wp2_with fail
 refine (hit _).mono ?_;clear hit;rintro e w2 ⟨rfl,hb2⟩;have hB2:Below w.heap.size w w2:=hB1.trans (hb2.mono hB1.size);have hX2:=hX1.below hb2 hX1.lt;have hL2:=HL.out.1 w2 hB2;have CC:=para_any (HR.out.1.below hB2) hL2 hLO (fun k hk=>Nat.lt_of_lt_of_le (HL.out.2 k hk) hB2.size) hsz hp hn f t no s (HR.out.2.2.2.chg (Chg.below hB2 (fun _=>False)) (fun _ h=>h.elim)) h3 hl (by omega) (by omega) hpp;obtain⟨d0,d1,d2⟩:=cells3 hX2;have HT:Hid (Turn w w2 O F O F):=Lib.hid ⟨Chg.below hB2 O,fun _ h=>.inl h,fun _ h=>.inl h,fun _ h=>h⟩;clear hB1 hX1 hB2 hX2 hb1 hb2 hL2
 go_wp2_with (go_at_call 94;refine (hcp _).mono ?_;rintro e w5 ⟨rfl,hw5⟩;subst hw5)
 refine CC.mono ?_;clear CC;rintro e w3 ⟨rfl,O3,F3,bv3,dv3,hr3,ht3⟩;have H3:=hidH2 hr3 ht3;clear hr3 ht3;go_wp2
 go_end0
 refine⟨rfl,O3,F3,bv3,dv3,?_,HT.out.trans H3.out.2⟩;unfold paraR;rw[para_shift];exact H3.out.1
end Go.Proofs.YtkdknllcllhpgaaGreatDoor
namespace Go.Bd
open Go.RowKit Go.Maps Go.WideMaps
def heldR:Value→Option (DataW Value×List MemPlace):=fun v=>some (.held v,[])
def nameL (s:ByteArray):Lit:=.string s.data.toList
structure Fe where
 name:ByteArray
 v:Value
 c:Bs
def findF (es:List Fe) (s:ByteArray):Option Fe:=es.find? (fun e=>decide (e.name=s))
def delF (es:List Fe) (s:ByteArray):List Fe:=es.filter (fun e=>!decide (e.name=s))
def putF (es:List Fe) (e:Fe):List Fe:=delF es e.name++[e]
theorem findF_del_same (es:List Fe) (s:ByteArray):findF (delF es s) s=none:=by
 unfold findF delF;rw[List.find?_eq_none];intro x hx;have:=(List.mem_filter.1 hx).2
 simpa using this
theorem findF_del_other (es:List Fe){s t:ByteArray} (h:t≠s):findF (delF es s) t=findF es t:=by
 unfold findF delF;rw[List.find?_filter]
 congr 1
 funext e
 by_cases he:e.name=t
 ·simp[he,h]
 ·simp[he]
theorem findF_put_same (es:List Fe) (e:Fe):findF (putF es e) e.name=some e:=by
 unfold putF;have h:=findF_del_same es e.name;unfold findF at h ⊢;rw[List.find?_append,h];simp
theorem findF_put_other (es:List Fe) (e:Fe){t:ByteArray} (h:t≠e.name):findF (putF es e) t=findF es t:=by
 unfold putF;have h1:=findF_del_other es h;unfold findF at h1 ⊢;rw[List.find?_append,h1];have:List.find? (fun x=>decide (x.name=t)) [e]=none:=by simp[Ne.symm h]
 rw[this,Option.or_none]
def Uniq (es:List Fe):Prop:=es.Pairwise (fun a b=>a.name≠b.name)
theorem Uniq.del {es:List Fe} (h:Uniq es) (s:ByteArray):Uniq (delF es s):=List.Pairwise.filter _ h
theorem Uniq.put {es:List Fe} (h:Uniq es) (e:Fe):Uniq (putF es e):=by
 unfold Uniq putF;rw[List.pairwise_append];refine⟨h.del _,List.pairwise_singleton _ _,fun a ha b hb=>?_⟩;rw[List.mem_singleton] at hb;subst hb;have:=(List.mem_filter.1 ha).2
 simpa using this
theorem del_length {es:List Fe} (h:Uniq es) (s:ByteArray):(delF es s).length+(if (findF es s).isSome then 1 else 0)=es.length:=by
 induction es with
 | nil=>simp[delF,findF]
 | cons a es ih =>
  have h1:=List.pairwise_cons.1 h;have ih':=ih h1.2
  by_cases ha:a.name=s
  ·have e1:delF es s=es:=by
    unfold delF;rw[List.filter_eq_self];intro x hx;have:=h1.1 x hx
    simp[←ha,Ne.symm this]
   have e2:delF (a::es) s=es:=by
    unfold delF at e1 ⊢;rw[List.filter_cons_of_neg (by simp[ha]),e1]
   rw[e2];simp[findF,ha]
  ·have e2:delF (a::es) s=a::delF es s:=by
    unfold delF;rw[List.filter_cons_of_pos (by simp[ha])]
   have e3:findF (a::es) s=findF es s:=by
    unfold findF;rw[List.find?_cons_of_neg (by simp[ha])]
   rw[e2,e3,List.length_cons,List.length_cons];omega
theorem put_length {es:List Fe} (h:Uniq es) (e:Fe):(putF es e).length=es.length+(if (findF es e.name).isSome then 0 else 1):=by
 have:=del_length h e.name
 unfold putF;rw[List.length_append,List.length_singleton];split at this<;>split<;>simp_all
def FsMap (w:World) (P:Program) (K:TypeId) (bm:Nat) (es:List Fe):Prop :=
 ∃D,w.ownsMap P K heldR bm es.length D∧Maps.size D=es.length∧(∀s:ByteArray,Maps.has D (nameL s)=(findF es s).isSome)∧∀(s:ByteArray) z,D.atKey (nameL s) z=match findF es s with|some e=>.held e.v|none=>z
theorem nameL_ne {s t:ByteArray} (h:t≠s):nameL t≠nameL s:=fun e=>by
 unfold nameL at e;injection e with e
 exact h (by cases s;cases t;simp_all)
section
variable {w w':World} {P:Program} {K T E bm:Nat} {es:List Fe}
theorem tight {n:Nat}{D:DataW Value} (h:w.ownsMap P K heldR bm n D):w.ownsMap P K heldR bm (Maps.size D) D:=by
 obtain⟨es,clock,h1,h2,_,h4⟩:=h;refine⟨es,clock,h1,h2,?_,h4⟩;rw[h4];simp[Maps.size,length_sorted]
theorem FsMap.lt (h:FsMap w P K bm es):bm<w.heap.size:=by
 obtain⟨D,h1,_⟩:=h;exact h1.lt
theorem FsMap.eq (h:FsMap w P K bm es) (he:w'.heap[bm]? = w.heap[bm]?):FsMap w' P K bm es:=by
 obtain⟨D,⟨m,clock,h1,h2⟩,h3⟩:=h;exact⟨D,⟨m,clock,he.trans h1,h2⟩,h3⟩
theorem FsMap.chg {S:Nat→Prop} (h:FsMap w P K bm es) (hc:Chg w w' S) (hS:¬S bm):FsMap w' P K bm es:=h.eq (hc.block _ h.lt hS)
theorem FsMap.new (w:World) (P:Program) (K:TypeId):FsMap (w.alloc (.map #[] 0)) P K w.heap.size [] :=
 ⟨.map [],World.ownsMap_made _ _ _ _,rfl,fun s=>rfl,fun s z=>rfl⟩
theorem FsMap.store (h:FsMap w P K bm es) (hu:Uniq es) (hk:P.underlying K=some .string) (ht:P.underlying T=some (.map K E)) (hn:es.length<maxLen) (e:Fe) (hs:e.name.size≤maxLen) :
  ∃w',(Instr.mapUpdate T (.map (some bm)) (.string e.name) e.v).run P w=.ok () w'∧FsMap w' P K bm (putF es e)∧Chg w w' (fun b=>b=bm)∧w'.heap.size=w.heap.size:=by
 obtain⟨D,h1,h2,h3,h4⟩:=h;obtain⟨w',hrun,h5,h6⟩:=h1.store (string_keyed hk) ht hn (keyOf_string_mk hk hs) (val:=e.v) (d:=.held e.v) (ps:=[]) rfl;have hsz:Maps.size (D.put (nameL e.name) (.held e.v))=(putF es e).length:=by
  have e1:=Maps.size_put (h1.tidy (string_keyed hk)) (k:=nameL e.name) (.held e.v);rw[e1,h3,put_length hu,h2];split<;>simp
 refine⟨w',hrun,⟨D.put (nameL e.name) (.held e.v),?_,hsz,fun s=>?_,fun s z=>?_⟩,(Chg.grown h6.grown).mono (fun k _ h=>by simpa using h),?_⟩
 ·rw[←hsz];exact tight h5
 ·by_cases hse:s=e.name
  ·subst hse;rw[findF_put_same,Maps.has_put_same h1.isMap (by exact trivial)];rfl
  ·rw[findF_put_other _ _ hse,Maps.has_put_other (nameL_ne hse),h3]
 ·by_cases hse:s=e.name
  ·subst hse;rw[findF_put_same,Maps.atKey_put_same h1.isMap (by exact trivial)]
  ·rw[findF_put_other _ _ hse,Maps.atKey_put_other (nameL_ne hse),h4]
 ·obtain⟨_,_,_,_,_,rfl⟩:=h6;simp[ChangeMaps.setBlock]
end
end Go.Bd
namespace Go.Bd
open Go.RowKit
def noteV (kb pb:Nat):Value:=.func (.func 83) #[] #[.pointer (some ⟨kb,0,none⟩),.pointer (some ⟨pb,0,none⟩)]
def figV (pb:Nat):Value:=.func (.func 86) #[] #[.pointer (some ⟨pb,0,none⟩)]
def cmds (n:Nat):List Fe:=[⟨⟨#[102,105,103]⟩,figV n,[]⟩,⟨⟨#[110,111,116,101]⟩,noteV (n+2) n,[]⟩,⟨⟨#[116,105,112]⟩,noteV (n+3) n,[]⟩,⟨⟨#[119,97,114,110]⟩,noteV (n+4) n,[]⟩]
end Go.Bd
namespace Go.Proofs.YtkdknllcllhpgaaGreatDoor
open Go.RowKit Go.Bd
theorem cmap_under:Tryz.prog.underlying 104=some (.map 9 111):=by kernel_rfl
theorem str_under:Tryz.prog.underlying 9=some .string:=by kernel_rfl
theorem commands_any (rb:Nat) (w:World) :
  Calls Tryz.prog 54 #[.pointer (some ⟨rb,0,none⟩)] w fun e w'=>e=.returned (.map (some (w.heap.size+1)))∧∃tp,FsMap w' Tryz.prog 9 (w.heap.size+1) (cmds w.heap.size)∧Holds w' w.heap.size tp #[.pointer (some ⟨rb,0,none⟩)]∧Holds w' (w.heap.size+2) 9 #[.string ⟨#[110,111,116,101]⟩]∧Holds w' (w.heap.size+3) 9 #[.string ⟨#[116,105,112]⟩]∧Holds w' (w.heap.size+4) 9 #[.string ⟨#[119,97,114,110]⟩]∧Below w.heap.size w w':=by
 have hmm:=@run_makeMap Tryz.prog;obtain⟨n,hn⟩:∃n,w.heap.size=n:=⟨_,rfl⟩;obtain⟨w0,hw0⟩:∃w0,(w.alloc (.cells #[.pointer (some ⟨rb,0,none⟩)] 101)).alloc (.map #[] 0)=w0:=⟨_,rfl⟩;have hB0:Below w.heap.size w w0:=hw0 ▸ ((Below.refl _ w).alloc (Nat.le_refl _) _).alloc (by simp) _;have hm0:=FsMap.new (w.alloc (.cells #[.pointer (some ⟨rb,0,none⟩)] 101)) Tryz.prog 9;have hp0:=(Holds.new w 101 #[.pointer (some ⟨rb,0,none⟩)]).alloc (.map #[] 0);rw[World.size_alloc,hn,hw0] at hm0;rw[hn,hw0] at hp0;have hs0:w0.heap.size=n+2:=by rw[←hw0,World.size_alloc,World.size_alloc,hn]
 obtain⟨w1,r1,m1,c1,s1⟩:=hm0.store (T:=104) List.Pairwise.nil str_under cmap_under (by simp[maxLen]) ⟨⟨#[102,105,103]⟩,figV n,[]⟩ (by show (3:Nat)≤maxLen;unfold maxLen;omega);rw[hs0] at s1;have u1:Uniq (putF [] ⟨⟨#[102,105,103]⟩,figV n,[]⟩):=Uniq.put List.Pairwise.nil _;have l1:(putF [] ⟨⟨#[102,105,103]⟩,figV n,[]⟩).length≤1:=by rw[put_length List.Pairwise.nil];simp[findF]
 have a2:=(Chg.refl w1 (fun _=>False)).alloc (.cells #[.string ⟨#[110,111,116,101]⟩] 9);have z2:(w1.alloc (.cells #[.string ⟨#[110,111,116,101]⟩] 9)).heap.size=n+3:=by rw[World.size_alloc,s1]
 have g2:=Holds.new w1 9 #[.string ⟨#[110,111,116,101]⟩];rw[s1] at g2;obtain⟨w2,r2,m2,c2,s2⟩:=(m1.chg a2 (fun h=>h)).store (T:=104) u1 str_under cmap_under (Nat.lt_of_le_of_lt l1 (by decide)) ⟨⟨#[110,111,116,101]⟩,noteV (n+2) n,[]⟩ (by show (4:Nat)≤maxLen;unfold maxLen;omega);rw[z2] at s2;have u2:=Uniq.put u1 ⟨⟨#[110,111,116,101]⟩,noteV (n+2) n,[]⟩;have l2:=Nat.le_trans (Nat.le_of_eq (put_length u1 ⟨⟨#[110,111,116,101]⟩,noteV (n+2) n,[]⟩)) (show _≤2 by split<;>omega);have a3:=(Chg.refl w2 (fun _=>False)).alloc (.cells #[.string ⟨#[116,105,112]⟩] 9);have z3:(w2.alloc (.cells #[.string ⟨#[116,105,112]⟩] 9)).heap.size=n+4:=by rw[World.size_alloc,s2]
 have g3:=Holds.new w2 9 #[.string ⟨#[116,105,112]⟩];rw[s2] at g3;obtain⟨w3,r3,m3,c3,s3⟩:=(m2.chg a3 (fun h=>h)).store (T:=104) u2 str_under cmap_under (Nat.lt_of_le_of_lt l2 (by decide)) ⟨⟨#[116,105,112]⟩,noteV (n+3) n,[]⟩ (by show (3:Nat)≤maxLen;unfold maxLen;omega);rw[z3] at s3;have u3:=Uniq.put u2 ⟨⟨#[116,105,112]⟩,noteV (n+3) n,[]⟩;have l3:=Nat.le_trans (Nat.le_of_eq (put_length u2 ⟨⟨#[116,105,112]⟩,noteV (n+3) n,[]⟩)) (show _≤3 by split<;>omega);have a4:=(Chg.refl w3 (fun _=>False)).alloc (.cells #[.string ⟨#[119,97,114,110]⟩] 9);have z4:(w3.alloc (.cells #[.string ⟨#[119,97,114,110]⟩] 9)).heap.size=n+5:=by rw[World.size_alloc,s3]
 have g4:=Holds.new w3 9 #[.string ⟨#[119,97,114,110]⟩];rw[s3] at g4;obtain⟨w4,r4,m4,c4,s4⟩:=(m3.chg a4 (fun h=>h)).store (T:=104) u3 str_under cmap_under (Nat.lt_of_le_of_lt l3 (by decide)) ⟨⟨#[119,97,114,110]⟩,noteV (n+4) n,[]⟩ (by show (4:Nat)≤maxLen;unfold maxLen;omega);rw[z4] at s4;have u4:=Uniq.put u3 ⟨⟨#[119,97,114,110]⟩,noteV (n+4) n,[]⟩;have l4:=Nat.le_trans (Nat.le_of_eq (put_length u3 ⟨⟨#[119,97,114,110]⟩,noteV (n+4) n,[]⟩)) (show _≤4 by split<;>omega);have b1:Below n w0 w1:=c1.toBelow (by omega) (fun k hk=>by omega);have b2:Below n w1 w2:=(((Chg.refl w1 (fun b=>b=n+1)).alloc _).trans c2 (fun _ _ h=>h)).toBelow (by omega) (fun k hk=>by omega);have b3:Below n w2 w3:=(((Chg.refl w2 (fun b=>b=n+1)).alloc _).trans c3 (fun _ _ h=>h)).toBelow (by omega) (fun k hk=>by omega);have b4:Below n w3 w4:=(((Chg.refl w3 (fun b=>b=n+1)).alloc _).trans c4 (fun _ _ h=>h)).toBelow (by omega) (fun k hk=>by omega);have hB:Below n w w4:=(((hn ▸ hB0).trans b1).trans b2).trans (b3.trans b4);have d2:Chg (w1.alloc (.cells #[.string ⟨#[110,111,116,101]⟩] 9)) w4 (fun b=>b=n+1):=(c2.trans (((Chg.refl w2 (fun b=>b=n+1)).alloc _).trans c3 (fun _ _ h=>h)) (fun _ _ h=>h)).trans (((Chg.refl w3 (fun b=>b=n+1)).alloc _).trans c4 (fun _ _ h=>h)) (fun _ _ h=>h);have d3:Chg (w2.alloc (.cells #[.string ⟨#[116,105,112]⟩] 9)) w4 (fun b=>b=n+1):=c3.trans (((Chg.refl w3 (fun b=>b=n+1)).alloc _).trans c4 (fun _ _ h=>h)) (fun _ _ h=>h);have d0:Chg w0 w4 (fun b=>b=n+1):=c1.trans ((((Chg.refl w1 (fun b=>b=n+1)).alloc _).trans d2 (fun _ _ h=>h))) (fun _ _ h=>h)
 have q0:=d0.holds (by omega) hp0;have q2:=d2.holds (by omega) g2;have q3:=d3.holds (by omega) g3;have q4:=c4.holds (by omega) g4;have hes:putF (putF (putF (putF [] ⟨⟨#[102,105,103]⟩,figV n,[]⟩) ⟨⟨#[110,111,116,101]⟩,noteV (n+2) n,[]⟩) ⟨⟨#[116,105,112]⟩,noteV (n+3) n,[]⟩) ⟨⟨#[119,97,114,110]⟩,noteV (n+4) n,[]⟩=cmds n:=by
  simp[putF,delF,cmds,show (⟨#[102,105,103]⟩:ByteArray)≠⟨#[110,111,116,101]⟩ by decide,show (⟨#[102,105,103]⟩:ByteArray)≠⟨#[116,105,112]⟩ by decide,show (⟨#[102,105,103]⟩:ByteArray)≠⟨#[119,97,114,110]⟩ by decide,show (⟨#[110,111,116,101]⟩:ByteArray)≠⟨#[116,105,112]⟩ by decide,show (⟨#[110,111,116,101]⟩:ByteArray)≠⟨#[119,97,114,110]⟩ by decide,show (⟨#[116,105,112]⟩:ByteArray)≠⟨#[119,97,114,110]⟩ by decide]
 rw[hes] at m4;have HM:=hidH6 m4 q0 q2 q3 q4 hB;have HH:=hidH2 hn hw0;have n1:=note_any ⟨#[110,111,116,101]⟩ n w1;have n2:=note_any ⟨#[116,105,112]⟩ n w2;have n3:=note_any ⟨#[119,97,114,110]⟩ n w3;rw[s1] at n1;rw[s2] at n2;rw[s3] at n3;unfold figV at r1;unfold noteV at r2 r3 r4;clear hs0 m1 c1 u1 l1 a2 z2 g2 m2 c2 u2 l2 a3 z3 g3 m3 c3 u3 l3 a4 z4 g4 m4 c4 u4 l4 hB0 hm0 hp0 s1 s2 s3 s4 b1 b2 b3 b4 hB d2 d3 d0 q0 q2 q3 q4 hes
 go_enter Tryz.func54,Tryz.ntmps54
 go_wp2_with fail
 refine n1.mono ?_;rintro e w' ⟨rfl,rfl⟩
 go_wp2_with fail
 refine n2.mono ?_;rintro e w' ⟨rfl,rfl⟩
 go_wp2_with fail
 refine n3.mono ?_;rintro e w' ⟨rfl,rfl⟩;go_wp2
 go_ret
 rw[HH.out.1];exact⟨rfl,_,HM.out.1,HM.out.2.1,HM.out.2.2.1,HM.out.2.2.2.1,HM.out.2.2.2.2.1,HM.out.2.2.2.2.2⟩
end Go.Proofs.YtkdknllcllhpgaaGreatDoor
namespace Go.Bd
open Go.RowKit Go.Maps Go.WideMaps
theorem FsMap.lookz_ok {w:World}{P:Program}{K T E bm:Nat}{es:List Fe} (h:FsMap w P K bm es) (hk:P.underlying K=some .string) (ht:P.underlying T=some (.map K E)){z:Value} (hz:(zeroValue E).run P w=.ok z w){s:ByteArray} (hs:s.size≤maxLen) :
  (Instr.lookup T (.map (some bm)) (.string s) true).run P w=.ok (.tuple #[(match findF es s with|some e=>e.v|none=>z),.bool (findF es s).isSome]) w:=by
 obtain⟨D,h1,_,h3,h4⟩:=h;obtain⟨v,ps,hrun,hv⟩:=h1.look_ok (string_keyed hk) ht hz rfl (keyOf_string_mk hk hs);rw[hrun];have e1:=h4 s (.held z);have e2:=h3 s;unfold nameL at e1 e2;rw[e1] at hv;rw[e2];simp only[heldR,Option.some.injEq,Prod.mk.injEq] at hv;have e3:v=(match findF es s with|some e=>e.v|none=>z):=by
  split at hv<;>simp_all
 rw[e3]
end Go.Bd
namespace Go.Proofs.YtkdknllcllhpgaaGreatDoor
open Go.RowKit Go.Bd
def okR (s:ByteArray) (rest:List Ln):Bool :=
 if 0<(leadB s.data.toList 61).1 then plS (titleB (⟨(leadB s.data.toList 61).2.toArray⟩:ByteArray).data.toList).1
 else decide (¬0<(itemB s.data.toList).1)&&decide (¬s.data.toList=[])&&decide (¬s.data.toList=fenceL)&&decide (¬Lib.hasPrefix s.data.toList barsL=true)&&plS (paraB rest 0 s)
def okLn (x:Ln) (rest:List Ln):Bool:=(commandB (trim x.text.data.toList)).isNone&&okR (tr x.text) rest
def okAll:List Ln→Bool
 | []=>true
 | x::r=>okLn x r&&okAll r
theorem okAll_get:∀{l:List Ln}{k:Nat}{x:Ln},okAll l=true→l[k]? = some x→okLn x (l.drop (k+1))=true
 | [],k,x,_,h=>by simp at h
 | y::l,0,x,h,hx=>by
  obtain rfl:y=x:=by simpa using hx
  unfold okAll at h;rw[Bool.and_eq_true] at h;exact h.1
 | y::l,k+1,x,h,hx=>by
  unfold okAll at h;rw[Bool.and_eq_true] at h
  show okLn x (l.drop (k+1))=true
  exact okAll_get (l:=l) (k:=k) h.2 (by simpa using hx)
theorem read_any {w:World}{O F:Nat→Prop}{rb:Nat}{lv:Value}{pos:Nat}{bv:Value}{bs:List Bl}{dv:Value}{ds:List Dg} (h:Rdr w O F rb lv pos bv bs dv ds) (f t:ByteArray) (no:Int) (s:ByteArray) (hs:s.size≤100000000){m:Int} (hm:Glob m w) (h3:∀k,O k→3≤k)
  (hl:bs.length≤1000000000) {L:Nat→Prop} {ls:List Ln} (hL:LinesAt w L lv ls) (hLO:∀k,L k→¬O k) (hLl:∀k,L k→k<w.heap.size) (hsz:∀x∈ls,x.text.size≤100000000) (hp:pos≤ls.length) (hn:ls.length≤1000000) (hwt:s.size+wtX (ls.drop pos)≤100000000) (hd:ds.length+10+s.size+wtX (ls.drop pos)≤1000000000) (hok:okR s (ls.drop pos)=true) :
  Calls Tryz.prog 58 #[.pointer (some ⟨rb,0,none⟩),.agg #[.string f,.int .i64 no,.string t],.string s] w fun e w'=>e=.returned (.tuple #[])∧RdPost w O F rb lv pos bs ds (readR f no s (ls.drop pos)) w':=by
 unfold readR
 by_cases hA:0<(leadB s.data.toList 61).1
 ·rw[if_pos hA];unfold okR at hok;rw[if_pos hA] at hok;exact read_head h f t no s hs hm h3 hl (by omega) hA hok
 rw[if_neg hA];unfold okR at hok;rw[if_neg hA] at hok;simp only[Bool.and_eq_true,decide_eq_true_eq] at hok;obtain⟨⟨⟨⟨o1,o2⟩,o3⟩,o4⟩,o5⟩:=hok
 by_cases hI:0<(itemB s.data.toList).1
 ·rw[if_pos hI];exact absurd hI o1
 rw[if_neg hI]
 by_cases h0:s.data.toList=[]
 ·rw[if_pos h0];exact absurd h0 o2
 rw[if_neg h0]
 by_cases h4:s.data.toList=fenceL
 ·rw[if_pos h4];exact absurd h4 o3
 rw[if_neg h4]
 by_cases hpf:Lib.hasPrefix s.data.toList barsL=true
 ·rw[if_pos hpf];exact absurd hpf o4
 ·rw[if_neg hpf];exact read_para h f t no s hs hm h3 hl (by omega) hA hI h0 h4 (by simpa using hpf) hL hLO hLl hsz hp hn hwt hd (by rw[←para_shift];exact o5)
end Go.Proofs.YtkdknllcllhpgaaGreatDoor
namespace Go.Proofs.YtkdknllcllhpgaaGreatDoor
open Go.RowKit Go.Bd
theorem command_le {l:Bs}{p:Bs×Bs} (h:commandB l=some p):p.1.length≤l.length∧p.2.length≤l.length:=by
 unfold commandB at h;split at h
 ·cases h
 ·split at h
  ·cases h
   have:=dropL_le ((l.drop 1).drop (Lib.indexAny (l.drop 1) [32,9]).toNat)
   simp only[List.length_take,List.length_drop] at this ⊢;omega
  ·cases h
   simp
theorem fig_le (l:Bs):(figB l).2.length≤l.length:=by
 unfold figB;split
 ·have:=dropL_le (l.drop (Lib.indexAny l [32,9]).toNat)
  simp only[List.length_drop] at this ⊢;omega
 ·simp
theorem wtX_take {l:List Ln}{a b:Nat} (h:a≤b):wtX (l.take a)≤wtX (l.take b):=by
 have h1:=wtX_split (l.take b) a;rw[List.take_take,Nat.min_eq_left h] at h1;omega
theorem cmd_ds (f:ByteArray) (no:Int) (s:ByteArray) (wd bh:Bs):(cmdR f no s wd bh).2.2.length≤3+bh.length:=by
 unfold cmdR;split
 ·split
  ·simp only[wordR,List.length_singleton];omega
  ·have h1:=titledD_le f no ⟨(figB bh).2.toArray⟩;have h2:=fig_le bh;rw[size_mk] at h1;simp only[figR];omega
 ·split
  ·have:=faults_le bh
   simp only[noteR,List.length_map];omega
  ·simp only[wordR,List.length_singleton];omega
theorem read_ds (f:ByteArray) (no:Int) (s:ByteArray) (rest:List Ln):(readR f no s rest).2.2.length≤3+s.size+wtX (rest.take (readR f no s rest).1):=by
 unfold readR;split
 ·have h1:=titledD_le f no ⟨(leadB s.data.toList 61).2.toArray⟩;have h2:=lead_le s.data.toList 61;rw[size_mk] at h1;rw[←size_list] at h2;simp only[headR];omega
 ·split
  ·have h1:=faults_le (itemB s.data.toList).2.2;have hiz:(itemB s.data.toList).2.2.length≤s.size:=by
    have h1:=trim_size s;unfold itemB;split
    ·exact Nat.le_trans (lead_le _ _) h1
    ·split
     ·exact Nat.le_trans (lead_le _ _) h1
     ·simp
   simp only[itemR,List.length_map];omega
  ·split
   ·simp
   ·split
    ·simp only[codeR];split<;>simp<;>omega
    ·split
     ·have h1:=titledD_le f no (tabT s);have h2:=rowFs_le (rest.take (tabN rest));have h3:wtX (rest.take (tabN rest))≤wtX (rest.take (endN (tabN rest) rest.length)):=wtX_take (by unfold endN;split<;>omega);have h4:(tabT s).size≤s.size:=by
       unfold tabT;rw[size_mk];have:=dropL_le (s.data.toList.drop 4)
       rw[List.length_drop,←size_list] at this;omega
      have h5:(tabE f no s rest).length≤2:=by
       unfold tabE;rw[List.length_append];split<;>split<;>simp
      simp only[tableR,List.length_append,tabF];omega
     ·have h1:=tail_len (rest.take (untilN (fun t=>!plainL t) rest));have h2:=faults_le (paraB rest 0 s);have h3:(paraB rest 0 s).length≤s.size+wtX (rest.take (untilN (fun t=>!plainL t) rest)):=by
       unfold paraB paraT;rw[List.drop_zero,Lib.join_cons,List.length_append,←size_list];omega
      simp only[paraR,List.length_map];omega
theorem step_ds (x:Ln) (rest:List Ln):(stepR x rest).2.2.length≤3*(x.text.size+1+wtX (rest.take (stepR x rest).1)):=by
 have hs:(tr x.text).size≤x.text.size:=tr_le x.text;unfold stepR;split
 ·rename_i p hp;have h1:=cmd_ds x.file x.no (tr x.text) p.1 p.2;have h2:=(command_le hp).2;have h3:=trim_size x.text;omega
 ·have:=read_ds x.file x.no (tr x.text) rest
  omega
theorem Turn.below {w w':World}{O F:Nat→Prop} (hb:Below w.heap.size w w'):Turn w w' O F O F:=⟨Chg.below hb O,fun _ h=>.inl h,fun _ h=>.inl h,fun _ h=>h⟩
theorem bparse_any {w:World}{L:Nat→Prop}{lv:Value}{ls:List Ln} (hL:LinesAt w L lv ls) (hLl:∀k,L k→k<w.heap.size){m:Int} (hm:Glob m w) (hwt:wtX ls≤100000000) (hn:ls.length≤1000000) (hok:okAll ls=true) :
  Calls Tryz.prog 37 #[lv] w fun e w'=>∃O F rb bv dv,e=.returned (.tuple #[bv,dv])∧Rdr w' O F rb lv ls.length bv (blocksOf ls) dv (diagsOf ls)∧(∀k,O k→w.heap.size≤k)∧(∀k,F k→w.heap.size≤k)∧Below w.heap.size w w':=by
 have hsz:∀x∈ls,x.text.size≤100000000:=fun x hx=>by have:=wtX_mem hx;omega
 have hn0:ls.length≤100000000:=by omega
 obtain⟨A,c,rfl,hcl⟩:∃A c,lv=.slice A ls.length c∧ls.length≤c:=by
  obtain⟨A,c,h1,h2,_⟩:=hL;exact⟨A,c,h1,h2⟩
 have hw3:=hm.three;have hH0:=Holds.new w tR #[.slice A ls.length c,.int .i64 0,.slice none 0 0,.slice none 0 0];have hB0:=(Below.refl w.heap.size w).alloc (Nat.le_refl _) (.cells #[.slice A ls.length c,.int .i64 0,.slice none 0 0,.slice none 0 0] tR);have CC:=commands_any w.heap.size (w.alloc (.cells #[.slice A ls.length c,.int .i64 0,.slice none 0 0,.slice none 0 0] tR));rw[World.size_alloc] at CC;obtain⟨rb,hrb⟩:∃rb,w.heap.size=rb:=⟨_,rfl⟩;rw[hrb] at hH0 CC hw3;have etr:tR=103:=rfl;rw[etr] at hH0 CC hB0;have HOK:=Lib.hid hok;clear hok;have HI:=hidH5 hL hLl hm hsz hrb;have H0:=hidH2 hH0 hB0;clear hL hLl hm hsz hH0 hB0 etr
 go_enter Tryz.func37,Tryz.ntmps37
 go_wp2_with fail
 (try rw[hrb])
 refine CC.mono ?_;clear CC hrb;rintro e W1 ⟨rfl,tp,hfm,hpb,hk2,hk3,hk4,hbl1⟩;have hH1:=H0.out.1.below hbl1 (Nat.lt_succ_self _);have hB1:Below rb w W1:=by
  have:=H0.out.2
  rw[HI.out.2.2.2.2] at this;exact this.trans (hbl1.mono (Nat.le_succ _))
 have hn1:rb+1<W1.heap.size:=hpb.lt;have hn4:rb+1+4<W1.heap.size:=hk4.lt;have hR1:Rdr W1 (fun k=>k=rb) (fun _=>False) rb (.slice A ls.length c) 0 (.slice none 0 0) [] (.slice none 0 0) [] :=
  ⟨hH1,⟨[],rfl,World.ownsRow_nil _ _ _ _,(fun _ _ _ h=>by simp at h)⟩,World.ownsRow_nil _ _ _ _,rfl,(fun k hk=>by cases hk),(fun k hk=>by cases hk),(fun _ h=>h.elim),(fun k hk=>by omega),(fun _ h=>h.elim)⟩
 have H1:=hidH7 hR1 hB1 hfm hpb hk2 hk3 hk4;clear hH1 hB1 hR1 hfm hpb hk2 hk3 hk4 hbl1;go_wp2
 go_loopg [6,7,8,9,10,11,12] ls.length (fun q v6 v7 v8 v9 v10 v11 v12 wr=>∃(pos:Nat) (O F:Nat→Prop) (bv dv:Value) (bs:List Bl) (ds:List Dg),pos+q=ls.length∧Hid (Rdr wr O F rb (.slice A ls.length c) pos bv bs dv ds∧Turn W1 wr (fun k=>k=rb) (fun _=>False) O F∧bs++blocksOf (ls.drop pos)=blocksOf ls∧ds++diagsOf (ls.drop pos)=diagsOf ls∧bs.length≤pos∧ds.length+3*wtX (ls.drop pos)≤3*wtX ls))
 case atStart=>exact⟨0,_,_,_,_,[],[],by omega,H1.out.1,Turn.refl _ _ _,by simp,by simp,by simp,by simp⟩
 case round =>
  obtain⟨pos,O,F,bv,dv,bs,ds,hq,HK⟩:=hrel;have p0:wr.cell? ⟨rb,0,none⟩=some (.slice A ls.length c):=HK.out.1.hold.cell 0;have p1:wr.cell? ⟨rb,1,none⟩=some (.int .i64 (pos:Int)):=HK.out.1.hold.cell 1;have f1:=HK.out.1.hold.free 1
  by_cases hlt:pos<ls.length
  ·obtain⟨x,hx⟩:∃x,ls[pos]? = some x:=⟨_,List.getElem?_eq_getElem hlt⟩;have hCW:Chg w wr (fun k=>k=rb):=(Chg.below (by rw[HI.out.2.2.2.2];exact H1.out.2.1) _).trans HK.out.2.1.chg (fun k _ h=>h);have hLr:=HI.out.1.chg hCW (fun k hk e=>by have:=HI.out.2.1 k hk;have:=HI.out.2.2.2.2;omega);obtain⟨b,off,c1,hA,_,hb,l0,l1,l2⟩:=hLr.at hx;obtain⟨rfl,rfl⟩:A=some ⟨b,off,none⟩∧c=c1:=by cases hA;exact⟨rfl,rfl⟩
   have hbr:b<rb:=by have:=HI.out.2.1 b hb;have:=HI.out.2.2.2.2;omega
   have hrl:=HK.out.1.hold.lt;have hxs:=HI.out.2.2.2.1 x (List.mem_of_getElem? hx);have CN:=fun W=>counted_any x.file x.text x.no W hxs
   have HX:=hidH3 hx hLr hCW;clear hLr hCW hA hx
   go_wp2_with fail
   have e1:((pos:Int)+1)=((pos+1:Nat):Int):=by omega
   rw[e1];clear e1 l0 l1 l2 p0 p1 f1;have hm2:=HK.out.1.moved (pos+1);have hb2:Below (wr.setCell ⟨rb,1,none⟩ (.int .i64 ((pos+1:Nat):Int))).heap.size (wr.setCell ⟨rb,1,none⟩ (.int .i64 ((pos+1:Nat):Int))) ((wr.setCell ⟨rb,1,none⟩ (.int .i64 ((pos+1:Nat):Int))).alloc (.cells #[.string x.file,.int .i64 x.no,.string x.text] 107)):=(Below.refl _ _).alloc (Nat.le_refl _) _;have hr2:=hm2.below hb2;have hX2:=Holds.new (wr.setCell ⟨rb,1,none⟩ (.int .i64 ((pos+1:Nat):Int))) 107 #[.string x.file,.int .i64 x.no,.string x.text];have ht2:Turn W1 ((wr.setCell ⟨rb,1,none⟩ (.int .i64 ((pos+1:Nat):Int))).alloc (.cells #[.string x.file,.int .i64 x.no,.string x.text] 107)) (fun k=>k=rb) (fun _=>False) O F:=(HK.out.2.1.trans (HK.out.1.turn (pos+1))).trans (Turn.below hb2);have hsz2:(wr.setCell ⟨rb,1,none⟩ (.int .i64 ((pos+1:Nat):Int))).heap.size=wr.heap.size:=by simp
   rw[hsz2] at hX2;obtain⟨lb,hlb⟩:∃lb,wr.heap.size=lb:=⟨_,rfl⟩;rw[hlb] at hX2;have hlO:¬O lb:=fun e=>by have:=HK.out.1.ltO _ e;omega
   obtain⟨W2,hW2⟩:∃W2,(wr.setCell ⟨rb,1,none⟩ (.int .i64 ((pos+1:Nat):Int))).alloc (.cells #[.string x.file,.int .i64 x.no,.string x.text] 107)=W2:=⟨_,rfl⟩;rw[hW2] at hr2 hX2 ht2 ⊢
   (try rw[hlb])
   have H2:=hidH3 hr2 hX2 ht2;clear hm2 hb2 hr2 hX2 ht2 hsz2 hlb hW2;obtain⟨s1,hs1⟩:∃s1,tr x.text=s1:=⟨_,rfl⟩;have hs1l:s1.size≤x.text.size:=hs1 ▸ tr_le x.text;have hs1d:trim x.text.data.toList=s1.data.toList:=by rw[←hs1];simp[tr]
   have CN1:=CN W2;have hsv:strV (trim x.text.data.toList)=.string s1:=by rw[hs1d];exact (strV_of rfl).symm
   rw[hsv] at CN1;have hdrop:ls.drop pos=x::ls.drop (pos+1):=by
    rw[List.drop_eq_getElem_cons hlt];have e:ls[pos]'hlt=x:=by have:=List.getElem?_eq_getElem hlt;rw[HX.out.1] at this;exact (Option.some.inj this).symm
    rw[e]
   obtain⟨T,hT⟩:∃T,stepR x (ls.drop (pos+1))=T:=⟨_,rfl⟩;have hbo:blocksOf (ls.drop pos)=T.2.1++blocksOf (ls.drop (pos+1+T.1)):=by rw[hdrop,blocksOf_cons,hT,List.drop_drop]
   have hdo:diagsOf (ls.drop pos)=T.2.2++diagsOf (ls.drop (pos+1+T.1)):=by rw[hdrop,diagsOf_cons,hT,List.drop_drop]
   have hT1:T.2.1.length≤1:=hT ▸ step_one x _;have hT3:pos+1+T.1≤ls.length:=by
    have:=step_le x (ls.drop (pos+1))
    rw[hT,List.length_drop] at this;omega
   have hwd:wtX (ls.drop pos)=x.text.size+1+wtX (ls.drop (pos+1)):=by rw[hdrop,wtX]
   have hT2:T.2.2.length+3*wtX (ls.drop (pos+1+T.1))≤3*wtX (ls.drop pos):=by
    have h1:=step_ds x (ls.drop (pos+1));have h2:=wtX_split (ls.drop (pos+1)) T.1;rw[hT] at h1;rw[List.drop_drop] at h2;omega
   have hwl:wtX (ls.drop pos)≤wtX ls:=by have:=wtX_split ls pos;omega
   have NEXT:Hid (∀(w5:World) (O5 F5:Nat→Prop) (bv5 dv5:Value),Rdr w5 O5 F5 rb (.slice (some ⟨b,off,none⟩) ls.length c) (pos+1+T.1) bv5 (bs++T.2.1) dv5 (ds++T.2.2)→Turn W1 w5 (fun k=>k=rb) (fun _=>False) O5 F5 →
     ∃(pos':Nat) (O F:Nat→Prop) (bv dv:Value) (bs ds':_),pos'+(ls.length-(pos+1+T.1))=ls.length∧Hid (Rdr w5 O F rb (.slice (some ⟨b,off,none⟩) ls.length c) pos' bv bs dv ds'∧Turn W1 w5 (fun k=>k=rb) (fun _=>False) O F∧bs++blocksOf (ls.drop pos')=blocksOf ls∧ds'++diagsOf (ls.drop pos')=diagsOf ls∧bs.length≤pos'∧ds'.length+3*wtX (ls.drop pos')≤3*wtX ls)):=by
    intro w5 O5 F5 bv5 dv5 h1 h2;refine⟨pos+1+T.1,O5,F5,bv5,dv5,bs++T.2.1,ds++T.2.2,by omega,h1,h2,?_,?_,?_,?_⟩
    ·rw[List.append_assoc,←hbo];exact HK.out.2.2.1
    ·rw[List.append_assoc,←hdo];exact HK.out.2.2.2.1
    ·have:=HK.out.2.2.2.2.1;rw[List.length_append];omega
    ·have:=HK.out.2.2.2.2.2;rw[List.length_append];omega
   have hdl:ds.length≤300000000:=by have:=HK.out.2.2.2.2.2;omega
   have hbl:bs.length≤100000000:=by have:=HK.out.2.2.2.2.1;omega
   have hw1:wtX (ls.drop (pos+1))+s1.size≤100000000:=by omega
   have hTs:T=match commandB s1.data.toList with|some p=>cmdR x.file x.no s1 p.1 p.2|none=>readR x.file x.no s1 (ls.drop (pos+1)):=by
    rw[←hT];unfold stepR;rw[hs1d,hs1];cases commandB s1.data.toList<;>rfl
   have HTS:=Lib.hid hTs;have HOKX:=Lib.hid (okAll_get HOK.out HX.out.1);have HS1:=hidH2 hs1d hs1;clear CN hs1 hs1d hsv hdrop hT hbo hdo hT2 hwd hwl hTs;refine CN1.mono ?_;clear CN1;rintro e w3 ⟨rfl,hb3⟩;have CM:=command_any s1 w3 (by omega);have hcl2:=@command_le s1.data.toList;have ht3:=H2.out.2.2.trans (Turn.below hb3);have hr3:=H2.out.1.below hb3;have hX3:=H2.out.2.1.below hb3 H2.out.2.1.lt;have H3:=hidH3 ht3 hr3 hX3;clear ht3 hr3 hX3 hb3;unfold commandV at CM;have HTO:=HTS.out;have hokx:=HOKX.out;unfold okLn at hokx;rw[Bool.and_eq_true,HS1.out.1,HS1.out.2] at hokx;cases hcm:commandB s1.data.toList with
   | none =>
    rw[hcm] at CM HTO;simp only at CM HTO;unfold strV at CM;clear hcl2
    go_wp2_with fail
    refine CM.mono ?_;clear CM;rintro e w4 ⟨rfl,hb4⟩;have hb34:Turn w3 w4 O F O F:=Turn.below hb4;have ht4:=H3.out.1.trans hb34;have hr4:=H3.out.2.1.below hb4;have hX4:=H3.out.2.2.below hb4 H3.out.2.2.lt;have HX4:=Lib.hid hX4;have hbmO:¬(fun k=>k=rb) (rb+1+1):=by simp;omega
    have hfm4:=H1.out.2.2.1.chg ht4.chg hbmO;have hpb4:=ht4.chg.holds (by show ¬(rb+1=rb);omega) H1.out.2.2.2.1;have hk24:=ht4.chg.holds (by show ¬(rb+1+2=rb);omega) H1.out.2.2.2.2.1;have hk34:=ht4.chg.holds (by show ¬(rb+1+3=rb);omega) H1.out.2.2.2.2.2.1;have hk44:=ht4.chg.holds (by show ¬(rb+1+4=rb);omega) H1.out.2.2.2.2.2.2;have hO3:∀k,O k→3≤k:=fun k hk=>by rcases ht4.inO k hk with e|e;omega;omega
    have hOlt:∀k,O k→k=rb∨W1.heap.size≤k:=ht4.inO;have hpO:¬O (rb+1):=fun e=>by rcases hOlt _ e with e|e<;>omega
    have hszw:W1.heap.size≤w4.heap.size:=ht4.chg.size;have hCW4:Chg w w4 (fun k=>k=rb):=(Chg.below (by rw[HI.out.2.2.2.2];exact H1.out.2.1) _).trans ht4.chg (fun k _ h=>h);have hm4:Glob m w4:=HI.out.2.2.1.chg hCW4 (fun k hk=>by omega);have hL4:=HI.out.1.chg hCW4 (fun k hk e=>by have:=HI.out.2.1 k hk;have:=HI.out.2.2.2.2;omega);have hLO:∀k,L k→¬O k:=fun k hk e=>by have:=HI.out.2.1 k hk;have:=HI.out.2.2.2.2;rcases hOlt k e with e|e<;>omega
    clear hb34 hbmO hCW4;have RA:=read_any hr4 x.file x.text x.no s1 (by omega) hm4 hO3 (by omega) hL4 hLO (fun k hk=>by have:=HI.out.2.1 k hk;have:=HI.out.2.2.2.2;omega) HI.out.2.2.2.1 (by omega) (by omega) (by omega) (by omega) hokx.2;obtain⟨d0,d1,d2⟩:=cells3 hX4;have H4:=Lib.hid ht4;have HE:=Lib.hid HTO;clear ht4 hr4 hX4 hm4 hL4 hO3 HTO hb4 hfm4 hpb4 hk24 hk34 hk44 hpO hOlt
    go_wp2_with fail
    refine RA.mono ?_;clear RA;rintro e w5 ⟨rfl,O5,F5,bv5,dv5,hr5,ht5⟩;have H5:=hidH2 hr5 ht5;clear hr5 ht5 d0 d1 d2;go_wp2
    go_roundg (ls.length-(pos+1+T.1))
    case measure=>omega
    case rel=>exact NEXT.out w5 O5 F5 bv5 dv5 (by rw[HE.out];exact H5.out.1) (H4.out.trans H5.out.2)
   | some p =>
    rw[hcm] at hokx;exact absurd hokx.1 (by simp)
  ·obtain rfl:pos=ls.length:=by omega
   have p2:wr.cell? ⟨rb,2,none⟩=some bv:=HK.out.1.hold.cell 2;have p3:wr.cell? ⟨rb,3,none⟩=some dv:=HK.out.1.hold.cell 3;obtain⟨A1,k1,rfl⟩:∃A c,bv=.slice A bs.length c:=by
    obtain⟨kvs,_,h2,_⟩:=HK.out.1.bl
    rcases h2.2 with ⟨h1,h2⟩|⟨g,cap,cur,h1,_⟩
    ·exact⟨none,0,by rw[h1,h2]⟩
    ·exact⟨_,_,h1⟩
   obtain⟨A2,k2,rfl⟩:∃A c,dv=.slice A ds.length c:=by
    rcases HK.out.1.dg.2 with ⟨h1,h2⟩|⟨g,cap,cur,h1,_⟩
    ·exact⟨none,0,by rw[h1,h2]⟩
    ·exact⟨_,_,h1⟩
   go_wp2
   go_quiet (fail)
   go_wp2
   go_ret2
   have hCW:Chg w (wr.drewN nq) (fun k=>k=rb):=((Chg.below (by rw[HI.out.2.2.2.2];exact H1.out.2.1) _).trans HK.out.2.1.chg (fun k _ h=>h)).drewN nq;have h1:=HK.out.1.chg ((Chg.refl wr (fun _=>False)).drewN nq) (fun _ _ h=>h) (fun _ _ h=>h);have h2:=HK.out.2.2.1;have h3:=HK.out.2.2.2.1;rw[List.drop_length,blocksOf_nil,List.append_nil] at h2;rw[List.drop_length,diagsOf_nil,List.append_nil] at h3;have h4:=HI.out.2.2.2.2;refine⟨O,F,rb,_,_,rfl,by rw[←h2,←h3];exact h1,fun k hk=>?_,fun k hk=>?_,hCW.toBelow (Nat.le_refl _) (fun k hk=>by omega)⟩
   ·rcases HK.out.2.1.inO k hk with e|e<;>omega
   ·rcases HK.out.2.1.inF k hk with e|e
    ·exact e.elim
    ·omega
end Go.Proofs.YtkdknllcllhpgaaGreatDoor
namespace Go.Bd
open Go.RowKit
def BlocksAt (w:World) (B:Nat) (v:Value) (bs:List Bl):Prop :=
 ∃(A:Option Addr) (c:Nat) (kvs:List (Value×Value)),v=.slice A bs.length c∧bs.length≤c∧kvs.length=bs.length∧(bs≠[]→∃b off,A=some ⟨b,off,none⟩∧b<B∧∀(j:Nat) x kv,bs[j]? = some x→kvs[j]? = some kv→∀(i:Nat) u,(blCells x kv)[i]? = some u→w.cell? ⟨b,off+j*9+i,none⟩=some u) ∧
  ∀(j:Nat) x kv,bs[j]? = some x→kvs[j]? = some kv→Forest w (· < B) kv.1 x.spans∧RowsF w (· < B) kv.2 x.rows
theorem BlocksAt.form {w:World}{B:Nat}{v:Value}{bs:List Bl} (h:BlocksAt w B v bs):∃A c,v=.slice A bs.length c∧bs.length≤c:=by
 obtain⟨A,c,_,h1,h2,_⟩:=h;exact⟨A,c,h1,h2⟩
def DiagsAt (w:World) (B:Nat) (v:Value) (ds:List Dg):Prop :=
 ∃A c,v=.slice A ds.length c∧ds.length≤c∧(ds≠[]→∃b off,A=some ⟨b,off,none⟩∧b<B∧∀(j:Nat) x,ds[j]? = some x→∀(i:Nat) u,(dgCells x)[i]? = some u→w.cell? ⟨b,off+j*4+i,none⟩=some u)
theorem DiagsAt.at {w:World}{B n c:Nat}{A:Option Addr}{ds:List Dg} (h:DiagsAt w B (.slice A n c) ds){j:Nat}{x:Dg} (hx:ds[j]? = some x):∃b off,A=some ⟨b,off,none⟩∧b<B ∧
  w.cell? ⟨b,off+j*4,none⟩=some (.string x.file)∧w.cell? ⟨b,off+j*4+1,none⟩=some (.int .i64 x.line)∧w.cell? ⟨b,off+j*4+2,none⟩=some (.int .i64 (x.fault:Int))∧w.cell? ⟨b,off+j*4+3,none⟩=some (.string x.text):=by
 obtain⟨A',c',e,hc,hA⟩:=h;injection e with e1 e2 e3
 subst e1;have hj:=(List.getElem?_eq_some_iff.1 hx).1;obtain⟨b,off,h1,h2,h3⟩:=hA (fun e=>by rw[e] at hj;simp at hj);have hc:=h3 j x hx;exact⟨b,off,h1,h2,hc 0 _ rfl,hc 1 _ rfl,hc 2 _ rfl,hc 3 _ rfl⟩
theorem DiagsAt.form {w:World}{B:Nat}{v:Value}{ds:List Dg} (h:DiagsAt w B v ds):∃A c,v=.slice A ds.length c∧ds.length≤c:=by
 obtain⟨A,c,h1,h2,_⟩:=h;exact⟨A,c,h1,h2⟩
end Go.Bd
namespace Go.Proofs.YtkdknllcllhpgaaGreatDoor
open Go.RowKit Go.Bd
def BlkSm (x:Bl):Prop:=manyL x.spans≤1000000000∧(∀r∈x.rows,(∀c∈r,manyL c≤1000000000)∧r.length≤1000000000)∧x.rows.length≤1000000000
end Go.Proofs.YtkdknllcllhpgaaGreatDoor
namespace Go.Bd
open Go.RowKit Go.Proofs.YtkdknllcllhpgaaGreatDoor
structure Dx where
 file:ByteArray
 line:Int
 fault:Int
 text:ByteArray
structure Bx where
 kind:Nat
 level:Int
 ordered:Bool
 label:ByteArray
 text:ByteArray
 spans:List Sp
 rows:List (List (List Sp))
 file:ByteArray
 line:Int
def dxCells (d:Dx):List Value:=[.string d.file,.int .i64 d.line,.int .i64 d.fault,.string d.text]
def bxCells (x:Bx) (kv:Value×Value):List Value:=[.int .u8 (x.kind:Int),.int .i64 x.level,.bool x.ordered,.string x.label,.string x.text,kv.1,kv.2,.string x.file,.int .i64 x.line]
def rowBx:List Bx→List (Value×Value)→List Value
 | x::l,kv::kvs=>bxCells x kv++rowBx l kvs
 | _,_=>[]
theorem rowBx_length:∀{l:List Bx}{kvs:List (Value×Value)},kvs.length=l.length→(rowBx l kvs).length=l.length*9
 | [],_,_=>by simp[rowBx]
 | x::l,[],h=>by simp at h
 | x::l,kv::kvs,h=>by
  rw[rowBx,List.length_append,rowBx_length (l:=l) (kvs:=kvs) (by simpa using h),List.length_cons];simp[bxCells];omega
theorem rowBx_snoc:∀{l:List Bx}{kvs:List (Value×Value)} (x:Bx) (kv:Value×Value),kvs.length=l.length→rowBx (l++[x]) (kvs++[kv])=rowBx l kvs++bxCells x kv
 | [],[],x,kv,_=>by simp[rowBx]
 | [],_::_,_,_,h=>by simp at h
 | y::l,[],_,_,h=>by simp at h
 | y::l,ku::kvs,x,kv,h=>by
  simp only[List.cons_append,rowBx,List.append_assoc];rw[rowBx_snoc x kv (by simpa using h)]
def BlocksX (w:World) (B:Nat) (v:Value) (bs:List Bx):Prop :=
 ∃(A:Option Addr) (c:Nat) (kvs:List (Value×Value)),v=.slice A bs.length c∧bs.length≤c∧kvs.length=bs.length∧(bs≠[]→∃b off,A=some ⟨b,off,none⟩∧b<B∧∀(j:Nat) x kv,bs[j]? = some x→kvs[j]? = some kv→∀(i:Nat) u,(bxCells x kv)[i]? = some u→w.cell? ⟨b,off+j*9+i,none⟩=some u) ∧
  ∀(j:Nat) x kv,bs[j]? = some x→kvs[j]? = some kv→Forest w (· < B) kv.1 x.spans∧RowsF w (· < B) kv.2 x.rows
theorem BlocksX.at {w:World}{B n c:Nat}{A:Option Addr}{bs:List Bx} (h:BlocksX w B (.slice A n c) bs){j:Nat}{x:Bx} (hx:bs[j]? = some x):∃b off sA sc rA rc,A=some ⟨b,off,none⟩∧b<B∧Forest w (· < B) (.slice sA x.spans.length sc) x.spans∧RowsF w (· < B) (.slice rA x.rows.length rc) x.rows ∧
  w.cell? ⟨b,off+j*9,none⟩=some (.int .u8 (x.kind:Int))∧w.cell? ⟨b,off+j*9+1,none⟩=some (.int .i64 x.level)∧w.cell? ⟨b,off+j*9+2,none⟩=some (.bool x.ordered)∧w.cell? ⟨b,off+j*9+3,none⟩=some (.string x.label)∧w.cell? ⟨b,off+j*9+4,none⟩=some (.string x.text) ∧
  w.cell? ⟨b,off+j*9+5,none⟩=some (.slice sA x.spans.length sc)∧w.cell? ⟨b,off+j*9+6,none⟩=some (.slice rA x.rows.length rc)∧w.cell? ⟨b,off+j*9+7,none⟩=some (.string x.file)∧w.cell? ⟨b,off+j*9+8,none⟩=some (.int .i64 x.line):=by
 obtain⟨A',c',kvs,e,hc,hl,hA,hk⟩:=h;injection e with e1 e2 e3
 subst e1;have hj:=(List.getElem?_eq_some_iff.1 hx).1;obtain⟨b,off,h1,h2,h3⟩:=hA (fun e=>by rw[e] at hj;simp at hj);obtain⟨kv,hkv⟩:∃kv,kvs[j]? = some kv:=⟨_,List.getElem?_eq_getElem (by omega)⟩;obtain⟨hf,hr⟩:=hk j x kv hx hkv;obtain⟨k1,k2⟩:=kv;obtain⟨sA,sc,rfl,_⟩:=hf.form;obtain⟨rA,rc,rfl,_⟩:=hr.len;have hc:=h3 j x _ hx hkv;exact⟨b,off,sA,sc,rA,rc,h1,h2,hf,hr,hc 0 _ rfl,hc 1 _ rfl,hc 2 _ rfl,hc 3 _ rfl,hc 4 _ rfl,hc 5 _ rfl,hc 6 _ rfl,hc 7 _ rfl,hc 8 _ rfl⟩
theorem BlocksX.form {w:World}{B:Nat}{v:Value}{bs:List Bx} (h:BlocksX w B v bs):∃A c,v=.slice A bs.length c∧bs.length≤c:=by
 obtain⟨A,c,_,h1,h2,_⟩:=h;exact⟨A,c,h1,h2⟩
def markB:List Value:=[.int .u8 0,.int .i64 0,.bool false,.string ⟨#[]⟩,.string ⟨#[115,112,97,114,101]⟩,.slice none 0 0,.slice none 0 0,.string ⟨#[]⟩,.int .i64 0]
theorem rowBx_get9:∀{l:List Bx}{kvs:List (Value×Value)}{j:Nat}{x:Bx}{kv:Value×Value}{i:Nat}{u:Value},l[j]? = some x→kvs[j]? = some kv→(bxCells x kv)[i]? = some u→(rowBx l kvs)[j*9+i]? = some u
 | [],_,j,x,kv,i,u,h,_,_=>by simp at h
 | y::l,[],j,x,kv,i,u,_,h,_=>by simp at h
 | y::l,ku::kvs,0,x,kv,i,u,h,h2,hu=>by
  simp only[List.getElem?_cons_zero,Option.some.injEq] at h h2;subst h h2;have hi:=(List.getElem?_eq_some_iff.1 hu).1;rw[rowBx,Nat.zero_mul,Nat.zero_add,List.getElem?_append_left hi];exact hu
 | y::l,ku::kvs,j+1,x,kv,i,u,h,h2,hu=>by
  simp only[List.getElem?_cons_succ] at h h2;have ih:=rowBx_get9 (l:=l) (kvs:=kvs) h h2 hu;have e:(bxCells y ku).length=9:=rfl;rw[rowBx,List.getElem?_append_right (by rw[e];omega),e,show (j+1)*9+i-9=j*9+i by omega];exact ih
def BlM (w:World) (F:Nat→Prop) (v:Value) (l:List Bx):Prop :=
 ∃g cap,∃kvs:List (Value×Value),v=.slice (some ⟨g,0,none⟩) l.length cap∧l.length<cap∧F g∧kvs.length=l.length ∧
  (∀(j:Nat) x kv,l[j]? = some x→kvs[j]? = some kv→Marked w F kv.1 x.spans∧RowsM w F kv.2 x.rows) ∧
  (∀(j:Nat) x kv,l[j]? = some x→kvs[j]? = some kv→∀(i:Nat) u,(bxCells x kv)[i]? = some u→w.cell? ⟨g,j*9+i,none⟩=some u) ∧
  ∀(i:Nat) u,markB[i]? = some u→w.cell? ⟨g,l.length*9+i,none⟩=some u
theorem BlM.go {w w':World}{F G S:Nat→Prop}{v:Value}{l:List Bx} (h:BlM w F v l) (hc:Chg w w' S) (hF:∀k,F k→G k) (hS:∀k,F k→¬S k):BlM w' G v l:=by
 obtain⟨g,cap,kvs,h1,h2,h3,h4,h5,h6,h7⟩:=h;exact⟨g,cap,kvs,h1,h2,hF _ h3,h4,fun j x kv hx hk=>⟨Marked.stays.go (h5 j x kv hx hk).1 hc hF hS,RowsM.stays.go (h5 j x kv hx hk).2 hc hF hS⟩,
  fun j x kv hx hk i u hu=>hc.cell (p:=⟨g,j*9+i,none⟩) (hS g h3) (h6 j x kv hx hk i u hu),fun i u hu=>hc.cell (p:=⟨g,l.length*9+i,none⟩) (hS g h3) (h7 i u hu)⟩
theorem BlM.stays:Rel.Stays (α:=List Bx) BlM:=fun _ _ _ _ _ _ _ h hc hk hS=>BlM.go h hc hk hS
theorem BlM.under {w w':World}{F:Nat→Prop}{B:Nat}{v:Value}{l:List Bx} (h:BlM w F v l) (hb:Below B w w') (hF:∀k,F k→k<B):BlM w' F v l:=BlM.stays.under h hb hF
structure TwB (w wr:World) (g cap k:Nat) (kvs:List (Value×Value)) (l:List Bx):Prop where
 hl:kvs.length=k
 ho:wr.ownsRow w.heap.size tBl 9 (.slice (some ⟨g,0,none⟩) k cap) k (rowBx (l.take k) kvs)
 hk:∀(j:Nat) x kv,(l.take k)[j]? = some x→kvs[j]? = some kv→Marked wr (fun b=>w.heap.size≤b∧b<wr.heap.size∧b≠g) kv.1 x.spans∧RowsM wr (fun b=>w.heap.size≤b∧b<wr.heap.size∧b≠g) kv.2 x.rows
 hg:w.heap.size≤g∧g<wr.heap.size
 hb:Below w.heap.size w wr
theorem twB_next {w wr w2 w3:World}{g cap k g1 cap1:Nat}{kvs:List (Value×Value)}{l:List Bx}{x:Bx}{kv:Value×Value}{o:Obj} (h:TwB w wr g cap k kvs l) (hx:l[k]? = some x) (hb2:Below wr.heap.size wr w2)
  (ht2:Marked w2 (fun b=>wr.heap.size≤b∧b<w2.heap.size) kv.1 x.spans∧RowsM w2 (fun b=>wr.heap.size≤b∧b<w2.heap.size) kv.2 x.rows) (hown3:w3.ownsRow w.heap.size tBl 9 (.slice (some ⟨g1,0,none⟩) (k+1) cap1) (k+1) (rowBx (l.take k) kvs++bxCells x kv))
  (hgrow:(w2.alloc o).grownBy w3 (some g)) (hat:(some g:Option Nat)=some g1∨g1=w2.heap.size+1) (hlt3:g1<w3.heap.size):TwB w w3 g1 cap1 (k+1) (kvs++[kv]) l:=by
 have hkl:k<l.length:=(List.getElem?_eq_some_iff.1 hx).1;have htl:(l.take k).length=k:=by rw[List.length_take];omega
 have etk:l.take (k+1)=l.take k++[x]:=by rw[List.take_add_one,hx];rfl
 have hc:Chg w2 w3 (fun b=>some b=some g):=((Chg.refl w2 (fun b=>some b=some g)).alloc o).trans (Chg.grown hgrow) (fun _ _ h=>h);have hs2:=hb2.size;have hs3:=hc.size;obtain⟨hg1,hg2⟩:=h.hg;have hgg:g1=g∨g1=w2.heap.size+1:=hat.imp (fun e=>(Option.some.inj e).symm) id;have hbb:=h.hb.size;refine⟨by rw[List.length_append,h.hl];rfl,by rw[etk,rowBx_snoc x kv (by rw[h.hl,htl])];exact hown3,fun j y ku e1 e2=>?_,⟨by omega,hlt3⟩,?_⟩
 ·rw[etk] at e1
  by_cases hj:j<k
  ·rw[List.getElem?_append_left (by omega)] at e1;rw[List.getElem?_append_left (by rw[h.hl];exact hj)] at e2;obtain⟨k1,k2⟩:=h.hk j y ku e1 e2;exact⟨Marked.stays.go (Marked.stays.under k1 hb2 (fun b hb=>hb.2.1)) hc (fun b hb=>⟨hb.1,by omega,by omega⟩) (fun b hb e=>hb.2.2 (Option.some.inj e)),
    RowsM.stays.go (RowsM.stays.under k2 hb2 (fun b hb=>hb.2.1)) hc (fun b hb=>⟨hb.1,by omega,by omega⟩) (fun b hb e=>hb.2.2 (Option.some.inj e))⟩
  ·have hjk:j=k:=by
    have:=(List.getElem?_eq_some_iff.1 e1).1
    rw[List.length_append,htl] at this;simp at this;omega
   subst hjk;rw[List.getElem?_append_right (by omega),htl,Nat.sub_self] at e1;rw[List.getElem?_append_right (by rw[h.hl];exact Nat.le_refl _),h.hl,Nat.sub_self] at e2;simp only[List.getElem?_cons_zero,Option.some.injEq] at e1 e2;subst e1 e2;exact⟨Marked.stays.go ht2.1 hc (fun b hb=>⟨by omega,by omega,by omega⟩) (fun b hb e=>by have:=Option.some.inj e;omega),
    RowsM.stays.go ht2.2 hc (fun b hb=>⟨by omega,by omega,by omega⟩) (fun b hb e=>by have:=Option.some.inj e;omega)⟩
 ·exact (h.hb.trans (hb2.mono hbb)).trans (hc.toBelow (by omega) (fun b e=>by have:=Option.some.inj e;omega))
theorem twB_last {w wr w3:World}{g cap k g1 cap1:Nat}{kvs:List (Value×Value)}{l:List Bx}{o:Obj} (h:TwB w wr g cap k kvs l) (hkl:l.length=k)
  (hown3:w3.ownsRow w.heap.size tBl 9 (.slice (some ⟨g1,0,none⟩) (k+1) cap1) (k+1) (rowBx (l.take k) kvs++markB))
  (hgrow:(wr.alloc o).grownBy w3 (some g)) (hat:(some g:Option Nat)=some g1∨g1=wr.heap.size+1) (hlt3:g1<w3.heap.size) :
  BlM w3 (fun b=>w.heap.size≤b∧b<w3.heap.size) (.slice (some ⟨g1,0,none⟩) l.length cap1) l∧Below w.heap.size w w3:=by
 have hc:Chg wr w3 (fun b=>some b=some g):=((Chg.refl wr (fun b=>some b=some g)).alloc o).trans (Chg.grown hgrow) (fun _ _ h=>h);have hs3:=hc.size;obtain⟨hg1,hg2⟩:=h.hg;have hgg:g1=g∨g1=wr.heap.size+1:=hat.imp (fun e=>(Option.some.inj e).symm) id;have hbb:=h.hb.size;have htk:l.take k=l:=List.take_of_length_le (by omega);have hk:=h.hk;rw[htk] at hown3 hk;subst hkl;have hlen:(rowBx l kvs).length=l.length*9:=rowBx_length h.hl;have hcap:l.length<cap1:=by
  rcases hown3.2 with ⟨h,_⟩|⟨g',cap',cur,hv,_,_,hc,_⟩
  ·cases h
  ·injection hv with e1 e2 e3;omega
 have hcell:∀(j:Nat) u,(rowBx l kvs++markB)[j]? = some u→w3.cell? ⟨g1,j,none⟩=some u:=fun j u hu=>by
  have:=hown3.cells (g:=g1) rfl j u hu
  rwa [addr_add] at this
 refine⟨⟨g1,cap1,kvs,rfl,hcap,⟨by omega,hlt3⟩,h.hl,fun j x kv e1 e2=>?_,fun j x kv e1 e2 i u hu=>?_,fun i u hu=>?_⟩,h.hb.trans (hc.toBelow (by omega) (fun b e=>by have:=Option.some.inj e;omega))⟩
 ·obtain⟨k1,k2⟩:=hk j x kv e1 e2;exact⟨Marked.stays.go k1 hc (fun b hb=>⟨hb.1,by omega⟩) (fun b hb e=>hb.2.2 (Option.some.inj e)),RowsM.stays.go k2 hc (fun b hb=>⟨hb.1,by omega⟩) (fun b hb e=>hb.2.2 (Option.some.inj e))⟩
 ·have h9:=rowBx_get9 e1 e2 hu;exact hcell _ u (by rw[List.getElem?_append_left (List.getElem?_eq_some_iff.1 h9).1];exact h9)
 ·exact hcell _ u (by rw[List.getElem?_append_right (by omega),hlen,Nat.add_sub_cancel_left];exact hu)
theorem BlM.at {w:World}{F:Nat→Prop}{g cap n:Nat}{l:List Bx} (h:BlM w F (.slice (some ⟨g,0,none⟩) n cap) l){j:Nat}{x:Bx} (hx:l[j]? = some x) :
  ∃kv:Value×Value,Marked w F kv.1 x.spans∧RowsM w F kv.2 x.rows∧∀(i:Nat) u,(bxCells x kv)[i]? = some u→w.cell? ⟨g,j*9+i,none⟩=some u:=by
 obtain⟨g',cap',kvs,e,_,_,h4,h5,h6,_⟩:=h;injection e with e1 _ _
 injection e1 with e1
 injection e1 with e1 _ _
 subst e1;have hj:=(List.getElem?_eq_some_iff.1 hx).1;obtain⟨kv,hkv⟩:∃kv,kvs[j]? = some kv:=⟨_,List.getElem?_eq_getElem (by omega)⟩;exact⟨kv,(h5 j x kv hx hkv).1,(h5 j x kv hx hkv).2,h6 j x kv hx hkv⟩
theorem BlM.form {w:World}{F:Nat→Prop}{v:Value}{l:List Bx} (h:BlM w F v l):∃g cap,v=.slice (some ⟨g,0,none⟩) l.length cap∧l.length<cap∧F g∧∀(i:Nat) u,markB[i]? = some u→w.cell? ⟨g,l.length*9+i,none⟩=some u:=by
 obtain⟨g,cap,_,h1,h2,h3,_,_,_,h7⟩:=h;exact⟨g,cap,h1,h2,h3,h7⟩
def szBl (x:Bx):Nat:=x.label.size+x.text.size+x.file.size+szL x.spans+szX (szX szL) x.rows
end Go.Bd
namespace Go.Bd
open Go.RowKit
structure At where
 name:ByteArray
 value:ByteArray
structure Sc where
 name:ByteArray
 text:ByteArray
def validB (s:Bs):Bool:=decide (s.length≤1024)&&s.all fun c=>decide (32≤c.toNat) && !(c==127)
def atB (a:At):Bool:=nameB a.name.data.toList&&validB a.value.data.toList
def risesB:List At→Bool
 | []=>true
 | [_]=>true
 | a::b::l=>decide (a.name.data.toList<b.name.data.toList)&&risesB (b::l)
def checkB (l:List At):Bool:=decide (l.length≤64)&&l.all atB&&risesB l
def getA (l:List At) (n:ByteArray):Option ByteArray:=(l.find? fun a=>decide (a.name=n)).map (·.value)
def ofB (s:Bs):ByteArray:=⟨s.toArray⟩
def cutB (c:UInt8):Bs→Option (Bs×Bs)
 | []=>none
 | x::l=>if x==c then some ([],l) else (cutB c l).map fun p=>(x::p.1,p.2)
def splitC (s:Bs):Nat×Bs×Bs :=
 if s.headD 0==33 then (1,s.tail,[])
 else match cutB 61 s with
  | none=>(0,s,[])
  | some (a,t)=>if a.getLastD 0==33 then (3,a.dropLast,t) else (2,a,t)
def holdsC (k:Nat) (v:Option ByteArray) (t:Bs):Bool :=
 if k=0 then v.isSome else if k=1 then !v.isSome else if k=2 then decide (v=some (ofB t)) else !decide (v=some (ofB t))
def askC (l:List At) (s:Bs):Option (ByteArray×Bool) :=
 if nameB (splitC s).2.1 then some (ofB (splitC s).2.1,holdsC (splitC s).1 (getA l (ofB (splitC s).2.1)) (splitC s).2.2) else none
def askedB (s:Bs):Option Bs :=
 match s with
 | 123::r=>match cutB 125 (r.take 61) with
  | some (a,_)=>if nameB a then some a else none
  | none=>none
 | _=>none
def hasN (l:List ByteArray) (n:ByteArray):Bool:=l.any fun x=>decide (x=n)
def addN (l:List ByteArray) (n:ByteArray):List ByteArray:=if hasN l n then l else l++[n]
def fillB (l:List At):Nat→Bs→List ByteArray→Bs×List ByteArray
 | 0,s,ns=>(s,ns)
 | _+1,[],ns=>([],ns)
 | n+1,c::s,ns =>
  match askedB (c::s) with
  | none=>(c::(fillB l n s ns).1,(fillB l n s ns).2)
  | some a =>
   let r:=fillB l n (s.drop (a.length+1)) (addN ns (ofB a))
   match getA l (ofB a) with
   | some v=>(v.data.toList++r.1,r.2)
   | none=>(123::(a++125::r.1),r.2)
def fillT (l:List At) (s:ByteArray):ByteArray:=ofB (fillB l s.size s.data.toList []).1
def fillN (l:List At) (s:ByteArray):List ByteArray:=(fillB l s.size s.data.toList []).2
def putN (l:List ByteArray) (n:ByteArray):List ByteArray:=l.filter (fun x=>!decide (x=n))++[n]
structure Cd where
 at':Ln
 first:Bool
 second:Bool
 other:Bool
def Cd.holds (c:Cd):Bool:=if c.other then c.second else c.first
structure Ast where
 attrs:List At
 count:Nat
 done:List ByteArray
 asked:List ByteArray
 begun:List ByteArray
 lines:List Ln
 diags:List Dg
 files:List ByteArray
 over:Bool
def Ast.tell (st:Ast) (l:Ln) (f:Nat) (t:ByteArray):Ast:={ st with diags:=st.diags++[⟨l.file,l.no,f,t⟩] }
def Ast.ask (st:Ast) (n:ByteArray):Ast:=if hasN st.done n then st else { st with asked:=putN st.asked n }
def Ast.asks (st:Ast) (l:List ByteArray):Ast:=l.foldl Ast.ask st
def Ast.fill (st:Ast) (s:ByteArray):Ast:=st.asks (fillN st.attrs s)
def insA (l:List At) (a:At):List At :=
 match l with
 | []=>[a]
 | b::l=>if a.name=b.name then a::l else if a.name.data.toList<b.name.data.toList then a::b::l else b::insA l a
def delA (l:List At) (n:ByteArray):List At:=l.filter fun a=>!decide (a.name=n)
def force (cs:List Cd):Bool:=match cs.getLast? with|none=>true|some c=>c.holds
abbrev Rs:Type:=Ast×List Cd
def beginM (l:Ln) (rest:Bs) (st:Ast) (cs:List Cd):Rs :=
 if force cs then
  match askC st.attrs rest with
  | none=>(st.tell l 3 l.text,cs++[⟨l,false,false,false⟩])
  | some p=>if 16≤cs.length then (st.tell l 5 l.text,cs++[⟨l,false,false,false⟩]) else (st.ask p.1,cs++[⟨l,p.2,!p.2,false⟩])
 else (st,cs++[⟨l,false,false,false⟩])
def turnM (l:Ln) (st:Ast) (cs:List Cd):Rs :=
 match cs.getLast? with
 | none=>(st.tell l 4 l.text,cs)
 | some c=>if c.other then (st.tell l 4 l.text,cs) else (st,cs.dropLast++[{ c with other:=true }])
def endM (l:Ln) (st:Ast) (cs:List Cd):Rs :=
 match cs.getLast? with
 | none=>(st.tell l 4 l.text,cs)
 | some _=>(st,cs.dropLast)
def dotsB:Bs→List Bs
 | []=>[[]]
 | c::s=>if c==46 then []::dotsB s else match dotsB s with|[]=>[[c]]|a::l=>(c::a)::l
def pathB (s:Bs):Bool:=decide (s.length≤60)&&(dotsB s).all nameB
def findS (src:List Sc) (n:ByteArray):Option ByteArray:=(src.find? fun s=>decide (s.name=n)).map (·.text)
def inclM (inc:ByteArray→ByteArray→Ast→Ast) (src:List Sc) (opens:List ByteArray) (l:Ln) (rest:ByteArray) (st:Ast):Ast :=
 if pathB rest.data.toList=false then st.tell l 3 l.text
 else if hasN opens rest then st.tell l 2 rest
 else if 16≤opens.length then st.tell l 5 rest
 else match findS src rest with
  | none=>st.tell l 1 rest
  | some t=>inc rest t st
def wordB (s:Bs):Bs×Bs :=
 if 0≤Lib.indexAny s [32,9] then (s.take (Lib.indexAny s [32,9]).toNat,trim (s.drop (Lib.indexAny s [32,9]).toNat)) else (s,[])
def setM (l:Ln) (rest:Bs) (st:Ast):Ast :=
 let v:=ofB (wordB rest).2
 let st1:=st.fill v
 let v':=fillT st.attrs v
 if nameB (wordB rest).1&&validB v'.data.toList then { st1 with done:=putN st1.done (ofB (wordB rest).1),attrs:=insA st1.attrs ⟨ofB (wordB rest).1,v'⟩ }
 else st1.tell l 3 l.text
def unsetM (l:Ln) (rest:ByteArray) (st:Ast):Ast :=
 if nameB rest.data.toList then { st with done:=putN st.done rest,attrs:=delA st.attrs rest } else st.tell l 3 l.text
def wIf:Bs:=[64,105,102]
def wElse:Bs:=[64,101,108,115,101]
def wEnd:Bs:=[64,101,110,100]
def wIncl:Bs:=[64,105,110,99,108,117,100,101]
def wSet:Bs:=[64,115,101,116]
def wUnset:Bs:=[64,117,110,115,101,116]
def lineM (inc:ByteArray→ByteArray→Ast→Ast) (src:List Sc) (opens:List ByteArray) (l:Ln) (st:Ast) (cs:List Cd):Rs :=
 let s:=l.text.data.toList
 if s.headD 0==64 then
  let w:=(wordB s).1
  let rest:=(wordB s).2
  if w=wIf then beginM l rest st cs
  else if w=wElse then turnM l st cs
  else if w=wEnd then endM l st cs
  else if force cs=false then (st,cs)
  else if w=wIncl then (inclM inc src opens l (ofB rest) st,cs)
  else if w=wSet then (setM l rest st,cs)
  else if w=wUnset then (unsetM l (ofB rest) st,cs)
  else (st.tell l 3 l.text,cs)
 else if force cs then
  let t:=ofB (if Lib.hasPrefix s [92,64] then s.drop 1 else s)
  let st1:=st.fill t
  ({ st1 with lines:=st1.lines++[⟨l.file,l.no,fillT st.attrs t⟩] },cs)
 else (st,cs)
def linesM (inc:ByteArray→ByteArray→Ast→Ast) (src:List Sc) (opens:List ByteArray) (f:ByteArray):Nat→List ByteArray→Ast→List Cd→Rs
 | _,[],st,cs=>(st,cs)
 | i,t::ts,st,cs =>
  if 16384≤st.count then ({ st.tell ⟨f,(i:Int)+1,t⟩ 6 ⟨#[]⟩ with over:=true },cs)
  else
   let p:=lineM inc src opens ⟨f,(i:Int)+1,t⟩ { st with count:=st.count+1 } cs
   if p.1.over then p else linesM inc src opens f (i+1) ts p.1 p.2
def nlsB:Bs→List Bs
 | []=>[[]]
 | c::s=>if c==10 then []::nlsB s else match nlsB s with|[]=>[[c]]|a::l=>(c::a)::l
def linesT (s:ByteArray):List ByteArray :=
 if s.data.toList=[] then [] else (nlsB (if s.data.toList.getLastD 0==10 then s.data.toList.dropLast else s.data.toList)).map ofB
def beginS (st:Ast) (n:ByteArray):Ast:=if hasN st.begun n then st else { st with begun:=putN st.begun n,files:=st.files++[n] }
def readM (src:List Sc):Nat→List ByteArray→ByteArray→ByteArray→Ast→Ast
 | 0,_,n,_,st=>beginS st n
 | d+1,opens,n,t,st =>
  let p:=linesM (fun m u s=>readM src d (opens++[n]) m u s) src (opens++[n]) n 0 (linesT t) (beginS st n) []
  if p.1.over then p.1 else p.2.foldl (fun s c=>s.tell c.at' 4 ⟨#[]⟩) p.1
theorem readM_succ (src:List Sc) (d:Nat) (opens:List ByteArray) (n t:ByteArray) (st:Ast):readM src (d+1) opens n t st =
  if (linesM (fun m u s=>readM src d (opens++[n]) m u s) src (opens++[n]) n 0 (linesT t) (beginS st n) []).1.over then (linesM (fun m u s=>readM src d (opens++[n]) m u s) src (opens++[n]) n 0 (linesT t) (beginS st n) []).1
  else (linesM (fun m u s=>readM src d (opens++[n]) m u s) src (opens++[n]) n 0 (linesT t) (beginS st n) []).2.foldl (fun s c=>s.tell c.at' 4 ⟨#[]⟩) (linesM (fun m u s=>readM src d (opens++[n]) m u s) src (opens++[n]) n 0 (linesT t) (beginS st n) []).1:=rfl
def firstA (attrs:List At):Ast:=⟨if checkB attrs then attrs else [],0,[],[],[],[],[],[],false⟩
def readS (src:List Sc) (attrs:List At) (n:ByteArray):Ast :=
 match findS src n with
 | none=>{ firstA [] with diags:=[⟨n,0,1,n⟩] }
 | some t=>readM src 16 [] n t (firstA attrs)
theorem hasN_iff {l:List ByteArray}{n:ByteArray}:hasN l n=true↔n∈l:=by simp[hasN]
theorem addN_mem {l:List ByteArray}{n m:ByteArray}:m∈addN l n↔m∈l∨m=n:=by
 unfold addN
 by_cases h:hasN l n=true
 ·rw[if_pos h];have:=hasN_iff.1 h
  constructor
  ·exact .inl
  ·rintro (h|rfl)
   ·exact h
   ·exact this
 ·rw[if_neg h];simp
section
variable {s1 s2:List Sc} {a1 a2:List At} {s t:Ast}
theorem asks_attrs:∀(l:List ByteArray) (s:Ast),(s.asks l).attrs=s.attrs∧(s.asks l).done=s.done∧(s.asks l).over=s.over∧(s.asks l).lines=s.lines
 | [],_=>⟨rfl,rfl,rfl,rfl⟩
 | n::l,s=>by
  have h:=asks_attrs l (s.ask n);have e:(s.ask n).attrs=s.attrs∧(s.ask n).done=s.done∧(s.ask n).over=s.over∧(s.ask n).lines=s.lines:=by unfold Ast.ask;split<;>exact⟨rfl,rfl,rfl,rfl⟩
  exact⟨h.1.trans e.1,h.2.1.trans e.2.1,h.2.2.1.trans e.2.2.1,h.2.2.2.trans e.2.2.2⟩
end
def cntB (w:Bs):Bs→Nat
 | []=>0
 | c::l=>(if Lib.hasPrefix (c::l) w then 1 else 0)+cntB w l
def inclW:Bs:=[105,110,99,108,117,100,101]
theorem nlsB_head:∀s:Bs,∃a l,nlsB s=a::l∧∃b,s=a++b
 | []=>⟨[],[],rfl,[],rfl⟩
 | c::s=>by
  obtain⟨a,l,h1,b,h2⟩:=nlsB_head s;unfold nlsB
  by_cases h:(c==10)=true
  ·rw[if_pos h];exact⟨[],nlsB s,rfl,c::s,rfl⟩
  ·rw[if_neg h,h1];exact⟨c::a,l,rfl,b,by rw[h2];rfl⟩
theorem nlsB_len:∀s:Bs,((nlsB s).map (fun x=>x.length+1)).sum=s.length+1
 | []=>rfl
 | c::s=>by
  have ih:=nlsB_len s;obtain⟨a,l,h1,_⟩:=nlsB_head s;unfold nlsB
  by_cases h:(c==10)=true
  ·rw[if_pos h];simp only[List.map_cons,List.sum_cons,List.length_nil,List.length_cons];omega
  ·rw[if_neg h,h1];rw[h1] at ih;simp only[List.map_cons,List.sum_cons,List.length_cons] at ih ⊢;omega
theorem size_ofB (s:Bs):(ofB s).size=s.length:=by simp[ofB,ByteArray.size]
theorem size_lst (x:ByteArray):x.data.toList.length=x.size:=by rw[Array.length_toList];rfl
theorem list_ofB (s:Bs):(ofB s).data.toList=s:=by simp[ofB]
def rawT (l:List ByteArray):Nat:=(l.map fun x=>x.size+1).sum
theorem linesT_raw (s:ByteArray):rawT (linesT s)≤s.size+1:=by
 unfold linesT rawT;split
 ·simp
 ·rw[List.map_map];have e:(List.map ((fun x=>x.size+1) ∘ ofB) (nlsB (if s.data.toList.getLastD 0==10 then s.data.toList.dropLast else s.data.toList)))=(nlsB (if s.data.toList.getLastD 0==10 then s.data.toList.dropLast else s.data.toList)).map (fun x=>x.length+1):=by
   apply List.map_congr_left
   intro x _;simp[size_ofB]
  rw[e,nlsB_len];have:s.size=s.data.toList.length:=(size_lst s).symm
  split
  ·rw[List.length_dropLast];omega
  ·omega
theorem cutB_len {c:UInt8}:∀{s a b:Bs},cutB c s=some (a,b)→a.length+1+b.length=s.length
 | [],_,_,h=>by cases h
 | x::s,a,b,h=>by
  unfold cutB at h;split at h
  ·cases h;simp;omega
  ·cases hc:cutB c s with
   | none=>rw[hc] at h;cases h
   | some p =>
    rw[hc] at h;obtain⟨p1,p2⟩:=p;cases h
    have:=cutB_len hc
    simp only[List.length_cons];omega
theorem askedB_len {s a:Bs} (h:askedB s=some a):1≤a.length∧a.length+2≤s.length:=by
 unfold askedB at h;split at h
 ·rename_i r;cases hc:cutB 125 (r.take 61) with
  | none=>rw[hc] at h;cases h
  | some p =>
   obtain⟨x,y⟩:=p;rw[hc] at h;dsimp only at h;split at h
   ·rename_i hn;cases h
    have:=cutB_len hc
    rw[List.length_take] at this;unfold nameB at hn;simp only[Bool.and_eq_true,decide_eq_true_eq] at hn;have:=hn.1.1.1
    rw[List.length_cons];omega
   ·cases h
 ·cases h
theorem getA_mem {l:List At}{n v:ByteArray} (h:getA l n=some v):∃a∈l,a.value=v:=by
 unfold getA at h;rw[Option.map_eq_some_iff] at h;obtain⟨a,h1,h2⟩:=h;exact⟨a,List.mem_of_find?_eq_some h1,h2⟩
theorem fillB_len {l:List At} (hl:∀a∈l,a.value.size≤1024):∀(n:Nat) (s:Bs) (ns:List ByteArray),(fillB l n s ns).1.length≤342*s.length∧(fillB l n s ns).2.length≤ns.length+s.length
 | 0,s,ns=>⟨by show s.length≤_;omega,by show ns.length≤_;omega⟩
 | _+1,[],ns=>⟨Nat.zero_le _,Nat.le_refl _⟩
 | n+1,c::s,ns=>by
  unfold fillB;cases hA:askedB (c::s) with
  | none =>
   have ih:=fillB_len hl n s ns;simp only[List.length_cons];omega
  | some a =>
   have ih:=fillB_len hl n (s.drop (a.length+1)) (addN ns (ofB a));have ha:=askedB_len hA;have hd:(addN ns (ofB a)).length≤ns.length+1:=by unfold addN;split<;>simp
   rw[List.length_drop] at ih;rw[List.length_cons] at ha;dsimp only;cases hg:getA l (ofB a) with
   | none =>
    simp only[List.length_cons,List.length_append];omega
   | some v =>
    obtain⟨x,hx,rfl⟩:=getA_mem hg;have hv:=hl x hx;have hz:=size_lst x.value;simp only[List.length_cons,List.length_append];omega
theorem fillN_len {l:List At} (hl:∀a∈l,a.value.size≤1024) (s:ByteArray):(fillN l s).length≤s.size:=by
 have:=(fillB_len hl s.size s.data.toList []).2
 have hz:=size_lst s;unfold fillN;simp at this;omega
def Vals (s:Ast):Prop:=∀a∈s.attrs,a.value.size≤1024
theorem insA_mem {a:At}:∀{l:List At}{b:At},b∈insA l a→b=a∨b∈l
 | [],b,h=>by simp[insA] at h;exact .inl h
 | x::l,b,h=>by
  unfold insA at h;split at h
  ·rcases List.mem_cons.1 h with h|h
   ·exact .inl h
   ·exact .inr (List.mem_cons_of_mem _ h)
  ·split at h
   ·rcases List.mem_cons.1 h with h|h
    ·exact .inl h
    ·exact .inr h
   ·rcases List.mem_cons.1 h with h|h
    ·exact .inr (List.mem_cons.2 (.inl h))
    ·rcases insA_mem h with h|h
     ·exact .inl h
     ·exact .inr (List.mem_cons_of_mem _ h)
def cntS (l:List Sc):Nat:=(l.map fun s=>cntB inclW s.text.data.toList).sum
def rawS (l:List Sc):Nat:=(l.map fun s=>s.text.size+1).sum
def halfs:Nat→Nat→Nat
 | 0,n=>n
 | k+1,n=>halfs k (n*3 / 2)
theorem cntB_le (w:Bs):∀l:Bs,cntB w l≤l.length
 | []=>Nat.le_refl _
 | c::l=>by
  have:=cntB_le w l
  rw[List.length_cons]
  show (if Lib.hasPrefix (c::l) w then 1 else 0)+cntB w l≤_
  split<;>omega
end Go.Bd
namespace Go.Proofs.YtkdknllcllhpgaaGreatDoor
open Go.RowKit Go.Bd
def atCells (a:At):List Value:=[.string a.name,.string a.value]
def cdCells (c:Cd):List Value:=[.string c.at'.file,.int .i64 c.at'.no,.string c.at'.text,.bool c.first,.bool c.second,.bool c.other]
def rowAt (l:List At):List Value:=l.flatMap atCells
def rowCd (l:List Cd):List Value:=l.flatMap cdCells
def rowLn (l:List Ln):List Value:=l.flatMap lnCells
def rowTx (l:List ByteArray):List Value:=l.map Value.string
def setFe (l:List ByteArray):List Fe:=l.map fun n=>⟨n,.agg #[],[]⟩
theorem flat_len {α:Type} (f:α→List Value) (k:Nat) (hf:∀a,(f a).length=k):∀l:List α,(l.flatMap f).length=l.length*k
 | []=>by simp
 | a::l=>by rw[List.flatMap_cons,List.length_append,flat_len f k hf l,hf,List.length_cons,Nat.succ_mul,Nat.add_comm]
theorem flat_get {α:Type} (f:α→List Value) (k:Nat) (hf:∀a,(f a).length=k):∀{l:List α}{j:Nat}{a:α}{i:Nat}{u:Value},l[j]? = some a→(f a)[i]? = some u→(l.flatMap f)[j*k+i]? = some u
 | [],j,a,i,u,h,_=>by simp at h
 | b::l,0,a,i,u,h,hu=>by
  cases h
  have hi:=(List.getElem?_eq_some_iff.1 hu).1;rw[List.flatMap_cons,Nat.zero_mul,Nat.zero_add,List.getElem?_append_left hi];exact hu
 | b::l,j+1,a,i,u,h,hu=>by
  rw[List.flatMap_cons,List.getElem?_append_right (by rw[hf,Nat.succ_mul];omega),hf];have e:(j+1)*k+i-k=j*k+i:=by rw[Nat.succ_mul];omega
  rw[e];exact flat_get f k hf (by simpa using h) hu
theorem rowAt_len (l:List At):(rowAt l).length=l.length*2:=flat_len atCells 2 (fun _=>rfl) l
theorem findF_set (l:List ByteArray) (n:ByteArray):(findF (setFe l) n).isSome=hasN l n:=by
 induction l with
 | nil=>rfl
 | cons a l ih =>
  unfold findF setFe hasN at *;rw[List.map_cons]
  by_cases h:a=n
  ·simp[h]
  ·rw[List.find?_cons_of_neg (by simp[h]),ih];simp[h]
theorem set_put (l:List ByteArray) (n:ByteArray):setFe (putN l n)=putF (setFe l) ⟨n,.agg #[],[]⟩:=by
 unfold putN putF setFe delF;rw[List.map_append,List.filter_map];rfl
theorem set_len (l:List ByteArray):(setFe l).length=l.length:=by simp[setFe]
structure Rv where
 av:Value
 ov:Value
 lv:Value
 dv:Value
 fv:Value
 dm:Nat
 am:Nat
 bm:Nat
 sb:List (Nat×Value)
def tAr:TypeId:=94
def tAt:TypeId:=47
def tLn:TypeId:=107
def tSrc:TypeId:=174
def tCd:TypeId:=167
def tSp:TypeId:=164
def tTx:TypeId:=9
def wordV (f:Nat) (b:Bool):Value:=.agg #[.func (.func f) #[] #[],.bool b]
def wordsF:List Fe:=[⟨ofB wIf,wordV 71 true,[]⟩,⟨ofB wElse,wordV 72 true,[]⟩,⟨ofB wEnd,wordV 73 true,[]⟩,
 ⟨ofB wIncl,wordV 74 false,[]⟩,⟨ofB wSet,wordV 75 false,[]⟩,⟨ofB wUnset,wordV 76 false,[]⟩]
abbrev Stk:Type:=List (ByteArray×List Cd)
structure SrcAt (w:World) (κ:Nat→Nat) (j:Nat) (p:Nat×Value) (s:ByteArray×List Cd):Prop where
 hold:Holds w p.1 tSrc #[.string s.1,p.2]
 row:w.ownsRow 0 tCd 6 p.2 s.2.length (rowCd s.2)
 kb:κ p.1=20+2*j
 kr:∀k,p.2.ownBlock=some k→κ k=21+2*j
structure ARd (w:World) (κ:Nat→Nat) (rb wm:Nat) (sv:Value) (v:Rv) (st:Ast) (stk:Stk):Prop where
 hold:Holds w rb tAr #[sv,v.av,.map (some wm),v.ov,.int .i64 (st.count:Int),.map (some v.dm),.map (some v.am),.map (some v.bm),v.lv,v.dv,v.fv]
 attrs:w.ownsRow 0 tAt 2 v.av st.attrs.length (rowAt st.attrs)
 done:FsMap w Tryz.prog tTx v.dm (setFe st.done)
 asked:FsMap w Tryz.prog tTx v.am (setFe st.asked)
 begun:FsMap w Tryz.prog tTx v.bm (setFe st.begun)
 lines:w.ownsRow 0 tLn 3 v.lv st.lines.length (rowLn st.lines)
 diags:w.ownsRow 0 tDg 4 v.dv st.diags.length (rowD st.diags)
 files:w.ownsRow 0 tTx 1 v.fv st.files.length (rowTx st.files)
 opens:w.ownsRow 0 tSp 1 v.ov stk.length (v.sb.map fun p=>.pointer (some ⟨p.1,0,none⟩))
 len:v.sb.length=stk.length
 src:∀(j:Nat) p s,v.sb[j]? = some p→stk[j]? = some s→SrcAt w κ j p s
 words:FsMap w Tryz.prog tTx wm wordsF
 kR:κ rb=1
 kW:κ wm=2
 kD:κ v.dm=3
 kA:κ v.am=4
 kB:κ v.bm=5
 kAt:∀k,v.av.ownBlock=some k→κ k=6
 kO:∀k,v.ov.ownBlock=some k→κ k=7
 kL:∀k,v.lv.ownBlock=some k→κ k=8
 kG:∀k,v.dv.ownBlock=some k→κ k=9
 kF:∀k,v.fv.ownBlock=some k→κ k=10
 lt:∀k,κ k≠0→k<w.heap.size
 three:∀k,κ k≠0→3≤k
 uD:Uniq (setFe st.done)
 uA:Uniq (setFe st.asked)
 uB:Uniq (setFe st.begun)
structure Mv (w w':World) (κ κ':Nat→Nat):Prop where
 chg:Chg w w' (fun k=>κ k≠0)
 same:∀k,k<w.heap.size→κ' k=κ k
section
variable {w w' w'':World} {κ κ' κ'':Nat→Nat} {rb wm:Nat} {sv:Value} {v:Rv} {st:Ast} {stk:Stk}
theorem Mv.refl (w:World) (κ:Nat→Nat):Mv w w κ κ:=⟨Chg.refl _ _,fun _ _=>rfl⟩
theorem Mv.trans (h:Mv w w' κ κ') (k:Mv w' w'' κ' κ''):Mv w w'' κ κ'' :=
 ⟨h.chg.trans k.chg (fun b hb hn=>by rw[h.same b hb] at hn;exact hn),fun b hb=>(k.same b (Nat.lt_of_lt_of_le hb h.chg.size)).trans (h.same b hb)⟩
theorem Mv.below (h:Below w.heap.size w w') (κ:Nat→Nat):Mv w w' κ κ:=⟨Chg.below h _,fun _ _=>rfl⟩
theorem SrcAt.chg {S:Nat→Prop}{j:Nat}{p:Nat×Value}{s:ByteArray×List Cd} (h:SrcAt w κ j p s) (hc:Chg w w' S) (h1:∀k,κ k=20+2*j∨κ k=21+2*j→¬S k) (hk:∀k,k<w.heap.size→κ' k=κ k):SrcAt w' κ' j p s :=
 ⟨hc.holds (h1 _ (.inl h.kb)) h.hold,hc.owns h.row (fun k hk=>h1 k (.inr (h.kr k hk))),(hk _ h.hold.lt).trans h.kb,fun k hb=>(hk k (by
  rcases h.row.2 with ⟨h2,_⟩|⟨g,cap,cur,h2,h3,h4,_⟩
  ·rw[h2] at hb;cases hb
  ·rw[h2] at hb;cases hb;exact (Array.getElem?_eq_some_iff.1 h4).1)).trans (h.kr k hb)⟩
theorem ARd.chg {S:Nat→Prop} (h:ARd w κ rb wm sv v st stk) (hc:Chg w w' S) (hS:∀k,κ k≠0→¬S k):ARd w' κ rb wm sv v st stk:=by
 have hz:∀{k c:Nat},κ k=c+1→¬S k:=fun {k c} e=>hS k (by omega)
 exact⟨hc.holds (hz h.kR) h.hold,hc.owns h.attrs (fun k hk=>hz (h.kAt k hk)),h.done.chg hc (hz h.kD),h.asked.chg hc (hz h.kA),h.begun.chg hc (hz h.kB),
  hc.owns h.lines (fun k hk=>hz (h.kL k hk)),hc.owns h.diags (fun k hk=>hz (h.kG k hk)),hc.owns h.files (fun k hk=>hz (h.kF k hk)),hc.owns h.opens (fun k hk=>hz (h.kO k hk)),h.len,
  fun j p s hp hs=>(h.src j p s hp hs).chg hc (fun k hk=>hS k (by omega)) (fun _ _=>rfl),h.words.chg hc (hz h.kW),h.kR,h.kW,h.kD,h.kA,h.kB,h.kAt,h.kO,h.kL,h.kG,h.kF,
  fun k hk=>Nat.lt_of_lt_of_le (h.lt k hk) hc.size,h.three,h.uD,h.uA,h.uB⟩
theorem ARd.three' (h:ARd w κ rb wm sv v st stk) (old:∀k,k<w.heap.size→κ' k=κ k):∀k,κ' k≠0→3≤k:=fun k hk=>by
 by_cases hl:k<w.heap.size
 ·rw[old k hl] at hk;exact h.three k hk
 ·have h1:=h.hold.lt;have h2:=h.three rb (by rw[h.kR];decide);omega
theorem ARd.below (h:ARd w κ rb wm sv v st stk) (hb:Below w.heap.size w w'):ARd w' κ rb wm sv v st stk:=h.chg (Chg.below hb (fun _=>False)) (fun _ _ h=>h)
def recol (κ:Nat→Nat) (n g c:Nat):Nat→Nat:=fun k=>if k<n then κ k else if k=g then c else 0
theorem recol_old {n g c k:Nat} (h:k<n):recol κ n g c k=κ k:=by unfold recol;rw[if_pos h]
theorem recol_at {n g c:Nat} (h:κ g=c∨n≤g) (hl:κ g=c→g<n):recol κ n g c g=c:=by
 unfold recol
 by_cases h1:g<n
 ·rw[if_pos h1]
  rcases h with h|h
  ·exact h
  ·omega
 ·rw[if_neg h1,if_pos rfl]
structure Rest (w w':World) (κ:Nat→Nat) (c:Nat) (κ':Nat→Nat):Prop where
 chg:Chg w w' (fun k=>κ k=1∨κ k=c)
 old:∀k,k<w.heap.size→κ' k=κ k
 lt:∀k,κ' k≠0→k<w'.heap.size
theorem Rest.mv {c:Nat} (h:Rest w w' κ c κ') (hc:c≠0):Mv w w' κ κ':=⟨h.chg.mono (fun k _ hk=>by omega),h.old⟩
end
section
variable {w w':World} {κ κ':Nat→Nat} {rb wm:Nat} {sv:Value} {v:Rv} {st:Ast} {stk:Stk}
theorem ARd.far {c:Nat} (h:ARd w κ rb wm sv v st stk) (R:Rest w w' κ c κ'){k:Nat} (hk:κ k≠0):κ' k=κ k:=R.old k (h.lt k hk)
theorem ARd.set_attrs (h:ARd w κ rb wm sv v st stk) (R:Rest w w' κ 6 κ'){x:Value}{l:List At} (hh:Holds w' rb tAr #[sv,x,.map (some wm),v.ov,.int .i64 (st.count:Int),.map (some v.dm),.map (some v.am),.map (some v.bm),v.lv,v.dv,v.fv]) (ho:w'.ownsRow 0 tAt 2 x l.length (rowAt l)) (hk:∀k,x.ownBlock=some k→κ' k=6):ARd w' κ' rb wm sv { v with av:=x } { st with attrs:=l } stk :=
 ⟨hh,
  ho,
  h.done.chg R.chg (by have:=h.kD;omega),
  h.asked.chg R.chg (by have:=h.kA;omega),
  h.begun.chg R.chg (by have:=h.kB;omega),
  R.chg.owns h.lines (fun k hk hs=>by have:=h.kL k hk;omega),
  R.chg.owns h.diags (fun k hk hs=>by have:=h.kG k hk;omega),
  R.chg.owns h.files (fun k hk hs=>by have:=h.kF k hk;omega),
  R.chg.owns h.opens (fun k hk hs=>by have:=h.kO k hk;omega),
  h.len,
  fun j p s hp hs=>(h.src j p s hp hs).chg R.chg (fun k hk hs=>by omega) (fun k hk=>R.old k hk),
  h.words.chg R.chg (by have:=h.kW;omega),
  (h.far R (by rw[h.kR];omega)).trans h.kR,
  (h.far R (by rw[h.kW];omega)).trans h.kW,
  (h.far R (by rw[h.kD];omega)).trans h.kD,
  (h.far R (by rw[h.kA];omega)).trans h.kA,
  (h.far R (by rw[h.kB];omega)).trans h.kB,
  hk,
  fun k hk=>(h.far R (by rw[h.kO k hk];omega)).trans (h.kO k hk),
  fun k hk=>(h.far R (by rw[h.kL k hk];omega)).trans (h.kL k hk),
  fun k hk=>(h.far R (by rw[h.kG k hk];omega)).trans (h.kG k hk),
  fun k hk=>(h.far R (by rw[h.kF k hk];omega)).trans (h.kF k hk),
  R.lt,
  h.three' R.old,
  h.uD,
  h.uA,
  h.uB⟩
theorem ARd.set_lines (h:ARd w κ rb wm sv v st stk) (R:Rest w w' κ 8 κ'){x:Value}{l:List Ln} (hh:Holds w' rb tAr #[sv,v.av,.map (some wm),v.ov,.int .i64 (st.count:Int),.map (some v.dm),.map (some v.am),.map (some v.bm),x,v.dv,v.fv]) (ho:w'.ownsRow 0 tLn 3 x l.length (rowLn l)) (hk:∀k,x.ownBlock=some k→κ' k=8):ARd w' κ' rb wm sv { v with lv:=x } { st with lines:=l } stk :=
 ⟨hh,
  R.chg.owns h.attrs (fun k hk hs=>by have:=h.kAt k hk;omega),
  h.done.chg R.chg (by have:=h.kD;omega),
  h.asked.chg R.chg (by have:=h.kA;omega),
  h.begun.chg R.chg (by have:=h.kB;omega),
  ho,
  R.chg.owns h.diags (fun k hk hs=>by have:=h.kG k hk;omega),
  R.chg.owns h.files (fun k hk hs=>by have:=h.kF k hk;omega),
  R.chg.owns h.opens (fun k hk hs=>by have:=h.kO k hk;omega),
  h.len,
  fun j p s hp hs=>(h.src j p s hp hs).chg R.chg (fun k hk hs=>by omega) (fun k hk=>R.old k hk),
  h.words.chg R.chg (by have:=h.kW;omega),
  (h.far R (by rw[h.kR];omega)).trans h.kR,
  (h.far R (by rw[h.kW];omega)).trans h.kW,
  (h.far R (by rw[h.kD];omega)).trans h.kD,
  (h.far R (by rw[h.kA];omega)).trans h.kA,
  (h.far R (by rw[h.kB];omega)).trans h.kB,
  fun k hk=>(h.far R (by rw[h.kAt k hk];omega)).trans (h.kAt k hk),
  fun k hk=>(h.far R (by rw[h.kO k hk];omega)).trans (h.kO k hk),
  hk,
  fun k hk=>(h.far R (by rw[h.kG k hk];omega)).trans (h.kG k hk),
  fun k hk=>(h.far R (by rw[h.kF k hk];omega)).trans (h.kF k hk),
  R.lt,
  h.three' R.old,
  h.uD,
  h.uA,
  h.uB⟩
theorem ARd.set_diags (h:ARd w κ rb wm sv v st stk) (R:Rest w w' κ 9 κ'){x:Value}{l:List Dg} (hh:Holds w' rb tAr #[sv,v.av,.map (some wm),v.ov,.int .i64 (st.count:Int),.map (some v.dm),.map (some v.am),.map (some v.bm),v.lv,x,v.fv]) (ho:w'.ownsRow 0 tDg 4 x l.length (rowD l)) (hk:∀k,x.ownBlock=some k→κ' k=9):ARd w' κ' rb wm sv { v with dv:=x } { st with diags:=l } stk :=
 ⟨hh,
  R.chg.owns h.attrs (fun k hk hs=>by have:=h.kAt k hk;omega),
  h.done.chg R.chg (by have:=h.kD;omega),
  h.asked.chg R.chg (by have:=h.kA;omega),
  h.begun.chg R.chg (by have:=h.kB;omega),
  R.chg.owns h.lines (fun k hk hs=>by have:=h.kL k hk;omega),
  ho,
  R.chg.owns h.files (fun k hk hs=>by have:=h.kF k hk;omega),
  R.chg.owns h.opens (fun k hk hs=>by have:=h.kO k hk;omega),
  h.len,
  fun j p s hp hs=>(h.src j p s hp hs).chg R.chg (fun k hk hs=>by omega) (fun k hk=>R.old k hk),
  h.words.chg R.chg (by have:=h.kW;omega),
  (h.far R (by rw[h.kR];omega)).trans h.kR,
  (h.far R (by rw[h.kW];omega)).trans h.kW,
  (h.far R (by rw[h.kD];omega)).trans h.kD,
  (h.far R (by rw[h.kA];omega)).trans h.kA,
  (h.far R (by rw[h.kB];omega)).trans h.kB,
  fun k hk=>(h.far R (by rw[h.kAt k hk];omega)).trans (h.kAt k hk),
  fun k hk=>(h.far R (by rw[h.kO k hk];omega)).trans (h.kO k hk),
  fun k hk=>(h.far R (by rw[h.kL k hk];omega)).trans (h.kL k hk),
  hk,
  fun k hk=>(h.far R (by rw[h.kF k hk];omega)).trans (h.kF k hk),
  R.lt,
  h.three' R.old,
  h.uD,
  h.uA,
  h.uB⟩
theorem ARd.set_files (h:ARd w κ rb wm sv v st stk) (R:Rest w w' κ 10 κ'){x:Value}{l:List ByteArray} (hh:Holds w' rb tAr #[sv,v.av,.map (some wm),v.ov,.int .i64 (st.count:Int),.map (some v.dm),.map (some v.am),.map (some v.bm),v.lv,v.dv,x]) (ho:w'.ownsRow 0 tTx 1 x l.length (rowTx l)) (hk:∀k,x.ownBlock=some k→κ' k=10):ARd w' κ' rb wm sv { v with fv:=x } { st with files:=l } stk :=
 ⟨hh,
  R.chg.owns h.attrs (fun k hk hs=>by have:=h.kAt k hk;omega),
  h.done.chg R.chg (by have:=h.kD;omega),
  h.asked.chg R.chg (by have:=h.kA;omega),
  h.begun.chg R.chg (by have:=h.kB;omega),
  R.chg.owns h.lines (fun k hk hs=>by have:=h.kL k hk;omega),
  R.chg.owns h.diags (fun k hk hs=>by have:=h.kG k hk;omega),
  ho,
  R.chg.owns h.opens (fun k hk hs=>by have:=h.kO k hk;omega),
  h.len,
  fun j p s hp hs=>(h.src j p s hp hs).chg R.chg (fun k hk hs=>by omega) (fun k hk=>R.old k hk),
  h.words.chg R.chg (by have:=h.kW;omega),
  (h.far R (by rw[h.kR];omega)).trans h.kR,
  (h.far R (by rw[h.kW];omega)).trans h.kW,
  (h.far R (by rw[h.kD];omega)).trans h.kD,
  (h.far R (by rw[h.kA];omega)).trans h.kA,
  (h.far R (by rw[h.kB];omega)).trans h.kB,
  fun k hk=>(h.far R (by rw[h.kAt k hk];omega)).trans (h.kAt k hk),
  fun k hk=>(h.far R (by rw[h.kO k hk];omega)).trans (h.kO k hk),
  fun k hk=>(h.far R (by rw[h.kL k hk];omega)).trans (h.kL k hk),
  fun k hk=>(h.far R (by rw[h.kG k hk];omega)).trans (h.kG k hk),
  hk,
  R.lt,
  h.three' R.old,
  h.uD,
  h.uA,
  h.uB⟩
theorem ARd.set_asked (h:ARd w κ rb wm sv v st stk) (R:Rest w w' κ 4 κ'){l:List ByteArray} (hh:Holds w' rb tAr #[sv,v.av,.map (some wm),v.ov,.int .i64 (st.count:Int),.map (some v.dm),.map (some v.am),.map (some v.bm),v.lv,v.dv,v.fv]) (hm:FsMap w' Tryz.prog tTx v.am (setFe l)) (hu:Uniq (setFe l)):ARd w' κ' rb wm sv v { st with asked:=l } stk :=
 ⟨hh,
  R.chg.owns h.attrs (fun k hk hs=>by have:=h.kAt k hk;omega),
  h.done.chg R.chg (by have:=h.kD;omega),
  hm,
  h.begun.chg R.chg (by have:=h.kB;omega),
  R.chg.owns h.lines (fun k hk hs=>by have:=h.kL k hk;omega),
  R.chg.owns h.diags (fun k hk hs=>by have:=h.kG k hk;omega),
  R.chg.owns h.files (fun k hk hs=>by have:=h.kF k hk;omega),
  R.chg.owns h.opens (fun k hk hs=>by have:=h.kO k hk;omega),
  h.len,
  fun j p s hp hs=>(h.src j p s hp hs).chg R.chg (fun k hk hs=>by omega) (fun k hk=>R.old k hk),
  h.words.chg R.chg (by have:=h.kW;omega),
  (h.far R (by rw[h.kR];omega)).trans h.kR,
  (h.far R (by rw[h.kW];omega)).trans h.kW,
  (h.far R (by rw[h.kD];omega)).trans h.kD,
  (h.far R (by rw[h.kA];omega)).trans h.kA,
  (h.far R (by rw[h.kB];omega)).trans h.kB,
  fun k hk=>(h.far R (by rw[h.kAt k hk];omega)).trans (h.kAt k hk),
  fun k hk=>(h.far R (by rw[h.kO k hk];omega)).trans (h.kO k hk),
  fun k hk=>(h.far R (by rw[h.kL k hk];omega)).trans (h.kL k hk),
  fun k hk=>(h.far R (by rw[h.kG k hk];omega)).trans (h.kG k hk),
  fun k hk=>(h.far R (by rw[h.kF k hk];omega)).trans (h.kF k hk),
  R.lt,
  h.three' R.old,
  h.uD,
  hu,
  h.uB⟩
theorem ARd.set_begun (h:ARd w κ rb wm sv v st stk) (R:Rest w w' κ 5 κ'){l:List ByteArray} (hh:Holds w' rb tAr #[sv,v.av,.map (some wm),v.ov,.int .i64 (st.count:Int),.map (some v.dm),.map (some v.am),.map (some v.bm),v.lv,v.dv,v.fv]) (hm:FsMap w' Tryz.prog tTx v.bm (setFe l)) (hu:Uniq (setFe l)):ARd w' κ' rb wm sv v { st with begun:=l } stk :=
 ⟨hh,
  R.chg.owns h.attrs (fun k hk hs=>by have:=h.kAt k hk;omega),
  h.done.chg R.chg (by have:=h.kD;omega),
  h.asked.chg R.chg (by have:=h.kA;omega),
  hm,
  R.chg.owns h.lines (fun k hk hs=>by have:=h.kL k hk;omega),
  R.chg.owns h.diags (fun k hk hs=>by have:=h.kG k hk;omega),
  R.chg.owns h.files (fun k hk hs=>by have:=h.kF k hk;omega),
  R.chg.owns h.opens (fun k hk hs=>by have:=h.kO k hk;omega),
  h.len,
  fun j p s hp hs=>(h.src j p s hp hs).chg R.chg (fun k hk hs=>by omega) (fun k hk=>R.old k hk),
  h.words.chg R.chg (by have:=h.kW;omega),
  (h.far R (by rw[h.kR];omega)).trans h.kR,
  (h.far R (by rw[h.kW];omega)).trans h.kW,
  (h.far R (by rw[h.kD];omega)).trans h.kD,
  (h.far R (by rw[h.kA];omega)).trans h.kA,
  (h.far R (by rw[h.kB];omega)).trans h.kB,
  fun k hk=>(h.far R (by rw[h.kAt k hk];omega)).trans (h.kAt k hk),
  fun k hk=>(h.far R (by rw[h.kO k hk];omega)).trans (h.kO k hk),
  fun k hk=>(h.far R (by rw[h.kL k hk];omega)).trans (h.kL k hk),
  fun k hk=>(h.far R (by rw[h.kG k hk];omega)).trans (h.kG k hk),
  fun k hk=>(h.far R (by rw[h.kF k hk];omega)).trans (h.kF k hk),
  R.lt,
  h.three' R.old,
  h.uD,
  h.uA,
  hu⟩
theorem ARd.set_count (h:ARd w κ rb wm sv v st stk) (R:Rest w w' κ 1 κ'){n:Nat} (hh:Holds w' rb tAr #[sv,v.av,.map (some wm),v.ov,.int .i64 (n:Int),.map (some v.dm),.map (some v.am),.map (some v.bm),v.lv,v.dv,v.fv]):ARd w' κ' rb wm sv v { st with count:=n } stk :=
 ⟨hh,
  R.chg.owns h.attrs (fun k hk hs=>by have:=h.kAt k hk;omega),
  h.done.chg R.chg (by have:=h.kD;omega),
  h.asked.chg R.chg (by have:=h.kA;omega),
  h.begun.chg R.chg (by have:=h.kB;omega),
  R.chg.owns h.lines (fun k hk hs=>by have:=h.kL k hk;omega),
  R.chg.owns h.diags (fun k hk hs=>by have:=h.kG k hk;omega),
  R.chg.owns h.files (fun k hk hs=>by have:=h.kF k hk;omega),
  R.chg.owns h.opens (fun k hk hs=>by have:=h.kO k hk;omega),
  h.len,
  fun j p s hp hs=>(h.src j p s hp hs).chg R.chg (fun k hk hs=>by omega) (fun k hk=>R.old k hk),
  h.words.chg R.chg (by have:=h.kW;omega),
  (h.far R (by rw[h.kR];omega)).trans h.kR,
  (h.far R (by rw[h.kW];omega)).trans h.kW,
  (h.far R (by rw[h.kD];omega)).trans h.kD,
  (h.far R (by rw[h.kA];omega)).trans h.kA,
  (h.far R (by rw[h.kB];omega)).trans h.kB,
  fun k hk=>(h.far R (by rw[h.kAt k hk];omega)).trans (h.kAt k hk),
  fun k hk=>(h.far R (by rw[h.kO k hk];omega)).trans (h.kO k hk),
  fun k hk=>(h.far R (by rw[h.kL k hk];omega)).trans (h.kL k hk),
  fun k hk=>(h.far R (by rw[h.kG k hk];omega)).trans (h.kG k hk),
  fun k hk=>(h.far R (by rw[h.kF k hk];omega)).trans (h.kF k hk),
  R.lt,
  h.three' R.old,
  h.uD,
  h.uA,
  h.uB⟩
theorem ARd.push (h:ARd w κ rb wm sv v st stk) (R:Rest w w' κ 7 κ'){x:Value}{b:Nat}{nm:ByteArray} (hh:Holds w' rb tAr #[sv,v.av,.map (some wm),x,.int .i64 (st.count:Int),.map (some v.dm),.map (some v.am),.map (some v.bm),v.lv,v.dv,v.fv]) (ho:w'.ownsRow 0 tSp 1 x (stk.length+1) (v.sb.map (fun p=>.pointer (some ⟨p.1,0,none⟩))++[.pointer (some ⟨b,0,none⟩)])) (hk:∀k,x.ownBlock=some k→κ' k=7)
  (hs:SrcAt w' κ' stk.length (b,.slice none 0 0) (nm,[])):ARd w' κ' rb wm sv { v with ov:=x,sb:=v.sb++[(b,.slice none 0 0)] } st (stk++[(nm,[])]) :=
 ⟨hh,R.chg.owns h.attrs (fun k hk hs=>by have:=h.kAt k hk;omega),
  h.done.chg R.chg (by have:=h.kD;omega),
  h.asked.chg R.chg (by have:=h.kA;omega),
  h.begun.chg R.chg (by have:=h.kB;omega),
  R.chg.owns h.lines (fun k hk hs=>by have:=h.kL k hk;omega),
  R.chg.owns h.diags (fun k hk hs=>by have:=h.kG k hk;omega),
  R.chg.owns h.files (fun k hk hs=>by have:=h.kF k hk;omega),
  by simpa using ho,
  by simp[h.len],
  fun j p s hp hq=>by
   have hl:=h.len
   by_cases hj:j<stk.length
   ·rw[List.getElem?_append_left (by omega)] at hp;rw[List.getElem?_append_left hj] at hq;exact (h.src j p s hp hq).chg R.chg (fun k hk hs=>by omega) (fun k hk=>R.old k hk)
   ·have hj2:j=stk.length:=by have:=(List.getElem?_eq_some_iff.1 hq).1;simp at this;omega
    subst hj2;rw[List.getElem?_append_right (by omega),hl,Nat.sub_self] at hp;rw[List.getElem?_append_right (Nat.le_refl _),Nat.sub_self] at hq;cases hp;cases hq
    exact hs,
  h.words.chg R.chg (by have:=h.kW;omega),
  (h.far R (by rw[h.kR];omega)).trans h.kR,
  (h.far R (by rw[h.kW];omega)).trans h.kW,
  (h.far R (by rw[h.kD];omega)).trans h.kD,
  (h.far R (by rw[h.kA];omega)).trans h.kA,
  (h.far R (by rw[h.kB];omega)).trans h.kB,
  fun k hk=>(h.far R (by rw[h.kAt k hk];omega)).trans (h.kAt k hk),
  hk,
  fun k hk=>(h.far R (by rw[h.kL k hk];omega)).trans (h.kL k hk),
  fun k hk=>(h.far R (by rw[h.kG k hk];omega)).trans (h.kG k hk),
  fun k hk=>(h.far R (by rw[h.kF k hk];omega)).trans (h.kF k hk),
  R.lt,h.three' R.old,h.uD,h.uA,h.uB⟩
theorem ARd.pop {pre:Stk}{s:ByteArray×List Cd}{pb:List (Nat×Value)}{p:Nat×Value} (h:ARd w κ rb wm sv v st (pre++[s])) (hv:v.sb=pb++[p]) (R:Rest w w' κ 7 κ'){x:Value} (hh:Holds w' rb tAr #[sv,v.av,.map (some wm),x,.int .i64 (st.count:Int),.map (some v.dm),.map (some v.am),.map (some v.bm),v.lv,v.dv,v.fv]) (ho:w'.ownsRow 0 tSp 1 x pre.length (pb.map (fun p=>.pointer (some ⟨p.1,0,none⟩)))) (hk:∀k,x.ownBlock=some k→κ' k=7):ARd w' κ' rb wm sv { v with ov:=x,sb:=pb } st pre :=
 ⟨hh,R.chg.owns h.attrs (fun k hk hs=>by have:=h.kAt k hk;omega),
  h.done.chg R.chg (by have:=h.kD;omega),
  h.asked.chg R.chg (by have:=h.kA;omega),
  h.begun.chg R.chg (by have:=h.kB;omega),
  R.chg.owns h.lines (fun k hk hs=>by have:=h.kL k hk;omega),
  R.chg.owns h.diags (fun k hk hs=>by have:=h.kG k hk;omega),
  R.chg.owns h.files (fun k hk hs=>by have:=h.kF k hk;omega),
  ho,
  by have:=h.len;rw[hv] at this;simpa using this,
  fun j p s hp hq=>by
   have hl:pb.length=pre.length:=by have:=h.len;rw[hv] at this;simpa using this
   have hj:=(List.getElem?_eq_some_iff.1 hq).1;exact (h.src j p s (by rw[hv,List.getElem?_append_left (by omega)];exact hp) (by rw[List.getElem?_append_left hj];exact hq)).chg R.chg (fun k hk hs=>by omega) (fun k hk=>R.old k hk),
  h.words.chg R.chg (by have:=h.kW;omega),
  (h.far R (by rw[h.kR];omega)).trans h.kR,
  (h.far R (by rw[h.kW];omega)).trans h.kW,
  (h.far R (by rw[h.kD];omega)).trans h.kD,
  (h.far R (by rw[h.kA];omega)).trans h.kA,
  (h.far R (by rw[h.kB];omega)).trans h.kB,
  fun k hk=>(h.far R (by rw[h.kAt k hk];omega)).trans (h.kAt k hk),
  hk,
  fun k hk=>(h.far R (by rw[h.kL k hk];omega)).trans (h.kL k hk),
  fun k hk=>(h.far R (by rw[h.kG k hk];omega)).trans (h.kG k hk),
  fun k hk=>(h.far R (by rw[h.kF k hk];omega)).trans (h.kF k hk),
  R.lt,h.three' R.old,h.uD,h.uA,h.uB⟩
theorem tell_rest {A:Option Addr}{c g cap:Nat}{W1 w2:World}{l:List Dg} (h:ARd W1 κ rb wm sv v st stk) (hv:v.dv=.slice A l.length c) (hc:Chg W1 w2 (fun b=>(Value.slice A l.length c).ownBlock=some b)) (hat:(Value.slice A l.length c).ownBlock=some g∨g=W1.heap.size+1) (hg:g<w2.heap.size) :
  Rest W1 (w2.setCell ⟨rb,9,none⟩ (.slice (some ⟨g,0,none⟩) (l.length+1) cap)) κ 9 (recol κ W1.heap.size g 9):=by
 have hS:=Chg.set w2 ⟨rb,9,none⟩ (.slice (some ⟨g,0,none⟩) (l.length+1) cap);refine⟨(hc.mono (T:=fun k=>κ k=1∨κ k=9) (fun k _ hk=>.inr (h.kG k (by rw[hv];exact hk)))).trans hS (fun k _ hk=>.inl (by rw[show k=rb from hk];exact h.kR)),fun k hk=>recol_old hk,fun k hk=>?_⟩;have hz:(w2.setCell ⟨rb,9,none⟩ (.slice (some ⟨g,0,none⟩) (l.length+1) cap)).heap.size=w2.heap.size:=by simp[World.setCell]
 rw[hz];unfold recol at hk;split at hk
 ·have:=hc.size;omega
 ·split at hk
  ·omega
  ·exact absurd rfl hk
theorem tell_done {A:Option Addr}{c g cap:Nat}{W1 w2:World}{l:List Dg}{d:Dg} (h:ARd W1 κ rb wm sv v st stk) (hv:v.dv=.slice A l.length c) (hl:st.diags=l) (hc:Chg W1 w2 (fun b=>(Value.slice A l.length c).ownBlock=some b)) (ho:w2.ownsRow 0 tDg 4 (.slice (some ⟨g,0,none⟩) (l.length+1) cap) (l.length+1) (rowD l++(dgCells) d)) (hat:(Value.slice A l.length c).ownBlock=some g∨g=W1.heap.size+1)
  (hh:Holds w2 rb tAr #[sv,v.av,.map (some wm),v.ov,.int .i64 (st.count:Int),.map (some v.dm),.map (some v.am),.map (some v.bm),v.lv,v.dv,v.fv]) (hg:g<w2.heap.size) (hgb:g≠rb) :
  ARd (w2.setCell ⟨rb,9,none⟩ (.slice (some ⟨g,0,none⟩) (l.length+1) cap)) (recol κ W1.heap.size g 9) rb wm sv { v with dv:=.slice (some ⟨g,0,none⟩) (l.length+1) cap } { st with diags:=st.diags++[d] } stk:=by
 have R:=tell_rest h hv hc hat hg (cap:=cap);refine h.set_diags R (hh.set 9 _) ?_ (fun k hk=>?_)
 ·rw[hl,List.length_append,List.length_singleton];have e:rowD (l++[d])=rowD l++(dgCells) d:=by rw[rowD_append];simp[rowD]
  rw[e];exact (Chg.set w2 ⟨rb,9,none⟩ (.slice (some ⟨g,0,none⟩) (l.length+1) cap)).owns ho (fun k hk e=>hgb ((show g=k from (by simpa [Value.ownBlock] using hk)).trans e))
 ·have e1:g=k:=by simpa [Value.ownBlock] using hk
  rw[←e1];refine recol_at ?_ (fun hk=>h.lt _ (by omega))
  rcases hat with h1|h1
  ·exact .inl (h.kG g (by rw[hv];exact h1))
  ·exact .inr (by omega)
theorem tell_mv {A:Option Addr}{c g cap:Nat}{W1 w2:World}{l:List Dg} (h:ARd W1 κ rb wm sv v st stk) (hv:v.dv=.slice A l.length c) (hl:st.diags=l) (hc:Chg W1 w2 (fun b=>(Value.slice A l.length c).ownBlock=some b)) (hat:(Value.slice A l.length c).ownBlock=some g∨g=W1.heap.size+1) (hg:g<w2.heap.size) :
  Mv W1 (w2.setCell ⟨rb,9,none⟩ (.slice (some ⟨g,0,none⟩) (l.length+1) cap)) κ (recol κ W1.heap.size g 9):=(tell_rest h hv hc hat hg).mv (by decide)
theorem line_rest {A:Option Addr}{c g cap:Nat}{W1 w2:World}{l:List Ln} (h:ARd W1 κ rb wm sv v st stk) (hv:v.lv=.slice A l.length c) (hc:Chg W1 w2 (fun b=>(Value.slice A l.length c).ownBlock=some b)) (hat:(Value.slice A l.length c).ownBlock=some g∨g=W1.heap.size+1) (hg:g<w2.heap.size) :
  Rest W1 (w2.setCell ⟨rb,8,none⟩ (.slice (some ⟨g,0,none⟩) (l.length+1) cap)) κ 8 (recol κ W1.heap.size g 8):=by
 have hS:=Chg.set w2 ⟨rb,8,none⟩ (.slice (some ⟨g,0,none⟩) (l.length+1) cap);refine⟨(hc.mono (T:=fun k=>κ k=1∨κ k=8) (fun k _ hk=>.inr (h.kL k (by rw[hv];exact hk)))).trans hS (fun k _ hk=>.inl (by rw[show k=rb from hk];exact h.kR)),fun k hk=>recol_old hk,fun k hk=>?_⟩;have hz:(w2.setCell ⟨rb,8,none⟩ (.slice (some ⟨g,0,none⟩) (l.length+1) cap)).heap.size=w2.heap.size:=by simp[World.setCell]
 rw[hz];unfold recol at hk;split at hk
 ·have:=hc.size;omega
 ·split at hk
  ·omega
  ·exact absurd rfl hk
theorem line_done {A:Option Addr}{c g cap:Nat}{W1 w2:World}{l:List Ln}{d:Ln} (h:ARd W1 κ rb wm sv v st stk) (hv:v.lv=.slice A l.length c) (hl:st.lines=l) (hc:Chg W1 w2 (fun b=>(Value.slice A l.length c).ownBlock=some b)) (ho:w2.ownsRow 0 tLn 3 (.slice (some ⟨g,0,none⟩) (l.length+1) cap) (l.length+1) (rowLn l++(lnCells) d)) (hat:(Value.slice A l.length c).ownBlock=some g∨g=W1.heap.size+1)
  (hh:Holds w2 rb tAr #[sv,v.av,.map (some wm),v.ov,.int .i64 (st.count:Int),.map (some v.dm),.map (some v.am),.map (some v.bm),v.lv,v.dv,v.fv]) (hg:g<w2.heap.size) (hgb:g≠rb) :
  ARd (w2.setCell ⟨rb,8,none⟩ (.slice (some ⟨g,0,none⟩) (l.length+1) cap)) (recol κ W1.heap.size g 8) rb wm sv { v with lv:=.slice (some ⟨g,0,none⟩) (l.length+1) cap } { st with lines:=st.lines++[d] } stk:=by
 have R:=line_rest h hv hc hat hg (cap:=cap);refine h.set_lines R (hh.set 8 _) ?_ (fun k hk=>?_)
 ·rw[hl,List.length_append,List.length_singleton];have e:rowLn (l++[d])=rowLn l++(lnCells) d:=by unfold rowLn;rw[List.flatMap_append];simp
  rw[e];exact (Chg.set w2 ⟨rb,8,none⟩ (.slice (some ⟨g,0,none⟩) (l.length+1) cap)).owns ho (fun k hk e=>hgb ((show g=k from (by simpa [Value.ownBlock] using hk)).trans e))
 ·have e1:g=k:=by simpa [Value.ownBlock] using hk
  rw[←e1];refine recol_at ?_ (fun hk=>h.lt _ (by omega))
  rcases hat with h1|h1
  ·exact .inl (h.kL g (by rw[hv];exact h1))
  ·exact .inr (by omega)
theorem line_mv {A:Option Addr}{c g cap:Nat}{W1 w2:World}{l:List Ln} (h:ARd W1 κ rb wm sv v st stk) (hv:v.lv=.slice A l.length c) (hl:st.lines=l) (hc:Chg W1 w2 (fun b=>(Value.slice A l.length c).ownBlock=some b)) (hat:(Value.slice A l.length c).ownBlock=some g∨g=W1.heap.size+1) (hg:g<w2.heap.size) :
  Mv W1 (w2.setCell ⟨rb,8,none⟩ (.slice (some ⟨g,0,none⟩) (l.length+1) cap)) κ (recol κ W1.heap.size g 8):=(line_rest h hv hc hat hg).mv (by decide)
theorem file_rest {A:Option Addr}{c g cap:Nat}{W1 w2:World}{l:List ByteArray} (h:ARd W1 κ rb wm sv v st stk) (hv:v.fv=.slice A l.length c) (hc:Chg W1 w2 (fun b=>(Value.slice A l.length c).ownBlock=some b)) (hat:(Value.slice A l.length c).ownBlock=some g∨g=W1.heap.size+1) (hg:g<w2.heap.size) :
  Rest W1 (w2.setCell ⟨rb,10,none⟩ (.slice (some ⟨g,0,none⟩) (l.length+1) cap)) κ 10 (recol κ W1.heap.size g 10):=by
 have hS:=Chg.set w2 ⟨rb,10,none⟩ (.slice (some ⟨g,0,none⟩) (l.length+1) cap);refine⟨(hc.mono (T:=fun k=>κ k=1∨κ k=10) (fun k _ hk=>.inr (h.kF k (by rw[hv];exact hk)))).trans hS (fun k _ hk=>.inl (by rw[show k=rb from hk];exact h.kR)),fun k hk=>recol_old hk,fun k hk=>?_⟩;have hz:(w2.setCell ⟨rb,10,none⟩ (.slice (some ⟨g,0,none⟩) (l.length+1) cap)).heap.size=w2.heap.size:=by simp[World.setCell]
 rw[hz];unfold recol at hk;split at hk
 ·have:=hc.size;omega
 ·split at hk
  ·omega
  ·exact absurd rfl hk
theorem file_done {A:Option Addr}{c g cap:Nat}{W1 w2:World}{l:List ByteArray}{d:ByteArray} (h:ARd W1 κ rb wm sv v st stk) (hv:v.fv=.slice A l.length c) (hl:st.files=l) (hc:Chg W1 w2 (fun b=>(Value.slice A l.length c).ownBlock=some b)) (ho:w2.ownsRow 0 tTx 1 (.slice (some ⟨g,0,none⟩) (l.length+1) cap) (l.length+1) (rowTx l++(fun x=>[Value.string x]) d)) (hat:(Value.slice A l.length c).ownBlock=some g∨g=W1.heap.size+1)
  (hh:Holds w2 rb tAr #[sv,v.av,.map (some wm),v.ov,.int .i64 (st.count:Int),.map (some v.dm),.map (some v.am),.map (some v.bm),v.lv,v.dv,v.fv]) (hg:g<w2.heap.size) (hgb:g≠rb) :
  ARd (w2.setCell ⟨rb,10,none⟩ (.slice (some ⟨g,0,none⟩) (l.length+1) cap)) (recol κ W1.heap.size g 10) rb wm sv { v with fv:=.slice (some ⟨g,0,none⟩) (l.length+1) cap } { st with files:=st.files++[d] } stk:=by
 have R:=file_rest h hv hc hat hg (cap:=cap);refine h.set_files R (hh.set 10 _) ?_ (fun k hk=>?_)
 ·rw[hl,List.length_append,List.length_singleton];have e:rowTx (l++[d])=rowTx l++(fun x=>[Value.string x]) d:=by unfold rowTx;simp
  rw[e];exact (Chg.set w2 ⟨rb,10,none⟩ (.slice (some ⟨g,0,none⟩) (l.length+1) cap)).owns ho (fun k hk e=>hgb ((show g=k from (by simpa [Value.ownBlock] using hk)).trans e))
 ·have e1:g=k:=by simpa [Value.ownBlock] using hk
  rw[←e1];refine recol_at ?_ (fun hk=>h.lt _ (by omega))
  rcases hat with h1|h1
  ·exact .inl (h.kF g (by rw[hv];exact h1))
  ·exact .inr (by omega)
theorem file_mv {A:Option Addr}{c g cap:Nat}{W1 w2:World}{l:List ByteArray} (h:ARd W1 κ rb wm sv v st stk) (hv:v.fv=.slice A l.length c) (hl:st.files=l) (hc:Chg W1 w2 (fun b=>(Value.slice A l.length c).ownBlock=some b)) (hat:(Value.slice A l.length c).ownBlock=some g∨g=W1.heap.size+1) (hg:g<w2.heap.size) :
  Mv W1 (w2.setCell ⟨rb,10,none⟩ (.slice (some ⟨g,0,none⟩) (l.length+1) cap)) κ (recol κ W1.heap.size g 10):=(file_rest h hv hc hat hg).mv (by decide)
end
end Go.Proofs.YtkdknllcllhpgaaGreatDoor
