/-
  What the chapter's laws share, part 7: plain facts, memory, and walks of functions. Its conditions: those that each theorem names.
-/
import Derived.Shelf.Strings.BuilderF
import Derived.Shelf.Strings.BuilderK
import Derived.Test.YtkkebmciiiajeaaGreatDoorK0
import Derived.Test.YtkkebmciiiajeaaGreatDoorK1
import Derived.Test.YtkkebmciiiajeaaGreatDoorK3
import Derived.Test.YtkkebmciiiajeaaGreatDoorK4
import Derived.Test.YtkkebmciiiajeaaGreatDoorK5
import Derived.Test.YtkkebmciiiajeaaGreatDoorK6
set_option linter.unusedSimpArgs false
set_option linter.unusedVariables false
set_option maxHeartbeats 16000000
set_option maxRecDepth 100000
namespace Go.Bd
open Go.RowKit
theorem titleB_le (l:Bs):(titleB l).1.length≤l.length:=by
 unfold titleB;split
 ·exact Nat.le_refl _
 ·split
  ·unfold dropR;have h1:=(List.dropWhile_sublist (p:=blank) (l:=(l.take (lastAny l [32,9]).toNat).reverse)).length_le;simp only[List.length_reverse,List.length_take] at h1 ⊢;omega
  ·exact Nat.le_refl _
theorem Glob.three {m:Int}{w:World} (h:Glob m w):3≤w.heap.size:=by
 have:=World.block_lt_of_cell? w _ (h.2.2 0 (by omega)).1
 exact this
theorem Turn.offO {w w':World}{O F O' F':Nat→Prop} (h:Turn w w' O F O' F'){k:Nat} (hk:k<w.heap.size) (ho:¬O k):¬O' k:=fun e=>by
 rcases h.inO k e with h1|h1
 ·exact ho h1
 ·omega
theorem Turn.offF {w w':World}{O F O' F':Nat→Prop} (h:Turn w w' O F O' F'){k:Nat} (hk:k<w.heap.size) (ho:¬F k):¬F' k:=fun e=>by
 rcases h.inF k e with h1|h1
 ·exact ho h1
 ·omega
theorem Turn.poke {w0 w w':World}{O F O' F':Nat→Prop}{n:Nat} (h:Turn w0 w O F O' F') (hc:Chg w w' (fun k=>k=n)) (hn:w0.heap.size≤n):Turn w0 w' O F O' F':=⟨h.chg.trans hc (fun k hk e=>by omega),h.inO,h.inF,h.moF⟩
theorem cells3 {w:World}{x:Nat}{t:TypeId}{a b c:Value} (hh:Holds w x t #[a,b,c]):w.cell? ⟨x,0,none⟩=some a∧w.cell? ⟨x,1,none⟩=some b∧w.cell? ⟨x,2,none⟩=some c:=⟨hh.cell 0,hh.cell 1,hh.cell 2⟩
end Go.Bd
namespace Go.Proofs.YtkkebmciiiajeaaGreatDoor
open Go.RowKit Go.Bd
def titledB (x:Bl) (f:ByteArray) (no:Int) (s:ByteArray):Bl:={ x with label:=⟨(titleB s.data.toList).2.1.toArray⟩,spans:=spansOf (titleB s.data.toList).1,file:=f,line:=no }
def titledW (f:ByteArray) (no:Int) (s:ByteArray):List Dg:=if (titleB s.data.toList).2.2=[] then [] else [⟨f,no,10,⟨(titleB s.data.toList).2.2.toArray⟩⟩]
def titledD (f:ByteArray) (no:Int) (s:ByteArray):List Dg:=titledW f no s++(faultsOf (titleB s.data.toList).1).map (dgOf f no ⟨(titleB s.data.toList).1.toArray⟩)
theorem titled_any {w:World}{O F:Nat→Prop}{rb:Nat}{lv:Value}{pos:Nat}{bv:Value}{bs:List Bl}{dv:Value}{ds:List Dg} (h:Rdr w O F rb lv pos bv bs dv ds) (x:Bl) (rv:Value) (hx:RowsF w F rv x.rows) (f t:ByteArray) (no:Int) (s:ByteArray) (hs:s.size≤100000000){m:Int} (hm:Glob m w) (h3:∀k,O k→3≤k)
  (hl:bs.length≤1000000000) (hd:ds.length+1+(faultsOf (titleB s.data.toList).1).length≤1000000000) :
  Calls Tryz.prog 73 #[.pointer (some ⟨rb,0,none⟩),.agg #[.int .u8 (x.kind:Int),.int .i64 (x.level:Int),.bool x.ordered,.string ⟨#[]⟩,.string x.text,.slice none 0 0,rv,.string ⟨#[]⟩,.int .i64 0],.agg #[.string f,.int .i64 no,.string t],.string s] w fun e w'=>e=.returned (.tuple #[])∧∃O' F' bv' dv',Rdr w' O' F' rb lv pos bv' (bs++[titledB x f no s]) dv' (ds++titledD f no s)∧Turn w w' O F O' F':=by
 obtain⟨Ar,cr,rfl,_⟩:=hx.len;have hb12:=((Below.refl w.heap.size w).alloc (Nat.le_refl _) (.cells #[.int .u8 (x.kind:Int),.int .i64 (x.level:Int),.bool x.ordered,.string ⟨#[]⟩,.string x.text,.slice none 0 0,.slice Ar x.rows.length cr,.string ⟨#[]⟩,.int .i64 0] 62)).alloc (by simp) (.cells #[.string f,.int .i64 no,.string t] 98);have h1:=h.below hb12;have hX:=(Holds.new w 62 #[.int .u8 (x.kind:Int),.int .i64 (x.level:Int),.bool x.ordered,.string ⟨#[]⟩,.string x.text,.slice none 0 0,.slice Ar x.rows.length cr,.string ⟨#[]⟩,.int .i64 0]).alloc (.cells #[.string f,.int .i64 no,.string t] 98);have hY:=Holds.new (w.alloc (.cells #[.int .u8 (x.kind:Int),.int .i64 (x.level:Int),.bool x.ordered,.string ⟨#[]⟩,.string x.text,.slice none 0 0,.slice Ar x.rows.length cr,.string ⟨#[]⟩,.int .i64 0] 62)) 98 #[.string f,.int .i64 no,.string t];rw[World.size_alloc] at hY;have hm1:=hm.chg (Chg.below hb12 (fun _=>False)) (fun _ h=>h.elim);have hx1:=RowsF.stays.go hx (Chg.below hb12 (fun _=>False)) (fun _ h=>h) (fun _ _ h=>h);have hsz:=Holds.lt hY;have hT0:Turn w _ O F O F:=⟨Chg.below hb12 O,fun _ h=>.inl h,fun _ h=>.inl h,fun _ h=>h⟩;obtain⟨n,hn⟩:∃n,w.heap.size=n:=⟨_,rfl⟩;have hn3:3≤n:=hn ▸ hm.three;rw[hn] at hX hY hsz;obtain⟨W1,hW1⟩:∃W1,(w.alloc (.cells #[.int .u8 (x.kind:Int),.int .i64 (x.level:Int),.bool x.ordered,.string ⟨#[]⟩,.string x.text,.slice none 0 0,.slice Ar x.rows.length cr,.string ⟨#[]⟩,.int .i64 0] 62)).alloc (.cells #[.string f,.int .i64 no,.string t] 98)=W1:=⟨_,rfl⟩;rw[hW1] at h1 hX hY hx1 hT0 hm1 hsz
 have CT:=title_any s W1 hs hm1.2;have hle:=titleB_le s.data.toList;have hdl:s.data.toList.length=s.size:=by simp
 unfold titledB titledD titledW;obtain⟨T,hT⟩:∃T,titleB s.data.toList=T:=⟨_,rfl⟩;rw[hT] at CT hle hd ⊢;obtain⟨D,hD⟩:∃D:List Dg,(if T.2.2=[] then [] else [⟨f,no,10,⟨T.2.2.toArray⟩⟩])=D:=⟨_,rfl⟩;rw[hD];have hts:T.1.length≤100000000:=by omega
 unfold strV at CT;have hnO:¬O n:=fun e=>by have:=h.ltO n e;omega
 have hnF:¬F n:=fun e=>by have:=h.ltF n e;omega
 have hpO:¬O (n+1):=fun e=>by have:=h.ltO (n+1) e;omega
 have HR:=hidH6 h1 hT0 hX hY hx1 hm1;have HSZ:=hidH2 hn hsz;clear h h1 hT0 hX hY hx1 hm1 hb12 hx hm hT hle hdl hsz
 go_enter Tryz.func73,Tryz.ntmps73
 go_wp2_with fail
 refine CT.mono ?_;clear CT;rintro e W2 ⟨rfl,hb2⟩
 (try rw[hn])
 (try clear hW1)
 have hX2:=HR.out.2.2.1.below hb2 HR.out.2.2.1.lt;have hY2:=HR.out.2.2.2.1.below hb2 HR.out.2.2.2.1.lt;have h2:=HR.out.1.below hb2;have hx2:=RowsF.stays.go HR.out.2.2.2.2.1 (Chg.below hb2 (fun _=>False)) (fun _ h=>h) (fun _ _ h=>h);have hm2:=HR.out.2.2.2.2.2.chg (Chg.below hb2 (fun _=>False)) (fun _ h=>h.elim);have hT2:Turn w W2 O F O F:=HR.out.2.1.trans ⟨Chg.below hb2 O,fun _ h=>.inl h,fun _ h=>.inl h,fun _ h=>h⟩;have hn2:n+1<W2.heap.size:=hY2.lt;obtain⟨d0,d1,d2⟩:=cells3 hY2;have HB:=hidH6 h2 hT2 hX2 hY2 hx2 hm2;clear h2 hT2 hX2 hY2 hx2 hm2 hb2
 by_cases hw:T.2.2=[]
 focus
  rw[if_pos hw] at hD;rw[hw];have hl1:D.length≤1:=by rw[←hD];simp
  have HS:Hid (Rdr W2 O F rb lv pos bv bs dv (ds++D)∧Turn W2 W2 O F O F):=Lib.hid ⟨by rw[←hD,List.append_nil];exact HB.out.1,Turn.refl _ _ _⟩;clear d0 d1 d2;have hX3:=HS.out.2.chg.holds hnO HB.out.2.2.1;have hY3:=HS.out.2.chg.holds hpO HB.out.2.2.2.1;have hx3:=RowsF.stays.go HB.out.2.2.2.2.1 HS.out.2.chg (fun _ h=>h) (fun k hk ho=>HB.out.1.off k hk ho);have hm3:=HB.out.2.2.2.2.2.chg HS.out.2.chg h3;have hn1:¬O n:=HS.out.2.offO (by omega) hnO;have hp1:¬O (n+1):=HS.out.2.offO (by omega) hpO;have x3:=hX3.free 3;have c3:=hX3.cell 3;have hC4:Chg W2 (W2.setCell ⟨n,3,none⟩ (.string ⟨T.2.1.toArray⟩)) (fun k=>k=n):=Chg.set W2 ⟨n,3,none⟩ (.string ⟨T.2.1.toArray⟩);have hr4:=HS.out.1.chg hC4 (fun k hk e=>hn1 (e ▸ hk)) (fun k hk e=>hnF (e ▸ hk));have hX4:=hX3.set 3 (.string ⟨T.2.1.toArray⟩);have hY4:=hY3.far (p:=⟨n,3,none⟩) (by simp) (.string ⟨T.2.1.toArray⟩);have hx4:=RowsF.stays.go hx3 hC4 (fun _ h=>h) (fun k hk e=>hnF (e ▸ hk));have hm4:=hm3.chg hC4 (fun k hk=>by rw[hk];exact hn3);have hn4:=hY4.lt;obtain⟨d0,d1,d2⟩:=cells3 hY4;have CS:=bspans_any hr4 f t no ⟨T.1.toArray⟩ (by rw[size_mk];exact hts) hm4 (by rw[List.length_append,strV_data];omega);rw[strV_data] at CS;have HC:=hidH7 hr4 hX4 hY4 hx4 hm4 hC4 hn4;clear hX3 hY3 hx3 hm3 hr4 hX4 hY4 hx4 hm4 hC4 hn4
  go_wp2_with fail
  refine CS.mono ?_;clear CS;rintro e W5 ⟨sv,O2,F2,dv2,rfl,hfo,hr5,ht5⟩;obtain⟨As,cs,rfl,_⟩:=hfo.form;have hn2':n+1<(W2.setCell ⟨n,3,none⟩ (.string ⟨T.2.1.toArray⟩)).heap.size:=HC.out.2.2.2.2.2.2
 rotate_left
 focus
  rw[if_neg hw] at hD;have hl1:D.length≤1:=by rw[←hD];simp
  have hw2:(⟨T.2.2.toArray⟩:ByteArray)≠⟨#[]⟩:=fun e=>hw (by simpa using congrArg (fun b:ByteArray=>b.data.toList) e)
  have hwe:T.2.2.isEmpty=false:=by simpa using hw
  have CF:=fault_any HB.out.1 f t no 10 ⟨T.2.2.toArray⟩ (by omega);have e10:((10:Nat):Int)=10:=rfl;rw[e10] at CF;clear e10
  go_wp2_with fail
  refine CF.mono ?_;clear CF;rintro e W3 ⟨rfl,O1,dv1,hr3,ht3⟩;have HS:Hid (Rdr W3 O1 F rb lv pos bv bs dv1 (ds++D)∧Turn W2 W3 O F O1 F):=Lib.hid ⟨by rw[←hD];exact hr3,ht3⟩;clear hr3 ht3 d0 d1 d2;have hX3:=HS.out.2.chg.holds hnO HB.out.2.2.1;have hY3:=HS.out.2.chg.holds hpO HB.out.2.2.2.1;have hx3:=RowsF.stays.go HB.out.2.2.2.2.1 HS.out.2.chg (fun _ h=>h) (fun k hk ho=>HB.out.1.off k hk ho);have hm3:=HB.out.2.2.2.2.2.chg HS.out.2.chg h3;have hn1:¬O1 n:=HS.out.2.offO (by omega) hnO;have hp1:¬O1 (n+1):=HS.out.2.offO (by omega) hpO;have x3:=hX3.free 3;have c3:=hX3.cell 3;have hC4:Chg W3 (W3.setCell ⟨n,3,none⟩ (.string ⟨T.2.1.toArray⟩)) (fun k=>k=n):=Chg.set W3 ⟨n,3,none⟩ (.string ⟨T.2.1.toArray⟩);have hr4:=HS.out.1.chg hC4 (fun k hk e=>hn1 (e ▸ hk)) (fun k hk e=>hnF (e ▸ hk));have hX4:=hX3.set 3 (.string ⟨T.2.1.toArray⟩);have hY4:=hY3.far (p:=⟨n,3,none⟩) (by simp) (.string ⟨T.2.1.toArray⟩);have hx4:=RowsF.stays.go hx3 hC4 (fun _ h=>h) (fun k hk e=>hnF (e ▸ hk));have hm4:=hm3.chg hC4 (fun k hk=>by rw[hk];exact hn3);have hn4:=hY4.lt;obtain⟨d0,d1,d2⟩:=cells3 hY4;have CS:=bspans_any hr4 f t no ⟨T.1.toArray⟩ (by rw[size_mk];exact hts) hm4 (by rw[List.length_append,strV_data];omega);rw[strV_data] at CS;have HC:=hidH7 hr4 hX4 hY4 hx4 hm4 hC4 hn4;clear hX3 hY3 hx3 hm3 hr4 hX4 hY4 hx4 hm4 hC4 hn4
  go_wp2_with fail
  refine CS.mono ?_;clear CS;rintro e W5 ⟨sv,O2,F2,dv2,rfl,hfo,hr5,ht5⟩;obtain⟨As,cs,rfl,_⟩:=hfo.form;have hn2':n+1<(W3.setCell ⟨n,3,none⟩ (.string ⟨T.2.1.toArray⟩)).heap.size:=HC.out.2.2.2.2.2.2
 rotate_left
 all_goals
  have hX5:=ht5.chg.holds hn1 HC.out.2.1;have hY5:=ht5.chg.holds hp1 HC.out.2.2.1;have hx5:=RowsF.stays.go HC.out.2.2.2.1 ht5.chg ht5.moF (fun k hk ho=>HC.out.1.off k hk ho);have hnF5:¬F2 n:=ht5.offF (by omega) hnF;have hnO5:¬O2 n:=ht5.offO (by omega) hn1;have x5:=hX5.free 5;have c5:=hX5.cell 5;have hC6:Chg W5 (W5.setCell ⟨n,5,none⟩ (.slice As (spansOf T.1).length cs)) (fun k=>k=n):=Chg.set W5 ⟨n,5,none⟩ (.slice As (spansOf T.1).length cs);have hr6:=hr5.chg hC6 (fun k hk e=>hnO5 (e ▸ hk)) (fun k hk e=>hnF5 (e ▸ hk));have hX6:=hX5.set 5 (.slice As (spansOf T.1).length cs);have hY6:=hY5.far (p:=⟨n,5,none⟩) (by simp) (.slice As (spansOf T.1).length cs);have hfo6:=hfo.chg hC6 (fun _ h=>h) (fun k hk e=>hnF5 (e ▸ hk));have hx6:=RowsF.stays.go hx5 hC6 (fun _ h=>h) (fun k hk e=>hnF5 (e ▸ hk));simp only[List.setIfInBounds_toArray,List.set_cons_succ,List.set_cons_zero] at hX6;obtain⟨b0,b1,b2,b3,b4,b5,b6,b7,b8⟩:=cells9 hX6;obtain⟨q0,q1,q2⟩:=cells3 hY6;have CA:=badd_any hr6 { x with label:=⟨T.2.1.toArray⟩,spans:=spansOf T.1,file:=f,line:=no } (.slice As (spansOf T.1).length cs) (.slice Ar x.rows.length cr) ⟨hfo6,hx6⟩ f t ⟨#[]⟩ no 0 hl rfl rfl;simp only[] at CA;have HD:=hidH4 ht5 hC6 hnO5 hnF5;clear hfo hr5 ht5 hX5 hY5 hx5 hr6 hX6 hY6 hfo6 hx6 hC6 d0 d1 d2
  go_wp2_with fail
  refine CA.mono ?_;clear CA;rintro e W7 ⟨rfl,O3,bv3,hr7,ht7⟩;go_wp2
  go_end0
  refine⟨rfl,O3,F2,bv3,dv2,by rw[←List.append_assoc];exact hr7,?_⟩;have hn0:w.heap.size≤n:=Nat.le_of_eq HSZ.out.1;exact (((((HB.out.2.1.trans HS.out.2).poke HC.out.2.2.2.2.2.1 hn0).trans HD.out.1).poke HD.out.2.1 hn0).trans ht7)
end Go.Proofs.YtkkebmciiiajeaaGreatDoor
namespace Go.Bd
open Go.RowKit
def untilN (st:Bs→Bool):List Ln→Nat
 | []=>0
 | x::l=>if st (trim x.text.data.toList)=true then 0 else untilN st l+1
theorem untilN_le (st:Bs→Bool):∀l,untilN st l≤l.length
 | []=>Nat.le_refl _
 | x::l=>by
  have:=untilN_le st l
  unfold untilN;split<;>simp<;>omega
theorem LinesAt.at {w:World}{L:Nat→Prop}{v:Value}{ls:List Ln} (h:LinesAt w L v ls){k:Nat}{x:Ln} (hx:ls[k]? = some x):∃b off c,v=.slice (some ⟨b,off,none⟩) ls.length c∧ls.length≤c∧L b∧w.cell? ⟨b,off+k*3,none⟩=some (.string x.file)∧w.cell? ⟨b,off+k*3+1,none⟩=some (.int .i64 x.no)∧w.cell? ⟨b,off+k*3+2,none⟩=some (.string x.text):=by
 obtain⟨A,c,h1,h2,h3⟩:=h;obtain⟨b,off,rfl,h5,h6⟩:=h3 (fun e=>by rw[e] at hx;simp at hx);exact⟨b,off,c,h1,h2,h5,h6 k x hx 0 _ rfl,h6 k x hx 1 _ rfl,h6 k x hx 2 _ rfl⟩
theorem Rdr.moved {w:World}{O F:Nat→Prop}{rb:Nat}{lv:Value}{pos:Nat}{bv:Value}{bs:List Bl}{dv:Value}{ds:List Dg} (h:Rdr w O F rb lv pos bv bs dv ds) (q:Nat):Rdr (w.setCell ⟨rb,1,none⟩ (.int .i64 (q:Int))) O F rb lv q bv bs dv ds:=by
 obtain⟨kvs,h1,h2,h3⟩:=h.bl;have hc:Chg w (w.setCell ⟨rb,1,none⟩ (.int .i64 (q:Int))) (fun k=>k=rb):=Chg.set w _ _;have hF:∀k,F k→¬k=rb:=fun k hk e=>h.off k hk (e ▸ h.oR)
 refine⟨by simpa using h.hold.set 1 (.int .i64 (q:Int)),⟨kvs,h1,hc.owns h2 (fun k hk=>(h.oB k hk).2),fun j x kv hx hk=>⟨(h3 j x kv hx hk).1.chg hc (fun _ h=>h) hF,RowsF.stays.go (h3 j x kv hx hk).2 hc (fun _ h=>h) hF⟩⟩,hc.owns h.dg (fun k hk=>(h.oD k hk).2.1),h.oR,h.oB,h.oD,h.off,fun k hk=>Nat.lt_of_lt_of_le (h.ltO k hk) hc.size,fun k hk=>Nat.lt_of_lt_of_le (h.ltF k hk) hc.size⟩
theorem Rdr.turn {w:World}{O F:Nat→Prop}{rb:Nat}{lv:Value}{pos:Nat}{bv:Value}{bs:List Bl}{dv:Value}{ds:List Dg} (h:Rdr w O F rb lv pos bv bs dv ds) (q:Nat):Turn w (w.setCell ⟨rb,1,none⟩ (.int .i64 (q:Int))) O F O F :=
 ⟨(Chg.set w ⟨rb,1,none⟩ (.int .i64 (q:Int))).mono (fun k _ hk=>by have e:k=rb:=hk;exact e ▸ h.oR),fun _ h=>.inl h,fun _ h=>.inl h,fun _ h=>h⟩
theorem LinesAt.sub {w:World}{L:Nat→Prop}{A:Option Addr}{c n:Nat}{ls:List Ln} (h:LinesAt w L (.slice A n c) ls){pos k:Nat} (hk:pos+k≤ls.length):LinesAt w L (sliced A pos (pos+k) c 3) ((ls.drop pos).take k):=by
 obtain⟨A1,c1,h1,h2,h3⟩:=h;obtain⟨rfl,rfl,rfl⟩:A=A1∧n=ls.length∧c=c1:=by cases h1;exact⟨rfl,rfl,rfl⟩
 refine⟨_,_,by unfold sliced;rw[Nat.add_sub_cancel_left,List.length_take,List.length_drop,Nat.min_eq_left (by omega)],by rw[List.length_take,List.length_drop];omega,fun hn=>?_⟩;have hk0:k≠0:=fun e=>hn (by rw[e];rfl)
 obtain⟨b,off,rfl,h5,h6⟩:=h3 (fun e=>by rw[e] at hk;simp at hk;omega);rw[if_neg (by omega)];refine⟨b,off+pos*3,by simp only[Option.map,Addr.add];split<;>simp<;>omega,h5,fun j x hj i u hu=>?_⟩;have hj2:ls[pos+j]? = some x:=by
  rw[List.getElem?_take] at hj;split at hj
  ·rw[List.getElem?_drop] at hj;exact hj
  ·cases hj
 have:=h6 (pos+j) x hj2 i u hu
 rw[Nat.add_mul,←Nat.add_assoc off] at this;exact this
end Go.Bd
namespace Go.Proofs.YtkkebmciiiajeaaGreatDoor
open Go.RowKit Go.Bd
theorem until_any {w:World}{O F L:Nat→Prop}{rb:Nat}{lv:Value}{pos:Nat}{bv:Value}{bs:List Bl}{dv:Value}{ds:List Dg} (h:Rdr w O F rb lv pos bv bs dv ds){ls:List Ln} (hL:LinesAt w L lv ls) (hLO:∀k,L k→¬O k) (hLl:∀k,L k→k<w.heap.size)
  (hsz:∀x∈ls,x.text.size≤100000000) (hp:pos≤ls.length) (hn:ls.length≤1000000) (fid:Nat) (hen:∀args w,Sem.run Tryz.prog (callFunc fid args) w=.ok (.enter fid args) w) (st:Bs→Bool) (hst:∀t W,t.length≤100000000→Calls Tryz.prog fid #[strV t] W fun e W'=>e=.returned (.bool (st t))∧Below W.heap.size W W') :
  Calls Tryz.prog 118 #[.pointer (some ⟨rb,0,none⟩),.func (.func fid) #[] #[]] w fun e w'=>∃v,e=.returned (.tuple #[v,.bool (decide (pos+untilN st (ls.drop pos)<ls.length))])∧LinesAt w' L v ((ls.drop pos).take (untilN st (ls.drop pos)))∧Rdr w' O F rb lv (pos+untilN st (ls.drop pos)) bv bs dv ds∧Turn w w' O F O F:=by
 have p1:=h.hold.cell 1;simp at p1;obtain⟨A,c,rfl,hc,_⟩:∃A c,lv=.slice A ls.length c∧ls.length≤c∧True:=by
  obtain⟨A,c,h1,h2,_⟩:=hL;exact⟨A,c,h1,h2,trivial⟩
 have HR:=hidH4 h hL hLO hLl;have HS:=hidH2 hsz hst;clear h hL hLO hLl hsz hst
 go_enter Tryz.func118,Tryz.ntmps118
 go_wp2;clear p1
 go_loopg [] (ls.length-pos) (fun q wr=>∃k,pos+k+q=ls.length∧Hid (untilN st (ls.drop pos)=untilN st (ls.drop (pos+k))+k∧Rdr wr O F rb (.slice A ls.length c) (pos+k) bv bs dv ds∧Turn w wr O F O F))
 case atStart=>exact⟨0,by omega,by simp,HR.out.1,Turn.refl _ _ _⟩
 case round =>
  obtain⟨k,hk,HK⟩:=hrel;have p1:=HK.out.2.1.hold.cell 1;have p0:=HK.out.2.1.hold.cell 0;simp at p1 p0;have hpc:((pos:Int)+(k:Int))=((pos+k:Nat):Int):=by omega
  obtain⟨P,hP⟩:∃P,pos+k=P:=⟨_,rfl⟩;rw[hP] at HK hk;rw[←Int.natCast_add,hP] at p1;clear hpc;have HPP:=Lib.hid hP;clear hP
  by_cases hlt:P<ls.length
  ·obtain⟨x,hx⟩:∃x,ls[P]? = some x:=⟨_,List.getElem?_eq_getElem hlt⟩;have hL2:=HR.out.2.1.chg HK.out.2.2.chg HR.out.2.2.1;obtain⟨b,off,c1,hA,_,hb,l0,l1,l2⟩:=hL2.at hx;obtain⟨rfl,rfl⟩:A=some ⟨b,off,none⟩∧c=c1:=by cases hA;exact⟨rfl,rfl⟩
   have hxs:=HS.out.1 x (List.mem_of_getElem? hx);have hbl:b<wr.heap.size:=Nat.lt_of_lt_of_le (HR.out.2.2.2 b hb) HK.out.2.2.chg.size;have hrl:=HK.out.2.1.hold.lt;clear hL2 hA;go_wp2;refine wp_region_held_drew (S:=(fun w'=>w'.cell? ⟨rb,1,none⟩=some (.int .i64 (P:Int))∧w'.cell? ⟨rb,0,none⟩=some (.slice (some ⟨b,off,none⟩) ls.length c))) (by kernel_rfl) ?_ (fun hHeld0=>?_)
   ·(try dsimp only)
    exact⟨p1,p0⟩
   refine tkH 0 11 ?_;refine tkH 1 12 ?_;refine tkH 2 13 ?_;refine tkH 3 14 ?_;refine tkH 4 15 ?_;refine tkH 5 16 ?_;refine tkH 6 17 ?_;refine tkH 7 18 ?_;refine tkH 8 19 ?_;refine tkH 9 20 ?_;refine wpAnyH_done (by kernel_rfl) ?_ _
   go_wp2_with fail
   have hts:(trim x.text.data.toList).length≤100000000:=by have:=trim_size x.text;omega
   have hu:untilN st (ls.drop P)=if st (trim x.text.data.toList)=true then 0 else untilN st (ls.drop (P+1))+1:=by
    rw[List.drop_eq_getElem_cons hlt];have e:ls[P]=x:=by have:=List.getElem?_eq_getElem hlt;rw[hx] at this;exact (Option.some.inj this).symm
    rw[e];rfl
   have HU:=Lib.hid hu;clear hu hx;refine wp_region_held_drew (S:=(fun w'=>w'.cell? ⟨rb,1,none⟩=some (.int .i64 (P:Int))∧w'.cell? ⟨rb,0,none⟩=some (.slice (some ⟨b,off,none⟩) ls.length c)∧w'.cell? ⟨b,off+P*3,none⟩=some (.string x.file)∧w'.cell? ⟨b,off+P*3+1,none⟩=some (.int .i64 x.no)∧w'.cell? ⟨b,off+P*3+2,none⟩=some (.string x.text))) (by kernel_rfl) ?_ (fun hHeld0=>?_)
   ·(try dsimp only)
    first|exact⟨p1,p0,l0,l1,l2⟩|exact K1|exact K2
   refine tkH 0 28 ?_;refine tkH 1 29 ?_;refine tkH 2 30 ?_;refine tkH 3 31 ?_;refine tkH 4 32 ?_;refine tkH 5 33 ?_;refine tkH 6 34 ?_;refine tkH 7 35 ?_;refine tkH 8 36 ?_;refine tkH 9 37 ?_;refine tkH 10 38 ?_;refine rdyH [11] ?_;refine AllReadyH.cons (o:=⟨some 39,_,_,_,_,_⟩) rfl (fun K hK=>?_) AllReadyH.nil;go_simp;refine (counted_any x.file x.text x.no _ hxs).mono ?_;rintro e w1 ⟨rfl,hb1⟩;have K1:=And.intro ((hb1.cell (p:=⟨rb,1,none⟩) hrl).trans p1) (And.intro ((hb1.cell (p:=⟨rb,0,none⟩) hrl).trans p0) (And.intro ((hb1.cell (p:=⟨b,off+P*3,none⟩) hbl).trans l0) (And.intro ((hb1.cell (p:=⟨b,off+P*3+1,none⟩) hbl).trans l1) ((hb1.cell (p:=⟨b,off+P*3+2,none⟩) hbl).trans l2))));have hrl1:=Nat.lt_of_lt_of_le hrl hb1.size;have hbl1:=Nat.lt_of_lt_of_le hbl hb1.size;refine hK.out _ _ ?_ (fun hHeld1=>?_)
   ·(try dsimp only)
    first|exact⟨p1,p0,l0,l1,l2⟩|exact K1|exact K2
   clear hK K hHeld0
   (try go_frame)
   refine rdyH [12] ?_;refine AllReadyH.cons (o:=⟨some 40,_,_,_,_,_⟩) rfl (fun K hK=>?_) AllReadyH.nil;go_simp;refine (HS.out.2 (trim x.text.data.toList) _ hts).mono ?_;rintro e w2 ⟨rfl,hb2⟩;have K2:=And.intro ((hb2.cell (p:=⟨rb,1,none⟩) hrl1).trans K1.1) (And.intro ((hb2.cell (p:=⟨rb,0,none⟩) hrl1).trans K1.2.1) (And.intro ((hb2.cell (p:=⟨b,off+P*3,none⟩) hbl1).trans K1.2.2.1) (And.intro ((hb2.cell (p:=⟨b,off+P*3+1,none⟩) hbl1).trans K1.2.2.2.1) ((hb2.cell (p:=⟨b,off+P*3+2,none⟩) hbl1).trans K1.2.2.2.2))));refine hK.out _ _ ?_ (fun hHeld2=>?_)
   ·(try dsimp only)
    first|exact⟨p1,p0,l0,l1,l2⟩|exact K1|exact K2
   clear hK K hHeld1
   (try go_frame)
   refine wpAnyH_done (by kernel_rfl) ?_ _;have hC0:Chg wr w2 (fun _=>False):=by
    first
    | exact (((Chg.refl wr (fun _=>False)).drew.drew).trans (Chg.below hb1 _) (fun k _ h=>h)).trans (Chg.below hb2 _) (fun k _ h=>h)
    | exact (((Chg.refl wr (fun _=>False)).drew).trans (Chg.below hb1 _) (fun k _ h=>h)).trans (Chg.below hb2 _) (fun k _ h=>h)
   have hr2:=HK.out.2.1.chg hC0 (fun _ _ h=>h) (fun _ _ h=>h);have ht2:Turn w w2 O F O F:=HK.out.2.2.trans ⟨hC0.mono (fun k _ h=>h.elim),fun _ h=>.inl h,fun _ h=>.inl h,fun _ h=>h⟩;obtain⟨p1',p0',_⟩:=K2;have q1:=hr2.hold.free 1;have HT:=hidH2 hr2 ht2;clear hr2 ht2 hC0 K1 hb1 hb2 l0 l1 l2
   by_cases hse:st (trim x.text.data.toList)=true
   ·have hu0:untilN st (ls.drop pos)=k:=by
     have h1:=HK.out.1;have h2:=HU.out;rw[if_pos hse] at h2;rw[h2] at h1;omega
    have HU0:=Lib.hid hu0;clear hu0;rw[hse]
    go_wp2_with fail
    have hPc:(pos:Int)≤(P:Int):=by have:=HPP.out;omega
    have hPc2:(P:Int)≤(c:Int):=by omega
    have hcn:¬c=pos:=by have:=HPP.out;omega
    refine wp_region_held_drew (S:=(fun w'=>w'.cell? ⟨rb,1,none⟩=some (.int .i64 (P:Int))∧w'.cell? ⟨rb,0,none⟩=some (.slice (some ⟨b,off,none⟩) ls.length c))) (by kernel_rfl) ?_ (fun hHeld0=>?_)
    ·(try dsimp only)
     exact⟨p1',p0'⟩
    refine tkH 0 41 ?_;refine tkH 1 42 ?_;refine tkH 2 43 ?_;refine tkH 3 44 ?_;refine tkH 4 45 ?_;refine tkH 5 46 ?_;refine tkH 6 47 ?_;refine tkH 7 48 ?_;refine tkH 8 49 ?_;refine tkH 9 50 ?_;refine tkH 10 4 ?_;refine tkH 11 5 ?_;refine wpAnyH_done (by kernel_rfl) ?_ _;go_wp2
    go_ret2
    have hPP:=HPP.out;have hdec:decide (pos+untilN st (ls.drop pos)<ls.length)=true:=decide_eq_true (by rw[HU0.out];omega);rw[hdec,HU0.out,hPP];refine⟨_,rfl,?_,HT.out.1.chg (Chg.refl w2 (fun _=>False)).drew (fun _ _ h=>h) (fun _ _ h=>h),HT.out.2.trans ⟨(Chg.refl w2 O).drew,fun _ h=>.inl h,fun _ h=>.inl h,fun _ h=>h⟩⟩;have hLS:=((HR.out.2.1.chg HT.out.2.chg HR.out.2.2.1).chg (Chg.refl w2 (fun _=>False)).drew (fun _ _ h=>h)).sub (pos:=pos) (k:=k) (by omega);have hv:sliced (some ⟨b,off,none⟩) pos (pos+k) c 3=.slice (some ⟨b,off+pos*3,none⟩) (P-pos) (c-pos):=by
     have e:pos+k-pos=P-pos:=by omega
     simp only[sliced,if_neg hcn,Option.map,e,Addr.add];split<;>simp<;>omega
    rw[hv] at hLS;exact hLS
   ·have hu0:untilN st (ls.drop pos)=untilN st (ls.drop (P+1))+(k+1):=by
     have h1:=HK.out.1;have h2:=HU.out;rw[if_neg hse] at h2;rw[h2] at h1;omega
    have HU0:=Lib.hid hu0;clear hu0;have hse2:st (trim x.text.data.toList)=false:=by simpa using hse
    rw[hse2]
    go_wp2_with fail
    go_roundg (gk-1)
    case measure=>omega
    case rel =>
     have hPP:=HPP.out;refine⟨k+1,by omega,?_⟩;have e1:pos+(k+1)=P+1:=by omega
     rw[e1];exact⟨HU0.out,HT.out.1.moved (P+1),HT.out.2.trans (HT.out.1.turn (P+1))⟩
  ·obtain rfl:P=ls.length:=by omega
   have hu0:untilN st (ls.drop pos)=k:=by
    have h1:=HK.out.1;rw[List.drop_length] at h1;simpa [untilN] using h1
   have HU0:=Lib.hid hu0;clear hu0;have hPc:(pos:Int)≤(ls.length:Int):=by omega
   have hPP:=HPP.out;have hdec:decide (pos+untilN st (ls.drop pos)<ls.length)=false:=decide_eq_false (by rw[HU0.out];omega);have hLS:LinesAt wr.drew L (sliced A pos (pos+k) c 3) ((ls.drop pos).take k):=((HR.out.2.1.chg HK.out.2.2.chg HR.out.2.2.1).chg (Chg.refl wr (fun _=>False)).drew (fun _ _ h=>h)).sub (by omega);have e:pos+k-pos=ls.length-pos:=by omega
   have HG:=hidH3 hdec hPP e;clear hdec hPP
   by_cases hcp:c=pos
   rotate_left
   all_goals
    unfold sliced at hLS;rw[e] at hLS;clear e
   ·rw[if_neg hcp] at hLS;have HL:=Lib.hid hLS;clear hLS;go_wp2;refine wp_region_held_drew (S:=(fun w'=>w'.cell? ⟨rb,1,none⟩=some (.int .i64 (ls.length:Int))∧w'.cell? ⟨rb,0,none⟩=some (.slice A ls.length c))) (by kernel_rfl) ?_ (fun hHeld0=>?_)
    ·(try dsimp only)
     exact⟨p1,p0⟩
    refine tkH 0 11 ?_;refine tkH 1 12 ?_;refine tkH 2 13 ?_;refine tkH 3 14 ?_;refine tkH 4 15 ?_;refine tkH 5 16 ?_;refine tkH 6 17 ?_;refine tkH 7 18 ?_;refine tkH 8 19 ?_;refine tkH 9 20 ?_;refine wpAnyH_done (by kernel_rfl) ?_ _;go_wp2
    go_ret2
    rw[HG.out.1,HU0.out,HG.out.2.1];refine⟨_,rfl,HL.out,?_,?_⟩
    ·exact HK.out.2.1.chg (Chg.refl wr (fun _=>False)).drew (fun _ _ h=>h) (fun _ _ h=>h)
    ·exact HK.out.2.2.trans ⟨(Chg.refl wr O).drew,fun _ h=>.inl h,fun _ h=>.inl h,fun _ h=>h⟩
   ·rw[if_pos hcp] at hLS;have HL:=Lib.hid hLS;clear hLS;go_wp2;refine wp_region_held_drew (S:=(fun w'=>w'.cell? ⟨rb,1,none⟩=some (.int .i64 (ls.length:Int))∧w'.cell? ⟨rb,0,none⟩=some (.slice A ls.length c))) (by kernel_rfl) ?_ (fun hHeld0=>?_)
    ·(try dsimp only)
     exact⟨p1,p0⟩
    refine tkH 0 11 ?_;refine tkH 1 12 ?_;refine tkH 2 13 ?_;refine tkH 3 14 ?_;refine tkH 4 15 ?_;refine tkH 5 16 ?_;refine tkH 6 17 ?_;refine tkH 7 18 ?_;refine tkH 8 19 ?_;refine tkH 9 20 ?_;refine wpAnyH_done (by kernel_rfl) ?_ _;subst hcp;go_wp2
    go_ret2
    rw[HG.out.1,HU0.out,HG.out.2.1];refine⟨_,rfl,?_,?_,?_⟩
    ·have h0:ls.length-c=0:=by omega
     have hL2:=HL.out;rw[h0,Nat.sub_self] at hL2;exact hL2
    ·exact HK.out.2.1.chg (Chg.refl wr (fun _=>False)).drew (fun _ _ h=>h) (fun _ _ h=>h)
    ·exact HK.out.2.2.trans ⟨(Chg.refl wr O).drew,fun _ h=>.inl h,fun _ h=>.inl h,fun _ h=>h⟩
end Go.Proofs.YtkkebmciiiajeaaGreatDoor
namespace Go.Proofs.YtkkebmciiiajeaaGreatDoor
open Go.RowKit Go.Bd
theorem enter_code (args:Array Value) (w:World):Sem.run Tryz.prog (callFunc 119 args) w=.ok (.enter 119 args) w:=by kernel_rfl
theorem enter_table (args:Array Value) (w:World):Sem.run Tryz.prog (callFunc 122 args) w=.ok (.enter 122 args) w:=by kernel_rfl
theorem enter_para (args:Array Value) (w:World):Sem.run Tryz.prog (callFunc 125 args) w=.ok (.enter 125 args) w:=by kernel_rfl
theorem code1_any (t:Bs) (w:World) (ht:t.length≤100000000):Calls Tryz.prog 119 #[strV t] w fun e w'=>e=.returned (.bool (t==fenceL))∧Below w.heap.size w w':=by
 unfold strV;have he:(t==fenceL)=decide ((⟨t.toArray⟩:ByteArray)=⟨#[45,45,45,45]⟩):=by
  rw[Bool.eq_iff_iff,beq_iff_eq,decide_eq_true_iff];exact⟨fun h=>by rw[h];rfl,fun h=>by simpa [fenceL] using congrArg (fun b:ByteArray=>b.data.toList) h⟩
 rw[he]
 go_enter Tryz.func119,Tryz.ntmps119
 go_wp2
 go_ret
 exact⟨by simp;rw[Bool.eq_iff_iff,beq_iff_eq,decide_eq_true_iff],Below.refl _ _⟩
theorem table1_any (t:Bs) (w:World) (ht:t.length≤100000000):Calls Tryz.prog 122 #[strV t] w fun e w'=>e=.returned (.bool (t==barsL))∧Below w.heap.size w w':=by
 unfold strV;have he:(t==barsL)=decide ((⟨t.toArray⟩:ByteArray)=⟨#[124,61,61,61]⟩):=by
  rw[Bool.eq_iff_iff,beq_iff_eq,decide_eq_true_iff];exact⟨fun h=>by rw[h];rfl,fun h=>by simpa [barsL] using congrArg (fun b:ByteArray=>b.data.toList) h⟩
 rw[he]
 go_enter Tryz.func122,Tryz.ntmps122
 go_wp2
 go_ret
 exact⟨by simp;rw[Bool.eq_iff_iff,beq_iff_eq,decide_eq_true_iff],Below.refl _ _⟩
theorem para1_any (t:Bs) (w:World) (ht:t.length≤100000000):Calls Tryz.prog 125 #[strV t] w fun e w'=>e=.returned (.bool (!plainL t))∧Below w.heap.size w w':=by
 have hp:=fun w'=>plain_any ⟨t.toArray⟩ w' (by rw[size_mk];exact ht)
 rw[strV_data] at hp;unfold strV
 go_enter Tryz.func125,Tryz.ntmps125
 go_wp2_with (go_at_call 126;refine (hp _).mono ?_;rintro e w1 ⟨rfl,hb1⟩)
 go_ret
 exact⟨by simp,hb1⟩
end Go.Proofs.YtkkebmciiiajeaaGreatDoor
namespace Go.Bd
open Go.RowKit
theorem rows_nil (w:World) (F:Nat→Prop):RowsF w F (.slice none 0 0) []:=⟨none,0,[],rfl,Nat.le_refl _,rfl,fun h=>absurd rfl h,fun j x kv h=>by simp at h⟩
def paraT (ls:List Ln) (pos:Nat) (s:ByteArray):List Bs:=s.data.toList::((ls.drop pos).take (untilN (fun t=>!plainL t) (ls.drop pos))).map (fun x=>trim x.text.data.toList)
def paraB (ls:List Ln) (pos:Nat) (s:ByteArray):Bs:=Lib.join (paraT ls pos s) [32]
end Go.Bd
namespace Go.Proofs.YtkkebmciiiajeaaGreatDoor
open Go.RowKit Go.Bd
theorem strs_info:(Tryz.prog.info? 9).map (fun i=>(i.zero,i.size,i.bytes))=some (some (.string ⟨#[]⟩),1,16):=by kernel_rfl
theorem para_any {w:World}{O F L:Nat→Prop}{rb:Nat}{lv:Value}{pos:Nat}{bv:Value}{bs:List Bl}{dv:Value}{ds:List Dg} (h:Rdr w O F rb lv pos bv bs dv ds){ls:List Ln} (hL:LinesAt w L lv ls) (hLO:∀k,L k→¬O k) (hLl:∀k,L k→k<w.heap.size)
  (hsz:∀x∈ls,x.text.size≤100000000) (hp:pos≤ls.length) (hn:ls.length≤1000000) (f t:ByteArray) (no:Int) (s:ByteArray) {m:Int} (hm:Glob m w) (h3:∀k,O k→3≤k)
  (hl:bs.length≤1000000000) (hj:(paraB ls pos s).length≤100000000) (hd:ds.length+(faultsOf (paraB ls pos s)).length≤1000000000) :
  Calls Tryz.prog 79 #[.pointer (some ⟨rb,0,none⟩),.agg #[.string f,.int .i64 no,.string t],.string s] w fun e w'=>e=.returned (.tuple #[])∧∃O' F' bv' dv',Rdr w' O' F' rb lv (pos+untilN (fun t=>!plainL t) (ls.drop pos)) bv' (bs++[⟨2,0,false,⟨#[]⟩,⟨#[]⟩,spansOf (paraB ls pos s),[],f,no⟩]) dv' (ds++(faultsOf (paraB ls pos s)).map (dgOf f no ⟨(paraB ls pos s).toArray⟩))∧Turn w w' O F O' F':=by
 have hB1:Below w.heap.size w (w.alloc (.cells #[.string f,.int .i64 no,.string t] 98)):=(Below.refl _ w).alloc (Nat.le_refl _) _;have h1:=h.below hB1;have hX:=Holds.new w 98 #[.string f,.int .i64 no,.string t];have hm1:=hm.chg (Chg.below hB1 (fun _=>False)) (fun _ h=>h.elim);have hL1:=hL.chg (Chg.below hB1 (fun _=>False)) (fun _ _ h=>h);have hT1:Turn w (w.alloc (.cells #[.string f,.int .i64 no,.string t] 98)) O F O F:=⟨Chg.below hB1 O,fun _ h=>.inl h,fun _ h=>.inl h,fun _ h=>h⟩;have hLl1:∀k,L k→k<(w.alloc (.cells #[.string f,.int .i64 no,.string t] 98)).heap.size:=fun k hk=>by have:=hLl k hk;simp;omega
 obtain⟨n,hn1⟩:∃n,w.heap.size=n:=⟨_,rfl⟩;have hn3:3≤n:=hn1 ▸ hm.three;rw[hn1] at hX;obtain⟨W1,hW1⟩:∃W1,w.alloc (.cells #[.string f,.int .i64 no,.string t] 98)=W1:=⟨_,rfl⟩;rw[hW1] at h1 hX hm1 hL1 hLl1 hT1;have CU:=until_any h1 hL1 hLO hLl1 hsz hp hn 125 enter_para (fun t=>!plainL t) para1_any;unfold paraB paraT at hj hd ⊢;obtain⟨kk,hkk⟩:∃kk,untilN (fun t=>!plainL t) (ls.drop pos)=kk:=⟨_,rfl⟩;have hkl:pos+kk≤ls.length:=by have:=untilN_le (fun t=>!plainL t) (ls.drop pos);rw[List.length_drop] at this;omega
 rw[hkk] at hj hd CU ⊢;obtain⟨mid,hmid⟩:∃mid,(ls.drop pos).take kk=mid:=⟨_,rfl⟩;have hml:mid.length=kk:=by rw[←hmid,List.length_take,List.length_drop];omega
 have hms:∀x∈mid,x.text.size≤100000000:=fun x hx=>hsz x (List.mem_of_mem_drop (List.mem_of_mem_take (hmid ▸ hx)))
 rw[hmid] at hj hd CU ⊢;obtain⟨xs,hxs⟩:∃xs:List ByteArray,s::mid.map (fun x=>(⟨(trim x.text.data.toList).toArray⟩:ByteArray))=xs:=⟨_,rfl⟩;have hxl:xs.length=kk+1:=by rw[←hxs];simp[hml]
 have hrow:(Value.string s::mid.map (fun x=>strV (trim x.text.data.toList)))=xs.map Value.string:=by rw[←hxs];simp[strV]
 have hjn:Lib.join (xs.map (·.data.toList)) [32]=Lib.join (s.data.toList::mid.map (fun x=>trim x.text.data.toList)) [32]:=by
  rw[←hxs,List.map_cons,List.map_map];congr 2
 rw[←hjn] at hj hd ⊢;obtain⟨J,hJ⟩:∃J,Lib.join (xs.map (·.data.toList)) [32]=J:=⟨_,rfl⟩;rw[hJ] at hj hd ⊢;have HJ:=hidH3 hrow hxl hJ;clear hxs hxl hrow hjn hJ;have hnO:¬O n:=fun e=>by have:=h.ltO n e;omega
 have hnF:¬F n:=fun e=>by have:=h.ltF n e;omega
 have HX:=hidH4 hX hm1 hT1 hn1;have HL:=hidH3 hLl1 hLO hms;have HH:=hidH3 hkk hmid h3;clear h h1 hX hm hm1 hL hL1 hLl hLl1 hLO hB1 hT1 hkk hmid hsz hms h3
 go_enter Tryz.func79,Tryz.ntmps79
 go_wp2_with fail
 refine CU.mono ?_;clear CU;rintro e W2 ⟨v,rfl,hL2,hr2,ht2⟩
 (try rw[hn1])
 clear hW1 hn1;obtain⟨A,c,rfl,hcl⟩:∃A c,v=.slice A mid.length c∧mid.length≤c:=by
  obtain⟨A,c,h1,h2,_⟩:=hL2;exact⟨A,c,h1,h2⟩
 have hown:(W2.alloc (.cells #[.string s] 9)).ownsRow W2.heap.size 9 1 (.slice (some ⟨W2.heap.size,0,none⟩) 1 1) 1 [.string s]:=⟨by simp,.inr ⟨_,1,_,rfl,Nat.le_refl _,heap_alloc_new W2 _,Nat.le_refl _,by unfold maxLen;omega,rfl,rfl⟩⟩;have hlt2:=ht2.chg.size;have HQ:=hidH5 hL2 hr2 ht2 hown hlt2;clear hL2 hr2 ht2 hown hlt2;go_wp2;obtain⟨B,hB⟩:∃B,W2.heap.size=B:=⟨_,rfl⟩;rw[hB]
 go_loopg [8,10,21] kk (fun q vt vx vi wr=>∃k:Nat,k+q=kk∧vi=.int .i64 (k:Int)∧Hid (wr.ownsRow B 9 1 vt (k+1) (Value.string s::(mid.take k).map (fun x=>strV (trim x.text.data.toList)))∧Below B W2 wr))
 case atStart=>exact⟨0,by omega,rfl,by rw[←hB];simpa using HQ.out.2.2.2.1,by rw[←hB];exact (Below.refl _ W2).alloc (Nat.le_refl _) _⟩
 case round =>
  obtain⟨k,hk,rfl,HK⟩:=hrel;obtain⟨TA,tc,rfl,htc⟩:=own_slice HK.out.1
  by_cases hlt:k<kk
  ·obtain⟨x,hx⟩:∃x,mid[k]? = some x:=⟨_,List.getElem?_eq_getElem (by omega)⟩;obtain⟨b,off,c1,hA,_,hb,l0,l1,l2⟩:=HQ.out.1.at hx;obtain⟨rfl,rfl⟩:A=some ⟨b,off,none⟩∧c=c1:=by cases hA;exact⟨rfl,rfl⟩
   have hxs:=HL.out.2.2 x (List.mem_of_getElem? hx);have hbB:b<B:=by have:=HL.out.1 b hb;have:=HQ.out.2.2.2.2;omega
   replace l0:=(HK.out.2.cell (p:=⟨b,off+k*3,none⟩) hbB).trans l0
   replace l1:=(HK.out.2.cell (p:=⟨b,off+k*3+1,none⟩) hbB).trans l1
   replace l2:=(HK.out.2.cell (p:=⟨b,off+k*3+2,none⟩) hbB).trans l2
   have cc:=fun W=>counted_any x.file x.text x.no W hxs
   clear hA
   go_wp2_with fail
   refine (cc _).mono ?_;clear cc;rintro e w1 ⟨rfl,hb1⟩;unfold strV;have hba:Below wr.heap.size wr w1:=((Below.refl _ wr).alloc (Nat.le_refl _) _).trans (hb1.mono (by simp));have hown1:=own_below HK.out.1 hba;have hBw:B≤wr.heap.size:=by have:=HK.out.2.size;omega
   have hw1:=hba.size;have hbl1:Below B W2 w1:=HK.out.2.trans (hba.mono hBw);have HW:=hidH4 hown1 hbl1 hba hx;clear hown1 hbl1 hba hb1 hx l0 l1 l2
   go_wp2_with (at_builtin;refine wpList_app1 _ rfl _ _ 30 rfl B 9 (.string ⟨#[]⟩) 16 Tryz.underlying30 strs_info rfl _ (k+1) _ rfl (HW.out.1.alloc _) _ 1 (.string ⟨(trim x.text.data.toList).toArray⟩) rfl (by simp) rfl (by unfold maxLen;omega) (by omega) (by simp;omega) ?_)
   intro v1 w2 hown2 hgr2;have hbl2:Below B W2 w2:=(HW.out.2.1.alloc (by omega) _).grown hgr2 (by simp;omega) (fun q hq=>(HW.out.1.lt q hq).1);have hK2:Hid (w2.ownsRow B 9 1 v1 (k+1+1) (Value.string s::(mid.take (k+1)).map (fun x=>strV (trim x.text.data.toList)))∧Below B W2 w2):=Lib.hid ⟨by rw[List.take_add_one,HW.out.2.2.2];simpa [strV] using hown2,hbl2⟩;clear hown2 hgr2 hbl2;go_wp2
   go_roundg (gk-1)
   case measure=>omega
   case rel=>exact⟨k+1,by omega,by go_num,hK2.out⟩
  ·obtain rfl:k=kk:=by omega
   have hown:=HK.out.1;rw[List.take_of_length_le (by omega)] at hown;have hrow:=HJ.out.1;have hJ:=HJ.out.2.2;have hxl:=HJ.out.2.1;rw[hrow] at hown;obtain⟨g,tc2,hgA,_,hgl,_,_,_⟩:=own_some hown (by omega);obtain⟨rfl,rfl⟩:TA=some ⟨g,0,none⟩∧tc=tc2:=by cases hgA;exact⟨rfl,rfl⟩
   have hC2:Chg W2 wr (fun _=>False):=Chg.below (hB ▸ HK.out.2) _;have hr:=HQ.out.2.1.chg hC2 (fun _ _ h=>h) (fun _ _ h=>h);have htw:Turn w wr O F O F:=(HX.out.2.2.1.trans HQ.out.2.2.1).trans ⟨hC2.mono (fun _ _ h=>h.elim),fun _ h=>.inl h,fun _ h=>.inl h,fun _ h=>h⟩;have hXw:=hC2.holds (fun h=>h) (HQ.out.2.2.1.chg.holds hnO HX.out.1);have hmw:=(HX.out.2.1.chg HQ.out.2.2.1.chg HH.out.2.2).chg hC2 (fun _ h=>h.elim);have hBb:=(Below.refl wr.heap.size wr).alloc (Nat.le_refl _) (.cells #[.int .u8 2,.int .i64 0,.bool false,.string ⟨#[]⟩,.string ⟨#[]⟩,.slice none 0 0,.slice none 0 0,.string ⟨#[]⟩,.int .i64 0] 62);have hCb:=Chg.below hBb (fun _=>False);have hrb:=hr.below hBb;have hXb:=hXw.alloc (.cells #[.int .u8 2,.int .i64 0,.bool false,.string ⟨#[]⟩,.string ⟨#[]⟩,.slice none 0 0,.slice none 0 0,.string ⟨#[]⟩,.int .i64 0] 62);have hNb:=Holds.new wr 62 #[.int .u8 2,.int .i64 0,.bool false,.string ⟨#[]⟩,.string ⟨#[]⟩,.slice none 0 0,.slice none 0 0,.string ⟨#[]⟩,.int .i64 0];have hmb:=hmw.chg hCb (fun _ h=>h.elim);have hcb:∀(j:Nat) x,xs[j]? = some x→(wr.alloc (.cells #[.int .u8 2,.int .i64 0,.bool false,.string ⟨#[]⟩,.string ⟨#[]⟩,.slice none 0 0,.slice none 0 0,.string ⟨#[]⟩,.int .i64 0] 62)).cell? ⟨g,0+j,none⟩=some (.string x):=fun j x hx=>by
    rw[Nat.zero_add];exact hCb.cell (p:=⟨g,j,none⟩) (fun h=>h) (own_cell hown (by rw[List.getElem?_map,hx];rfl))
   have htb:Turn w (wr.alloc (.cells #[.int .u8 2,.int .i64 0,.bool false,.string ⟨#[]⟩,.string ⟨#[]⟩,.slice none 0 0,.slice none 0 0,.string ⟨#[]⟩,.int .i64 0] 62)) O F O F:=htw.trans ⟨hCb.mono (fun _ _ h=>h.elim),fun _ h=>.inl h,fun _ h=>.inl h,fun _ h=>h⟩;have hgb:g<(wr.alloc (.cells #[.int .u8 2,.int .i64 0,.bool false,.string ⟨#[]⟩,.string ⟨#[]⟩,.slice none 0 0,.slice none 0 0,.string ⟨#[]⟩,.int .i64 0] 62)).heap.size:=by simp;omega
   have hnn:n<wr.heap.size:=hXw.lt;obtain⟨nb,hnb⟩:∃nb,wr.heap.size=nb:=⟨_,rfl⟩;rw[hnb] at hNb hnn;have hnbO:¬O nb:=fun e=>by have:=hr.ltO nb e;omega
   have hnbF:¬F nb:=fun e=>by have:=hr.ltF nb e;omega
   have hwnb:w.heap.size≤nb:=by have:=htw.chg.size;omega
   obtain⟨Wb,hWb⟩:∃Wb,wr.alloc (.cells #[.int .u8 2,.int .i64 0,.bool false,.string ⟨#[]⟩,.string ⟨#[]⟩,.slice none 0 0,.slice none 0 0,.string ⟨#[]⟩,.int .i64 0] 62)=Wb:=⟨_,rfl⟩;rw[hWb] at hrb hXb hNb hmb hcb htb hgb;obtain⟨d0,d1,d2⟩:=cells3 hXb;have cj:=fun W (hW:Chg Wb W (fun _=>False))=>Tryz.strings_Join g 0 tc xs ⟨#[32]⟩ W (fun j x hx=>hW.cell (fun h=>h) (hcb j x hx)) (Nat.lt_of_lt_of_le hgb hW.size) (by omega) (by omega) (by have e:(⟨#[32]⟩:ByteArray).data.toList=[32]:=rfl;rw[e,hJ];omega)
   have e32:(⟨#[32]⟩:ByteArray).data.toList=[32]:=rfl;rw[hxl,e32,hJ] at cj;have HB:=hidH5 hrb htb hXb hNb hmb;have CJ:=Lib.hid cj;clear hJ hxl hown hrow hC2 hr htw hXw hmw hBb hCb hrb hXb hNb hmb hcb htb hgb hgA hgl cj e32;have HWB:=Lib.hid hWb;have HNB:=Lib.hid hnb;clear hWb hnb
   go_wp2_with fail
   (try rw[HWB.out])
   (try rw[HNB.out])
   clear HWB HNB;have hnne:nb≠n:=by omega
   refine wp_region_held_drew (S:=(fun w'=>w'.cell? ⟨n,0,none⟩=some (.string f)∧w'.cell? ⟨n,1,none⟩=some (.int .i64 no)∧w'.cell? ⟨n,2,none⟩=some (.string t))) (by kernel_rfl) ?_ (fun hHeld0=>?_)
   ·(try dsimp only)
    first|exact⟨d0,d1,d2⟩|exact cells3 hX3|exact cells3 hX4|exact cells3 hX5
   refine tkH 0 32 ?_;refine tkH 1 33 ?_;refine tkH 2 34 ?_;refine rdyH [3] ?_;refine AllReadyH.cons (o:=⟨some 35,_,_,_,_,_⟩) rfl (fun K hK=>?_) AllReadyH.nil;go_simp;refine (CJ.out _ (by first|exact Chg.refl _ _|exact (Chg.refl _ _).drew|exact (Chg.refl _ _).drew.drew)).mono ?_;rintro e w3 ⟨rfl,hb3⟩;have hC3:Chg Wb w3 (fun _=>False):=by
    first
    | exact (Chg.refl _ _).trans (Chg.below hb3 _) (fun k _ h=>h)
    | exact ((Chg.refl _ _).drew).trans (Chg.below hb3 _) (fun k _ h=>h)
    | exact ((Chg.refl _ _).drew.drew).trans (Chg.below hb3 _) (fun k _ h=>h)
   have hX3:=hC3.holds (fun h=>h) HB.out.2.2.1;have hN3:=hC3.holds (fun h=>h) HB.out.2.2.2.1;have hr3:=HB.out.1.chg hC3 (fun _ _ h=>h) (fun _ _ h=>h);have hm3:=HB.out.2.2.2.2.chg hC3 (fun _ h=>h.elim);have ht3:Turn w w3 O F O F:=HB.out.2.1.trans ⟨hC3.mono (fun _ _ h=>h.elim),fun _ h=>.inl h,fun _ h=>.inl h,fun _ h=>h⟩;have H3:=hidH4 hr3 hm3 ht3 hN3;clear hb3 hC3 hr3 hm3 ht3 hN3;refine hK.out _ _ ?_ (fun hHeld1=>?_)
   ·(try dsimp only)
    first|exact⟨d0,d1,d2⟩|exact cells3 hX3|exact cells3 hX4|exact cells3 hX5
   clear hK K hHeld0
   (try go_frame)
   refine rdyH [4] ?_;refine AllReadyH.cons (o:=⟨some 36,_,_,_,_,_⟩) rfl (fun K hK=>?_) AllReadyH.nil;go_simp;have CS:=bspans_any H3.out.1 f t no ⟨J.toArray⟩ (by rw[size_mk];exact hj) H3.out.2.1 (by rw[strV_data];exact hd);rw[strV_data] at CS;refine CS.mono ?_;clear CS;rintro e w4 ⟨sv,O2,F2,dv2,rfl,hfo,hr4,ht4⟩;obtain⟨As,cs,rfl,_⟩:=hfo.form;have hnb4:=H3.out.2.2.2.lt;have hX4:=ht4.chg.holds hnO hX3;have hN4:=ht4.chg.holds hnbO H3.out.2.2.2;have hbO2:=ht4.offO hnb4 hnbO;have hbF2:=ht4.offF hnb4 hnbF;have c5:=hN4.cell 5;have x5:=hN4.free 5;have hX5:=hX4.far (p:=⟨nb,5,none⟩) (Ne.symm hnne) (.slice As (spansOf J).length cs);have H4:=hidH4 hfo hr4 ht4 hN4;clear hfo hr4 ht4 hN4 hnb4;refine hK.out _ _ ?_ (fun hHeld2=>?_)
   ·(try dsimp only)
    first|exact⟨d0,d1,d2⟩|exact cells3 hX3|exact cells3 hX4|exact cells3 hX5
   clear hK K hHeld1
   (try go_frame)
   refine tkH 5 37 ?_;refine rdyH [6] ?_;refine AllReadyH.cons rfl (fun K hK=>?_) AllReadyH.nil;go_simp;refine hK.out _ _ ?_ (fun hHeld3=>?_)
   ·(try dsimp only)
    first|exact⟨d0,d1,d2⟩|exact cells3 hX3|exact cells3 hX4|exact cells3 hX5
   clear hK K hHeld2
   (try go_frame)
   refine wpAnyH_done (by kernel_rfl) ?_ _;have hC6:Chg w4 (w4.setCell ⟨nb,5,none⟩ (.slice As (spansOf J).length cs)) (fun k=>k=nb):=Chg.set w4 ⟨nb,5,none⟩ (.slice As (spansOf J).length cs);have hr6:=H4.out.2.1.chg hC6 (fun k hk e=>hbO2 (e ▸ hk)) (fun k hk e=>hbF2 (e ▸ hk));have hfo6:=H4.out.1.chg hC6 (fun _ h=>h) (fun k hk e=>hbF2 (e ▸ hk));have hN6:=H4.out.2.2.2.set 5 (.slice As (spansOf J).length cs);simp only[List.setIfInBounds_toArray,List.set_cons_succ,List.set_cons_zero] at hN6;obtain⟨b0,b1,b2,b3,b4,b5,b6,b7,b8⟩:=cells9 hN6;obtain⟨q0,q1,q2⟩:=cells3 hX5;have CA:=badd_any hr6 ⟨2,0,false,⟨#[]⟩,⟨#[]⟩,spansOf J,[],f,no⟩ (.slice As (spansOf J).length cs) (.slice none 0 0) ⟨hfo6,rows_nil _ _⟩ f t ⟨#[]⟩ no 0 hl rfl rfl;have e2:((2:Nat):Int)=2:=rfl;have e0:((0:Nat):Int)=0:=rfl;simp only[e2,e0] at CA;have H6:=Lib.hid hC6;clear e2 e0 hr6 hfo6 hN6 hX5 hX4 hX3 hC6 d0 d1 d2
   go_wp2_with fail
   refine CA.mono ?_;clear CA;rintro e W7 ⟨rfl,O3,bv3,hr7,ht7⟩;go_wp2
   go_end0
   exact⟨rfl,O3,F2,bv3,dv2,hr7,((H3.out.2.2.1.trans H4.out.2.2.1).poke H6.out hwnb).trans ht7⟩
end Go.Proofs.YtkkebmciiiajeaaGreatDoor
namespace Go.Proofs.YtkkebmciiiajeaaGreatDoor
open Go.RowKit Go.Bd Go.Shelf
def bldRen:Go.Shelf.Ren:=⟨fun|166=>80|167=>120|240=>128|276=>179|n=>n,fun|0=>0|3=>3|4=>4|5=>5|9=>9|20=>20|37=>107|70=>106|72=>109|75=>140|164=>254|80=>111|127=>143|n=>n,fun|n=>n⟩
theorem bldExtra:Builder.Extra Tryz.prog bldRen where
 sizeBuilder:=by kernel_rfl
 liesBuilder:=by kernel_rfl
 t5:=Tryz.underlying5
 a5:=Tryz.isAgg5
 z5:=Tryz.sizeOf5
 v5:=Tryz.zeroValue5
 infoByte:=by kernel_rfl
 cellsByte:=by kernel_rfl
 sizeByte:=by kernel_rfl
 neB5:=by decide
theorem bldLays166:Go.Proofs.Lays.n166 Tryz.prog bldRen where
 mixed:=by kernel_rfl
 f166:=Tryz.func80.trans (congrArg some (by kernel_rfl))
 f240:=Tryz.func128.trans (congrArg some (by kernel_rfl))
 f276:=Tryz.func179.trans (congrArg some (by kernel_rfl))
 t0:=Tryz.underlying0
 a0:=Tryz.isAgg0
 z0:=Tryz.sizeOf0
 v0:=Tryz.zeroValue0
 t3:=Tryz.underlying3
 a3:=Tryz.isAgg3
 z3:=Tryz.sizeOf3
 v3:=Tryz.zeroValue3
 t4:=Tryz.underlying4
 a4:=Tryz.isAgg4
 z4:=Tryz.sizeOf4
 v4:=Tryz.zeroValue4
 t9:=Tryz.underlying9
 a9:=Tryz.isAgg9
 z9:=Tryz.sizeOf9
 v9:=Tryz.zeroValue9
 t20:=Tryz.underlying20
 a20:=Tryz.isAgg20
 z20:=Tryz.sizeOf20
 v20:=Tryz.zeroValue20
 t37:=Tryz.underlying107
 a37:=Tryz.isAgg107
 z37:=Tryz.sizeOf107
 v37:=Tryz.zeroValue107
 t70:=Tryz.underlying106
 a70:=Tryz.isAgg106
 z70:=Tryz.sizeOf106
 v70:=Tryz.zeroValue106
 t72:=Tryz.underlying109
 a72:=Tryz.isAgg109
 z72:=Tryz.sizeOf109
 v72:=Tryz.zeroValue109
 t75:=Tryz.underlying140
 a75:=Tryz.isAgg140
 z75:=Tryz.sizeOf140
 v75:=Tryz.zeroValue140
 t164:=Tryz.underlying254
 a164:=Tryz.isAgg254
 z164:=Tryz.sizeOf254
 v164:=Tryz.zeroValue254
theorem bldLays167:Go.Proofs.Lays.n167 Tryz.prog bldRen where
 mixed:=by kernel_rfl
 f167:=Tryz.func120.trans (congrArg some (by kernel_rfl))
 f240:=Tryz.func128.trans (congrArg some (by kernel_rfl))
 f276:=Tryz.func179.trans (congrArg some (by kernel_rfl))
 t0:=Tryz.underlying0
 a0:=Tryz.isAgg0
 z0:=Tryz.sizeOf0
 v0:=Tryz.zeroValue0
 t4:=Tryz.underlying4
 a4:=Tryz.isAgg4
 z4:=Tryz.sizeOf4
 v4:=Tryz.zeroValue4
 t5:=Tryz.underlying5
 a5:=Tryz.isAgg5
 z5:=Tryz.sizeOf5
 v5:=Tryz.zeroValue5
 t9:=Tryz.underlying9
 a9:=Tryz.isAgg9
 z9:=Tryz.sizeOf9
 v9:=Tryz.zeroValue9
 t20:=Tryz.underlying20
 a20:=Tryz.isAgg20
 z20:=Tryz.sizeOf20
 v20:=Tryz.zeroValue20
 t37:=Tryz.underlying107
 a37:=Tryz.isAgg107
 z37:=Tryz.sizeOf107
 v37:=Tryz.zeroValue107
 t70:=Tryz.underlying106
 a70:=Tryz.isAgg106
 z70:=Tryz.sizeOf106
 v70:=Tryz.zeroValue106
 t72:=Tryz.underlying109
 a72:=Tryz.isAgg109
 z72:=Tryz.sizeOf109
 v72:=Tryz.zeroValue109
 t75:=Tryz.underlying140
 a75:=Tryz.isAgg140
 z75:=Tryz.sizeOf140
 v75:=Tryz.zeroValue140
 t164:=Tryz.underlying254
 a164:=Tryz.isAgg254
 z164:=Tryz.sizeOf254
 v164:=Tryz.zeroValue254
abbrev Bld (B b:Nat) (l:Bs) (w:World):Prop:=Lib.IsBuilder 109 5 B b (Lib.byteCells l) w
theorem bld_write (B b:Nat) (l:Bs) (s:ByteArray) (w:World) (h:Bld B b l w) (hlen:l.length+s.size≤140737488355328) (hBw:B≤w.heap.size) :
  Calls Tryz.prog 80 #[.pointer (some ⟨b,0,none⟩),.string s] w fun e w'=>e=.returned (.tuple #[.int .i64 s.size,.nilIface])∧Bld B b (l++s.data.toList) w'∧Below B w w' :=
 (Any.Builder_WriteString (ρ:=bldRen) bldLays166 bldExtra B b _ s w h (by rw[Lib.byteCells_length];exact hlen) hBw).mono fun _ _ ⟨h1,h2,h3⟩=>⟨h1,by unfold Bld;rw[Lib.byteCells,List.map_append];exact .inr h2,h3⟩
theorem bld_string (B b:Nat) (l:Bs) (w:World) (h:Bld B b l w) (hBw:B≤w.heap.size) :
  Calls Tryz.prog 43 #[.pointer (some ⟨b,0,none⟩)] w fun e w'=>e=.returned (.string ⟨l.toArray⟩)∧Below B w w' :=
 Tryz.Builder_String_any B b l w h hBw
end Go.Proofs.YtkkebmciiiajeaaGreatDoor
namespace Go.Bd
mutual
def each1:Sp→Nat→List Sp
 | ⟨q,t,u,v,kids⟩,k=>if q=k then ⟨q,t,u,v,kids⟩::eachL kids k else eachL kids k
def eachL:List Sp→Nat→List Sp
 | [],_=>[]
 | x::l,k=>each1 x k++eachL l k
end
mutual
def many1:Sp→Nat
 | ⟨_,_,_,_,kids⟩=>1+manyL kids
def manyL:List Sp→Nat
 | []=>0
 | x::l=>many1 x+manyL l
end
mutual
def kinds1:Sp→Bool
 | ⟨k,_,_,_,kids⟩=>decide (k≤6)&&kindsL kids
def kindsL:List Sp→Bool
 | []=>true
 | x::l=>kinds1 x&&kindsL l
end
mutual
theorem snd_kinds1:∀(x:Sp) (d:Nat),snd1 x d=true→kinds1 x=true
 | ⟨k,t,u,v,kids⟩,d,h=>by
  simp only[snd1,Bool.and_eq_true] at h;obtain⟨⟨⟨⟨h1,_⟩,h2⟩,_⟩,_⟩:=h;simp only[kinds1,Bool.and_eq_true];refine⟨h1,?_⟩;split at h2
  ·simp only[Bool.and_eq_true] at h2;exact snd_kindsL kids _ _ h2.2
  ·cases kids with
   | nil=>rfl
   | cons x l=>simp at h2
theorem snd_kindsL:∀(l:List Sp) (d p:Nat),sndL l d p=true→kindsL l=true
 | [],_,_,_=>rfl
 | x::l,d,p,h=>by
  simp only[sndL,Bool.and_eq_true] at h;simp only[kindsL,Bool.and_eq_true];exact⟨snd_kinds1 x d h.1.1,snd_kindsL l d _ h.2⟩
end
mutual
theorem each1_kind:∀(x:Sp) (k:Nat),∀y∈each1 x k,y.kind=k
 | ⟨q,t,u,v,kids⟩,k,y,hy=>by
  have ih:=eachL_kind kids k;simp only[each1] at hy;split at hy
  ·rename_i hq
   rcases List.mem_cons.1 hy with rfl|hy
   ·exact hq
   ·exact ih y hy
  ·exact ih y hy
theorem eachL_kind:∀(l:List Sp) (k:Nat),∀y∈eachL l k,y.kind=k
 | [],_,_,hy=>by simp[eachL] at hy
 | x::l,k,y,hy=>by
  simp only[eachL,List.mem_append] at hy
  rcases hy with hy|hy
  ·exact each1_kind x k y hy
  ·exact eachL_kind l k y hy
end
def sum7 (f:Nat→Nat):Nat:=f 0+f 1+f 2+f 3+f 4+f 5+f 6
mutual
theorem each_sum1:∀(x:Sp),kinds1 x=true→sum7 (fun k=>(each1 x k).length)=many1 x
 | ⟨q,t,u,v,kids⟩,h=>by
  simp only[kinds1,Bool.and_eq_true,decide_eq_true_eq] at h;have ih:=each_sumL kids h.2;have e:∀k,(each1 ⟨q,t,u,v,kids⟩ k).length=(if q=k then 1 else 0)+(eachL kids k).length:=fun k=>by
   simp only[each1];split<;>simp;omega
  simp only[sum7,e,many1] at *;rw[←ih];have hq:q=0∨q=1∨q=2∨q=3∨q=4∨q=5∨q=6:=by omega
  rcases hq with rfl|rfl|rfl|rfl|rfl|rfl|rfl<;>simp<;>omega
theorem each_sumL:∀(l:List Sp),kindsL l=true→sum7 (fun k=>(eachL l k).length)=manyL l
 | [],_=>rfl
 | x::l,h=>by
  simp only[kindsL,Bool.and_eq_true] at h;have h1:=each_sum1 x h.1;have h2:=each_sumL l h.2;simp only[sum7,eachL,manyL,List.length_append] at *;omega
end
mutual
theorem each_none1:∀(x:Sp),kinds1 x=true→each1 x 7=[]
 | ⟨q,t,u,v,kids⟩,h=>by
  simp only[kinds1,Bool.and_eq_true,decide_eq_true_eq] at h;simp only[each1];rw[if_neg (by omega)];exact each_noneL kids h.2
theorem each_noneL:∀(l:List Sp),kindsL l=true→eachL l 7=[]
 | [],_=>rfl
 | x::l,h=>by
  simp only[kindsL,Bool.and_eq_true] at h;simp only[eachL,each_none1 x h.1,each_noneL l h.2,List.append_nil]
end
def esc:Bs→Bs
 | []=>[]
 | c::l=>if escB c=true then 92::c::esc l else c::esc l
mutual
def put1:Sp→Option Bs
 | ⟨k,t,u,v,kids⟩ =>
  if k=0 then some (esc t)
  else if k=1 then (putL kids).map fun b=>42::(b++[42])
  else if k=2 then (putL kids).map fun b=>95::(b++[95])
  else if k=3 then some (96::(t++[96]))
  else if k=4 then some (60::60::(t++[62,62]))
  else if k=5 then (if parseB (textL t u v)=some (t,u,v) then some (40::40::(textL t u v++[41,41])) else none)
  else if k=6 then (putL kids).map fun b=>94::91::(b++[93])
  else none
def putL:List Sp→Option Bs
 | []=>some []
 | x::l=>(put1 x).bind fun a=>(putL l).map fun b=>a++b
end
mutual
def same1:Sp→Sp→Bool
 | ⟨k,t,u,v,kids⟩,⟨k',t',u',v',kids'⟩=>k==k'&&(t==t'&&(u==u'&&(v==v'&&sameL kids kids')))
def sameL:List Sp→List Sp→Bool
 | [],[]=>true
 | x::l,y::m=>same1 x y&&sameL l m
 | _,_=>false
end
theorem step_esc {s:Bs}{i:Nat} (st:Pst) (hi:i+1<s.length) (h:s.getD i 0=92) (he:escB (s.getD (i+1) 0)=true):st.step s i=(st.write [s.getD (i+1) 0],i+2):=by
 unfold Pst.step;rw[if_pos ⟨h,hi,he⟩]
mutual
theorem same1_eq:∀(x y:Sp),same1 x y=true↔x=y
 | ⟨k,t,u,v,kids⟩,⟨k',t',u',v',kids'⟩=>by
  simp only[same1,Bool.and_eq_true,beq_iff_eq,Sp.mk.injEq,sameL_eq kids kids']
theorem sameL_eq:∀(l m:List Sp),sameL l m=true↔l=m
 | [],[]=>by simp[sameL]
 | [],y::m=>by simp[sameL]
 | x::l,[]=>by simp[sameL]
 | x::l,y::m=>by
  simp only[sameL,Bool.and_eq_true,same1_eq x y,sameL_eq l m,List.cons.injEq]
end
end Go.Bd
namespace Go.Proofs.YtkkebmciiiajeaaGreatDoor
open Go.RowKit Go.Bd
theorem Bld.later {B b:Nat}{l:Bs}{w w':World} (h:Bld B b l w) (hb:Below w.heap.size w w'):Bld B b l w':=by
 have st:∀p,Lib.BuilderAt 109 5 B b p (Lib.byteCells l) w→Lib.BuilderAt 109 5 B b p (Lib.byteCells l) w':=fun p h=>by
  obtain⟨h1,v,h2,h3,h4⟩:=h;exact⟨h1,v,(hb.block b (Array.getElem?_eq_some_iff.1 h2).1).trans h2,(Chg.below hb (fun _=>False)).owns h3 (fun _ _ h=>h),h4⟩
 rcases h with h|h
 ·exact .inl (st _ h)
 ·exact .inr (st _ h)
theorem Bld.lt {B b:Nat}{l:Bs}{w:World} (h:Bld B b l w):B≤b∧b<w.heap.size:=by
 rcases h with h|h
 ·exact⟨h.1,h.lt⟩
 ·exact⟨h.1,h.lt⟩
theorem Bld.fresh (w:World):Bld w.heap.size w.heap.size [] (w.alloc (.cells #[.pointer none,.slice none 0 0] 109)):=Lib.fresh_isBuilder _ _ _
end Go.Proofs.YtkkebmciiiajeaaGreatDoor
namespace Go.Bd
open Go.RowKit
theorem Forest.at {w:World}{F:Nat→Prop}{A:Option Addr}{c n:Nat}{l:List Sp} (h:Forest w F (.slice A n c) l){j:Nat}{x:Sp} (hx:l[j]? = some x):∃b off kA kc,A=some ⟨b,off,none⟩∧F b∧Forest w F (.slice kA x.kids.length kc) x.kids ∧
  w.cell? ⟨b,off+j*5,none⟩=some (.int .u8 (x.kind:Int))∧w.cell? ⟨b,off+j*5+1,none⟩=some (.string ⟨x.text.toArray⟩)∧w.cell? ⟨b,off+j*5+2,none⟩=some (.string ⟨x.sub.toArray⟩)∧w.cell? ⟨b,off+j*5+3,none⟩=some (.string ⟨x.see.toArray⟩)∧w.cell? ⟨b,off+j*5+4,none⟩=some (.slice kA x.kids.length kc):=by
 obtain⟨A',c',e,_,hh⟩:=h.form;injection e with e1 e2 e3
 subst e1;obtain⟨b,off,kv,h1,h2,h3,h4⟩:=hh j x hx;obtain⟨kA,kc,rfl,_⟩:=h3.form;exact⟨b,off,kA,kc,h1,h2,h3,h4⟩
theorem Forest.len {w:World}{F:Nat→Prop}{v:Value}{l:List Sp} (h:Forest w F v l):∃A c,v=.slice A l.length c∧l.length≤c:=by
 obtain⟨A,c,e,hc,_⟩:=h.form;exact⟨A,c,e,hc⟩
theorem many_get:∀{l:List Sp}{j:Nat}{x:Sp},l[j]? = some x→1+manyL x.kids≤manyL l
 | [],_,_,h=>by simp at h
 | y::l,0,x,h=>by
  simp at h;subst h;obtain⟨k,t,u,v,ks⟩:=y;simp only[manyL,many1];omega
 | y::l,j+1,x,h=>by
  have:=many_get (l:=l) (j:=j) (by simpa using h)
  simp only[manyL];omega
theorem many_len:∀l:List Sp,l.length≤manyL l
 | []=>Nat.zero_le _
 | ⟨k,t,u,v,ks⟩::l=>by
  have:=many_len l
  simp only[manyL,many1,List.length_cons];omega
theorem say1_eq (x:Sp):say1 x=if x.kind=0∨x.kind=3∨x.kind=4∨x.kind=5 then x.text else if x.kind=1∨x.kind=2 then sayL x.kids else []:=by
 obtain⟨k,t,u,v,ks⟩:=x;simp only[say1]
theorem sayL_take {l:List Sp}{k:Nat}{x:Sp} (h:l[k]? = some x):sayL (l.take (k+1))=sayL (l.take k)++say1 x:=by
 rw[List.take_add_one,h,sayL_app];simp[sayL]
theorem sayL_le {l:List Sp}{k:Nat}{x:Sp} (h:l[k]? = some x):(sayL (l.take k)).length+(say1 x).length≤(sayL l).length:=by
 have e:l=l.take (k+1)++l.drop (k+1):=(List.take_append_drop _ _).symm
 conv=>rhs;rw[e,sayL_app,sayL_take h]
 simp only[List.length_append];omega
end Go.Bd
namespace Go.Proofs.YtkkebmciiiajeaaGreatDoor
open Go.RowKit Go.Bd
theorem say_any:∀(N:Nat) (l:List Sp),manyL l≤N→manyL l≤1000000000→∀(v:Value) (w:World) (B b:Nat) (acc:Bs),Forest w (· < B) v l→Bld B b acc w→acc.length+(sayL l).length≤1000000000000 →
  Calls Tryz.prog 42 #[.pointer (some ⟨b,0,none⟩),v] w fun e w'=>e=.returned (.tuple #[])∧Bld B b (acc++sayL l) w'∧Below B w w':=by
 intro N
 induction N with
 | zero =>
  intro l hN hm v w B b acc hF hI hL;have hl:l=[]:=List.eq_nil_of_length_eq_zero (by have:=many_len l;omega);subst hl;obtain⟨A,c,rfl,hc⟩:=hF.len;have HI:=Lib.hid hI;clear hF hI
  go_enter Tryz.func42,Tryz.ntmps42
  go_wp2
  go_loop [8] (fun i=>i=.int .i64 0) (fun _=>0)
  case atStart=>rfl
  case round =>
   obtain rfl:=hrel;go_wp2
   go_end0
   exact⟨rfl,by simpa [sayL] using HI.out,Below.refl _ _⟩
 | succ N ih =>
  intro l hN hm v w B b acc hF hI hL;obtain⟨A,c,rfl,hc⟩:=hF.len;have hlm:=many_len l;have HF:=Lib.hid hF;have HI:=Lib.hid hI;have HIH:=Lib.hid ih;obtain⟨hbB,hbw⟩:=hI.lt;clear hF hI ih;obtain⟨n,hn⟩:∃n,l.length=n:=⟨_,rfl⟩;have HN:=Lib.hid hn;simp only[hn] at hc hlm HF ⊢;clear hn
  go_enter Tryz.func42,Tryz.ntmps42
  go_wp2
  go_loopg [8] n (fun q i wr=>∃k:Nat,k+q=n∧i=.int .i64 (k:Int)∧Hid (Bld B b (acc++sayL (l.take k)) wr∧Below B w wr))
  case atStart=>exact⟨0,by omega,rfl,by simpa [sayL] using HI.out,Below.refl _ _⟩
  case round =>
   obtain⟨k,hk,rfl,HR⟩:=hrel
   by_cases hlt:k<n
   ·obtain⟨x,hx⟩:∃x,l[k]? = some x:=⟨_,List.getElem?_eq_getElem (by rw[HN.out];exact hlt)⟩;obtain⟨b1,off,kA,kc,rfl,hb1,hkF,p0,p1,p2,p3,p4⟩:=HF.out.at hx;have hbl:=HR.out.2
    replace p0:=(hbl.cell (p:=⟨b1,off+k*5,none⟩) hb1).trans p0
    replace p1:=(hbl.cell (p:=⟨b1,off+k*5+1,none⟩) hb1).trans p1
    replace p2:=(hbl.cell (p:=⟨b1,off+k*5+2,none⟩) hb1).trans p2
    replace p3:=(hbl.cell (p:=⟨b1,off+k*5+3,none⟩) hb1).trans p3
    replace p4:=(hbl.cell (p:=⟨b1,off+k*5+4,none⟩) hb1).trans p4
    have hgt:=many_get hx;have hsl:=sayL_le hx;have HTK:=Lib.hid (sayL_take hx);have HKF:=Lib.hid (hkF.under hbl (fun _ h=>h));have HS1:=Lib.hid (say1_eq x);clear hx hkF hbl;have hrb:=HR.out.2.size
    rcases (show x.kind=0∨x.kind=3∨x.kind=4∨x.kind=5∨x.kind=1∨x.kind=2∨(x.kind≠0∧x.kind≠3∧x.kind≠4∧x.kind≠5∧x.kind≠1∧x.kind≠2) by omega) with h0|h0|h0|h0|h0|h0|h0
    focus
     replace p0:wr.cell? ⟨b1,off+k*5,none⟩=some (.int .u8 0):=by rw[p0,h0];rfl
    rotate_left
    focus
     replace p0:wr.cell? ⟨b1,off+k*5,none⟩=some (.int .u8 3):=by rw[p0,h0];rfl
    rotate_left
    focus
     replace p0:wr.cell? ⟨b1,off+k*5,none⟩=some (.int .u8 4):=by rw[p0,h0];rfl
    rotate_left
    focus
     replace p0:wr.cell? ⟨b1,off+k*5,none⟩=some (.int .u8 5):=by rw[p0,h0];rfl
    rotate_left
    ·replace p0:wr.cell? ⟨b1,off+k*5,none⟩=some (.int .u8 1):=by rw[p0,h0];rfl
     have e1:say1 x=sayL x.kids:=by rw[HS1.out,if_neg (by omega),if_pos (by omega)]
     have hx1:(say1 x).length=(sayL x.kids).length:=by rw[e1]
     have E1:=Lib.hid e1;clear e1 h0
     go_wp2_with fail
     have hal:=(Below.refl B wr).alloc (by omega) (.cells #[.int .u8 1,.string ⟨x.text.toArray⟩,.string ⟨x.sub.toArray⟩,.string ⟨x.see.toArray⟩,.slice kA x.kids.length kc] 138);refine (HIH.out x.kids (by omega) (by omega) _ _ B b (acc++sayL (l.take k)) (HKF.out.under hal (fun _ h=>h)) (HR.out.1.later ((Below.refl _ _).alloc (Nat.le_refl _) _)) (by rw[List.length_append];omega)).mono ?_;clear hal;rintro e w2 ⟨rfl,hI2,hb2⟩;have HI2:=Lib.hid hI2;have HB2:=Lib.hid ((HR.out.2.alloc (by omega) _).trans hb2);clear hI2 hb2;go_wp2
     go_roundg (gk-1)
     case measure=>omega
     case rel=>exact⟨k+1,by omega,by go_num,by rw[HTK.out,E1.out,←List.append_assoc];exact HI2.out,HB2.out⟩
    ·replace p0:wr.cell? ⟨b1,off+k*5,none⟩=some (.int .u8 2):=by rw[p0,h0];rfl
     have e1:say1 x=sayL x.kids:=by rw[HS1.out,if_neg (by omega),if_pos (by omega)]
     have hx1:(say1 x).length=(sayL x.kids).length:=by rw[e1]
     have E1:=Lib.hid e1;clear e1 h0
     go_wp2_with fail
     have hal:=(Below.refl B wr).alloc (by omega) (.cells #[.int .u8 2,.string ⟨x.text.toArray⟩,.string ⟨x.sub.toArray⟩,.string ⟨x.see.toArray⟩,.slice kA x.kids.length kc] 138);refine (HIH.out x.kids (by omega) (by omega) _ _ B b (acc++sayL (l.take k)) (HKF.out.under hal (fun _ h=>h)) (HR.out.1.later ((Below.refl _ _).alloc (Nat.le_refl _) _)) (by rw[List.length_append];omega)).mono ?_;clear hal;rintro e w2 ⟨rfl,hI2,hb2⟩;have HI2:=Lib.hid hI2;have HB2:=Lib.hid ((HR.out.2.alloc (by omega) _).trans hb2);clear hI2 hb2;go_wp2
     go_roundg (gk-1)
     case measure=>omega
     case rel=>exact⟨k+1,by omega,by go_num,by rw[HTK.out,E1.out,←List.append_assoc];exact HI2.out,HB2.out⟩
    ·obtain⟨z0,z3,z4,z5,z1,z2⟩:=h0;have e1:say1 x=[]:=by rw[HS1.out,if_neg (by omega),if_neg (by omega)]
     have E1:=Lib.hid e1;have t0:((x.kind:Int)==0)=false:=by rw[beq_eq_false_iff_ne];omega
     have t3:((x.kind:Int)==3)=false:=by rw[beq_eq_false_iff_ne];omega
     have t4:((x.kind:Int)==4)=false:=by rw[beq_eq_false_iff_ne];omega
     have t5:((x.kind:Int)==5)=false:=by rw[beq_eq_false_iff_ne];omega
     have t1:((x.kind:Int)==1)=false:=by rw[beq_eq_false_iff_ne];omega
     have t2:((x.kind:Int)==2)=false:=by rw[beq_eq_false_iff_ne];omega
     clear e1;go_wp2
     go_roundg (gk-1)
     case measure=>omega
     case rel=>exact⟨k+1,by omega,by go_num,by rw[HTK.out,E1.out,List.append_nil];exact HR.out.1.later ((Below.refl _ _).alloc (Nat.le_refl _) _),HR.out.2.alloc (by omega) _⟩
    all_goals
     have e1:say1 x=x.text:=by rw[HS1.out,if_pos (by omega)]
     have hx1:(say1 x).length=x.text.length:=by rw[e1]
     have E1:=Lib.hid e1;clear e1 h0
     go_wp2_with fail
     refine (bld_write B b (acc++sayL (l.take k)) ⟨x.text.toArray⟩ _ (HR.out.1.later ((Below.refl _ _).alloc (Nat.le_refl _) _)) (by rw[List.length_append,size_mk];omega) (by simp;omega)).mono ?_;rintro e w2 ⟨rfl,hI2,hb2⟩;have HI2:=Lib.hid hI2;have HB2:=Lib.hid ((HR.out.2.alloc (by omega) _).trans hb2);clear hI2 hb2;go_wp2
     go_roundg (gk-1)
     case measure=>omega
     case rel=>exact⟨k+1,by omega,by go_num,by rw[HTK.out,E1.out,←List.append_assoc];exact HI2.out,HB2.out⟩
   ·obtain rfl:k=n:=by omega
    go_wp2
    go_end0
    refine⟨rfl,?_,HR.out.2⟩;have h1:=HR.out.1;rw[List.take_of_length_le (by rw[HN.out];exact Nat.le_refl _)] at h1;exact h1
theorem Plain_any (l:List Sp) (hm:manyL l≤1000000000) (hL:(sayL l).length≤1000000000) (v:Value) (w:World) (hF:Forest w (· < w.heap.size) v l) :
  Calls Tryz.prog 19 #[v] w fun e w'=>e=.returned (.string ⟨(sayL l).toArray⟩)∧Below w.heap.size w w':=by
 obtain⟨A,c,rfl,hc⟩:=hF.len;have cs:=say_any _ l (Nat.le_refl _) hm _ _ w.heap.size w.heap.size [] (hF.under ((Below.refl w.heap.size w).alloc (Nat.le_refl _) (.cells #[.pointer none,.slice none 0 0] 109)) (fun _ h=>h)) (Bld.fresh w) (by simp;omega);generalize l.length=n at *;clear hF
 go_enter Tryz.func19,Tryz.ntmps19
 go_wp2_with fail
 refine cs.mono ?_;clear cs;rintro e w2 ⟨rfl,hI2,hb2⟩;have hbs:=hb2.size;have cb:=bld_string w.heap.size w.heap.size _ w2 hI2 (by simp at hbs;omega);have HB2:=Lib.hid (((Below.refl w.heap.size w).alloc (Nat.le_refl _) (.cells #[.pointer none,.slice none 0 0] 109)).trans hb2);clear hI2 hb2 hbs
 go_wp2_with (go_at_call 43;refine cb.mono ?_;clear cb;rintro e w3 ⟨rfl,hb3⟩)
 go_ret
 exact⟨rfl,HB2.out.trans hb3⟩
end Go.Proofs.YtkkebmciiiajeaaGreatDoor
namespace Go.Proofs.YtkkebmciiiajeaaGreatDoor
open Go.RowKit Go.Bd Go.Shelf
abbrev BldF (B b:Nat) (l:Bs) (w:World):Prop:=Lib.IsBuilderF 109 5 B b (Lib.byteCells l) w
abbrev Kept (b:Nat) (w w':World):Prop:=Lib.OthersKept 5 (some b) w w'
theorem bldK_write (B b:Nat) (l:Bs) (s:ByteArray) (w:World) (h:BldF B b l w) (hlen:l.length+s.size≤140737488355328) (hBw:B≤w.heap.size) :
  Calls Tryz.prog 80 #[.pointer (some ⟨b,0,none⟩),.string s] w fun e w'=>e=.returned (.tuple #[.int .i64 s.size,.nilIface])∧BldF B b (l++s.data.toList) w'∧Below B w w'∧Kept b w w' :=
 (Any.Builder_WriteString_k (ρ:=bldRen) bldLays166 bldExtra B b _ s w h (by rw[Lib.byteCells_length];exact hlen) hBw).mono fun _ _ ⟨h1,h2,h3,h4⟩=>⟨h1,by unfold BldF;rw[Lib.byteCells,List.map_append];exact .inr h2,h3,h4⟩
theorem bldK_byte (B b:Nat) (l:Bs) (c:UInt8) (w:World) (h:BldF B b l w) (hlen:l.length+1≤140737488355328) (hBw:B≤w.heap.size) :
  Calls Tryz.prog 120 #[.pointer (some ⟨b,0,none⟩),.int .u8 (c.toNat:Int)] w fun e w'=>e=.returned .nilIface∧BldF B b (l++[c]) w'∧Below B w w'∧Kept b w w' :=
 (Any.Builder_WriteByte_k (ρ:=bldRen) bldLays167 bldExtra B b _ (c.toNat:Int) w h (by rw[Lib.byteCells_length];exact hlen) hBw).mono fun _ _ ⟨h1,h2,h3,h4⟩=>⟨h1,by unfold BldF;rw[Lib.byteCells,List.map_append];exact .inr h2,h3,h4⟩
theorem bldF_string (B b:Nat) (l:Bs) (w:World) (h:BldF B b l w) (hBw:B≤w.heap.size) :
  Calls Tryz.prog 43 #[.pointer (some ⟨b,0,none⟩)] w fun e w'=>e=.returned (.string ⟨l.toArray⟩)∧Below B w w' :=
 (Tryz.Builder_String_any_f B b l w h hBw).mono fun _ _ ⟨h1,_,h3⟩=>⟨h1,h3⟩
theorem bldF_stringK (B b:Nat) (l:Bs) (w:World) (h:BldF B b l w) (hBw:B≤w.heap.size) :
  Calls Tryz.prog 43 #[.pointer (some ⟨b,0,none⟩)] w fun e w'=>e=.returned (.string ⟨l.toArray⟩)∧BldF B b l w'∧Below B w w'∧Kept b w w' :=
 (Any.Builder_String_any_k Tryz.lays169 Tryz.Builder_Extra_169 B b l w h hBw).mono fun _ _ ⟨h1,h2,h3,h4⟩=>⟨h1,h2,h3,h4⟩
theorem BldF.fresh (w:World):BldF w.heap.size w.heap.size [] (w.alloc (.cells #[.pointer none,.slice none 0 0] 109)):=Lib.IsBuilderF.of (Lib.fresh_isBuilder _ _ _)
theorem ownsF_later {B n sz:Nat}{e:TypeId}{v:Value}{xs:List Value}{w w':World} (h:w.ownsRowF B e sz v n xs) (hb:Below w.heap.size w w'):w'.ownsRowF B e sz v n xs:=by
 refine⟨h.1,?_⟩
 rcases h.2 with h1|h1
 ·exact .inl h1
 ·refine .inr ?_;obtain⟨g,cap,cur,r⟩:=h1;have hlt:g<w.heap.size:=by
   obtain⟨_,_,r⟩:=r
   first
    | (obtain⟨z,hh,_⟩:=r;exact (Array.getElem?_eq_some_iff.1 hh).1)
    | (obtain⟨hh,_⟩:=r;exact (Array.getElem?_eq_some_iff.1 hh).1)
  refine⟨g,cap,cur,?_⟩;rw[hb.block g hlt];exact r
theorem BldF.later {B b:Nat}{l:Bs}{w w':World} (h:BldF B b l w) (hb:Below w.heap.size w w'):BldF B b l w':=by
 have st:∀p,Lib.BuilderAtF 109 5 B b p (Lib.byteCells l) w→Lib.BuilderAtF 109 5 B b p (Lib.byteCells l) w':=fun p h=>by
  obtain⟨h1,v,h2,h3,h4⟩:=h;exact⟨h1,v,(hb.block b (Array.getElem?_eq_some_iff.1 h2).1).trans h2,ownsF_later h3 hb,h4⟩
 rcases h with h|h
 ·exact .inl (st _ h)
 ·exact .inr (st _ h)
theorem BldF.lt {B b:Nat}{l:Bs}{w:World} (h:BldF B b l w):B≤b∧b<w.heap.size:=by
 rcases h with ⟨h1,v,h2,_⟩|⟨h1,v,h2,_⟩<;>exact⟨h1,(Array.getElem?_eq_some_iff.1 h2).1⟩
theorem Kept.holds {b g:Nat}{t:TypeId}{cs:Array Value}{w w':World} (h:Kept b w w') (hh:Holds w g t cs) (hg:g≠b) (ht:t≠5):Holds w' g t cs :=
 h g _ hh (fun e=>hg (by injection e)) (fun c fz e=>by injection e with _ e2 _;exact ht e2)
end Go.Proofs.YtkkebmciiiajeaaGreatDoor
namespace Go.Bd
open Go.RowKit
theorem join_snoc (x y sep:Bs) (r:List Bs):Lib.join (x::r++[y]) sep=Lib.join (x::r) sep++(sep++y):=by
 rw[List.cons_append,Lib.join_cons,Lib.join_cons];simp[Lib.joinTail]
def codeN (ls:List Ln) (pos:Nat):Nat:=untilN (fun t=>t==fenceL) (ls.drop pos)
def codeT (ls:List Ln) (pos:Nat):List Bs:=((ls.drop pos).take (codeN ls pos)).map (fun x=>x.text.data.toList)
end Go.Bd
namespace Go.Proofs.YtkkebmciiiajeaaGreatDoor
open Go.RowKit Go.Bd
theorem bcode_any {w:World}{O F L:Nat→Prop}{rb:Nat}{lv:Value}{pos:Nat}{bv:Value}{bs:List Bl}{dv:Value}{ds:List Dg} (h:Rdr w O F rb lv pos bv bs dv ds){ls:List Ln} (hL:LinesAt w L lv ls) (hLO:∀k,L k→¬O k) (hLl:∀k,L k→k<w.heap.size)
  (hsz:∀x∈ls,x.text.size≤100000000) (hp:pos≤ls.length) (hn:ls.length≤1000000) (f t:ByteArray) (no:Int) (s:ByteArray) (hl:bs.length≤1000000000) (hd:ds.length+1≤1000000000) :
  Calls Tryz.prog 76 #[.pointer (some ⟨rb,0,none⟩),.agg #[.string f,.int .i64 no,.string t],.string s] w fun e w'=>e=.returned (.tuple #[])∧∃O' bv' dv',Rdr w' O' F rb lv (if pos+codeN ls pos<ls.length then pos+codeN ls pos+1 else pos+codeN ls pos) bv' (bs++[⟨4,0,false,⟨#[]⟩,⟨(Lib.join (codeT ls pos) [10]).toArray⟩,[],[],f,no⟩]) dv' (ds++(if pos+codeN ls pos<ls.length then [] else [⟨f,no,4,s⟩]))∧Turn w w' O F O' F:=by
 have hB1:Below w.heap.size w (w.alloc (.cells #[.string f,.int .i64 no,.string t] 98)):=(Below.refl _ w).alloc (Nat.le_refl _) _;have h1:=h.below hB1;have hX:=Holds.new w 98 #[.string f,.int .i64 no,.string t];have hL1:=hL.chg (Chg.below hB1 (fun _=>False)) (fun _ _ h=>h);have hT1:Turn w (w.alloc (.cells #[.string f,.int .i64 no,.string t] 98)) O F O F:=⟨Chg.below hB1 O,fun _ h=>.inl h,fun _ h=>.inl h,fun _ h=>h⟩;have hLl1:∀k,L k→k<(w.alloc (.cells #[.string f,.int .i64 no,.string t] 98)).heap.size:=fun k hk=>by have:=hLl k hk;simp;omega
 obtain⟨n,hn1⟩:∃n,w.heap.size=n:=⟨_,rfl⟩;rw[hn1] at hX;obtain⟨W1,hW1⟩:∃W1,w.alloc (.cells #[.string f,.int .i64 no,.string t] 98)=W1:=⟨_,rfl⟩;rw[hW1] at h1 hX hL1 hLl1 hT1;have CU:=until_any h1 hL1 hLO hLl1 hsz hp hn 119 enter_code (fun t=>t==fenceL) code1_any;unfold codeT;unfold codeN;obtain⟨kk,hkk⟩:∃kk,untilN (fun t=>t==fenceL) (ls.drop pos)=kk:=⟨_,rfl⟩;have hkl:pos+kk≤ls.length:=by have:=untilN_le (fun t=>t==fenceL) (ls.drop pos);rw[List.length_drop] at this;omega
 rw[hkk] at CU ⊢;obtain⟨mid,hmid⟩:∃mid,(ls.drop pos).take kk=mid:=⟨_,rfl⟩;have hml:mid.length=kk:=by rw[←hmid,List.length_take,List.length_drop];omega
 have hms:∀x∈mid,x.text.size≤100000000:=fun x hx=>hsz x (List.mem_of_mem_drop (List.mem_of_mem_take (hmid ▸ hx)))
 rw[hmid] at CU ⊢;have hnO:¬O n:=fun e=>by have:=h.ltO n e;omega
 obtain⟨D,hD⟩:∃D:List Dg,(if pos+kk<ls.length then [] else [⟨f,no,4,s⟩])=D:=⟨_,rfl⟩;obtain⟨P3,hP3⟩:∃P3:Nat,(if pos+kk<ls.length then pos+kk+1 else pos+kk)=P3:=⟨_,rfl⟩;rw[hD,hP3];obtain⟨J,hJ⟩:∃J:Bs,Lib.join (mid.map (fun x=>x.text.data.toList)) [10]=J:=⟨_,rfl⟩;rw[hJ];have HX:=hidH3 hX hT1 hn1;have HL:=hidH3 hLl1 hLO hms;have HJ:=Lib.hid hJ;clear h h1 hX hL hL1 hLl hLl1 hLO hB1 hT1 hkk hmid hsz hms hJ
 go_enter Tryz.func76,Tryz.ntmps76
 go_wp2_with fail
 refine CU.mono ?_;clear CU;rintro e W2 ⟨v,rfl,hL2,hr2,ht2⟩
 (try rw[hn1])
 clear hW1 hn1;obtain⟨A,c,rfl,hcl⟩:∃A c,v=.slice A mid.length c∧mid.length≤c:=by
  obtain⟨A,c,h1,h2,_⟩:=hL2;exact⟨A,c,h1,h2⟩
 have hX2:=ht2.chg.holds hnO HX.out.1;obtain⟨d0,d1,d2⟩:=cells3 hX2;have HQ:=hidH4 hL2 hr2 (HX.out.2.1.trans ht2) hX2;have HW1:=Lib.hid ht2.chg.size
 by_cases hlt:pos+kk<ls.length
 focus
  have hdt:decide (pos+kk<ls.length)=true:=decide_eq_true hlt;rw[if_pos hlt] at hD hP3;rw[hdt];have p1:=hr2.hold.cell 1;have f1:=hr2.hold.free 1;simp at p1;have HS:Hid (Rdr (W2.setCell ⟨rb,1,none⟩ (.int .i64 ((pos+kk+1:Nat):Int))) O F rb lv P3 bv bs dv (ds++D)∧Turn w (W2.setCell ⟨rb,1,none⟩ (.int .i64 ((pos+kk+1:Nat):Int))) O F O F):=Lib.hid ⟨by rw[←hD,List.append_nil,←hP3];exact hr2.moved _,HQ.out.2.2.1.trans (hr2.turn _)⟩;clear hL2 hr2 ht2 hX2 hdt
  go_wp2_with fail
  have hrO:=(HS.out.1).oR;have hLr:∀k,L k→¬k=rb:=fun k hk e=>HL.out.2.1 k hk (e ▸ hrO)
  have hX3:=HQ.out.2.2.2.far (p:=⟨rb,1,none⟩) (fun e=>hnO (e ▸ hrO)) (.int .i64 ((pos+kk+1:Nat):Int));have hL3:LinesAt (W2.setCell ⟨rb,1,none⟩ (.int .i64 ((pos+kk+1:Nat):Int))) L _ _:=HQ.out.1.chg (Chg.set W2 ⟨rb,1,none⟩ (.int .i64 ((pos+kk+1:Nat):Int))) hLr;have hs3:W1.heap.size≤(W2.setCell ⟨rb,1,none⟩ (.int .i64 ((pos+kk+1:Nat):Int))).heap.size:=by have:=HW1.out;simp;omega
  have hsz3:W2.heap.size=(W2.setCell ⟨rb,1,none⟩ (.int .i64 ((pos+kk+1:Nat):Int))).heap.size:=by simp
  obtain⟨W3,hW3⟩:∃W3,W2.setCell ⟨rb,1,none⟩ (.int .i64 ((pos+kk+1:Nat):Int))=W3:=⟨_,rfl⟩;rw[hW3] at HS hX3 hL3 hs3 hsz3;rw[hsz3];have e1:((pos:Int)+(kk:Int)+1)=((pos+kk+1:Nat):Int):=by omega
  (try rw[e1])
  rw[hW3];clear hW3 hsz3 e1 d0 d1 d2 p1 f1 hD hP3 hlt hrO hLr;obtain⟨O1,dv1,hnO1,HS⟩:∃(O1:Nat→Prop) (dv1:Value),¬O1 n∧Hid (Rdr W3 O1 F rb lv P3 bv bs dv1 (ds++D)∧Turn w W3 O F O1 F):=⟨O,dv,hnO,HS⟩
 rotate_left
 focus
  have hdt:decide (pos+kk<ls.length)=false:=decide_eq_false hlt;rw[if_neg hlt] at hD hP3;rw[hdt];have CF:=fault_any hr2 f t no 4 s (by omega);have e4:((4:Nat):Int)=4:=rfl;rw[e4] at CF;clear e4 hL2 hr2 ht2 hdt;have hn2:=hX2.lt
  go_wp2_with fail
  refine CF.mono ?_;clear CF;rintro e W3 ⟨rfl,O1,dv1,hr3,ht3⟩;have hnO1:¬O1 n:=ht3.offO hn2 hnO;have hX3:=ht3.chg.holds hnO HQ.out.2.2.2;have hL3:LinesAt W3 L _ _:=HQ.out.1.chg ht3.chg HL.out.2.1;have hs3:W1.heap.size≤W3.heap.size:=by have:=HW1.out;have:=ht3.chg.size;omega
  have HS:Hid (Rdr W3 O1 F rb lv P3 bv bs dv1 (ds++D)∧Turn w W3 O F O1 F):=Lib.hid ⟨by rw[←hD,←hP3];exact hr3,HQ.out.2.2.1.trans ht3⟩;clear hr3 ht3 d0 d1 d2 hX2 hD hP3 hlt
  go_wp2_with fail
 rotate_left
 all_goals
  have HG:=hidH3 hX3 hL3 hs3;clear hX3 hL3 hs3;have hbl0:=BldF.fresh W3;obtain⟨B,hB⟩:∃B,W3.heap.size=B:=⟨_,rfl⟩;rw[hB] at hbl0 ⊢;have hbb:Below B W3 (W3.alloc (.cells #[.pointer none,.slice none 0 0] 109)):=hB ▸ (Below.refl _ W3).alloc (Nat.le_refl _) _;have HB0:=hidH2 hbl0 hbb;have HBB:=Lib.hid hB;clear hbl0 hbb hB
  go_loopg [9,10,30] kk (fun q va vx vi wr=>∃k:Nat,k+q=kk∧vi=.int .i64 (k:Int)∧Hid (BldF B B (Lib.join ((mid.take k).map (fun x=>x.text.data.toList)) [10]) wr∧Below B W3 wr∧(Lib.join ((mid.take k).map (fun x=>x.text.data.toList)) [10]).length≤k*100000001))
  case atStart=>exact⟨0,by omega,rfl,HB0.out.1,HB0.out.2,by simp[Lib.join_nil]⟩
  case round =>
   obtain⟨k,hk,rfl,HK⟩:=hrel;have hBw:B<wr.heap.size:=(HK.out.1.lt).2
   by_cases hlt:k<kk
   ·obtain⟨x,hx⟩:∃x,mid[k]? = some x:=⟨_,List.getElem?_eq_getElem (by omega)⟩;obtain⟨b,off,c1,hA,_,hb,l0,l1,l2⟩:=HG.out.2.1.at hx;obtain⟨rfl,rfl⟩:A=some ⟨b,off,none⟩∧c=c1:=by cases hA;exact⟨rfl,rfl⟩
    have hxs:=HL.out.2.2 x (List.mem_of_getElem? hx);have hbB:b<B:=by have:=HL.out.1 b hb;have:=HG.out.2.2;have:=HBB.out;omega
    replace l0:=(HK.out.2.1.cell (p:=⟨b,off+k*3,none⟩) hbB).trans l0
    replace l1:=(HK.out.2.1.cell (p:=⟨b,off+k*3+1,none⟩) hbB).trans l1
    replace l2:=(HK.out.2.1.cell (p:=⟨b,off+k*3+2,none⟩) hbB).trans l2
    have htk:(mid.take (k+1)).map (fun x=>x.text.data.toList)=(mid.take k).map (fun x=>x.text.data.toList)++[x.text.data.toList]:=by rw[List.take_add_one,hx];simp
    have hxz:x.text.data.toList.length=x.text.size:=by simp
    have HTK:=hidH2 htk hxz;have hbox:=HK.out.1.later ((Below.refl _ wr).alloc (Nat.le_refl _) (.cells #[.string x.file,.int .i64 x.no,.string x.text] 98));have hbbx:Below B W3 (wr.alloc (.cells #[.string x.file,.int .i64 x.no,.string x.text] 98)):=HK.out.2.1.alloc (by have:=HK.out.2.1.size;have:=HBB.out;omega) _;have hlen:=HK.out.2.2;have HXB:=hidH3 hbox hbbx hlen;clear hA htk hxz hx hbox hbbx hlen
    by_cases hk0:k=0
    ·subst hk0;simp only[Nat.zero_mul,Nat.add_zero] at l0 l1 l2
     go_wp2_with fail
     refine (bldK_write B B _ x.text _ HXB.out.1 (by have:=HXB.out.2.2;omega) (by simp;omega)).mono ?_;rintro e w2 ⟨rfl,hI2,hb2,hkp2⟩;have HI2:=Lib.hid hI2;have HB2:=Lib.hid (HXB.out.2.1.trans hb2);clear hI2 hb2;go_wp2
     go_roundg (gk-1)
     case measure=>omega
     case rel =>
      refine⟨0+1,by omega,by go_num,?_,HB2.out,?_⟩
      ·rw[HTK.out.1];simpa [Lib.join_one,Lib.join_nil] using HI2.out
      ·rw[HTK.out.1];simp[Lib.join_one];have:=HTK.out.2
       omega
    ·have hk1:(0:Int)<(k:Int):=by omega
     have htk:Lib.join ((mid.take (k+1)).map (fun x=>x.text.data.toList)) [10]=Lib.join ((mid.take k).map (fun x=>x.text.data.toList)) [10]++([10]++x.text.data.toList):=by
      rw[HTK.out.1];obtain⟨y,r,hyr⟩:∃y r,(mid.take k).map (fun x=>x.text.data.toList)=y::r:=by
       cases hm:(mid.take k).map (fun x=>x.text.data.toList) with
       | nil=>simp at hm;rcases hm with hm|hm
              ·omega
              ·rw[hm] at hml;simp at hml;omega
       | cons y r=>exact⟨y,r,rfl⟩
      rw[hyr];exact join_snoc _ _ _ _
     have HTJ:=Lib.hid htk;clear htk
     go_wp2_with fail
     refine (bldK_byte B B _ 10 _ HXB.out.1 (by have:=HXB.out.2.2;omega) (by simp;omega)).mono ?_;rintro e w1 ⟨rfl,hI1,hb1,hkp1⟩;have HI1:=Lib.hid hI1;have HB1:=Lib.hid (HXB.out.2.1.trans hb1);have hs1:=hI1.lt;have hbx:wr.heap.size≠B:=by omega
     have hbX:=hkp1.holds (Holds.new wr 98 #[.string x.file,.int .i64 x.no,.string x.text]) hbx (by decide);have c2:=hbX.cell 2;simp at c2;clear hI1 hb1 hkp1 hbX
     go_wp2_with fail
     refine (bldK_write B B _ x.text _ HI1.out (by have:=HXB.out.2.2;simp only[List.length_append,List.length_cons,List.length_nil];omega) (by omega)).mono ?_;rintro e w2 ⟨rfl,hI2,hb2,_⟩;have HI2:=Lib.hid hI2;have HB2:=Lib.hid (HB1.out.trans hb2);clear hI2 hb2;go_wp2
     go_roundg (gk-1)
     case measure=>omega
     case rel =>
      refine⟨k+1,by omega,by go_num,?_,HB2.out,?_⟩
      ·rw[HTJ.out,←List.append_assoc];exact HI2.out
      ·rw[HTJ.out];have h1:=HXB.out.2.2;have h2:=HTK.out.2;simp only[List.length_append,List.length_cons,List.length_nil];omega
   ·obtain rfl:k=kk:=by omega
    have hbk:=HK.out.1;rw[List.take_of_length_le (by omega),HJ.out] at hbk;have hC:Chg W3 wr (fun _=>False):=Chg.below (by rw[HBB.out];exact HK.out.2.1) _;have hnB:n<B:=by have:=HG.out.1.lt;have:=HBB.out;omega
    obtain⟨d0,d1,d2⟩:=cells3 (hC.holds (fun h=>h) HG.out.1);have HBK:=Lib.hid hbk;clear hbk hC
    go_wp2_with fail
    refine wp_region_held_drew (S:=(fun w'=>w'.cell? ⟨n,0,none⟩=some (.string f)∧w'.cell? ⟨n,1,none⟩=some (.int .i64 no)∧w'.cell? ⟨n,2,none⟩=some (.string t))) (by kernel_rfl) ?_ (fun hHeld0=>?_)
    ·(try dsimp only)
     first|exact⟨d0,d1,d2⟩|exact cells3 hX4|exact cells3 hX5
    refine tkH 0 42 ?_;refine tkH 3 45 ?_;refine rdyH [1] ?_;refine AllReadyH.cons (o:=⟨some 43,_,_,_,_,_⟩) rfl (fun K hK=>?_) AllReadyH.nil;go_simp
    first
    | refine (bldF_string B B J wr HBK.out (by omega)).mono ?_
    | refine (bldF_string B B J wr.drew (HBK.out.later (Below.refl _ wr).drew) (Nat.le_of_lt hBw)).mono ?_
    rintro e w4 ⟨rfl,hb4⟩;have hC4:Chg W3 w4 (fun _=>False):=by
     have h1:Chg W3 wr (fun _=>False):=Chg.below (by rw[HBB.out];exact HK.out.2.1) _;refine⟨?_,?_,?_,?_,?_⟩
     ·exact hb4.os.trans h1.os
     ·exact hb4.tape.trans h1.tape
     ·exact hb4.output.trans h1.output
     ·exact Nat.le_trans h1.size hb4.size
     ·intro k hk _;exact (hb4.block k (by rw[HBB.out] at hk;exact hk)).trans (h1.block k hk (fun h=>h))
    have hX4:=hC4.holds (fun h=>h) HG.out.1;have hr4:=HS.out.1.chg hC4 (fun _ _ h=>h) (fun _ _ h=>h);have ht4:Turn w w4 O F O1 F:=HS.out.2.trans ⟨hC4.mono (fun _ _ h=>h.elim),fun _ h=>.inl h,fun _ h=>.inl h,fun _ h=>h⟩;have H4:=hidH2 hr4 ht4;clear hC4 hr4 ht4 hb4;refine hK.out _ _ ?_ (fun hHeld1=>?_)
    ·(try dsimp only)
     first|exact⟨d0,d1,d2⟩|exact cells3 hX4|exact cells3 hX5
    clear hK K hHeld0
    (try go_frame)
    refine tkH 2 44 ?_;refine rdyH [4] ?_;refine AllReadyH.cons (o:=⟨some 46,_,_,_,_,_⟩) rfl (fun K hK=>?_) AllReadyH.nil;go_simp;have CA:=badd_any H4.out.1 ⟨4,0,false,⟨#[]⟩,⟨J.toArray⟩,[],[],f,no⟩ (.slice none 0 0) (.slice none 0 0) ⟨Forest.nil _ _,rows_nil _ _⟩ f t ⟨#[]⟩ no 0 hl rfl rfl;have e4:((4:Nat):Int)=4:=rfl;have e0:((0:Nat):Int)=0:=rfl;simp only[e4,e0] at CA;refine CA.mono ?_;clear CA e4 e0;rintro e w5 ⟨rfl,O3,bv3,hr5,ht5⟩;have hX5:=ht5.chg.holds hnO1 hX4;refine hK.out _ _ ?_ (fun hHeld2=>?_)
    ·(try dsimp only)
     first|exact⟨d0,d1,d2⟩|exact cells3 hX4|exact cells3 hX5
    clear hK K hHeld1
    (try go_frame)
    refine wpAnyH_done (by kernel_rfl) ?_ _;go_wp2
    go_end0
    exact⟨rfl,O3,bv3,dv1,hr5,H4.out.2.trans ht5⟩
end Go.Proofs.YtkkebmciiiajeaaGreatDoor
namespace Go.Proofs.YtkkebmciiiajeaaGreatDoor
open Go.RowKit Go.Bd
theorem note1_any {w:World}{O F:Nat→Prop}{rb:Nat}{lv:Value}{pos:Nat}{bv:Value}{bs:List Bl}{dv:Value}{ds:List Dg} (h:Rdr w O F rb lv pos bv bs dv ds){kb pb:Nat}{tk tp:TypeId}{kd:ByteArray} (hk:Holds w kb tk #[.string kd]) (hp:Holds w pb tp #[.pointer (some ⟨rb,0,none⟩)]) (hkO:¬O kb) (hpO:¬O pb) (f t:ByteArray) (no:Int) (s:ByteArray) (hs:s.size≤100000000){m:Int} (hm:Glob m w)
  (hl:bs.length≤1000000000) (hd:ds.length+(faultsOf s.data.toList).length≤1000000000) :
  Calls Tryz.prog 67 #[.agg #[.string f,.int .i64 no,.string t],.string s,.pointer (some ⟨kb,0,none⟩),.pointer (some ⟨pb,0,none⟩)] w fun e w'=>e=.returned (.bool true)∧∃O' F' bv' dv',Rdr w' O' F' rb lv pos bv' (bs++[⟨5,0,false,⟨#[]⟩,kd,spansOf s.data.toList,[],f,no⟩]) dv' (ds++(faultsOf s.data.toList).map (dgOf f no s))∧Turn w w' O F O' F':=by
 have hb12:=((Below.refl w.heap.size w).alloc (Nat.le_refl _) (.cells #[.string f,.int .i64 no,.string t] 98)).alloc (by simp) (.cells #[.int .u8 5,.int .i64 0,.bool false,.string ⟨#[]⟩,.string kd,.slice none 0 0,.slice none 0 0,.string ⟨#[]⟩,.int .i64 0] 62);have h1:=h.below hb12;have hX:=(Holds.new w 98 #[.string f,.int .i64 no,.string t]).alloc (.cells #[.int .u8 5,.int .i64 0,.bool false,.string ⟨#[]⟩,.string kd,.slice none 0 0,.slice none 0 0,.string ⟨#[]⟩,.int .i64 0] 62);have hN:=Holds.new (w.alloc (.cells #[.string f,.int .i64 no,.string t] 98)) 62 #[.int .u8 5,.int .i64 0,.bool false,.string ⟨#[]⟩,.string kd,.slice none 0 0,.slice none 0 0,.string ⟨#[]⟩,.int .i64 0];rw[World.size_alloc] at hN;have hk1:=(hk.alloc (.cells #[.string f,.int .i64 no,.string t] 98)).alloc (.cells #[.int .u8 5,.int .i64 0,.bool false,.string ⟨#[]⟩,.string kd,.slice none 0 0,.slice none 0 0,.string ⟨#[]⟩,.int .i64 0] 62);have hp1:=(hp.alloc (.cells #[.string f,.int .i64 no,.string t] 98)).alloc (.cells #[.int .u8 5,.int .i64 0,.bool false,.string ⟨#[]⟩,.string kd,.slice none 0 0,.slice none 0 0,.string ⟨#[]⟩,.int .i64 0] 62);have k0:=hk.cell 0;have kf0:=(hk.alloc (.cells #[.string f,.int .i64 no,.string t] 98)).cell 0;have pf0:=hp1.cell 0;simp at k0 kf0 pf0;have hm1:=hm.chg (Chg.below hb12 (fun _=>False)) (fun _ h=>h.elim);have hT0:Turn w _ O F O F:=⟨Chg.below hb12 O,fun _ h=>.inl h,fun _ h=>.inl h,fun _ h=>h⟩;have CS:=bspans_any h1 f t no s hs hm1 hd;have pl0:=pf0;have hkl:=hk.lt;have hpl:=hp.lt
 obtain⟨n,hn⟩:∃n,w.heap.size=n:=⟨_,rfl⟩;rw[hn] at hX hN hkl hpl;obtain⟨W1,hW1⟩:∃W1,(w.alloc (.cells #[.string f,.int .i64 no,.string t] 98)).alloc (.cells #[.int .u8 5,.int .i64 0,.bool false,.string ⟨#[]⟩,.string kd,.slice none 0 0,.slice none 0 0,.string ⟨#[]⟩,.int .i64 0] 62)=W1:=⟨_,rfl⟩;rw[hW1] at h1 hX hN hT0 hm1 hk1 hp1 pf0;have hnO:¬O n:=fun e=>by have:=h.ltO n e;omega
 have hbO:¬O (n+1):=fun e=>by have:=h.ltO (n+1) e;omega
 have hbF:¬F (n+1):=fun e=>by have:=h.ltF (n+1) e;omega
 obtain⟨d0,d1,d2⟩:=cells3 hX;have HW1:=Lib.hid hW1;have HN:=Lib.hid hn;have HR:=hidH5 h1 hT0 hX hN hp1;clear h h1 hT0 hX hN hk1 hp1 hm hm1 hb12 hk hp hW1 hn
 go_enter Tryz.func67,Tryz.ntmps67
 go_wp2_with fail
 refine CS.mono ?_;clear CS;rintro e W5 ⟨sv,O2,F2,dv2,rfl,hfo,hr5,ht5⟩;rw[HW1.out] at ht5
 (try rw[HN.out])
 clear HW1 pl0 k0 kf0;obtain⟨As,cs,rfl,_⟩:=hfo.form;have hnl:=HR.out.2.2.2.1.lt;have hX5:=ht5.chg.holds hnO HR.out.2.2.1;have hN5:=ht5.chg.holds hbO HR.out.2.2.2.1;have hp5:=ht5.chg.holds hpO HR.out.2.2.2.2;have hbO2:=ht5.offO hnl hbO;have hbF2:=ht5.offF hnl hbF;have c5:=hN5.cell 5;have x5:=hN5.free 5;have hC6:Chg W5 (W5.setCell ⟨n+1,5,none⟩ (.slice As (spansOf s.data.toList).length cs)) (fun k=>k=n+1):=Chg.set W5 ⟨n+1,5,none⟩ (.slice As (spansOf s.data.toList).length cs);have hr6:=hr5.chg hC6 (fun k hk e=>hbO2 (e ▸ hk)) (fun k hk e=>hbF2 (e ▸ hk));have hfo6:=hfo.chg hC6 (fun _ h=>h) (fun k hk e=>hbF2 (e ▸ hk));have hN6:=hN5.set 5 (.slice As (spansOf s.data.toList).length cs);have hX6:=hX5.far (p:=⟨n+1,5,none⟩) (by simp) (.slice As (spansOf s.data.toList).length cs);have hp6:=hp5.far (p:=⟨n+1,5,none⟩) (fun e=>by have e':pb=n+1:=e;omega) (.slice As (spansOf s.data.toList).length cs);simp only[List.setIfInBounds_toArray,List.set_cons_succ,List.set_cons_zero] at hN6;obtain⟨b0,b1,b2,b3,b4,b5,b6,b7,b8⟩:=cells9 hN6;obtain⟨q0,q1,q2⟩:=cells3 hX6;have r0:_=some (Value.pointer (some ⟨rb,0,none⟩)):=hp6.cell 0;have CA:=badd_any hr6 ⟨5,0,false,⟨#[]⟩,kd,spansOf s.data.toList,[],f,no⟩ (.slice As (spansOf s.data.toList).length cs) (.slice none 0 0) ⟨hfo6,rows_nil _ _⟩ f t ⟨#[]⟩ no 0 hl rfl rfl;have e5:((5:Nat):Int)=5:=rfl;have e0:((0:Nat):Int)=0:=rfl;simp only[e5,e0] at CA;have H6:=hidH2 ht5 hC6;have HNN:=Lib.hid (show w.heap.size≤n+1 from by have:=HN.out;omega);clear e5 e0 hr5 ht5 hr6 hfo6 hfo hN6 hN5 hX5 hX6 hp5 hp6 hC6 d0 d1 d2 pf0 HN
 go_wp2_with fail
 refine CA.mono ?_;clear CA;rintro e W7 ⟨rfl,O3,bv3,hr7,ht7⟩;go_wp2
 go_ret
 exact⟨rfl,O3,F2,bv3,dv2,hr7,((HR.out.2.1.trans H6.out.1).poke H6.out.2 HNN.out).trans ht7⟩
end Go.Proofs.YtkkebmciiiajeaaGreatDoor
namespace Go.Bd
open Go.RowKit
def figB (l:Bs):Bs×Bs:=if 0≤Lib.indexAny l [32,9] then (l.take (Lib.indexAny l [32,9]).toNat,dropL (l.drop (Lib.indexAny l [32,9]).toNat)) else (l,[])
end Go.Bd
namespace Go.Proofs.YtkkebmciiiajeaaGreatDoor
open Go.RowKit Go.Bd
theorem fig_none {w:World}{O F:Nat→Prop}{rb:Nat}{lv:Value}{pos:Nat}{bv:Value}{bs:List Bl}{dv:Value}{ds:List Dg} (h:Rdr w O F rb lv pos bv bs dv ds) (pb:Nat) (f t:ByteArray) (no:Int) :
  Calls Tryz.prog 70 #[.agg #[.string f,.int .i64 no,.string t],.string ⟨#[]⟩,.pointer (some ⟨pb,0,none⟩)] w fun e w'=>e=.returned (.bool false)∧Rdr w' O F rb lv pos bv bs dv ds∧Turn w w' O F O F:=by
 have hb:=(Below.refl w.heap.size w).alloc (Nat.le_refl _) (.cells #[.string f,.int .i64 no,.string t] 98);have h1:=h.below hb;have HR:=hidH2 h1 hb;clear h h1 hb
 go_enter Tryz.func70,Tryz.ntmps70
 go_wp2
 go_ret
 exact⟨rfl,HR.out.1,Chg.below HR.out.2 O,fun _ h=>.inl h,fun _ h=>.inl h,fun _ h=>h⟩
theorem fig_one {w:World}{O F:Nat→Prop}{rb:Nat}{lv:Value}{pos:Nat}{bv:Value}{bs:List Bl}{dv:Value}{ds:List Dg} (h:Rdr w O F rb lv pos bv bs dv ds){pb:Nat}{tp:TypeId} (hp:Holds w pb tp #[.pointer (some ⟨rb,0,none⟩)]) (f t:ByteArray) (no:Int) (s:ByteArray) (hs:s.size≤100000000) (hne:s≠⟨#[]⟩) (hi:Lib.indexAny s.data.toList [32,9]<0){m:Int} (hm:Glob m w) (h3:∀k,O k→3≤k)
  (hl:bs.length≤1000000000) (hd:ds.length+1+(faultsOf (titleB []).1).length≤1000000000) :
  Calls Tryz.prog 70 #[.agg #[.string f,.int .i64 no,.string t],.string s,.pointer (some ⟨pb,0,none⟩)] w fun e w'=>e=.returned (.bool true)∧∃O' F' bv' dv',Rdr w' O' F' rb lv pos bv' (bs++[titledB ⟨7,0,false,⟨#[]⟩,s,[],[],⟨#[]⟩,0⟩ f no ⟨#[]⟩]) dv' (ds++titledD f no ⟨#[]⟩)∧Turn w w' O F O' F':=by
 have hb:=(Below.refl w.heap.size w).alloc (Nat.le_refl _) (.cells #[.string f,.int .i64 no,.string t] 98);have hX:=Holds.new w 98 #[.string f,.int .i64 no,.string t];have CI:=indexAnyX_any s ⟨#[32,9]⟩ (w.alloc (.cells #[.string f,.int .i64 no,.string t] 98)) blanks_ascii (by decide) (by decide) (by omega);have e9:(⟨#[32,9]⟩:ByteArray).data.toList=[32,9]:=rfl;rw[e9] at CI;obtain⟨ix,hix⟩:∃ix,Lib.indexAny s.data.toList [32,9]=ix:=⟨_,rfl⟩;rw[hix] at CI hi;have hne2:s.toList.isEmpty=false:=by
  rw[Lib.toList_data];cases s with
  | mk d=>cases d with
   | mk l=>cases l with
    | nil=>exact absurd rfl hne
    | cons x r=>rfl
 have HR:=hidH5 h hb hX hp hm;clear h hb hX hp hm e9 hix
 go_enter Tryz.func70,Tryz.ntmps70
 go_wp2_with fail
 refine CI.mono ?_;clear CI;rintro e w2 ⟨rfl,hb2⟩;have hB2:Below w.heap.size w w2:=HR.out.2.1.trans (hb2.mono (by simp));have hX2:=HR.out.2.2.1.below hb2 HR.out.2.2.1.lt;have hp2:=HR.out.2.2.2.1.below hB2 HR.out.2.2.2.1.lt;have hm2:=HR.out.2.2.2.2.chg (Chg.below hB2 (fun _=>False)) (fun _ h=>h.elim);have h2:=HR.out.1.below hB2;obtain⟨d0,d1,d2⟩:=cells3 hX2;have r0:_=some (Value.pointer (some ⟨rb,0,none⟩)):=hp2.cell 0;have CT:=titled_any h2 ⟨7,0,false,⟨#[]⟩,s,[],[],⟨#[]⟩,0⟩ (.slice none 0 0) (rows_nil _ _) f t no ⟨#[]⟩ (by decide) hm2 h3 hl hd;have e7:((7:Nat):Int)=7:=rfl;have e0:((0:Nat):Int)=0:=rfl;simp only[e7,e0] at CT;have hT2:Turn w w2 O F O F:=⟨Chg.below hB2 O,fun _ h=>.inl h,fun _ h=>.inl h,fun _ h=>h⟩;have HT:=Lib.hid hT2;clear hX2 hp2 hm2 h2 e7 e0 hT2 hb2 hB2
 go_wp2_with fail
 refine CT.mono ?_;clear CT;rintro e w3 ⟨rfl,O3,F3,bv3,dv3,hr3,ht3⟩;go_wp2
 go_ret
 exact⟨rfl,O3,F3,bv3,dv3,hr3,HT.out.trans ht3⟩
theorem fig_two {w:World}{O F:Nat→Prop}{rb:Nat}{lv:Value}{pos:Nat}{bv:Value}{bs:List Bl}{dv:Value}{ds:List Dg} (h:Rdr w O F rb lv pos bv bs dv ds){pb:Nat}{tp:TypeId} (hp:Holds w pb tp #[.pointer (some ⟨rb,0,none⟩)]) (f t:ByteArray) (no:Int) (s:ByteArray) (hs:s.size≤100000000) (hne:s≠⟨#[]⟩) (k:Nat) (hk:k<s.size) (hi:Lib.indexAny s.data.toList [32,9]=(k:Int)){m:Int} (hm:Glob m w) (h3:∀k,O k→3≤k)
  (hl:bs.length≤1000000000) (R:ByteArray) (hR:R=⟨(dropL (s.data.toList.drop k)).toArray⟩) (hRs:R.size≤100000000) (hd:ds.length+1+(faultsOf (titleB R.data.toList).1).length≤1000000000) :
  Calls Tryz.prog 70 #[.agg #[.string f,.int .i64 no,.string t],.string s,.pointer (some ⟨pb,0,none⟩)] w fun e w'=>e=.returned (.bool true)∧∃O' F' bv' dv',Rdr w' O' F' rb lv pos bv' (bs++[titledB ⟨7,0,false,⟨#[]⟩,s.extract 0 k,[],[],⟨#[]⟩,0⟩ f no R]) dv' (ds++titledD f no R)∧Turn w w' O F O' F':=by
 have hb:=(Below.refl w.heap.size w).alloc (Nat.le_refl _) (.cells #[.string f,.int .i64 no,.string t] 98);have hX:=Holds.new w 98 #[.string f,.int .i64 no,.string t];have CI:=indexAnyX_any s ⟨#[32,9]⟩ (w.alloc (.cells #[.string f,.int .i64 no,.string t] 98)) blanks_ascii (by decide) (by decide) (by omega);have e9:(⟨#[32,9]⟩:ByteArray).data.toList=[32,9]:=rfl;rw[e9,hi] at CI;have hne2:s.toList.isEmpty=false:=by
  rw[Lib.toList_data];cases s with
  | mk d=>cases d with
   | mk l=>cases l with
    | nil=>exact absurd rfl hne
    | cons x r=>rfl
 have hwd:(s.extract k s.size).data.toList=s.data.toList.drop k:=by
  rw[extract_list,List.take_of_length_le (by simp)]
 have htl:=fun W=>strTrimL_any (s.extract k s.size) W (by rw[ByteArray.size_extract];omega)
 rw[hwd] at htl;unfold strV at htl;rw[←hR] at htl;have hk0:(0:Int)≤(k:Int):=by omega
 have hk1:(k:Int)≤(s.size:Int):=by omega
 have HR:=hidH5 h hb hX hp hm;clear h hb hX hp hm e9 hi hwd hR
 go_enter Tryz.func70,Tryz.ntmps70
 go_wp2_with fail
 refine CI.mono ?_;clear CI;rintro e w2 ⟨rfl,hb2⟩;have hB2:Below w.heap.size w w2:=HR.out.2.1.trans (hb2.mono (by simp));have hX2:=HR.out.2.2.1.below hb2 HR.out.2.2.1.lt;have HB2:=hidH2 hB2 hX2;clear hb2 hB2 hX2
 go_wp2_with fail
 go_region_with (go_at_call 72;refine (htl _).mono ?_;rintro e w4 ⟨rfl,hb4⟩)
 have hB4:Below w.heap.size w w4:=HB2.out.1.drew.trans (hb4.mono HB2.out.1.size);have hX4:=HB2.out.2.drew.below hb4 HB2.out.2.lt;have hp4:=HR.out.2.2.2.1.below hB4 HR.out.2.2.2.1.lt;have hm4:=HR.out.2.2.2.2.chg (Chg.below hB4 (fun _=>False)) (fun _ h=>h.elim);have h4:=HR.out.1.below hB4;obtain⟨d0,d1,d2⟩:=cells3 hX4;have r0:_=some (Value.pointer (some ⟨rb,0,none⟩)):=hp4.cell 0;have CT:=titled_any h4 ⟨7,0,false,⟨#[]⟩,s.extract 0 k,[],[],⟨#[]⟩,0⟩ (.slice none 0 0) (rows_nil _ _) f t no R hRs hm4 h3 hl hd;have e7:((7:Nat):Int)=7:=rfl;have e0:((0:Nat):Int)=0:=rfl;simp only[e7,e0] at CT;have hT4:Turn w w4 O F O F:=⟨Chg.below hB4 O,fun _ h=>.inl h,fun _ h=>.inl h,fun _ h=>h⟩;have HT:=Lib.hid hT4;clear hX4 hp4 hm4 h4 e7 e0 hT4 hb4 hB4
 go_wp2_with fail
 refine CT.mono ?_;clear CT;rintro e w3 ⟨rfl,O3,F3,bv3,dv3,hr3,ht3⟩;go_wp2
 go_ret
 exact⟨rfl,O3,F3,bv3,dv3,hr3,HT.out.trans ht3⟩
end Go.Proofs.YtkkebmciiiajeaaGreatDoor
namespace Go.Proofs.YtkkebmciiiajeaaGreatDoor
open Go.RowKit Go.Bd
theorem note_any (kd:ByteArray) (pb:Nat) (w:World) :
  Calls Tryz.prog 66 #[.string kd,.pointer (some ⟨pb,0,none⟩)] w fun e w'=>e=.returned (.func (.func 67) #[] #[.pointer (some ⟨w.heap.size,0,none⟩),.pointer (some ⟨pb,0,none⟩)])∧w'=w.alloc (.cells #[.string kd] 9):=by
 go_enter Tryz.func66,Tryz.ntmps66
 go_wp2
 go_ret
 exact⟨rfl,rfl⟩
end Go.Proofs.YtkkebmciiiajeaaGreatDoor
