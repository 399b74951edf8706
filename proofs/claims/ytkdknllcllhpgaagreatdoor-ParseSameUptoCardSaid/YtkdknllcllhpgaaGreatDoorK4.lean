/-
  What the chapter's laws share, part 4: plain facts, memory, and walks of functions. Its conditions: those that each theorem names.
-/
import Derived.Shelf.Strings.BuilderF
import Derived.Lib.IndexMore
import Derived.Lib.IndexBytes
import Derived.Shelf.Strings.BuilderK
import Derived.Lib.SplitLaws
import Derived.IntWalk
import Derived.Handy
import Derived.Deep.LoopGhost
import Derived.Laws.AppendOwnNone
import Derived.Deep.AppendLies
import Derived.Test.YtkdknllcllhpgaaGreatDoorK0
import Derived.Test.YtkdknllcllhpgaaGreatDoorK1
import Derived.Test.YtkdknllcllhpgaaGreatDoorK2
import Derived.Test.YtkdknllcllhpgaaGreatDoorK3
set_option linter.unusedSimpArgs false
set_option linter.unusedVariables false
set_option maxHeartbeats 16000000
set_option maxRecDepth 100000
namespace Go.Bd
open Go.RowKit
theorem cells9 {w:World}{x:Nat}{t:TypeId}{a b c d e f g h i:Value} (hh:Holds w x t #[a,b,c,d,e,f,g,h,i]):w.cell? ⟨x,0,none⟩=some a∧w.cell? ⟨x,1,none⟩=some b∧w.cell? ⟨x,2,none⟩=some c∧w.cell? ⟨x,3,none⟩=some d∧w.cell? ⟨x,4,none⟩=some e∧w.cell? ⟨x,5,none⟩=some f∧w.cell? ⟨x,6,none⟩=some g∧w.cell? ⟨x,7,none⟩=some h∧w.cell? ⟨x,8,none⟩=some i :=
 ⟨hh.cell 0,hh.cell 1,hh.cell 2,hh.cell 3,hh.cell 4,hh.cell 5,hh.cell 6,hh.cell 7,hh.cell 8⟩
theorem two_sets {w:World}{O F:Nat→Prop}{rb:Nat}{lv:Value}{pos:Nat}{bv:Value}{bs:List Bl}{dv:Value}{ds:List Dg}{w0:World} (h:Rdr w O F rb lv pos bv bs dv ds) (hT:Turn w0 w O F O F){x:Nat}{t:TypeId}{a b c d e f g u v u0 v0:Value} (hx0:w0.heap.size≤x) (hxO:¬O x) (hxF:¬F x) (hh:Holds w x t #[a,b,c,d,e,f,g,u0,v0]) :
  (Chg w ((w.setCell ⟨x,7,none⟩ u).setCell ⟨x,8,none⟩ v).drew (fun k=>k=x)∧Rdr ((w.setCell ⟨x,7,none⟩ u).setCell ⟨x,8,none⟩ v).drew O F rb lv pos bv bs dv ds∧Turn w0 ((w.setCell ⟨x,7,none⟩ u).setCell ⟨x,8,none⟩ v).drew O F O F∧Holds ((w.setCell ⟨x,7,none⟩ u).setCell ⟨x,8,none⟩ v).drew x t #[a,b,c,d,e,f,g,u,v]) ∧
  (Chg w ((w.setCell ⟨x,8,none⟩ v).setCell ⟨x,7,none⟩ u).drew (fun k=>k=x)∧Rdr ((w.setCell ⟨x,8,none⟩ v).setCell ⟨x,7,none⟩ u).drew O F rb lv pos bv bs dv ds∧Turn w0 ((w.setCell ⟨x,8,none⟩ v).setCell ⟨x,7,none⟩ u).drew O F O F∧Holds ((w.setCell ⟨x,8,none⟩ v).setCell ⟨x,7,none⟩ u).drew x t #[a,b,c,d,e,f,g,u,v]):=by
 have hc1:Chg w ((w.setCell ⟨x,7,none⟩ u).setCell ⟨x,8,none⟩ v).drew (fun k=>k=x):=((Chg.set w ⟨x,7,none⟩ u).trans (Chg.set _ ⟨x,8,none⟩ v) (fun _ _ h=>h)).drew;have hc2:Chg w ((w.setCell ⟨x,8,none⟩ v).setCell ⟨x,7,none⟩ u).drew (fun k=>k=x):=((Chg.set w ⟨x,8,none⟩ v).trans (Chg.set _ ⟨x,7,none⟩ u) (fun _ _ h=>h)).drew;refine⟨⟨hc1,h.chg hc1 (fun k hk e=>hxO (e ▸ hk)) (fun k hk e=>hxF (e ▸ hk)),⟨hT.chg.trans hc1 (fun k hk e=>by omega),hT.inO,hT.inF,hT.moF⟩,?_⟩,⟨hc2,h.chg hc2 (fun k hk e=>hxO (e ▸ hk)) (fun k hk e=>hxF (e ▸ hk)),⟨hT.chg.trans hc2 (fun k hk e=>by omega),hT.inO,hT.inF,hT.moF⟩,?_⟩⟩
 ·have:=(hh.set 7 u).set 8 v
  simpa using this.drew
 ·have:=(hh.set 8 v).set 7 u
  simpa using this.drew
end Go.Bd
namespace Go.Proofs.YtkdknllcllhpgaaGreatDoor
open Go.RowKit Go.Bd
theorem block_info:(Tryz.prog.info? 72).map (fun i=>(i.zero,i.size,i.bytes))=some (some (.agg #[.int .u8 0,.int .i64 0,.bool false,.string ⟨#[]⟩,.string ⟨#[]⟩,.slice none 0 0,.slice none 0 0,.string ⟨#[]⟩,.int .i64 0]),9,128):=by kernel_rfl
theorem badd_any {w:World}{O F:Nat→Prop}{rb:Nat}{lv:Value}{pos:Nat}{bv:Value}{bs:List Bl}{dv:Value}{ds:List Dg} (h:Rdr w O F rb lv pos bv bs dv ds) (x:Bl) (sv rv:Value) (hx:Forest w F sv x.spans∧RowsF w F rv x.rows) (f t f0:ByteArray) (no n0:Int) (hl:bs.length≤1000000000) (hf:x.file=f) (hno:x.line=no) :
  Calls Tryz.prog 85 #[.pointer (some ⟨rb,0,none⟩),.agg #[.int .u8 (x.kind:Int),.int .i64 (x.level:Int),.bool x.ordered,.string x.label,.string x.text,sv,rv,.string f0,.int .i64 n0],.agg #[.string f,.int .i64 no,.string t]] w fun e w'=>e=.returned (.tuple #[])∧∃O' bv',Rdr w' O' F rb lv pos bv' (bs++[x]) dv ds∧Turn w w' O F O' F:=by
 obtain⟨A,c,rfl⟩:∃A c,bv=.slice A bs.length c:=by
  obtain⟨kvs,_,h2,_⟩:=h.bl
  rcases h2.2 with ⟨h1,h2⟩|⟨g,cap,cur,h1,_⟩
  ·exact⟨none,0,by rw[h1,h2]⟩
  ·exact⟨_,_,h1⟩
 obtain⟨As,cs,rfl,_⟩:=hx.1.form;obtain⟨Ar,cr,rfl,_⟩:=hx.2.len;obtain⟨i0,hi0,hz0,hz1,hz2⟩:=info_parts block_info;have hrl:=h.hold.lt;have hb12:=((Below.refl w.heap.size w).alloc (Nat.le_refl _) (.cells #[.int .u8 (x.kind:Int),.int .i64 (x.level:Int),.bool x.ordered,.string x.label,.string x.text,.slice As x.spans.length cs,.slice Ar x.rows.length cr,.string f0,.int .i64 n0] 72)).alloc (by simp) (.cells #[.string f,.int .i64 no,.string t] 107);have h1:=h.below hb12;have hX:=(Holds.new w 72 #[.int .u8 (x.kind:Int),.int .i64 (x.level:Int),.bool x.ordered,.string x.label,.string x.text,.slice As x.spans.length cs,.slice Ar x.rows.length cr,.string f0,.int .i64 n0]).alloc (.cells #[.string f,.int .i64 no,.string t] 107);have hY:=Holds.new (w.alloc (.cells #[.int .u8 (x.kind:Int),.int .i64 (x.level:Int),.bool x.ordered,.string x.label,.string x.text,.slice As x.spans.length cs,.slice Ar x.rows.length cr,.string f0,.int .i64 n0] 72)) 107 #[.string f,.int .i64 no,.string t];rw[World.size_alloc] at hY;have hx1:Forest _ F (.slice As x.spans.length cs) x.spans∧RowsF _ F (.slice Ar x.rows.length cr) x.rows:=⟨hx.1.chg (Chg.below hb12 (fun _=>False)) (fun _ h=>h) (fun _ _ h=>h),RowsF.stays.go hx.2 (Chg.below hb12 (fun _=>False)) (fun _ h=>h) (fun _ _ h=>h)⟩;have hT0:Turn w _ O F O F:=⟨Chg.below hb12 O,fun _ h=>.inl h,fun _ h=>.inl h,fun _ h=>h⟩;obtain⟨n,hn⟩:∃n,w.heap.size=n:=⟨_,rfl⟩;rw[hn] at hX hY;obtain⟨W1,hW1⟩:∃W1,(w.alloc (.cells #[.int .u8 (x.kind:Int),.int .i64 (x.level:Int),.bool x.ordered,.string x.label,.string x.text,.slice As x.spans.length cs,.slice Ar x.rows.length cr,.string f0,.int .i64 n0] 72)).alloc (.cells #[.string f,.int .i64 no,.string t] 107)=W1:=⟨_,rfl⟩
 rw[hW1] at h1 hX hY hx1 hT0;have d0:=hY.cell 0;have d1:=hY.cell 1;simp at d0 d1;obtain⟨b0,b1,b2,b3,b4,b5,b6,b7,b8⟩:=cells9 hX;have g7:=hX.free 7;have g8:=hX.free 8;have hnn:n≠n+1:=by omega
 have m0:=cell_far (g:=n) (i:=7) (j:=0) hnn (.string f) d0;have m1:=cell_far (g:=n) (i:=7) (j:=1) hnn (.string f) d1;have p0:=cell_far (g:=n) (i:=8) (j:=0) hnn (.int .i64 no) d0;have p1:=cell_far (g:=n) (i:=8) (j:=1) hnn (.int .i64 no) d1;have s0:=cell_far (g:=n) (i:=8) (j:=0) hnn (.int .i64 no) m0;have s1:=cell_far (g:=n) (i:=8) (j:=1) hnn (.int .i64 no) m1;have r0:=cell_far (g:=n) (i:=7) (j:=0) hnn (.string f) p0;have r1:=cell_far (g:=n) (i:=7) (j:=1) hnn (.string f) p1;have m8:=cell_off (i:=7) (j:=8) (by omega) (.string f) b8;have p7:=cell_off (i:=8) (j:=7) (by omega) (.int .i64 no) b7;have hkn:¬O n:=fun e=>by have:=h.ltO n e;omega
 have hkF:¬F n:=fun e=>by have:=h.ltF n e;omega
 have hnW:w.heap.size≤n:=Nat.le_of_eq hn;have HR:=hidH4 h1 hT0 hX hx1;have HZ:=hidH4 hi0 hz0 hz1 hz2;have HN:=Lib.hid hn;have HFN:=hidH2 hf hno;have HW0:=Lib.hid h.ltO;clear h h1 hT0 hi0 hz0 hz1 hz2 hX hY hx hx1 hb12 hf hno
 go_enter Tryz.func85,Tryz.ntmps85
 go_wp2
 (try rw[hW1])
 (try rw[hn])
 clear hW1 hn;refine wp_region_held_drew (S:=(fun w'=>w'.cell? ⟨n+1,0,none⟩=some (.string f)∧w'.cell? ⟨n+1,1,none⟩=some (.int .i64 no))) (by kernel_rfl) ?_ (fun hHeld0=>?_)
 ·(try dsimp only)
  first|exact⟨d0,d1⟩|exact⟨m0,m1⟩|exact⟨p0,p1⟩|exact⟨s0,s1⟩|exact⟨r0,r1⟩
 refine tkH 0 6 ?_;refine tkH 1 7 ?_;refine tkH 2 8 ?_;refine tkH 3 9 ?_;refine tkH 4 10 ?_;refine rdyH [5] ?_;refine AllReadyH.cons rfl (fun K hK=>?_) AllReadyH.nil;go_simp;refine hK.out _ _ ?_ (fun hHeld1=>?_)
 ·(try dsimp only)
  first|exact⟨d0,d1⟩|exact⟨m0,m1⟩|exact⟨p0,p1⟩|exact⟨s0,s1⟩|exact⟨r0,r1⟩
 clear hK K hHeld0
 (try go_frame)
 refine tkH 6 11 ?_;refine rdyH [7] ?_;refine AllReadyH.cons rfl (fun K hK=>?_) AllReadyH.nil;go_simp;refine hK.out _ _ ?_ (fun hHeld2=>?_)
 ·(try dsimp only)
  first|exact⟨d0,d1⟩|exact⟨m0,m1⟩|exact⟨p0,p1⟩|exact⟨s0,s1⟩|exact⟨r0,r1⟩
 clear hK K hHeld1
 (try go_frame)
 refine wpAnyH_done (by kernel_rfl) ?_ _;have HT:=two_sets HR.out.1 HR.out.2.1 hnW hkn hkF HR.out.2.2.1 (u:=.string f) (v:=.int .i64 no)
 try clear hHeld2
 first
  | (have HU:=HT.1
     obtain⟨W2,hW2⟩:∃W2,((W1.setCell ⟨n,7,none⟩ (.string f)).setCell ⟨n,8,none⟩ (.int .i64 no)).drew=W2:=⟨_,rfl⟩;rw[hW2] at HU;rw[hW2])
  | (have HU:=HT.2
     obtain⟨W2,hW2⟩:∃W2,((W1.setCell ⟨n,8,none⟩ (.int .i64 no)).setCell ⟨n,7,none⟩ (.string f)).drew=W2:=⟨_,rfl⟩;rw[hW2] at HU;rw[hW2])
 clear HT hW2;obtain⟨hC2,h2,hT2,hX2⟩:=HU;have hx2:Forest W2 F (.slice As x.spans.length cs) x.spans∧RowsF W2 F (.slice Ar x.rows.length cr) x.rows:=⟨HR.out.2.2.2.1.chg hC2 (fun _ h=>h) (fun k hk e=>hkF (e ▸ hk)),RowsF.stays.go HR.out.2.2.2.2 hC2 (fun _ h=>h) (fun k hk e=>hkF (e ▸ hk))⟩;clear m0 m1 p0 p1 s0 s1 r0 r1 m8 p7 g7 g8 b0 b1 b2 b3 b4 b5 b6 b7 b8 d0 d1;obtain⟨kvs,hk1,hk2,hk3⟩:=h2.bl;have c2:=h2.hold.cell 2;have f2:=h2.hold.free 2;simp at c2;have hb1:rb<W2.heap.size:=h2.hold.lt;have hkr:(Value.slice A bs.length c).ownBlock≠some rb:=fun e=>(h2.oB rb e).2 rfl
 have hknB:(Value.slice A bs.length c).ownBlock≠some n:=fun e=>hkn (h2.oB n e).1
 have hrn:rb≠n:=fun e=>hkn (e ▸ h2.oR)
 have e2:(W2.alloc (.cells #[.int .u8 (x.kind:Int),.int .i64 (x.level:Int),.bool x.ordered,.string x.label,.string x.text,.slice As x.spans.length cs,.slice Ar x.rows.length cr,.string f,.int .i64 no] 72)).cell? ⟨rb,2,none⟩=some (.slice A bs.length c):=by rw[World.cell?_alloc_lt _ _ _ hb1];exact c2
 have hXa:=hX2.alloc (.cells #[.int .u8 (x.kind:Int),.int .i64 (x.level:Int),.bool x.ordered,.string x.label,.string x.text,.slice As x.spans.length cs,.slice Ar x.rows.length cr,.string f,.int .i64 no] 72);have HB:=hidH6 h2 hT2 hx2 hk1 hk2 hk3;have HC2:=Lib.hid hC2;clear h2 hT2 hx2 hk1 hk2 hk3 hC2
 go_wp2_with fail
 refine wp_region_held_drew (S:=(fun w'=>w'.cell? ⟨n,0,none⟩=some (.int .u8 (x.kind:Int))∧w'.cell? ⟨n,1,none⟩=some (.int .i64 (x.level:Int))∧w'.cell? ⟨n,2,none⟩=some (.bool x.ordered)∧w'.cell? ⟨n,3,none⟩=some (.string x.label)∧w'.cell? ⟨n,4,none⟩=some (.string x.text)∧w'.cell? ⟨n,5,none⟩=some (.slice As x.spans.length cs)∧w'.cell? ⟨n,6,none⟩=some (.slice Ar x.rows.length cr)∧w'.cell? ⟨n,7,none⟩=some (.string f)∧w'.cell? ⟨n,8,none⟩=some (.int .i64 no))) (by kernel_rfl) ?_ (fun hHeld0=>?_)
 ·(try dsimp only)
  first|exact cells9 hX2|exact cells9 hXa|exact cells9 hXg|exact cells9 hXs
 refine tkH 0 12 ?_;refine tkH 1 13 ?_;refine tkH 2 14 ?_;refine tkH 3 15 ?_;refine tkH 5 17 ?_;refine rdyH [4,6] ?_;refine AllReadyH.cons (o:=⟨some 16,_,_,_,_,_⟩) rfl (fun K hK=>?_) ?_
 ·skip
  go_simp;refine hK.out _ _ ?_ (fun hHeld1=>?_)
  ·(try dsimp only)
   first|exact cells9 hX2|exact cells9 hXa|exact cells9 hXg|exact cells9 hXs
  clear hK K hHeld0
  (try go_frame)
  refine rdyH [6] ?_;refine AllReadyH.cons (o:=⟨some 18,_,_,_,_,_⟩) rfl (fun K hK=>?_) AllReadyH.nil;go_simp;refine hK.out _ _ ?_ (fun hHeld2=>?_)
  ·(try dsimp only)
   first|exact cells9 hX2|exact cells9 hXa|exact cells9 hXg|exact cells9 hXs
  clear hK K hHeld1
  (try go_frame)
  refine rdyH [7] ?_;refine AllReadyH.cons (o:=⟨some 19,_,_,_,_,_⟩) rfl (fun K hK=>?_) AllReadyH.nil;refine step_append_lies _ (by rfl) _ _ _ (by rfl) 0 72 i0 _ 9 128 Tryz.underlying22 HZ.out.1 HZ.out.2.1 HZ.out.2.2.1 HZ.out.2.2.2 rfl (by omega) (.slice A bs.length c) bs.length (rowBl bs kvs) (by rfl) ((HB.out.2.2.2.2.1.alloc _).drew)
   ⟨W2.heap.size,0,none⟩ 1 1 [.int .u8 (x.kind:Int),.int .i64 (x.level:Int),.bool x.ordered,.string x.label,.string x.text,.slice As x.spans.length cs,.slice Ar x.rows.length cr,.string f,.int .i64 no] (by rfl) (by rfl) (World.news_of_block (cs:=#[.int .u8 (x.kind:Int),.int .i64 (x.level:Int),.bool x.ordered,.string x.label,.string x.text,.slice As x.spans.length cs,.slice Ar x.rows.length cr,.string f,.int .i64 no]) (t:=72) (fr:=(0,0)) (heap_alloc_new W2 _)) (by simp[Value.oneCell'])
   (by omega) (by unfold maxLen;omega) (by omega) (Nat.zero_le _) (W2.heap.size+1) (by simp) ?_
  intro g cap w2 ho2 hg2 hat2 hl2;have hC3:Chg W2 w2 (fun b=>(Value.slice A bs.length c).ownBlock=some b):=(((Chg.refl W2 _).alloc _).drew).trans (Chg.grown hg2) (fun _ _ h=>h.symm);have hgb:g≠rb:=fun e=>by
   rcases hat2 with h|h
   ·exact hkr (by rw[h,e])
   ·omega
  have hgn:g≠n:=fun e=>by
   rcases hat2 with h|h
   ·exact hknB (by rw[h,e])
   ·have:=hX2.lt;omega
  have hh2:=hC3.holds hkr HB.out.1.hold;have hXg:=hC3.holds hknB hX2;have hXs:=hXg.far (p:=⟨rb,2,none⟩) (Ne.symm hrn) (.slice (some ⟨g,0,none⟩) (bs.length+1) cap);have g3:=hC3.cell (p:=⟨rb,2,none⟩) hkr c2;have q3:=hh2.free 2;have HE:=hidH4 hC3 ho2 hat2 hh2;clear hC3 ho2 hat2 hh2 hg2;refine hK.out _ _ ?_ (fun hHeld3=>?_)
  ·(try dsimp only)
   first|exact cells9 hX2|exact cells9 hXa|exact cells9 hXg|exact cells9 hXs
  clear hK K hHeld2
  (try go_frame)
  refine tkH 8 20 ?_;refine tkH 9 21 ?_;refine rdyH [10] ?_;refine AllReadyH.cons rfl (fun K hK=>?_) AllReadyH.nil;go_simp;refine hK.out _ _ ?_ (fun hHeld4=>?_)
  ·(try dsimp only)
   first|exact cells9 hX2|exact cells9 hXa|exact cells9 hXg|exact cells9 hXs
  clear hK K hHeld3
  (try go_frame)
  refine wpAnyH_done (by kernel_rfl) ?_ _;go_wp2
  go_end0
  have hC:=Chg.set w2 ⟨rb,2,none⟩ (.slice (some ⟨g,0,none⟩) (bs.length+1) cap);have hall:Chg W2 (w2.setCell ⟨rb,2,none⟩ (.slice (some ⟨g,0,none⟩) (bs.length+1) cap)) (fun b=>b=rb∨(Value.slice A bs.length c).ownBlock=some b) :=
   (HE.out.1.mono (T:=fun b=>b=rb∨(Value.slice A bs.length c).ownBlock=some b) (fun k _ h=>.inr h)).trans hC (fun k _ h=>.inl h)
  obtain⟨hq1,hq2⟩:=HB.out.1.added (x:=x) (kv:=(.slice As x.spans.length cs,.slice Ar x.rows.length cr)) HB.out.2.2.1 hall (HE.out.2.2.2.set 2 _) kvs HB.out.2.2.2.1 HB.out.2.2.2.2.2 (by
    unfold blCells;rw[HFN.out.1,HFN.out.2];exact hC.owns HE.out.2.1 (fun k hk e=>hgb ((show g=k from (by simpa [Value.ownBlock] using hk)).trans e))) (fun b hb=>by
   have e1:g=b:=by simpa [Value.ownBlock] using hb
   rw[←e1];refine⟨?_,by simpa [World.setCell] using hl2⟩
   rcases HE.out.2.2.1 with h|h
   ·exact .inl h
   ·exact .inr (by omega))
  exact⟨rfl,_,_,hq1,HB.out.2.1.trans hq2⟩
 refine AllReadyH.cons (o:=⟨some 18,_,_,_,_,_⟩) rfl (fun K hK=>?_) AllReadyH.nil;go_simp;refine hK.out _ _ ?_ (fun hHeld1=>?_)
 ·(try dsimp only)
  first|exact cells9 hX2|exact cells9 hXa|exact cells9 hXg|exact cells9 hXs
 clear hK K hHeld0
 (try go_frame)
 refine rdyH [4] ?_;refine AllReadyH.cons (o:=⟨some 16,_,_,_,_,_⟩) rfl (fun K hK=>?_) AllReadyH.nil;go_simp;refine hK.out _ _ ?_ (fun hHeld2=>?_)
 ·(try dsimp only)
  first|exact cells9 hX2|exact cells9 hXa|exact cells9 hXg|exact cells9 hXs
 clear hK K hHeld1
 (try go_frame)
 refine rdyH [7] ?_;refine AllReadyH.cons (o:=⟨some 19,_,_,_,_,_⟩) rfl (fun K hK=>?_) AllReadyH.nil;refine step_append_lies _ (by rfl) _ _ _ (by rfl) 0 72 i0 _ 9 128 Tryz.underlying22 HZ.out.1 HZ.out.2.1 HZ.out.2.2.1 HZ.out.2.2.2 rfl (by omega) (.slice A bs.length c) bs.length (rowBl bs kvs) (by rfl) ((HB.out.2.2.2.2.1.alloc _).drew)
  ⟨W2.heap.size,0,none⟩ 1 1 [.int .u8 (x.kind:Int),.int .i64 (x.level:Int),.bool x.ordered,.string x.label,.string x.text,.slice As x.spans.length cs,.slice Ar x.rows.length cr,.string f,.int .i64 no] (by rfl) (by rfl) (World.news_of_block (cs:=#[.int .u8 (x.kind:Int),.int .i64 (x.level:Int),.bool x.ordered,.string x.label,.string x.text,.slice As x.spans.length cs,.slice Ar x.rows.length cr,.string f,.int .i64 no]) (t:=72) (fr:=(0,0)) (heap_alloc_new W2 _)) (by simp[Value.oneCell'])
  (by omega) (by unfold maxLen;omega) (by omega) (Nat.zero_le _) (W2.heap.size+1) (by simp) ?_
 intro g cap w2 ho2 hg2 hat2 hl2;have hC3:Chg W2 w2 (fun b=>(Value.slice A bs.length c).ownBlock=some b):=(((Chg.refl W2 _).alloc _).drew).trans (Chg.grown hg2) (fun _ _ h=>h.symm);have hgb:g≠rb:=fun e=>by
  rcases hat2 with h|h
  ·exact hkr (by rw[h,e])
  ·omega
 have hgn:g≠n:=fun e=>by
  rcases hat2 with h|h
  ·exact hknB (by rw[h,e])
  ·have:=hX2.lt;omega
 have hh2:=hC3.holds hkr HB.out.1.hold;have hXg:=hC3.holds hknB hX2;have hXs:=hXg.far (p:=⟨rb,2,none⟩) (Ne.symm hrn) (.slice (some ⟨g,0,none⟩) (bs.length+1) cap);have g3:=hC3.cell (p:=⟨rb,2,none⟩) hkr c2;have q3:=hh2.free 2;have HE:=hidH4 hC3 ho2 hat2 hh2;clear hC3 ho2 hat2 hh2 hg2;refine hK.out _ _ ?_ (fun hHeld3=>?_)
 ·(try dsimp only)
  first|exact cells9 hX2|exact cells9 hXa|exact cells9 hXg|exact cells9 hXs
 clear hK K hHeld2
 (try go_frame)
 refine tkH 8 20 ?_;refine tkH 9 21 ?_;refine rdyH [10] ?_;refine AllReadyH.cons rfl (fun K hK=>?_) AllReadyH.nil;go_simp;refine hK.out _ _ ?_ (fun hHeld4=>?_)
 ·(try dsimp only)
  first|exact cells9 hX2|exact cells9 hXa|exact cells9 hXg|exact cells9 hXs
 clear hK K hHeld3
 (try go_frame)
 refine wpAnyH_done (by kernel_rfl) ?_ _;go_wp2
 go_end0
 have hC:=Chg.set w2 ⟨rb,2,none⟩ (.slice (some ⟨g,0,none⟩) (bs.length+1) cap);have hall:Chg W2 (w2.setCell ⟨rb,2,none⟩ (.slice (some ⟨g,0,none⟩) (bs.length+1) cap)) (fun b=>b=rb∨(Value.slice A bs.length c).ownBlock=some b) :=
  (HE.out.1.mono (T:=fun b=>b=rb∨(Value.slice A bs.length c).ownBlock=some b) (fun k _ h=>.inr h)).trans hC (fun k _ h=>.inl h)
 obtain⟨hq1,hq2⟩:=HB.out.1.added (x:=x) (kv:=(.slice As x.spans.length cs,.slice Ar x.rows.length cr)) HB.out.2.2.1 hall (HE.out.2.2.2.set 2 _) kvs HB.out.2.2.2.1 HB.out.2.2.2.2.2 (by
   unfold blCells;rw[HFN.out.1,HFN.out.2];exact hC.owns HE.out.2.1 (fun k hk e=>hgb ((show g=k from (by simpa [Value.ownBlock] using hk)).trans e))) (fun b hb=>by
  have e1:g=b:=by simpa [Value.ownBlock] using hb
  rw[←e1];refine⟨?_,by simpa [World.setCell] using hl2⟩
  rcases HE.out.2.2.1 with h|h
  ·exact .inl h
  ·exact .inr (by omega))
 exact⟨rfl,_,_,hq1,HB.out.2.1.trans hq2⟩
end Go.Proofs.YtkdknllcllhpgaaGreatDoor
namespace Go.Bd
open Go.RowKit
theorem FaultRow.at {w:World}{B:Nat}{v:Value}{l:List Nat} (h:FaultRow w B v l){k x:Nat} (hx:l[k]? = some x):∃g c,v=.slice (some ⟨g,0,none⟩) l.length c∧g<w.heap.size∧w.cell? ⟨g,k,none⟩=some (.int .i64 (x:Int)):=by
 have hlt:=(List.getElem?_eq_some_iff.1 hx).1
 rcases h.2 with ⟨_,h1⟩|⟨g,cap,cur,rfl,h1,h2,h3,h4,h5,h6⟩
 ·omega
 ·refine⟨g,cap,rfl,(Array.getElem?_eq_some_iff.1 h2).1,?_⟩;rw[cell_of_row w g k cur _ (0,0) h2];have h7:(cur.toList.take (l.length*1))[k]? = some (.int .i64 (x:Int)):=by rw[h6];simp[hx]
  rw[List.getElem?_take_of_lt (by omega)] at h7;simpa using h7
theorem FaultRow.form {w:World}{B:Nat}{v:Value}{l:List Nat} (h:FaultRow w B v l):∃A c,v=.slice A l.length c∧∀k,v.ownBlock=some k→B≤k∧k<w.heap.size:=by
 rcases h.2 with ⟨h0,h1⟩|⟨g,cap,cur,h0,h1,h2,_⟩
 ·exact⟨none,0,by rw[h0,h1],by rw[h0];intro k hk;cases hk⟩
 ·refine⟨_,_,h0,?_⟩;rw[h0];intro k hk;have e:g=k:=by simpa [Value.ownBlock] using hk
  exact e ▸ ⟨h1,(Array.getElem?_eq_some_iff.1 h2).1⟩
def Glob (m:Int) (w:World):Prop:=w.cell? ⟨0,0,none⟩=some (.int .i64 m)∧Lib.Utf8Tabs 1 2 w
theorem Glob.chg {m:Int}{w w':World}{S:Nat→Prop} (h:Glob m w) (hc:Chg w w' S) (h3:∀k,S k→3≤k):Glob m w':=by
 have n0:¬S 0:=fun e=>by have:=h3 _ e;omega
 have n1:¬S 1:=fun e=>by have:=h3 _ e;omega
 have n2:¬S 2:=fun e=>by have:=h3 _ e;omega
 exact⟨hc.cell n0 h.1,fun c hcc=>hc.cell n1 (h.2.1 c hcc),fun i hi=>⟨hc.cell n2 (h.2.2 i hi).1,hc.cell n2 (h.2.2 i hi).2⟩⟩
end Go.Bd
namespace Go.Proofs.YtkdknllcllhpgaaGreatDoor
open Go.RowKit Go.Bd
def dgOf (f:ByteArray) (no:Int) (s:ByteArray) (k:Nat):Dg:=⟨f,no,k,s⟩
theorem bspansX_any {w:World}{O F:Nat→Prop}{rb:Nat}{lv:Value}{pos:Nat}{bv:Value}{bs:List Bl}{dv:Value}{ds:List Dg} (h:Rdr w O F rb lv pos bv bs dv ds) (f t:ByteArray) (no:Int) (s:ByteArray) (hs:s.size≤100000000){m:Int} (hm:Glob m w) (hl:ds.length+(faultsOf s.data.toList).length≤1000000000) (hpl:plS s.data.toList=true) :
  Calls Tryz.prog 84 #[.pointer (some ⟨rb,0,none⟩),.agg #[.string f,.int .i64 no,.string t],.string s] w fun e w'=>∃sv O' F' dv',e=.returned sv∧Forest w' F' sv (spansOf s.data.toList)∧Rdr w' O' F' rb lv pos bv bs dv' (ds++(faultsOf s.data.toList).map (dgOf f no s))∧Turn w w' O F O' F'∧(faultsOf s.data.toList=[]→dv'=dv):=by
 have h1:=h.below ((Below.refl _ w).alloc (Nat.le_refl _) (.cells #[.string f,.int .i64 no,.string t] 107));have hX:=Holds.new w 107 #[.string f,.int .i64 no,.string t];have hm1:=hm.chg ((Chg.refl w (fun _=>False)).alloc (.cells #[.string f,.int .i64 no,.string t] 107)) (fun _ h=>h.elim);have hB1:Below w.heap.size w (w.alloc (.cells #[.string f,.int .i64 no,.string t] 107)):=(Below.refl _ w).alloc (Nat.le_refl _) _;have hsz:(w.alloc (.cells #[.string f,.int .i64 no,.string t] 107)).heap.size=w.heap.size+1:=by simp
 obtain⟨n,hn⟩:∃n,w.heap.size=n:=⟨_,rfl⟩;rw[hn] at hX hsz;obtain⟨W1,hW1⟩:∃W1,w.alloc (.cells #[.string f,.int .i64 no,.string t] 107)=W1:=⟨_,rfl⟩;rw[hW1] at h1 hX hsz hm1 hB1;have PS:=parseSpans_fresh s W1 hs m hm1.1 hpl;obtain⟨l,hle⟩:∃l,faultsOf s.data.toList=l:=⟨_,rfl⟩;obtain⟨sp,hsp⟩:∃sp,spansOf s.data.toList=sp:=⟨_,rfl⟩;rw[hle] at hl ⊢ PS;rw[hsp] at ⊢ PS;have HO:=Lib.hid h.ltO;have HF:=Lib.hid h.ltF;have HSZ:=hidH2 hn hsz;have HX:=hidH3 h1 hX hB1;clear h h1 hX hsz hm hm1 hB1 hle hsp
 go_enter Tryz.func84,Tryz.ntmps84
 go_wp2_with fail
 refine PS.mono ?_;clear PS;rintro e W2 ⟨sv,fv,rfl,hb2,hfo,hfr⟩
 (try rw[hn])
 clear hW1;obtain⟨A,c,rfl,hfb⟩:=hfr.form;have hszz:=hb2.size;have h2:Rdr W2 O (fun b=>F b∨(W1.heap.size≤b∧b<W2.heap.size)) rb lv pos bv bs dv ds:=(HX.out.1.below hb2).more (fun k hk=>.inl hk) (fun k hk=>by
  rcases hk with hk|hk
  ·exact HX.out.1.off k hk
  ·intro hO;have:=HX.out.1.ltO k hO;omega) (fun k hk=>by
  rcases hk with hk|hk
  ·have:=HX.out.1.ltF k hk;omega
  ·exact hk.2)
 have hT2:Turn w W2 O F O (fun b=>F b∨(W1.heap.size≤b∧b<W2.heap.size)):=⟨(Chg.below (by rw[hn];exact hn ▸ HX.out.2.2) O).trans (Chg.below hb2 O) (fun k _ h=>h),fun _ h=>.inl h,fun k hk=>by
  rcases hk with hk|hk
  ·exact .inl hk
  ·have:=HSZ.out.2;have:=HSZ.out.1;exact .inr (by omega),fun k hk=>.inl hk⟩
 have hX2:=HX.out.2.1.below hb2 (HX.out.2.1.lt);have hfo2:Forest W2 (fun b=>F b∨(W1.heap.size≤b∧b<W2.heap.size)) sv sp:=hfo.chg (Chg.refl W2 (fun _=>False)) (fun k hk=>.inr hk) (fun _ _ h=>h);obtain⟨F1,hF1⟩:∃F1,(fun b=>F b∨(W1.heap.size≤b∧b<W2.heap.size))=F1:=⟨_,rfl⟩;have hfF:∀k,(Value.slice A l.length c).ownBlock=some k→F1 k:=fun k hk=>by rw[←hF1];exact .inr (hfb k hk)
 rw[hF1] at h2 hT2 hfo2;have hnO:¬O n:=fun e=>by have:=HO.out n e;have:=HSZ.out.1;omega
 have HP:=hidH5 hT2 hX2 hfo2 hfF hfr;have HQ:=Lib.hid h2;clear hT2 hX2 hfo2 hfo hfF hF1 h2 hfb hb2 hfr hszz;go_wp2
 go_loopg [18] l.length (fun q vi wr=>∃(k:Nat) (O1:Nat→Prop) (dv1:Value),k+q=l.length∧vi=.int .i64 (k:Int)∧Hid (Rdr wr O1 F1 rb lv pos bv bs dv1 (ds++(l.take k).map (dgOf f no s))∧Turn W2 wr O F1 O1 F1∧(k=0→dv1=dv)))
 case atStart=>exact⟨0,O,dv,by omega,rfl,by simpa using HQ.out,Turn.refl _ _ _,fun _=>rfl⟩
 case round =>
  obtain⟨k,O1,dv1,hk,rfl,HR⟩:=hrel
  by_cases hlt:k<l.length
  ·obtain⟨x,hx⟩:∃x,l[k]? = some x:=⟨_,List.getElem?_eq_getElem hlt⟩;have hfrW:FaultRow wr W1.heap.size (.slice A l.length c) l:=HR.out.2.1.chg.owns HP.out.2.2.2.2 (fun k hk=>HQ.out.off k (HP.out.2.2.2.1 k hk));obtain⟨g,c1,hA,hgl,p0⟩:=FaultRow.at hfrW hx;obtain⟨rfl,rfl⟩:A=some ⟨g,0,none⟩∧c=c1:=by cases hA;exact⟨rfl,rfl⟩
   have hXw:=HR.out.2.1.chg.holds hnO HP.out.2.1;have d0:=hXw.cell 0;have d1:=hXw.cell 1;have d2:=hXw.cell 2;simp at d0 d1 d2;have ft:=fault_any HR.out.1 f t no x s (by simp;omega);have HLN:=Lib.hid hlt;clear hfrW hXw hgl hA
   go_wp2_with fail
   refine ft.mono ?_;clear ft;rintro e w2 ⟨rfl,O2,dv2,hr2,ht2⟩;have htk:(l.take (k+1)).map (dgOf f no s)=(l.take k).map (dgOf f no s)++[dgOf f no s x]:=by
    rw[List.take_add_one,hx];simp
   have HR2:Hid (Rdr w2 O2 F1 rb lv pos bv bs dv2 (ds++(l.take (k+1)).map (dgOf f no s))∧Turn W2 w2 O F1 O2 F1):=Lib.hid ⟨by rw[htk,←List.append_assoc];exact hr2,HR.out.2.1.trans ht2⟩;clear hr2 ht2 htk;go_wp2
   go_roundg (gk-1)
   case measure=>omega
   case rel=>exact⟨k+1,O2,dv2,by omega,by go_num,HR2.out.1,HR2.out.2,fun e=>absurd e (by omega)⟩
  ·obtain rfl:k=l.length:=by omega
   have HR2:=HR.out;rw[List.take_length] at HR2;have HR3:=Lib.hid HR2;clear HR2;go_wp2
   go_ret
   refine⟨sv,O1,F1,dv1,rfl,?_,HR3.out.1,HP.out.1.trans HR3.out.2.1,fun e=>HR3.out.2.2 (by rw[e];rfl)⟩;exact HP.out.2.2.1.chg HR3.out.2.1.chg (fun _ h=>h) (fun k hk=>HQ.out.off k hk)
theorem bspans_any {w:World}{O F:Nat→Prop}{rb:Nat}{lv:Value}{pos:Nat}{bv:Value}{bs:List Bl}{dv:Value}{ds:List Dg} (h:Rdr w O F rb lv pos bv bs dv ds) (f t:ByteArray) (no:Int) (s:ByteArray) (hs:s.size≤100000000){m:Int} (hm:Glob m w) (hl:ds.length+(faultsOf s.data.toList).length≤1000000000) (hpl:plS s.data.toList=true) :
  Calls Tryz.prog 84 #[.pointer (some ⟨rb,0,none⟩),.agg #[.string f,.int .i64 no,.string t],.string s] w fun e w'=>∃sv O' F' dv',e=.returned sv∧Forest w' F' sv (spansOf s.data.toList)∧Rdr w' O' F' rb lv pos bv bs dv' (ds++(faultsOf s.data.toList).map (dgOf f no s))∧Turn w w' O F O' F':=by
 refine (bspansX_any h f t no s hs hm hl hpl).mono ?_;rintro e w' ⟨sv,O',F',dv',h1,h2,h3,h4,_⟩;exact⟨sv,O',F',dv',h1,h2,h3,h4⟩
end Go.Proofs.YtkdknllcllhpgaaGreatDoor
namespace Go.Bd
open Go.RowKit
theorem titleB_le (l:Bs):(titleB l).1.length≤l.length:=by
 unfold titleB;split
 ·exact Nat.le_refl _
 ·split
  ·unfold dropR;have h1:=(List.dropWhile_sublist (p:=blank) (l:=(l.take (lastAny l [32,9]).toNat).reverse)).length_le;simp only[List.length_reverse,List.length_take] at h1 ⊢;omega
  ·exact Nat.le_refl _
theorem Glob.three {m:Int}{w:World} (h:Glob m w):3≤w.heap.size:=by
 have:=World.block_lt_of_cell? w _ (h.2.2 0 (by omega)).1
 exact this
theorem Turn.offO {w w':World}{O F O' F':Nat→Prop} (h:Turn w w' O F O' F'){k:Nat} (hk:k<w.heap.size) (ho:¬O k):¬O' k:=fun e=>by
 rcases h.inO k e with h1|h1
 ·exact ho h1
 ·omega
theorem Turn.offF {w w':World}{O F O' F':Nat→Prop} (h:Turn w w' O F O' F'){k:Nat} (hk:k<w.heap.size) (ho:¬F k):¬F' k:=fun e=>by
 rcases h.inF k e with h1|h1
 ·exact ho h1
 ·omega
theorem Turn.poke {w0 w w':World}{O F O' F':Nat→Prop}{n:Nat} (h:Turn w0 w O F O' F') (hc:Chg w w' (fun k=>k=n)) (hn:w0.heap.size≤n):Turn w0 w' O F O' F':=⟨h.chg.trans hc (fun k hk e=>by omega),h.inO,h.inF,h.moF⟩
theorem cells3 {w:World}{x:Nat}{t:TypeId}{a b c:Value} (hh:Holds w x t #[a,b,c]):w.cell? ⟨x,0,none⟩=some a∧w.cell? ⟨x,1,none⟩=some b∧w.cell? ⟨x,2,none⟩=some c:=⟨hh.cell 0,hh.cell 1,hh.cell 2⟩
end Go.Bd
namespace Go.Proofs.YtkdknllcllhpgaaGreatDoor
open Go.RowKit Go.Bd
def titledB (x:Bl) (f:ByteArray) (no:Int) (s:ByteArray):Bl:={ x with label:=⟨(titleB s.data.toList).2.1.toArray⟩,spans:=spansOf (titleB s.data.toList).1,file:=f,line:=no }
def titledW (f:ByteArray) (no:Int) (s:ByteArray):List Dg:=if (titleB s.data.toList).2.2=[] then [] else [⟨f,no,10,⟨(titleB s.data.toList).2.2.toArray⟩⟩]
def titledD (f:ByteArray) (no:Int) (s:ByteArray):List Dg:=titledW f no s++(faultsOf (titleB s.data.toList).1).map (dgOf f no ⟨(titleB s.data.toList).1.toArray⟩)
theorem titled_any {w:World}{O F:Nat→Prop}{rb:Nat}{lv:Value}{pos:Nat}{bv:Value}{bs:List Bl}{dv:Value}{ds:List Dg} (h:Rdr w O F rb lv pos bv bs dv ds) (x:Bl) (rv:Value) (hx:RowsF w F rv x.rows) (f t:ByteArray) (no:Int) (s:ByteArray) (hs:s.size≤100000000){m:Int} (hm:Glob m w) (h3:∀k,O k→3≤k)
  (hl:bs.length≤1000000000) (hd:ds.length+1+(faultsOf (titleB s.data.toList).1).length≤1000000000) (hpl:plS (titleB s.data.toList).1=true) :
  Calls Tryz.prog 89 #[.pointer (some ⟨rb,0,none⟩),.agg #[.int .u8 (x.kind:Int),.int .i64 (x.level:Int),.bool x.ordered,.string ⟨#[]⟩,.string x.text,.slice none 0 0,rv,.string ⟨#[]⟩,.int .i64 0],.agg #[.string f,.int .i64 no,.string t],.string s] w fun e w'=>e=.returned (.tuple #[])∧∃O' F' bv' dv',Rdr w' O' F' rb lv pos bv' (bs++[titledB x f no s]) dv' (ds++titledD f no s)∧Turn w w' O F O' F':=by
 obtain⟨Ar,cr,rfl,_⟩:=hx.len;have hb12:=((Below.refl w.heap.size w).alloc (Nat.le_refl _) (.cells #[.int .u8 (x.kind:Int),.int .i64 (x.level:Int),.bool x.ordered,.string ⟨#[]⟩,.string x.text,.slice none 0 0,.slice Ar x.rows.length cr,.string ⟨#[]⟩,.int .i64 0] 72)).alloc (by simp) (.cells #[.string f,.int .i64 no,.string t] 107);have h1:=h.below hb12;have hX:=(Holds.new w 72 #[.int .u8 (x.kind:Int),.int .i64 (x.level:Int),.bool x.ordered,.string ⟨#[]⟩,.string x.text,.slice none 0 0,.slice Ar x.rows.length cr,.string ⟨#[]⟩,.int .i64 0]).alloc (.cells #[.string f,.int .i64 no,.string t] 107);have hY:=Holds.new (w.alloc (.cells #[.int .u8 (x.kind:Int),.int .i64 (x.level:Int),.bool x.ordered,.string ⟨#[]⟩,.string x.text,.slice none 0 0,.slice Ar x.rows.length cr,.string ⟨#[]⟩,.int .i64 0] 72)) 107 #[.string f,.int .i64 no,.string t];rw[World.size_alloc] at hY;have hm1:=hm.chg (Chg.below hb12 (fun _=>False)) (fun _ h=>h.elim);have hx1:=RowsF.stays.go hx (Chg.below hb12 (fun _=>False)) (fun _ h=>h) (fun _ _ h=>h);have hsz:=Holds.lt hY;have hT0:Turn w _ O F O F:=⟨Chg.below hb12 O,fun _ h=>.inl h,fun _ h=>.inl h,fun _ h=>h⟩;obtain⟨n,hn⟩:∃n,w.heap.size=n:=⟨_,rfl⟩;have hn3:3≤n:=hn ▸ hm.three;rw[hn] at hX hY hsz;obtain⟨W1,hW1⟩:∃W1,(w.alloc (.cells #[.int .u8 (x.kind:Int),.int .i64 (x.level:Int),.bool x.ordered,.string ⟨#[]⟩,.string x.text,.slice none 0 0,.slice Ar x.rows.length cr,.string ⟨#[]⟩,.int .i64 0] 72)).alloc (.cells #[.string f,.int .i64 no,.string t] 107)=W1:=⟨_,rfl⟩;rw[hW1] at h1 hX hY hx1 hT0 hm1 hsz
 have CT:=title_any s W1 hs hm1.2;have hle:=titleB_le s.data.toList;have hdl:s.data.toList.length=s.size:=by simp
 unfold titledB titledD titledW;obtain⟨T,hT⟩:∃T,titleB s.data.toList=T:=⟨_,rfl⟩;rw[hT] at CT hle hd hpl ⊢;obtain⟨D,hD⟩:∃D:List Dg,(if T.2.2=[] then [] else [⟨f,no,10,⟨T.2.2.toArray⟩⟩])=D:=⟨_,rfl⟩;rw[hD];have hts:T.1.length≤100000000:=by omega
 unfold strV at CT;have hnO:¬O n:=fun e=>by have:=h.ltO n e;omega
 have hnF:¬F n:=fun e=>by have:=h.ltF n e;omega
 have hpO:¬O (n+1):=fun e=>by have:=h.ltO (n+1) e;omega
 have HR:=hidH6 h1 hT0 hX hY hx1 hm1;have HSZ:=hidH2 hn hsz;clear h h1 hT0 hX hY hx1 hm1 hb12 hx hm hT hle hdl hsz
 go_enter Tryz.func89,Tryz.ntmps89
 go_wp2_with fail
 refine CT.mono ?_;clear CT;rintro e W2 ⟨rfl,hb2⟩
 (try rw[hn])
 (try clear hW1)
 have hX2:=HR.out.2.2.1.below hb2 HR.out.2.2.1.lt;have hY2:=HR.out.2.2.2.1.below hb2 HR.out.2.2.2.1.lt;have h2:=HR.out.1.below hb2;have hx2:=RowsF.stays.go HR.out.2.2.2.2.1 (Chg.below hb2 (fun _=>False)) (fun _ h=>h) (fun _ _ h=>h);have hm2:=HR.out.2.2.2.2.2.chg (Chg.below hb2 (fun _=>False)) (fun _ h=>h.elim);have hT2:Turn w W2 O F O F:=HR.out.2.1.trans ⟨Chg.below hb2 O,fun _ h=>.inl h,fun _ h=>.inl h,fun _ h=>h⟩;have hn2:n+1<W2.heap.size:=hY2.lt;obtain⟨d0,d1,d2⟩:=cells3 hY2;have HB:=hidH6 h2 hT2 hX2 hY2 hx2 hm2;clear h2 hT2 hX2 hY2 hx2 hm2 hb2
 by_cases hw:T.2.2=[]
 focus
  rw[if_pos hw] at hD;rw[hw];have hl1:D.length≤1:=by rw[←hD];simp
  have HS:Hid (Rdr W2 O F rb lv pos bv bs dv (ds++D)∧Turn W2 W2 O F O F):=Lib.hid ⟨by rw[←hD,List.append_nil];exact HB.out.1,Turn.refl _ _ _⟩;clear d0 d1 d2;have hX3:=HS.out.2.chg.holds hnO HB.out.2.2.1;have hY3:=HS.out.2.chg.holds hpO HB.out.2.2.2.1;have hx3:=RowsF.stays.go HB.out.2.2.2.2.1 HS.out.2.chg (fun _ h=>h) (fun k hk ho=>HB.out.1.off k hk ho);have hm3:=HB.out.2.2.2.2.2.chg HS.out.2.chg h3;have hn1:¬O n:=HS.out.2.offO (by omega) hnO;have hp1:¬O (n+1):=HS.out.2.offO (by omega) hpO;have x3:=hX3.free 3;have c3:=hX3.cell 3;have hC4:Chg W2 (W2.setCell ⟨n,3,none⟩ (.string ⟨T.2.1.toArray⟩)) (fun k=>k=n):=Chg.set W2 ⟨n,3,none⟩ (.string ⟨T.2.1.toArray⟩);have hr4:=HS.out.1.chg hC4 (fun k hk e=>hn1 (e ▸ hk)) (fun k hk e=>hnF (e ▸ hk));have hX4:=hX3.set 3 (.string ⟨T.2.1.toArray⟩);have hY4:=hY3.far (p:=⟨n,3,none⟩) (by simp) (.string ⟨T.2.1.toArray⟩);have hx4:=RowsF.stays.go hx3 hC4 (fun _ h=>h) (fun k hk e=>hnF (e ▸ hk));have hm4:=hm3.chg hC4 (fun k hk=>by rw[hk];exact hn3);have hn4:=hY4.lt;obtain⟨d0,d1,d2⟩:=cells3 hY4;have CS:=bspans_any hr4 f t no ⟨T.1.toArray⟩ (by rw[size_mk];exact hts) hm4 (by rw[List.length_append,strV_data];omega) (by rw[strV_data];exact hpl);rw[strV_data] at CS;have HC:=hidH7 hr4 hX4 hY4 hx4 hm4 hC4 hn4;clear hX3 hY3 hx3 hm3 hr4 hX4 hY4 hx4 hm4 hC4 hn4
  go_wp2_with fail
  refine CS.mono ?_;clear CS;rintro e W5 ⟨sv,O2,F2,dv2,rfl,hfo,hr5,ht5⟩;obtain⟨As,cs,rfl,_⟩:=hfo.form;have hn2':n+1<(W2.setCell ⟨n,3,none⟩ (.string ⟨T.2.1.toArray⟩)).heap.size:=HC.out.2.2.2.2.2.2
 rotate_left
 focus
  rw[if_neg hw] at hD;have hl1:D.length≤1:=by rw[←hD];simp
  have hw2:(⟨T.2.2.toArray⟩:ByteArray)≠⟨#[]⟩:=fun e=>hw (by simpa using congrArg (fun b:ByteArray=>b.data.toList) e)
  have hwe:T.2.2.isEmpty=false:=by simpa using hw
  have CF:=fault_any HB.out.1 f t no 10 ⟨T.2.2.toArray⟩ (by omega);have e10:((10:Nat):Int)=10:=rfl;rw[e10] at CF;clear e10
  go_wp2_with fail
  refine CF.mono ?_;clear CF;rintro e W3 ⟨rfl,O1,dv1,hr3,ht3⟩;have HS:Hid (Rdr W3 O1 F rb lv pos bv bs dv1 (ds++D)∧Turn W2 W3 O F O1 F):=Lib.hid ⟨by rw[←hD];exact hr3,ht3⟩;clear hr3 ht3 d0 d1 d2;have hX3:=HS.out.2.chg.holds hnO HB.out.2.2.1;have hY3:=HS.out.2.chg.holds hpO HB.out.2.2.2.1;have hx3:=RowsF.stays.go HB.out.2.2.2.2.1 HS.out.2.chg (fun _ h=>h) (fun k hk ho=>HB.out.1.off k hk ho);have hm3:=HB.out.2.2.2.2.2.chg HS.out.2.chg h3;have hn1:¬O1 n:=HS.out.2.offO (by omega) hnO;have hp1:¬O1 (n+1):=HS.out.2.offO (by omega) hpO;have x3:=hX3.free 3;have c3:=hX3.cell 3;have hC4:Chg W3 (W3.setCell ⟨n,3,none⟩ (.string ⟨T.2.1.toArray⟩)) (fun k=>k=n):=Chg.set W3 ⟨n,3,none⟩ (.string ⟨T.2.1.toArray⟩);have hr4:=HS.out.1.chg hC4 (fun k hk e=>hn1 (e ▸ hk)) (fun k hk e=>hnF (e ▸ hk));have hX4:=hX3.set 3 (.string ⟨T.2.1.toArray⟩);have hY4:=hY3.far (p:=⟨n,3,none⟩) (by simp) (.string ⟨T.2.1.toArray⟩);have hx4:=RowsF.stays.go hx3 hC4 (fun _ h=>h) (fun k hk e=>hnF (e ▸ hk));have hm4:=hm3.chg hC4 (fun k hk=>by rw[hk];exact hn3);have hn4:=hY4.lt;obtain⟨d0,d1,d2⟩:=cells3 hY4;have CS:=bspans_any hr4 f t no ⟨T.1.toArray⟩ (by rw[size_mk];exact hts) hm4 (by rw[List.length_append,strV_data];omega) (by rw[strV_data];exact hpl);rw[strV_data] at CS;have HC:=hidH7 hr4 hX4 hY4 hx4 hm4 hC4 hn4;clear hX3 hY3 hx3 hm3 hr4 hX4 hY4 hx4 hm4 hC4 hn4
  go_wp2_with fail
  refine CS.mono ?_;clear CS;rintro e W5 ⟨sv,O2,F2,dv2,rfl,hfo,hr5,ht5⟩;obtain⟨As,cs,rfl,_⟩:=hfo.form;have hn2':n+1<(W3.setCell ⟨n,3,none⟩ (.string ⟨T.2.1.toArray⟩)).heap.size:=HC.out.2.2.2.2.2.2
 rotate_left
 all_goals
  have hX5:=ht5.chg.holds hn1 HC.out.2.1;have hY5:=ht5.chg.holds hp1 HC.out.2.2.1;have hx5:=RowsF.stays.go HC.out.2.2.2.1 ht5.chg ht5.moF (fun k hk ho=>HC.out.1.off k hk ho);have hnF5:¬F2 n:=ht5.offF (by omega) hnF;have hnO5:¬O2 n:=ht5.offO (by omega) hn1;have x5:=hX5.free 5;have c5:=hX5.cell 5;have hC6:Chg W5 (W5.setCell ⟨n,5,none⟩ (.slice As (spansOf T.1).length cs)) (fun k=>k=n):=Chg.set W5 ⟨n,5,none⟩ (.slice As (spansOf T.1).length cs);have hr6:=hr5.chg hC6 (fun k hk e=>hnO5 (e ▸ hk)) (fun k hk e=>hnF5 (e ▸ hk));have hX6:=hX5.set 5 (.slice As (spansOf T.1).length cs);have hY6:=hY5.far (p:=⟨n,5,none⟩) (by simp) (.slice As (spansOf T.1).length cs);have hfo6:=hfo.chg hC6 (fun _ h=>h) (fun k hk e=>hnF5 (e ▸ hk));have hx6:=RowsF.stays.go hx5 hC6 (fun _ h=>h) (fun k hk e=>hnF5 (e ▸ hk));simp only[List.setIfInBounds_toArray,List.set_cons_succ,List.set_cons_zero] at hX6;obtain⟨b0,b1,b2,b3,b4,b5,b6,b7,b8⟩:=cells9 hX6;obtain⟨q0,q1,q2⟩:=cells3 hY6;have CA:=badd_any hr6 { x with label:=⟨T.2.1.toArray⟩,spans:=spansOf T.1,file:=f,line:=no } (.slice As (spansOf T.1).length cs) (.slice Ar x.rows.length cr) ⟨hfo6,hx6⟩ f t ⟨#[]⟩ no 0 hl rfl rfl;simp only[] at CA;have HD:=hidH4 ht5 hC6 hnO5 hnF5;clear hfo hr5 ht5 hX5 hY5 hx5 hr6 hX6 hY6 hfo6 hx6 hC6 d0 d1 d2
  go_wp2_with fail
  refine CA.mono ?_;clear CA;rintro e W7 ⟨rfl,O3,bv3,hr7,ht7⟩;go_wp2
  go_end0
  refine⟨rfl,O3,F2,bv3,dv2,by rw[←List.append_assoc];exact hr7,?_⟩;have hn0:w.heap.size≤n:=Nat.le_of_eq HSZ.out.1;exact (((((HB.out.2.1.trans HS.out.2).poke HC.out.2.2.2.2.2.1 hn0).trans HD.out.1).poke HD.out.2.1 hn0).trans ht7)
end Go.Proofs.YtkdknllcllhpgaaGreatDoor
namespace Go.Bd
open Go.RowKit
def untilN (st:Bs→Bool):List Ln→Nat
 | []=>0
 | x::l=>if st (trim x.text.data.toList)=true then 0 else untilN st l+1
theorem untilN_le (st:Bs→Bool):∀l,untilN st l≤l.length
 | []=>Nat.le_refl _
 | x::l=>by
  have:=untilN_le st l
  unfold untilN;split<;>simp<;>omega
theorem LinesAt.at {w:World}{L:Nat→Prop}{v:Value}{ls:List Ln} (h:LinesAt w L v ls){k:Nat}{x:Ln} (hx:ls[k]? = some x):∃b off c,v=.slice (some ⟨b,off,none⟩) ls.length c∧ls.length≤c∧L b∧w.cell? ⟨b,off+k*3,none⟩=some (.string x.file)∧w.cell? ⟨b,off+k*3+1,none⟩=some (.int .i64 x.no)∧w.cell? ⟨b,off+k*3+2,none⟩=some (.string x.text):=by
 obtain⟨A,c,h1,h2,h3⟩:=h;obtain⟨b,off,rfl,h5,h6⟩:=h3 (fun e=>by rw[e] at hx;simp at hx);exact⟨b,off,c,h1,h2,h5,h6 k x hx 0 _ rfl,h6 k x hx 1 _ rfl,h6 k x hx 2 _ rfl⟩
theorem Rdr.moved {w:World}{O F:Nat→Prop}{rb:Nat}{lv:Value}{pos:Nat}{bv:Value}{bs:List Bl}{dv:Value}{ds:List Dg} (h:Rdr w O F rb lv pos bv bs dv ds) (q:Nat):Rdr (w.setCell ⟨rb,1,none⟩ (.int .i64 (q:Int))) O F rb lv q bv bs dv ds:=by
 obtain⟨kvs,h1,h2,h3⟩:=h.bl;have hc:Chg w (w.setCell ⟨rb,1,none⟩ (.int .i64 (q:Int))) (fun k=>k=rb):=Chg.set w _ _;have hF:∀k,F k→¬k=rb:=fun k hk e=>h.off k hk (e ▸ h.oR)
 refine⟨by simpa using h.hold.set 1 (.int .i64 (q:Int)),⟨kvs,h1,hc.owns h2 (fun k hk=>(h.oB k hk).2),fun j x kv hx hk=>⟨(h3 j x kv hx hk).1.chg hc (fun _ h=>h) hF,RowsF.stays.go (h3 j x kv hx hk).2 hc (fun _ h=>h) hF⟩⟩,hc.owns h.dg (fun k hk=>(h.oD k hk).2.1),h.oR,h.oB,h.oD,h.off,fun k hk=>Nat.lt_of_lt_of_le (h.ltO k hk) hc.size,fun k hk=>Nat.lt_of_lt_of_le (h.ltF k hk) hc.size⟩
theorem Rdr.turn {w:World}{O F:Nat→Prop}{rb:Nat}{lv:Value}{pos:Nat}{bv:Value}{bs:List Bl}{dv:Value}{ds:List Dg} (h:Rdr w O F rb lv pos bv bs dv ds) (q:Nat):Turn w (w.setCell ⟨rb,1,none⟩ (.int .i64 (q:Int))) O F O F :=
 ⟨(Chg.set w ⟨rb,1,none⟩ (.int .i64 (q:Int))).mono (fun k _ hk=>by have e:k=rb:=hk;exact e ▸ h.oR),fun _ h=>.inl h,fun _ h=>.inl h,fun _ h=>h⟩
theorem LinesAt.sub {w:World}{L:Nat→Prop}{A:Option Addr}{c n:Nat}{ls:List Ln} (h:LinesAt w L (.slice A n c) ls){pos k:Nat} (hk:pos+k≤ls.length):LinesAt w L (sliced A pos (pos+k) c 3) ((ls.drop pos).take k):=by
 obtain⟨A1,c1,h1,h2,h3⟩:=h;obtain⟨rfl,rfl,rfl⟩:A=A1∧n=ls.length∧c=c1:=by cases h1;exact⟨rfl,rfl,rfl⟩
 refine⟨_,_,by unfold sliced;rw[Nat.add_sub_cancel_left,List.length_take,List.length_drop,Nat.min_eq_left (by omega)],by rw[List.length_take,List.length_drop];omega,fun hn=>?_⟩;have hk0:k≠0:=fun e=>hn (by rw[e];rfl)
 obtain⟨b,off,rfl,h5,h6⟩:=h3 (fun e=>by rw[e] at hk;simp at hk;omega);rw[if_neg (by omega)];refine⟨b,off+pos*3,by simp only[Option.map,Addr.add];split<;>simp<;>omega,h5,fun j x hj i u hu=>?_⟩;have hj2:ls[pos+j]? = some x:=by
  rw[List.getElem?_take] at hj;split at hj
  ·rw[List.getElem?_drop] at hj;exact hj
  ·cases hj
 have:=h6 (pos+j) x hj2 i u hu
 rw[Nat.add_mul,←Nat.add_assoc off] at this;exact this
end Go.Bd
namespace Go.Proofs.YtkdknllcllhpgaaGreatDoor
open Go.RowKit Go.Bd
theorem until_any {w:World}{O F L:Nat→Prop}{rb:Nat}{lv:Value}{pos:Nat}{bv:Value}{bs:List Bl}{dv:Value}{ds:List Dg} (h:Rdr w O F rb lv pos bv bs dv ds){ls:List Ln} (hL:LinesAt w L lv ls) (hLO:∀k,L k→¬O k) (hLl:∀k,L k→k<w.heap.size)
  (hsz:∀x∈ls,x.text.size≤100000000) (hp:pos≤ls.length) (hn:ls.length≤1000000) (fid:Nat) (hen:∀args w,Sem.run Tryz.prog (callFunc fid args) w=.ok (.enter fid args) w) (st:Bs→Bool) (hst:∀t W,t.length≤100000000→Calls Tryz.prog fid #[strV t] W fun e W'=>e=.returned (.bool (st t))∧Below W.heap.size W W') :
  Calls Tryz.prog 137 #[.pointer (some ⟨rb,0,none⟩),.func (.func fid) #[] #[]] w fun e w'=>∃v,e=.returned (.tuple #[v,.bool (decide (pos+untilN st (ls.drop pos)<ls.length))])∧LinesAt w' L v ((ls.drop pos).take (untilN st (ls.drop pos)))∧Rdr w' O F rb lv (pos+untilN st (ls.drop pos)) bv bs dv ds∧Turn w w' O F O F:=by
 have p1:=h.hold.cell 1;simp at p1;obtain⟨A,c,rfl,hc,_⟩:∃A c,lv=.slice A ls.length c∧ls.length≤c∧True:=by
  obtain⟨A,c,h1,h2,_⟩:=hL;exact⟨A,c,h1,h2,trivial⟩
 have HR:=hidH4 h hL hLO hLl;have HS:=hidH2 hsz hst;clear h hL hLO hLl hsz hst
 go_enter Tryz.func137,Tryz.ntmps137
 go_wp2;clear p1
 go_loopg [] (ls.length-pos) (fun q wr=>∃k,pos+k+q=ls.length∧Hid (untilN st (ls.drop pos)=untilN st (ls.drop (pos+k))+k∧Rdr wr O F rb (.slice A ls.length c) (pos+k) bv bs dv ds∧Turn w wr O F O F))
 case atStart=>exact⟨0,by omega,by simp,HR.out.1,Turn.refl _ _ _⟩
 case round =>
  obtain⟨k,hk,HK⟩:=hrel;have p1:=HK.out.2.1.hold.cell 1;have p0:=HK.out.2.1.hold.cell 0;simp at p1 p0;have hpc:((pos:Int)+(k:Int))=((pos+k:Nat):Int):=by omega
  obtain⟨P,hP⟩:∃P,pos+k=P:=⟨_,rfl⟩;rw[hP] at HK hk;rw[←Int.natCast_add,hP] at p1;clear hpc;have HPP:=Lib.hid hP;clear hP
  by_cases hlt:P<ls.length
  ·obtain⟨x,hx⟩:∃x,ls[P]? = some x:=⟨_,List.getElem?_eq_getElem hlt⟩;have hL2:=HR.out.2.1.chg HK.out.2.2.chg HR.out.2.2.1;obtain⟨b,off,c1,hA,_,hb,l0,l1,l2⟩:=hL2.at hx;obtain⟨rfl,rfl⟩:A=some ⟨b,off,none⟩∧c=c1:=by cases hA;exact⟨rfl,rfl⟩
   have hxs:=HS.out.1 x (List.mem_of_getElem? hx);have hbl:b<wr.heap.size:=Nat.lt_of_lt_of_le (HR.out.2.2.2 b hb) HK.out.2.2.chg.size;have hrl:=HK.out.2.1.hold.lt;clear hL2 hA;go_wp2;refine wp_region_held_drew (S:=(fun w'=>w'.cell? ⟨rb,1,none⟩=some (.int .i64 (P:Int))∧w'.cell? ⟨rb,0,none⟩=some (.slice (some ⟨b,off,none⟩) ls.length c))) (by kernel_rfl) ?_ (fun hHeld0=>?_)
   ·(try dsimp only)
    exact⟨p1,p0⟩
   refine tkH 0 11 ?_;refine tkH 1 12 ?_;refine tkH 2 13 ?_;refine tkH 3 14 ?_;refine tkH 4 15 ?_;refine tkH 5 16 ?_;refine tkH 6 17 ?_;refine tkH 7 18 ?_;refine tkH 8 19 ?_;refine tkH 9 20 ?_;refine wpAnyH_done (by kernel_rfl) ?_ _
   go_wp2_with fail
   have hts:(trim x.text.data.toList).length≤100000000:=by have:=trim_size x.text;omega
   have hu:untilN st (ls.drop P)=if st (trim x.text.data.toList)=true then 0 else untilN st (ls.drop (P+1))+1:=by
    rw[List.drop_eq_getElem_cons hlt];have e:ls[P]=x:=by have:=List.getElem?_eq_getElem hlt;rw[hx] at this;exact (Option.some.inj this).symm
    rw[e];rfl
   have HU:=Lib.hid hu;clear hu hx;refine wp_region_held_drew (S:=(fun w'=>w'.cell? ⟨rb,1,none⟩=some (.int .i64 (P:Int))∧w'.cell? ⟨rb,0,none⟩=some (.slice (some ⟨b,off,none⟩) ls.length c)∧w'.cell? ⟨b,off+P*3,none⟩=some (.string x.file)∧w'.cell? ⟨b,off+P*3+1,none⟩=some (.int .i64 x.no)∧w'.cell? ⟨b,off+P*3+2,none⟩=some (.string x.text))) (by kernel_rfl) ?_ (fun hHeld0=>?_)
   ·(try dsimp only)
    first|exact⟨p1,p0,l0,l1,l2⟩|exact K1|exact K2
   refine tkH 0 28 ?_;refine tkH 1 29 ?_;refine tkH 2 30 ?_;refine tkH 3 31 ?_;refine tkH 4 32 ?_;refine tkH 5 33 ?_;refine tkH 6 34 ?_;refine tkH 7 35 ?_;refine tkH 8 36 ?_;refine tkH 9 37 ?_;refine tkH 10 38 ?_;refine rdyH [11] ?_;refine AllReadyH.cons (o:=⟨some 39,_,_,_,_,_⟩) rfl (fun K hK=>?_) AllReadyH.nil;go_simp;refine (counted_any x.file x.text x.no _ hxs).mono ?_;rintro e w1 ⟨rfl,hb1⟩;have K1:=And.intro ((hb1.cell (p:=⟨rb,1,none⟩) hrl).trans p1) (And.intro ((hb1.cell (p:=⟨rb,0,none⟩) hrl).trans p0) (And.intro ((hb1.cell (p:=⟨b,off+P*3,none⟩) hbl).trans l0) (And.intro ((hb1.cell (p:=⟨b,off+P*3+1,none⟩) hbl).trans l1) ((hb1.cell (p:=⟨b,off+P*3+2,none⟩) hbl).trans l2))));have hrl1:=Nat.lt_of_lt_of_le hrl hb1.size;have hbl1:=Nat.lt_of_lt_of_le hbl hb1.size;refine hK.out _ _ ?_ (fun hHeld1=>?_)
   ·(try dsimp only)
    first|exact⟨p1,p0,l0,l1,l2⟩|exact K1|exact K2
   clear hK K hHeld0
   (try go_frame)
   refine rdyH [12] ?_;refine AllReadyH.cons (o:=⟨some 40,_,_,_,_,_⟩) rfl (fun K hK=>?_) AllReadyH.nil;go_simp;refine (HS.out.2 (trim x.text.data.toList) _ hts).mono ?_;rintro e w2 ⟨rfl,hb2⟩;have K2:=And.intro ((hb2.cell (p:=⟨rb,1,none⟩) hrl1).trans K1.1) (And.intro ((hb2.cell (p:=⟨rb,0,none⟩) hrl1).trans K1.2.1) (And.intro ((hb2.cell (p:=⟨b,off+P*3,none⟩) hbl1).trans K1.2.2.1) (And.intro ((hb2.cell (p:=⟨b,off+P*3+1,none⟩) hbl1).trans K1.2.2.2.1) ((hb2.cell (p:=⟨b,off+P*3+2,none⟩) hbl1).trans K1.2.2.2.2))));refine hK.out _ _ ?_ (fun hHeld2=>?_)
   ·(try dsimp only)
    first|exact⟨p1,p0,l0,l1,l2⟩|exact K1|exact K2
   clear hK K hHeld1
   (try go_frame)
   refine wpAnyH_done (by kernel_rfl) ?_ _;have hC0:Chg wr w2 (fun _=>False):=by
    first
    | exact (((Chg.refl wr (fun _=>False)).drew.drew).trans (Chg.below hb1 _) (fun k _ h=>h)).trans (Chg.below hb2 _) (fun k _ h=>h)
    | exact (((Chg.refl wr (fun _=>False)).drew).trans (Chg.below hb1 _) (fun k _ h=>h)).trans (Chg.below hb2 _) (fun k _ h=>h)
   have hr2:=HK.out.2.1.chg hC0 (fun _ _ h=>h) (fun _ _ h=>h);have ht2:Turn w w2 O F O F:=HK.out.2.2.trans ⟨hC0.mono (fun k _ h=>h.elim),fun _ h=>.inl h,fun _ h=>.inl h,fun _ h=>h⟩;obtain⟨p1',p0',_⟩:=K2;have q1:=hr2.hold.free 1;have HT:=hidH2 hr2 ht2;clear hr2 ht2 hC0 K1 hb1 hb2 l0 l1 l2
   by_cases hse:st (trim x.text.data.toList)=true
   ·have hu0:untilN st (ls.drop pos)=k:=by
     have h1:=HK.out.1;have h2:=HU.out;rw[if_pos hse] at h2;rw[h2] at h1;omega
    have HU0:=Lib.hid hu0;clear hu0;rw[hse]
    go_wp2_with fail
    have hPc:(pos:Int)≤(P:Int):=by have:=HPP.out;omega
    have hPc2:(P:Int)≤(c:Int):=by omega
    have hcn:¬c=pos:=by have:=HPP.out;omega
    refine wp_region_held_drew (S:=(fun w'=>w'.cell? ⟨rb,1,none⟩=some (.int .i64 (P:Int))∧w'.cell? ⟨rb,0,none⟩=some (.slice (some ⟨b,off,none⟩) ls.length c))) (by kernel_rfl) ?_ (fun hHeld0=>?_)
    ·(try dsimp only)
     exact⟨p1',p0'⟩
    refine tkH 0 41 ?_;refine tkH 1 42 ?_;refine tkH 2 43 ?_;refine tkH 3 44 ?_;refine tkH 4 45 ?_;refine tkH 5 46 ?_;refine tkH 6 47 ?_;refine tkH 7 48 ?_;refine tkH 8 49 ?_;refine tkH 9 50 ?_;refine tkH 10 4 ?_;refine tkH 11 5 ?_;refine wpAnyH_done (by kernel_rfl) ?_ _;go_wp2
    go_ret2
    have hPP:=HPP.out;have hdec:decide (pos+untilN st (ls.drop pos)<ls.length)=true:=decide_eq_true (by rw[HU0.out];omega);rw[hdec,HU0.out,hPP];refine⟨_,rfl,?_,HT.out.1.chg (Chg.refl w2 (fun _=>False)).drew (fun _ _ h=>h) (fun _ _ h=>h),HT.out.2.trans ⟨(Chg.refl w2 O).drew,fun _ h=>.inl h,fun _ h=>.inl h,fun _ h=>h⟩⟩;have hLS:=((HR.out.2.1.chg HT.out.2.chg HR.out.2.2.1).chg (Chg.refl w2 (fun _=>False)).drew (fun _ _ h=>h)).sub (pos:=pos) (k:=k) (by omega);have hv:sliced (some ⟨b,off,none⟩) pos (pos+k) c 3=.slice (some ⟨b,off+pos*3,none⟩) (P-pos) (c-pos):=by
     have e:pos+k-pos=P-pos:=by omega
     simp only[sliced,if_neg hcn,Option.map,e,Addr.add];split<;>simp<;>omega
    rw[hv] at hLS;exact hLS
   ·have hu0:untilN st (ls.drop pos)=untilN st (ls.drop (P+1))+(k+1):=by
     have h1:=HK.out.1;have h2:=HU.out;rw[if_neg hse] at h2;rw[h2] at h1;omega
    have HU0:=Lib.hid hu0;clear hu0;have hse2:st (trim x.text.data.toList)=false:=by simpa using hse
    rw[hse2]
    go_wp2_with fail
    go_roundg (gk-1)
    case measure=>omega
    case rel =>
     have hPP:=HPP.out;refine⟨k+1,by omega,?_⟩;have e1:pos+(k+1)=P+1:=by omega
     rw[e1];exact⟨HU0.out,HT.out.1.moved (P+1),HT.out.2.trans (HT.out.1.turn (P+1))⟩
  ·obtain rfl:P=ls.length:=by omega
   have hu0:untilN st (ls.drop pos)=k:=by
    have h1:=HK.out.1;rw[List.drop_length] at h1;simpa [untilN] using h1
   have HU0:=Lib.hid hu0;clear hu0;have hPc:(pos:Int)≤(ls.length:Int):=by omega
   have hPP:=HPP.out;have hdec:decide (pos+untilN st (ls.drop pos)<ls.length)=false:=decide_eq_false (by rw[HU0.out];omega);have hLS:LinesAt wr.drew L (sliced A pos (pos+k) c 3) ((ls.drop pos).take k):=((HR.out.2.1.chg HK.out.2.2.chg HR.out.2.2.1).chg (Chg.refl wr (fun _=>False)).drew (fun _ _ h=>h)).sub (by omega);have e:pos+k-pos=ls.length-pos:=by omega
   have HG:=hidH3 hdec hPP e;clear hdec hPP
   by_cases hcp:c=pos
   rotate_left
   all_goals
    unfold sliced at hLS;rw[e] at hLS;clear e
   ·rw[if_neg hcp] at hLS;have HL:=Lib.hid hLS;clear hLS;go_wp2;refine wp_region_held_drew (S:=(fun w'=>w'.cell? ⟨rb,1,none⟩=some (.int .i64 (ls.length:Int))∧w'.cell? ⟨rb,0,none⟩=some (.slice A ls.length c))) (by kernel_rfl) ?_ (fun hHeld0=>?_)
    ·(try dsimp only)
     exact⟨p1,p0⟩
    refine tkH 0 11 ?_;refine tkH 1 12 ?_;refine tkH 2 13 ?_;refine tkH 3 14 ?_;refine tkH 4 15 ?_;refine tkH 5 16 ?_;refine tkH 6 17 ?_;refine tkH 7 18 ?_;refine tkH 8 19 ?_;refine tkH 9 20 ?_;refine wpAnyH_done (by kernel_rfl) ?_ _;go_wp2
    go_ret2
    rw[HG.out.1,HU0.out,HG.out.2.1];refine⟨_,rfl,HL.out,?_,?_⟩
    ·exact HK.out.2.1.chg (Chg.refl wr (fun _=>False)).drew (fun _ _ h=>h) (fun _ _ h=>h)
    ·exact HK.out.2.2.trans ⟨(Chg.refl wr O).drew,fun _ h=>.inl h,fun _ h=>.inl h,fun _ h=>h⟩
   ·rw[if_pos hcp] at hLS;have HL:=Lib.hid hLS;clear hLS;go_wp2;refine wp_region_held_drew (S:=(fun w'=>w'.cell? ⟨rb,1,none⟩=some (.int .i64 (ls.length:Int))∧w'.cell? ⟨rb,0,none⟩=some (.slice A ls.length c))) (by kernel_rfl) ?_ (fun hHeld0=>?_)
    ·(try dsimp only)
     exact⟨p1,p0⟩
    refine tkH 0 11 ?_;refine tkH 1 12 ?_;refine tkH 2 13 ?_;refine tkH 3 14 ?_;refine tkH 4 15 ?_;refine tkH 5 16 ?_;refine tkH 6 17 ?_;refine tkH 7 18 ?_;refine tkH 8 19 ?_;refine tkH 9 20 ?_;refine wpAnyH_done (by kernel_rfl) ?_ _;subst hcp;go_wp2
    go_ret2
    rw[HG.out.1,HU0.out,HG.out.2.1];refine⟨_,rfl,?_,?_,?_⟩
    ·have h0:ls.length-c=0:=by omega
     have hL2:=HL.out;rw[h0,Nat.sub_self] at hL2;exact hL2
    ·exact HK.out.2.1.chg (Chg.refl wr (fun _=>False)).drew (fun _ _ h=>h) (fun _ _ h=>h)
    ·exact HK.out.2.2.trans ⟨(Chg.refl wr O).drew,fun _ h=>.inl h,fun _ h=>.inl h,fun _ h=>h⟩
end Go.Proofs.YtkdknllcllhpgaaGreatDoor
namespace Go.Proofs.YtkdknllcllhpgaaGreatDoor
open Go.RowKit Go.Bd
theorem enter_para (args:Array Value) (w:World):Sem.run Tryz.prog (callFunc 144 args) w=.ok (.enter 144 args) w:=by kernel_rfl
theorem para1_any (t:Bs) (w:World) (ht:t.length≤100000000):Calls Tryz.prog 144 #[strV t] w fun e w'=>e=.returned (.bool (!plainL t))∧Below w.heap.size w w':=by
 have hp:=fun w'=>plain_any ⟨t.toArray⟩ w' (by rw[size_mk];exact ht)
 rw[strV_data] at hp;unfold strV
 go_enter Tryz.func144,Tryz.ntmps144
 go_wp2_with (go_at_call 145;refine (hp _).mono ?_;rintro e w1 ⟨rfl,hb1⟩)
 go_ret
 exact⟨by simp,hb1⟩
end Go.Proofs.YtkdknllcllhpgaaGreatDoor
namespace Go.Bd
open Go.RowKit
theorem rows_nil (w:World) (F:Nat→Prop):RowsF w F (.slice none 0 0) []:=⟨none,0,[],rfl,Nat.le_refl _,rfl,fun h=>absurd rfl h,fun j x kv h=>by simp at h⟩
def paraT (ls:List Ln) (pos:Nat) (s:ByteArray):List Bs:=s.data.toList::((ls.drop pos).take (untilN (fun t=>!plainL t) (ls.drop pos))).map (fun x=>trim x.text.data.toList)
def paraB (ls:List Ln) (pos:Nat) (s:ByteArray):Bs:=Lib.join (paraT ls pos s) [32]
end Go.Bd
namespace Go.Proofs.YtkdknllcllhpgaaGreatDoor
open Go.RowKit Go.Bd
theorem strs_info:(Tryz.prog.info? 9).map (fun i=>(i.zero,i.size,i.bytes))=some (some (.string ⟨#[]⟩),1,16):=by kernel_rfl
theorem para_any {w:World}{O F L:Nat→Prop}{rb:Nat}{lv:Value}{pos:Nat}{bv:Value}{bs:List Bl}{dv:Value}{ds:List Dg} (h:Rdr w O F rb lv pos bv bs dv ds){ls:List Ln} (hL:LinesAt w L lv ls) (hLO:∀k,L k→¬O k) (hLl:∀k,L k→k<w.heap.size)
  (hsz:∀x∈ls,x.text.size≤100000000) (hp:pos≤ls.length) (hn:ls.length≤1000000) (f t:ByteArray) (no:Int) (s:ByteArray) {m:Int} (hm:Glob m w) (h3:∀k,O k→3≤k)
  (hl:bs.length≤1000000000) (hj:(paraB ls pos s).length≤100000000) (hd:ds.length+(faultsOf (paraB ls pos s)).length≤1000000000) (hpl:plS (paraB ls pos s)=true) :
  Calls Tryz.prog 96 #[.pointer (some ⟨rb,0,none⟩),.agg #[.string f,.int .i64 no,.string t],.string s] w fun e w'=>e=.returned (.tuple #[])∧∃O' F' bv' dv',Rdr w' O' F' rb lv (pos+untilN (fun t=>!plainL t) (ls.drop pos)) bv' (bs++[⟨2,0,false,⟨#[]⟩,⟨#[]⟩,spansOf (paraB ls pos s),[],f,no⟩]) dv' (ds++(faultsOf (paraB ls pos s)).map (dgOf f no ⟨(paraB ls pos s).toArray⟩))∧Turn w w' O F O' F':=by
 have hB1:Below w.heap.size w (w.alloc (.cells #[.string f,.int .i64 no,.string t] 107)):=(Below.refl _ w).alloc (Nat.le_refl _) _;have h1:=h.below hB1;have hX:=Holds.new w 107 #[.string f,.int .i64 no,.string t];have hm1:=hm.chg (Chg.below hB1 (fun _=>False)) (fun _ h=>h.elim);have hL1:=hL.chg (Chg.below hB1 (fun _=>False)) (fun _ _ h=>h);have hT1:Turn w (w.alloc (.cells #[.string f,.int .i64 no,.string t] 107)) O F O F:=⟨Chg.below hB1 O,fun _ h=>.inl h,fun _ h=>.inl h,fun _ h=>h⟩;have hLl1:∀k,L k→k<(w.alloc (.cells #[.string f,.int .i64 no,.string t] 107)).heap.size:=fun k hk=>by have:=hLl k hk;simp;omega
 obtain⟨n,hn1⟩:∃n,w.heap.size=n:=⟨_,rfl⟩;have hn3:3≤n:=hn1 ▸ hm.three;rw[hn1] at hX;obtain⟨W1,hW1⟩:∃W1,w.alloc (.cells #[.string f,.int .i64 no,.string t] 107)=W1:=⟨_,rfl⟩;rw[hW1] at h1 hX hm1 hL1 hLl1 hT1;have CU:=until_any h1 hL1 hLO hLl1 hsz hp hn 144 enter_para (fun t=>!plainL t) para1_any;unfold paraB paraT at hj hd hpl ⊢;obtain⟨kk,hkk⟩:∃kk,untilN (fun t=>!plainL t) (ls.drop pos)=kk:=⟨_,rfl⟩;have hkl:pos+kk≤ls.length:=by have:=untilN_le (fun t=>!plainL t) (ls.drop pos);rw[List.length_drop] at this;omega
 rw[hkk] at hj hd hpl CU ⊢;obtain⟨mid,hmid⟩:∃mid,(ls.drop pos).take kk=mid:=⟨_,rfl⟩;have hml:mid.length=kk:=by rw[←hmid,List.length_take,List.length_drop];omega
 have hms:∀x∈mid,x.text.size≤100000000:=fun x hx=>hsz x (List.mem_of_mem_drop (List.mem_of_mem_take (hmid ▸ hx)))
 rw[hmid] at hj hd hpl CU ⊢;obtain⟨xs,hxs⟩:∃xs:List ByteArray,s::mid.map (fun x=>(⟨(trim x.text.data.toList).toArray⟩:ByteArray))=xs:=⟨_,rfl⟩;have hxl:xs.length=kk+1:=by rw[←hxs];simp[hml]
 have hrow:(Value.string s::mid.map (fun x=>strV (trim x.text.data.toList)))=xs.map Value.string:=by rw[←hxs];simp[strV]
 have hjn:Lib.join (xs.map (·.data.toList)) [32]=Lib.join (s.data.toList::mid.map (fun x=>trim x.text.data.toList)) [32]:=by
  rw[←hxs,List.map_cons,List.map_map];congr 2
 rw[←hjn] at hj hd hpl ⊢;obtain⟨J,hJ⟩:∃J,Lib.join (xs.map (·.data.toList)) [32]=J:=⟨_,rfl⟩;rw[hJ] at hj hd hpl ⊢;have HJ:=hidH3 hrow hxl hJ;clear hxs hxl hrow hjn hJ;have hnO:¬O n:=fun e=>by have:=h.ltO n e;omega
 have hnF:¬F n:=fun e=>by have:=h.ltF n e;omega
 have HX:=hidH4 hX hm1 hT1 hn1;have HL:=hidH3 hLl1 hLO hms;have HH:=hidH3 hkk hmid h3;clear h h1 hX hm hm1 hL hL1 hLl hLl1 hLO hB1 hT1 hkk hmid hsz hms h3
 go_enter Tryz.func96,Tryz.ntmps96
 go_wp2_with fail
 refine CU.mono ?_;clear CU;rintro e W2 ⟨v,rfl,hL2,hr2,ht2⟩
 (try rw[hn1])
 clear hW1 hn1;obtain⟨A,c,rfl,hcl⟩:∃A c,v=.slice A mid.length c∧mid.length≤c:=by
  obtain⟨A,c,h1,h2,_⟩:=hL2;exact⟨A,c,h1,h2⟩
 have hown:(W2.alloc (.cells #[.string s] 9)).ownsRow W2.heap.size 9 1 (.slice (some ⟨W2.heap.size,0,none⟩) 1 1) 1 [.string s]:=⟨by simp,.inr ⟨_,1,_,rfl,Nat.le_refl _,heap_alloc_new W2 _,Nat.le_refl _,by unfold maxLen;omega,rfl,rfl⟩⟩;have hlt2:=ht2.chg.size;have HQ:=hidH5 hL2 hr2 ht2 hown hlt2;clear hL2 hr2 ht2 hown hlt2;go_wp2;obtain⟨B,hB⟩:∃B,W2.heap.size=B:=⟨_,rfl⟩;rw[hB]
 go_loopg [8,10,21] kk (fun q vt vx vi wr=>∃k:Nat,k+q=kk∧vi=.int .i64 (k:Int)∧Hid (wr.ownsRow B 9 1 vt (k+1) (Value.string s::(mid.take k).map (fun x=>strV (trim x.text.data.toList)))∧Below B W2 wr))
 case atStart=>exact⟨0,by omega,rfl,by rw[←hB];simpa using HQ.out.2.2.2.1,by rw[←hB];exact (Below.refl _ W2).alloc (Nat.le_refl _) _⟩
 case round =>
  obtain⟨k,hk,rfl,HK⟩:=hrel;obtain⟨TA,tc,rfl,htc⟩:=own_slice HK.out.1
  by_cases hlt:k<kk
  ·obtain⟨x,hx⟩:∃x,mid[k]? = some x:=⟨_,List.getElem?_eq_getElem (by omega)⟩;obtain⟨b,off,c1,hA,_,hb,l0,l1,l2⟩:=HQ.out.1.at hx;obtain⟨rfl,rfl⟩:A=some ⟨b,off,none⟩∧c=c1:=by cases hA;exact⟨rfl,rfl⟩
   have hxs:=HL.out.2.2 x (List.mem_of_getElem? hx);have hbB:b<B:=by have:=HL.out.1 b hb;have:=HQ.out.2.2.2.2;omega
   replace l0:=(HK.out.2.cell (p:=⟨b,off+k*3,none⟩) hbB).trans l0
   replace l1:=(HK.out.2.cell (p:=⟨b,off+k*3+1,none⟩) hbB).trans l1
   replace l2:=(HK.out.2.cell (p:=⟨b,off+k*3+2,none⟩) hbB).trans l2
   have cc:=fun W=>counted_any x.file x.text x.no W hxs
   clear hA
   go_wp2_with fail
   refine (cc _).mono ?_;clear cc;rintro e w1 ⟨rfl,hb1⟩;unfold strV;have hba:Below wr.heap.size wr w1:=((Below.refl _ wr).alloc (Nat.le_refl _) _).trans (hb1.mono (by simp));have hown1:=own_below HK.out.1 hba;have hBw:B≤wr.heap.size:=by have:=HK.out.2.size;omega
   have hw1:=hba.size;have hbl1:Below B W2 w1:=HK.out.2.trans (hba.mono hBw);have HW:=hidH4 hown1 hbl1 hba hx;clear hown1 hbl1 hba hb1 hx l0 l1 l2
   go_wp2_with (at_builtin;refine wpList_app1 _ rfl _ _ 24 rfl B 9 (.string ⟨#[]⟩) 16 Tryz.underlying24 strs_info rfl _ (k+1) _ rfl (HW.out.1.alloc _) _ 1 (.string ⟨(trim x.text.data.toList).toArray⟩) rfl (by simp) rfl (by unfold maxLen;omega) (by omega) (by simp;omega) ?_)
   intro v1 w2 hown2 hgr2;have hbl2:Below B W2 w2:=(HW.out.2.1.alloc (by omega) _).grown hgr2 (by simp;omega) (fun q hq=>(HW.out.1.lt q hq).1);have hK2:Hid (w2.ownsRow B 9 1 v1 (k+1+1) (Value.string s::(mid.take (k+1)).map (fun x=>strV (trim x.text.data.toList)))∧Below B W2 w2):=Lib.hid ⟨by rw[List.take_add_one,HW.out.2.2.2];simpa [strV] using hown2,hbl2⟩;clear hown2 hgr2 hbl2;go_wp2
   go_roundg (gk-1)
   case measure=>omega
   case rel=>exact⟨k+1,by omega,by go_num,hK2.out⟩
  ·obtain rfl:k=kk:=by omega
   have hown:=HK.out.1;rw[List.take_of_length_le (by omega)] at hown;have hrow:=HJ.out.1;have hJ:=HJ.out.2.2;have hxl:=HJ.out.2.1;rw[hrow] at hown;obtain⟨g,tc2,hgA,_,hgl,_,_,_⟩:=own_some hown (by omega);obtain⟨rfl,rfl⟩:TA=some ⟨g,0,none⟩∧tc=tc2:=by cases hgA;exact⟨rfl,rfl⟩
   have hC2:Chg W2 wr (fun _=>False):=Chg.below (hB ▸ HK.out.2) _;have hr:=HQ.out.2.1.chg hC2 (fun _ _ h=>h) (fun _ _ h=>h);have htw:Turn w wr O F O F:=(HX.out.2.2.1.trans HQ.out.2.2.1).trans ⟨hC2.mono (fun _ _ h=>h.elim),fun _ h=>.inl h,fun _ h=>.inl h,fun _ h=>h⟩;have hXw:=hC2.holds (fun h=>h) (HQ.out.2.2.1.chg.holds hnO HX.out.1);have hmw:=(HX.out.2.1.chg HQ.out.2.2.1.chg HH.out.2.2).chg hC2 (fun _ h=>h.elim);have hBb:=(Below.refl wr.heap.size wr).alloc (Nat.le_refl _) (.cells #[.int .u8 2,.int .i64 0,.bool false,.string ⟨#[]⟩,.string ⟨#[]⟩,.slice none 0 0,.slice none 0 0,.string ⟨#[]⟩,.int .i64 0] 72);have hCb:=Chg.below hBb (fun _=>False);have hrb:=hr.below hBb;have hXb:=hXw.alloc (.cells #[.int .u8 2,.int .i64 0,.bool false,.string ⟨#[]⟩,.string ⟨#[]⟩,.slice none 0 0,.slice none 0 0,.string ⟨#[]⟩,.int .i64 0] 72);have hNb:=Holds.new wr 72 #[.int .u8 2,.int .i64 0,.bool false,.string ⟨#[]⟩,.string ⟨#[]⟩,.slice none 0 0,.slice none 0 0,.string ⟨#[]⟩,.int .i64 0];have hmb:=hmw.chg hCb (fun _ h=>h.elim);have hcb:∀(j:Nat) x,xs[j]? = some x→(wr.alloc (.cells #[.int .u8 2,.int .i64 0,.bool false,.string ⟨#[]⟩,.string ⟨#[]⟩,.slice none 0 0,.slice none 0 0,.string ⟨#[]⟩,.int .i64 0] 72)).cell? ⟨g,0+j,none⟩=some (.string x):=fun j x hx=>by
    rw[Nat.zero_add];exact hCb.cell (p:=⟨g,j,none⟩) (fun h=>h) (own_cell hown (by rw[List.getElem?_map,hx];rfl))
   have htb:Turn w (wr.alloc (.cells #[.int .u8 2,.int .i64 0,.bool false,.string ⟨#[]⟩,.string ⟨#[]⟩,.slice none 0 0,.slice none 0 0,.string ⟨#[]⟩,.int .i64 0] 72)) O F O F:=htw.trans ⟨hCb.mono (fun _ _ h=>h.elim),fun _ h=>.inl h,fun _ h=>.inl h,fun _ h=>h⟩;have hgb:g<(wr.alloc (.cells #[.int .u8 2,.int .i64 0,.bool false,.string ⟨#[]⟩,.string ⟨#[]⟩,.slice none 0 0,.slice none 0 0,.string ⟨#[]⟩,.int .i64 0] 72)).heap.size:=by simp;omega
   have hnn:n<wr.heap.size:=hXw.lt;obtain⟨nb,hnb⟩:∃nb,wr.heap.size=nb:=⟨_,rfl⟩;rw[hnb] at hNb hnn;have hnbO:¬O nb:=fun e=>by have:=hr.ltO nb e;omega
   have hnbF:¬F nb:=fun e=>by have:=hr.ltF nb e;omega
   have hwnb:w.heap.size≤nb:=by have:=htw.chg.size;omega
   obtain⟨Wb,hWb⟩:∃Wb,wr.alloc (.cells #[.int .u8 2,.int .i64 0,.bool false,.string ⟨#[]⟩,.string ⟨#[]⟩,.slice none 0 0,.slice none 0 0,.string ⟨#[]⟩,.int .i64 0] 72)=Wb:=⟨_,rfl⟩;rw[hWb] at hrb hXb hNb hmb hcb htb hgb;obtain⟨d0,d1,d2⟩:=cells3 hXb;have cj:=fun W (hW:Chg Wb W (fun _=>False))=>Tryz.strings_Join g 0 tc xs ⟨#[32]⟩ W (fun j x hx=>hW.cell (fun h=>h) (hcb j x hx)) (Nat.lt_of_lt_of_le hgb hW.size) (by omega) (by omega) (by have e:(⟨#[32]⟩:ByteArray).data.toList=[32]:=rfl;rw[e,hJ];omega)
   have e32:(⟨#[32]⟩:ByteArray).data.toList=[32]:=rfl;rw[hxl,e32,hJ] at cj;have HB:=hidH5 hrb htb hXb hNb hmb;have CJ:=Lib.hid cj;clear hJ hxl hown hrow hC2 hr htw hXw hmw hBb hCb hrb hXb hNb hmb hcb htb hgb hgA hgl cj e32;have HWB:=Lib.hid hWb;have HNB:=Lib.hid hnb;clear hWb hnb
   go_wp2_with fail
   (try rw[HWB.out])
   (try rw[HNB.out])
   clear HWB HNB;have hnne:nb≠n:=by omega
   refine wp_region_held_drew (S:=(fun w'=>w'.cell? ⟨n,0,none⟩=some (.string f)∧w'.cell? ⟨n,1,none⟩=some (.int .i64 no)∧w'.cell? ⟨n,2,none⟩=some (.string t))) (by kernel_rfl) ?_ (fun hHeld0=>?_)
   ·(try dsimp only)
    first|exact⟨d0,d1,d2⟩|exact cells3 hX3|exact cells3 hX4|exact cells3 hX5
   refine tkH 0 32 ?_;refine tkH 1 33 ?_;refine tkH 2 34 ?_;refine rdyH [3] ?_;refine AllReadyH.cons (o:=⟨some 35,_,_,_,_,_⟩) rfl (fun K hK=>?_) AllReadyH.nil;go_simp;refine (CJ.out _ (by first|exact Chg.refl _ _|exact (Chg.refl _ _).drew|exact (Chg.refl _ _).drew.drew)).mono ?_;rintro e w3 ⟨rfl,hb3⟩;have hC3:Chg Wb w3 (fun _=>False):=by
    first
    | exact (Chg.refl _ _).trans (Chg.below hb3 _) (fun k _ h=>h)
    | exact ((Chg.refl _ _).drew).trans (Chg.below hb3 _) (fun k _ h=>h)
    | exact ((Chg.refl _ _).drew.drew).trans (Chg.below hb3 _) (fun k _ h=>h)
   have hX3:=hC3.holds (fun h=>h) HB.out.2.2.1;have hN3:=hC3.holds (fun h=>h) HB.out.2.2.2.1;have hr3:=HB.out.1.chg hC3 (fun _ _ h=>h) (fun _ _ h=>h);have hm3:=HB.out.2.2.2.2.chg hC3 (fun _ h=>h.elim);have ht3:Turn w w3 O F O F:=HB.out.2.1.trans ⟨hC3.mono (fun _ _ h=>h.elim),fun _ h=>.inl h,fun _ h=>.inl h,fun _ h=>h⟩;have H3:=hidH4 hr3 hm3 ht3 hN3;clear hb3 hC3 hr3 hm3 ht3 hN3;refine hK.out _ _ ?_ (fun hHeld1=>?_)
   ·(try dsimp only)
    first|exact⟨d0,d1,d2⟩|exact cells3 hX3|exact cells3 hX4|exact cells3 hX5
   clear hK K hHeld0
   (try go_frame)
   refine rdyH [4] ?_;refine AllReadyH.cons (o:=⟨some 36,_,_,_,_,_⟩) rfl (fun K hK=>?_) AllReadyH.nil;go_simp;have CS:=bspans_any H3.out.1 f t no ⟨J.toArray⟩ (by rw[size_mk];exact hj) H3.out.2.1 (by rw[strV_data];exact hd) (by rw[strV_data];exact hpl);rw[strV_data] at CS;refine CS.mono ?_;clear CS;rintro e w4 ⟨sv,O2,F2,dv2,rfl,hfo,hr4,ht4⟩;obtain⟨As,cs,rfl,_⟩:=hfo.form;have hnb4:=H3.out.2.2.2.lt;have hX4:=ht4.chg.holds hnO hX3;have hN4:=ht4.chg.holds hnbO H3.out.2.2.2;have hbO2:=ht4.offO hnb4 hnbO;have hbF2:=ht4.offF hnb4 hnbF;have c5:=hN4.cell 5;have x5:=hN4.free 5;have hX5:=hX4.far (p:=⟨nb,5,none⟩) (Ne.symm hnne) (.slice As (spansOf J).length cs);have H4:=hidH4 hfo hr4 ht4 hN4;clear hfo hr4 ht4 hN4 hnb4;refine hK.out _ _ ?_ (fun hHeld2=>?_)
   ·(try dsimp only)
    first|exact⟨d0,d1,d2⟩|exact cells3 hX3|exact cells3 hX4|exact cells3 hX5
   clear hK K hHeld1
   (try go_frame)
   refine tkH 5 37 ?_;refine rdyH [6] ?_;refine AllReadyH.cons rfl (fun K hK=>?_) AllReadyH.nil;go_simp;refine hK.out _ _ ?_ (fun hHeld3=>?_)
   ·(try dsimp only)
    first|exact⟨d0,d1,d2⟩|exact cells3 hX3|exact cells3 hX4|exact cells3 hX5
   clear hK K hHeld2
   (try go_frame)
   refine wpAnyH_done (by kernel_rfl) ?_ _;have hC6:Chg w4 (w4.setCell ⟨nb,5,none⟩ (.slice As (spansOf J).length cs)) (fun k=>k=nb):=Chg.set w4 ⟨nb,5,none⟩ (.slice As (spansOf J).length cs);have hr6:=H4.out.2.1.chg hC6 (fun k hk e=>hbO2 (e ▸ hk)) (fun k hk e=>hbF2 (e ▸ hk));have hfo6:=H4.out.1.chg hC6 (fun _ h=>h) (fun k hk e=>hbF2 (e ▸ hk));have hN6:=H4.out.2.2.2.set 5 (.slice As (spansOf J).length cs);simp only[List.setIfInBounds_toArray,List.set_cons_succ,List.set_cons_zero] at hN6;obtain⟨b0,b1,b2,b3,b4,b5,b6,b7,b8⟩:=cells9 hN6;obtain⟨q0,q1,q2⟩:=cells3 hX5;have CA:=badd_any hr6 ⟨2,0,false,⟨#[]⟩,⟨#[]⟩,spansOf J,[],f,no⟩ (.slice As (spansOf J).length cs) (.slice none 0 0) ⟨hfo6,rows_nil _ _⟩ f t ⟨#[]⟩ no 0 hl rfl rfl;have e2:((2:Nat):Int)=2:=rfl;have e0:((0:Nat):Int)=0:=rfl;simp only[e2,e0] at CA;have H6:=Lib.hid hC6;clear e2 e0 hr6 hfo6 hN6 hX5 hX4 hX3 hC6 d0 d1 d2
   go_wp2_with fail
   refine CA.mono ?_;clear CA;rintro e W7 ⟨rfl,O3,bv3,hr7,ht7⟩;go_wp2
   go_end0
   exact⟨rfl,O3,F2,bv3,dv2,hr7,((H3.out.2.2.1.trans H4.out.2.2.1).poke H6.out hwnb).trans ht7⟩
end Go.Proofs.YtkdknllcllhpgaaGreatDoor
namespace Go.Proofs.YtkdknllcllhpgaaGreatDoor
open Go.RowKit Go.Bd Go.Shelf
def bldRen:Go.Shelf.Ren:=⟨fun|166=>97|167=>139|240=>147|276=>198|n=>n,fun|0=>0|3=>3|4=>4|5=>5|9=>9|20=>20|37=>116|70=>115|72=>118|75=>151|164=>266|80=>120|127=>154|n=>n,fun|n=>n⟩
theorem bldExtra:Builder.Extra Tryz.prog bldRen where
 sizeBuilder:=by kernel_rfl
 liesBuilder:=by kernel_rfl
 t5:=Tryz.underlying5
 a5:=Tryz.isAgg5
 z5:=Tryz.sizeOf5
 v5:=Tryz.zeroValue5
 infoByte:=by kernel_rfl
 cellsByte:=by kernel_rfl
 sizeByte:=by kernel_rfl
 neB5:=by decide
theorem bldLays166:Go.Proofs.Lays.n166 Tryz.prog bldRen where
 mixed:=by kernel_rfl
 f166:=Tryz.func97.trans (congrArg some (by kernel_rfl))
 f240:=Tryz.func147.trans (congrArg some (by kernel_rfl))
 f276:=Tryz.func198.trans (congrArg some (by kernel_rfl))
 t0:=Tryz.underlying0
 a0:=Tryz.isAgg0
 z0:=Tryz.sizeOf0
 v0:=Tryz.zeroValue0
 t3:=Tryz.underlying3
 a3:=Tryz.isAgg3
 z3:=Tryz.sizeOf3
 v3:=Tryz.zeroValue3
 t4:=Tryz.underlying4
 a4:=Tryz.isAgg4
 z4:=Tryz.sizeOf4
 v4:=Tryz.zeroValue4
 t9:=Tryz.underlying9
 a9:=Tryz.isAgg9
 z9:=Tryz.sizeOf9
 v9:=Tryz.zeroValue9
 t20:=Tryz.underlying20
 a20:=Tryz.isAgg20
 z20:=Tryz.sizeOf20
 v20:=Tryz.zeroValue20
 t37:=Tryz.underlying116
 a37:=Tryz.isAgg116
 z37:=Tryz.sizeOf116
 v37:=Tryz.zeroValue116
 t70:=Tryz.underlying115
 a70:=Tryz.isAgg115
 z70:=Tryz.sizeOf115
 v70:=Tryz.zeroValue115
 t72:=Tryz.underlying118
 a72:=Tryz.isAgg118
 z72:=Tryz.sizeOf118
 v72:=Tryz.zeroValue118
 t75:=Tryz.underlying151
 a75:=Tryz.isAgg151
 z75:=Tryz.sizeOf151
 v75:=Tryz.zeroValue151
 t164:=Tryz.underlying266
 a164:=Tryz.isAgg266
 z164:=Tryz.sizeOf266
 v164:=Tryz.zeroValue266
abbrev Bld (B b:Nat) (l:Bs) (w:World):Prop:=Lib.IsBuilder 118 5 B b (Lib.byteCells l) w
theorem bld_write (B b:Nat) (l:Bs) (s:ByteArray) (w:World) (h:Bld B b l w) (hlen:l.length+s.size≤140737488355328) (hBw:B≤w.heap.size) :
  Calls Tryz.prog 97 #[.pointer (some ⟨b,0,none⟩),.string s] w fun e w'=>e=.returned (.tuple #[.int .i64 s.size,.nilIface])∧Bld B b (l++s.data.toList) w'∧Below B w w' :=
 (Any.Builder_WriteString (ρ:=bldRen) bldLays166 bldExtra B b _ s w h (by rw[Lib.byteCells_length];exact hlen) hBw).mono fun _ _ ⟨h1,h2,h3⟩=>⟨h1,by unfold Bld;rw[Lib.byteCells,List.map_append];exact .inr h2,h3⟩
theorem bld_string (B b:Nat) (l:Bs) (w:World) (h:Bld B b l w) (hBw:B≤w.heap.size) :
  Calls Tryz.prog 60 #[.pointer (some ⟨b,0,none⟩)] w fun e w'=>e=.returned (.string ⟨l.toArray⟩)∧Below B w w' :=
 Tryz.Builder_String_any B b l w h hBw
end Go.Proofs.YtkdknllcllhpgaaGreatDoor
namespace Go.Bd
mutual
def each1:Sp→Nat→List Sp
 | ⟨q,t,u,v,kids⟩,k=>if q=k then ⟨q,t,u,v,kids⟩::eachL kids k else eachL kids k
def eachL:List Sp→Nat→List Sp
 | [],_=>[]
 | x::l,k=>each1 x k++eachL l k
end
mutual
def many1:Sp→Nat
 | ⟨_,_,_,_,kids⟩=>1+manyL kids
def manyL:List Sp→Nat
 | []=>0
 | x::l=>many1 x+manyL l
end
mutual
def kinds1:Sp→Bool
 | ⟨k,_,_,_,kids⟩=>decide (k≤6)&&kindsL kids
def kindsL:List Sp→Bool
 | []=>true
 | x::l=>kinds1 x&&kindsL l
end
mutual
theorem snd_kinds1:∀(x:Sp) (d:Nat),snd1 x d=true→kinds1 x=true
 | ⟨k,t,u,v,kids⟩,d,h=>by
  simp only[snd1,Bool.and_eq_true] at h;obtain⟨⟨⟨⟨h1,_⟩,h2⟩,_⟩,_⟩:=h;simp only[kinds1,Bool.and_eq_true];refine⟨h1,?_⟩;split at h2
  ·simp only[Bool.and_eq_true] at h2;exact snd_kindsL kids _ _ h2.2
  ·cases kids with
   | nil=>rfl
   | cons x l=>simp at h2
theorem snd_kindsL:∀(l:List Sp) (d p:Nat),sndL l d p=true→kindsL l=true
 | [],_,_,_=>rfl
 | x::l,d,p,h=>by
  simp only[sndL,Bool.and_eq_true] at h;simp only[kindsL,Bool.and_eq_true];exact⟨snd_kinds1 x d h.1.1,snd_kindsL l d _ h.2⟩
end
mutual
theorem each1_kind:∀(x:Sp) (k:Nat),∀y∈each1 x k,y.kind=k
 | ⟨q,t,u,v,kids⟩,k,y,hy=>by
  have ih:=eachL_kind kids k;simp only[each1] at hy;split at hy
  ·rename_i hq
   rcases List.mem_cons.1 hy with rfl|hy
   ·exact hq
   ·exact ih y hy
  ·exact ih y hy
theorem eachL_kind:∀(l:List Sp) (k:Nat),∀y∈eachL l k,y.kind=k
 | [],_,_,hy=>by simp[eachL] at hy
 | x::l,k,y,hy=>by
  simp only[eachL,List.mem_append] at hy
  rcases hy with hy|hy
  ·exact each1_kind x k y hy
  ·exact eachL_kind l k y hy
end
def sum7 (f:Nat→Nat):Nat:=f 0+f 1+f 2+f 3+f 4+f 5+f 6
mutual
theorem each_sum1:∀(x:Sp),kinds1 x=true→sum7 (fun k=>(each1 x k).length)=many1 x
 | ⟨q,t,u,v,kids⟩,h=>by
  simp only[kinds1,Bool.and_eq_true,decide_eq_true_eq] at h;have ih:=each_sumL kids h.2;have e:∀k,(each1 ⟨q,t,u,v,kids⟩ k).length=(if q=k then 1 else 0)+(eachL kids k).length:=fun k=>by
   simp only[each1];split<;>simp;omega
  simp only[sum7,e,many1] at *;rw[←ih];have hq:q=0∨q=1∨q=2∨q=3∨q=4∨q=5∨q=6:=by omega
  rcases hq with rfl|rfl|rfl|rfl|rfl|rfl|rfl<;>simp<;>omega
theorem each_sumL:∀(l:List Sp),kindsL l=true→sum7 (fun k=>(eachL l k).length)=manyL l
 | [],_=>rfl
 | x::l,h=>by
  simp only[kindsL,Bool.and_eq_true] at h;have h1:=each_sum1 x h.1;have h2:=each_sumL l h.2;simp only[sum7,eachL,manyL,List.length_append] at *;omega
end
mutual
theorem each_none1:∀(x:Sp),kinds1 x=true→each1 x 7=[]
 | ⟨q,t,u,v,kids⟩,h=>by
  simp only[kinds1,Bool.and_eq_true,decide_eq_true_eq] at h;simp only[each1];rw[if_neg (by omega)];exact each_noneL kids h.2
theorem each_noneL:∀(l:List Sp),kindsL l=true→eachL l 7=[]
 | [],_=>rfl
 | x::l,h=>by
  simp only[kindsL,Bool.and_eq_true] at h;simp only[eachL,each_none1 x h.1,each_noneL l h.2,List.append_nil]
end
def two (l:Bs) (m:Nat):Bool:=partB (trim (l.take m))&&partB (trim (l.drop (m+1)))
theorem e62:((62:UInt8).toNat:Int)=62:=rfl
def clear (l:Bs):Prop:=∀c∈l,c ∉ signs
def Told (l a b c:Bs):Prop :=
 (partB a=true∧trim a=a) ∧
 ((b=[]∧c=[]∧clear l∧a.length≤l.length) ∨
  (∃x y,(partB b=true∧trim b=b)∧c=[]∧l=x++59::y∧clear x∧clear y∧a.length≤x.length∧b.length≤y.length) ∨
  (∃x y,(partB c=true∧trim c=c)∧b=[]∧l=x++62::y∧clear x∧clear y∧a.length≤x.length∧c.length≤y.length))
def textL (a b c:Bs):Bs:=a++((if b=[] then [] else 59::b)++(if c=[] then [] else 62::c))
def esc:Bs→Bs
 | []=>[]
 | c::l=>if escB c=true then 92::c::esc l else c::esc l
mutual
def put1:Sp→Option Bs
 | ⟨k,t,u,v,kids⟩ =>
  if k=0 then some (esc t)
  else if k=1 then (putL kids).map fun b=>42::(b++[42])
  else if k=2 then (putL kids).map fun b=>95::(b++[95])
  else if k=3 then some (96::(t++[96]))
  else if k=4 then some (60::60::(t++[62,62]))
  else if k=5 then (if parseB (textL t u v)=some (t,u,v) then some (40::40::(textL t u v++[41,41])) else none)
  else if k=6 then (putL kids).map fun b=>94::91::(b++[93])
  else none
def putL:List Sp→Option Bs
 | []=>some []
 | x::l=>(put1 x).bind fun a=>(putL l).map fun b=>a++b
end
mutual
def same1:Sp→Sp→Bool
 | ⟨k,t,u,v,kids⟩,⟨k',t',u',v',kids'⟩=>k==k'&&(t==t'&&(u==u'&&(v==v'&&sameL kids kids')))
def sameL:List Sp→List Sp→Bool
 | [],[]=>true
 | x::l,y::m=>same1 x y&&sameL l m
 | _,_=>false
end
mutual
theorem same1_eq:∀(x y:Sp),same1 x y=true↔x=y
 | ⟨k,t,u,v,kids⟩,⟨k',t',u',v',kids'⟩=>by
  simp only[same1,Bool.and_eq_true,beq_iff_eq,Sp.mk.injEq,sameL_eq kids kids']
theorem sameL_eq:∀(l m:List Sp),sameL l m=true↔l=m
 | [],[]=>by simp[sameL]
 | [],y::m=>by simp[sameL]
 | x::l,[]=>by simp[sameL]
 | x::l,y::m=>by
  simp only[sameL,Bool.and_eq_true,same1_eq x y,sameL_eq l m,List.cons.injEq]
end
end Go.Bd
namespace Go.Proofs.YtkdknllcllhpgaaGreatDoor
open Go.RowKit Go.Bd
theorem Bld.later {B b:Nat}{l:Bs}{w w':World} (h:Bld B b l w) (hb:Below w.heap.size w w'):Bld B b l w':=by
 have st:∀p,Lib.BuilderAt 118 5 B b p (Lib.byteCells l) w→Lib.BuilderAt 118 5 B b p (Lib.byteCells l) w':=fun p h=>by
  obtain⟨h1,v,h2,h3,h4⟩:=h;exact⟨h1,v,(hb.block b (Array.getElem?_eq_some_iff.1 h2).1).trans h2,(Chg.below hb (fun _=>False)).owns h3 (fun _ _ h=>h),h4⟩
 rcases h with h|h
 ·exact .inl (st _ h)
 ·exact .inr (st _ h)
theorem Bld.lt {B b:Nat}{l:Bs}{w:World} (h:Bld B b l w):B≤b∧b<w.heap.size:=by
 rcases h with h|h
 ·exact⟨h.1,h.lt⟩
 ·exact⟨h.1,h.lt⟩
theorem Bld.fresh (w:World):Bld w.heap.size w.heap.size [] (w.alloc (.cells #[.pointer none,.slice none 0 0] 118)):=Lib.fresh_isBuilder _ _ _
end Go.Proofs.YtkdknllcllhpgaaGreatDoor
namespace Go.Bd
open Go.RowKit
theorem Forest.at {w:World}{F:Nat→Prop}{A:Option Addr}{c n:Nat}{l:List Sp} (h:Forest w F (.slice A n c) l){j:Nat}{x:Sp} (hx:l[j]? = some x):∃b off kA kc,A=some ⟨b,off,none⟩∧F b∧Forest w F (.slice kA x.kids.length kc) x.kids ∧
  w.cell? ⟨b,off+j*5,none⟩=some (.int .u8 (x.kind:Int))∧w.cell? ⟨b,off+j*5+1,none⟩=some (.string ⟨x.text.toArray⟩)∧w.cell? ⟨b,off+j*5+2,none⟩=some (.string ⟨x.sub.toArray⟩)∧w.cell? ⟨b,off+j*5+3,none⟩=some (.string ⟨x.see.toArray⟩)∧w.cell? ⟨b,off+j*5+4,none⟩=some (.slice kA x.kids.length kc):=by
 obtain⟨A',c',e,_,hh⟩:=h.form;injection e with e1 e2 e3
 subst e1;obtain⟨b,off,kv,h1,h2,h3,h4⟩:=hh j x hx;obtain⟨kA,kc,rfl,_⟩:=h3.form;exact⟨b,off,kA,kc,h1,h2,h3,h4⟩
theorem Forest.len {w:World}{F:Nat→Prop}{v:Value}{l:List Sp} (h:Forest w F v l):∃A c,v=.slice A l.length c∧l.length≤c:=by
 obtain⟨A,c,e,hc,_⟩:=h.form;exact⟨A,c,e,hc⟩
theorem many_get:∀{l:List Sp}{j:Nat}{x:Sp},l[j]? = some x→1+manyL x.kids≤manyL l
 | [],_,_,h=>by simp at h
 | y::l,0,x,h=>by
  simp at h;subst h;obtain⟨k,t,u,v,ks⟩:=y;simp only[manyL,many1];omega
 | y::l,j+1,x,h=>by
  have:=many_get (l:=l) (j:=j) (by simpa using h)
  simp only[manyL];omega
theorem many_len:∀l:List Sp,l.length≤manyL l
 | []=>Nat.zero_le _
 | ⟨k,t,u,v,ks⟩::l=>by
  have:=many_len l
  simp only[manyL,many1,List.length_cons];omega
theorem say1_eq (x:Sp):say1 x=if x.kind=0∨x.kind=3∨x.kind=4∨x.kind=5 then x.text else if x.kind=1∨x.kind=2 then sayL x.kids else []:=by
 obtain⟨k,t,u,v,ks⟩:=x;simp only[say1]
theorem sayL_take {l:List Sp}{k:Nat}{x:Sp} (h:l[k]? = some x):sayL (l.take (k+1))=sayL (l.take k)++say1 x:=by
 rw[List.take_add_one,h,sayL_app];simp[sayL]
theorem sayL_le {l:List Sp}{k:Nat}{x:Sp} (h:l[k]? = some x):(sayL (l.take k)).length+(say1 x).length≤(sayL l).length:=by
 have e:l=l.take (k+1)++l.drop (k+1):=(List.take_append_drop _ _).symm
 conv=>rhs;rw[e,sayL_app,sayL_take h]
 simp only[List.length_append];omega
end Go.Bd
namespace Go.Proofs.YtkdknllcllhpgaaGreatDoor
open Go.RowKit Go.Bd
theorem say_any:∀(N:Nat) (l:List Sp),manyL l≤N→manyL l≤1000000000→∀(v:Value) (w:World) (B b:Nat) (acc:Bs),Forest w (· < B) v l→Bld B b acc w→acc.length+(sayL l).length≤1000000000000 →
  Calls Tryz.prog 59 #[.pointer (some ⟨b,0,none⟩),v] w fun e w'=>e=.returned (.tuple #[])∧Bld B b (acc++sayL l) w'∧Below B w w':=by
 intro N
 induction N with
 | zero =>
  intro l hN hm v w B b acc hF hI hL;have hl:l=[]:=List.eq_nil_of_length_eq_zero (by have:=many_len l;omega);subst hl;obtain⟨A,c,rfl,hc⟩:=hF.len;have HI:=Lib.hid hI;clear hF hI
  go_enter Tryz.func59,Tryz.ntmps59
  go_wp2
  go_loop [8] (fun i=>i=.int .i64 0) (fun _=>0)
  case atStart=>rfl
  case round =>
   obtain rfl:=hrel;go_wp2
   go_end0
   exact⟨rfl,by simpa [sayL] using HI.out,Below.refl _ _⟩
 | succ N ih =>
  intro l hN hm v w B b acc hF hI hL;obtain⟨A,c,rfl,hc⟩:=hF.len;have hlm:=many_len l;have HF:=Lib.hid hF;have HI:=Lib.hid hI;have HIH:=Lib.hid ih;obtain⟨hbB,hbw⟩:=hI.lt;clear hF hI ih;obtain⟨n,hn⟩:∃n,l.length=n:=⟨_,rfl⟩;have HN:=Lib.hid hn;simp only[hn] at hc hlm HF ⊢;clear hn
  go_enter Tryz.func59,Tryz.ntmps59
  go_wp2
  go_loopg [8] n (fun q i wr=>∃k:Nat,k+q=n∧i=.int .i64 (k:Int)∧Hid (Bld B b (acc++sayL (l.take k)) wr∧Below B w wr))
  case atStart=>exact⟨0,by omega,rfl,by simpa [sayL] using HI.out,Below.refl _ _⟩
  case round =>
   obtain⟨k,hk,rfl,HR⟩:=hrel
   by_cases hlt:k<n
   ·obtain⟨x,hx⟩:∃x,l[k]? = some x:=⟨_,List.getElem?_eq_getElem (by rw[HN.out];exact hlt)⟩;obtain⟨b1,off,kA,kc,rfl,hb1,hkF,p0,p1,p2,p3,p4⟩:=HF.out.at hx;have hbl:=HR.out.2
    replace p0:=(hbl.cell (p:=⟨b1,off+k*5,none⟩) hb1).trans p0
    replace p1:=(hbl.cell (p:=⟨b1,off+k*5+1,none⟩) hb1).trans p1
    replace p2:=(hbl.cell (p:=⟨b1,off+k*5+2,none⟩) hb1).trans p2
    replace p3:=(hbl.cell (p:=⟨b1,off+k*5+3,none⟩) hb1).trans p3
    replace p4:=(hbl.cell (p:=⟨b1,off+k*5+4,none⟩) hb1).trans p4
    have hgt:=many_get hx;have hsl:=sayL_le hx;have HTK:=Lib.hid (sayL_take hx);have HKF:=Lib.hid (hkF.under hbl (fun _ h=>h));have HS1:=Lib.hid (say1_eq x);clear hx hkF hbl;have hrb:=HR.out.2.size
    rcases (show x.kind=0∨x.kind=3∨x.kind=4∨x.kind=5∨x.kind=1∨x.kind=2∨(x.kind≠0∧x.kind≠3∧x.kind≠4∧x.kind≠5∧x.kind≠1∧x.kind≠2) by omega) with h0|h0|h0|h0|h0|h0|h0
    focus
     replace p0:wr.cell? ⟨b1,off+k*5,none⟩=some (.int .u8 0):=by rw[p0,h0];rfl
    rotate_left
    focus
     replace p0:wr.cell? ⟨b1,off+k*5,none⟩=some (.int .u8 3):=by rw[p0,h0];rfl
    rotate_left
    focus
     replace p0:wr.cell? ⟨b1,off+k*5,none⟩=some (.int .u8 4):=by rw[p0,h0];rfl
    rotate_left
    focus
     replace p0:wr.cell? ⟨b1,off+k*5,none⟩=some (.int .u8 5):=by rw[p0,h0];rfl
    rotate_left
    ·replace p0:wr.cell? ⟨b1,off+k*5,none⟩=some (.int .u8 1):=by rw[p0,h0];rfl
     have e1:say1 x=sayL x.kids:=by rw[HS1.out,if_neg (by omega),if_pos (by omega)]
     have hx1:(say1 x).length=(sayL x.kids).length:=by rw[e1]
     have E1:=Lib.hid e1;clear e1 h0
     go_wp2_with fail
     have hal:=(Below.refl B wr).alloc (by omega) (.cells #[.int .u8 1,.string ⟨x.text.toArray⟩,.string ⟨x.sub.toArray⟩,.string ⟨x.see.toArray⟩,.slice kA x.kids.length kc] 129);refine (HIH.out x.kids (by omega) (by omega) _ _ B b (acc++sayL (l.take k)) (HKF.out.under hal (fun _ h=>h)) (HR.out.1.later ((Below.refl _ _).alloc (Nat.le_refl _) _)) (by rw[List.length_append];omega)).mono ?_;clear hal;rintro e w2 ⟨rfl,hI2,hb2⟩;have HI2:=Lib.hid hI2;have HB2:=Lib.hid ((HR.out.2.alloc (by omega) _).trans hb2);clear hI2 hb2;go_wp2
     go_roundg (gk-1)
     case measure=>omega
     case rel=>exact⟨k+1,by omega,by go_num,by rw[HTK.out,E1.out,←List.append_assoc];exact HI2.out,HB2.out⟩
    ·replace p0:wr.cell? ⟨b1,off+k*5,none⟩=some (.int .u8 2):=by rw[p0,h0];rfl
     have e1:say1 x=sayL x.kids:=by rw[HS1.out,if_neg (by omega),if_pos (by omega)]
     have hx1:(say1 x).length=(sayL x.kids).length:=by rw[e1]
     have E1:=Lib.hid e1;clear e1 h0
     go_wp2_with fail
     have hal:=(Below.refl B wr).alloc (by omega) (.cells #[.int .u8 2,.string ⟨x.text.toArray⟩,.string ⟨x.sub.toArray⟩,.string ⟨x.see.toArray⟩,.slice kA x.kids.length kc] 129);refine (HIH.out x.kids (by omega) (by omega) _ _ B b (acc++sayL (l.take k)) (HKF.out.under hal (fun _ h=>h)) (HR.out.1.later ((Below.refl _ _).alloc (Nat.le_refl _) _)) (by rw[List.length_append];omega)).mono ?_;clear hal;rintro e w2 ⟨rfl,hI2,hb2⟩;have HI2:=Lib.hid hI2;have HB2:=Lib.hid ((HR.out.2.alloc (by omega) _).trans hb2);clear hI2 hb2;go_wp2
     go_roundg (gk-1)
     case measure=>omega
     case rel=>exact⟨k+1,by omega,by go_num,by rw[HTK.out,E1.out,←List.append_assoc];exact HI2.out,HB2.out⟩
    ·obtain⟨z0,z3,z4,z5,z1,z2⟩:=h0;have e1:say1 x=[]:=by rw[HS1.out,if_neg (by omega),if_neg (by omega)]
     have E1:=Lib.hid e1;have t0:((x.kind:Int)==0)=false:=by rw[beq_eq_false_iff_ne];omega
     have t3:((x.kind:Int)==3)=false:=by rw[beq_eq_false_iff_ne];omega
     have t4:((x.kind:Int)==4)=false:=by rw[beq_eq_false_iff_ne];omega
     have t5:((x.kind:Int)==5)=false:=by rw[beq_eq_false_iff_ne];omega
     have t1:((x.kind:Int)==1)=false:=by rw[beq_eq_false_iff_ne];omega
     have t2:((x.kind:Int)==2)=false:=by rw[beq_eq_false_iff_ne];omega
     clear e1;go_wp2
     go_roundg (gk-1)
     case measure=>omega
     case rel=>exact⟨k+1,by omega,by go_num,by rw[HTK.out,E1.out,List.append_nil];exact HR.out.1.later ((Below.refl _ _).alloc (Nat.le_refl _) _),HR.out.2.alloc (by omega) _⟩
    all_goals
     have e1:say1 x=x.text:=by rw[HS1.out,if_pos (by omega)]
     have hx1:(say1 x).length=x.text.length:=by rw[e1]
     have E1:=Lib.hid e1;clear e1 h0
     go_wp2_with fail
     refine (bld_write B b (acc++sayL (l.take k)) ⟨x.text.toArray⟩ _ (HR.out.1.later ((Below.refl _ _).alloc (Nat.le_refl _) _)) (by rw[List.length_append,size_mk];omega) (by simp;omega)).mono ?_;rintro e w2 ⟨rfl,hI2,hb2⟩;have HI2:=Lib.hid hI2;have HB2:=Lib.hid ((HR.out.2.alloc (by omega) _).trans hb2);clear hI2 hb2;go_wp2
     go_roundg (gk-1)
     case measure=>omega
     case rel=>exact⟨k+1,by omega,by go_num,by rw[HTK.out,E1.out,←List.append_assoc];exact HI2.out,HB2.out⟩
   ·obtain rfl:k=n:=by omega
    go_wp2
    go_end0
    refine⟨rfl,?_,HR.out.2⟩;have h1:=HR.out.1;rw[List.take_of_length_le (by rw[HN.out];exact Nat.le_refl _)] at h1;exact h1
theorem Plain_any (l:List Sp) (hm:manyL l≤1000000000) (hL:(sayL l).length≤1000000000) (v:Value) (w:World) (hF:Forest w (· < w.heap.size) v l) :
  Calls Tryz.prog 39 #[v] w fun e w'=>e=.returned (.string ⟨(sayL l).toArray⟩)∧Below w.heap.size w w':=by
 obtain⟨A,c,rfl,hc⟩:=hF.len;have cs:=say_any _ l (Nat.le_refl _) hm _ _ w.heap.size w.heap.size [] (hF.under ((Below.refl w.heap.size w).alloc (Nat.le_refl _) (.cells #[.pointer none,.slice none 0 0] 118)) (fun _ h=>h)) (Bld.fresh w) (by simp;omega);generalize l.length=n at *;clear hF
 go_enter Tryz.func39,Tryz.ntmps39
 go_wp2_with fail
 refine cs.mono ?_;clear cs;rintro e w2 ⟨rfl,hI2,hb2⟩;have hbs:=hb2.size;have cb:=bld_string w.heap.size w.heap.size _ w2 hI2 (by simp at hbs;omega);have HB2:=Lib.hid (((Below.refl w.heap.size w).alloc (Nat.le_refl _) (.cells #[.pointer none,.slice none 0 0] 118)).trans hb2);clear hI2 hb2 hbs
 go_wp2_with (go_at_call 60;refine cb.mono ?_;clear cb;rintro e w3 ⟨rfl,hb3⟩)
 go_ret
 exact⟨rfl,HB2.out.trans hb3⟩
end Go.Proofs.YtkdknllcllhpgaaGreatDoor
namespace Go.Proofs.YtkdknllcllhpgaaGreatDoor
open Go.RowKit Go.Bd Go.Shelf
abbrev BldF (B b:Nat) (l:Bs) (w:World):Prop:=Lib.IsBuilderF 118 5 B b (Lib.byteCells l) w
abbrev Kept (b:Nat) (w w':World):Prop:=Lib.OthersKept 5 (some b) w w'
theorem bldK_write (B b:Nat) (l:Bs) (s:ByteArray) (w:World) (h:BldF B b l w) (hlen:l.length+s.size≤140737488355328) (hBw:B≤w.heap.size) :
  Calls Tryz.prog 97 #[.pointer (some ⟨b,0,none⟩),.string s] w fun e w'=>e=.returned (.tuple #[.int .i64 s.size,.nilIface])∧BldF B b (l++s.data.toList) w'∧Below B w w'∧Kept b w w' :=
 (Any.Builder_WriteString_k (ρ:=bldRen) bldLays166 bldExtra B b _ s w h (by rw[Lib.byteCells_length];exact hlen) hBw).mono fun _ _ ⟨h1,h2,h3,h4⟩=>⟨h1,by unfold BldF;rw[Lib.byteCells,List.map_append];exact .inr h2,h3,h4⟩
theorem bldF_stringK (B b:Nat) (l:Bs) (w:World) (h:BldF B b l w) (hBw:B≤w.heap.size) :
  Calls Tryz.prog 60 #[.pointer (some ⟨b,0,none⟩)] w fun e w'=>e=.returned (.string ⟨l.toArray⟩)∧BldF B b l w'∧Below B w w'∧Kept b w w' :=
 (Any.Builder_String_any_k Tryz.lays169 Tryz.Builder_Extra_169 B b l w h hBw).mono fun _ _ ⟨h1,h2,h3,h4⟩=>⟨h1,h2,h3,h4⟩
theorem BldF.fresh (w:World):BldF w.heap.size w.heap.size [] (w.alloc (.cells #[.pointer none,.slice none 0 0] 118)):=Lib.IsBuilderF.of (Lib.fresh_isBuilder _ _ _)
theorem ownsF_later {B n sz:Nat}{e:TypeId}{v:Value}{xs:List Value}{w w':World} (h:w.ownsRowF B e sz v n xs) (hb:Below w.heap.size w w'):w'.ownsRowF B e sz v n xs:=by
 refine⟨h.1,?_⟩
 rcases h.2 with h1|h1
 ·exact .inl h1
 ·refine .inr ?_;obtain⟨g,cap,cur,r⟩:=h1;have hlt:g<w.heap.size:=by
   obtain⟨_,_,r⟩:=r
   first
    | (obtain⟨z,hh,_⟩:=r;exact (Array.getElem?_eq_some_iff.1 hh).1)
    | (obtain⟨hh,_⟩:=r;exact (Array.getElem?_eq_some_iff.1 hh).1)
  refine⟨g,cap,cur,?_⟩;rw[hb.block g hlt];exact r
theorem BldF.later {B b:Nat}{l:Bs}{w w':World} (h:BldF B b l w) (hb:Below w.heap.size w w'):BldF B b l w':=by
 have st:∀p,Lib.BuilderAtF 118 5 B b p (Lib.byteCells l) w→Lib.BuilderAtF 118 5 B b p (Lib.byteCells l) w':=fun p h=>by
  obtain⟨h1,v,h2,h3,h4⟩:=h;exact⟨h1,v,(hb.block b (Array.getElem?_eq_some_iff.1 h2).1).trans h2,ownsF_later h3 hb,h4⟩
 rcases h with h|h
 ·exact .inl (st _ h)
 ·exact .inr (st _ h)
theorem BldF.lt {B b:Nat}{l:Bs}{w:World} (h:BldF B b l w):B≤b∧b<w.heap.size:=by
 rcases h with ⟨h1,v,h2,_⟩|⟨h1,v,h2,_⟩<;>exact⟨h1,(Array.getElem?_eq_some_iff.1 h2).1⟩
end Go.Proofs.YtkdknllcllhpgaaGreatDoor
namespace Go.Bd
open Go.RowKit
def codeN (ls:List Ln) (pos:Nat):Nat:=untilN (fun t=>t==fenceL) (ls.drop pos)
def codeT (ls:List Ln) (pos:Nat):List Bs:=((ls.drop pos).take (codeN ls pos)).map (fun x=>x.text.data.toList)
end Go.Bd
namespace Go.Proofs.YtkdknllcllhpgaaGreatDoor
open Go.RowKit Go.Bd
end Go.Proofs.YtkdknllcllhpgaaGreatDoor
namespace Go.Proofs.YtkdknllcllhpgaaGreatDoor
open Go.RowKit Go.Bd
end Go.Proofs.YtkdknllcllhpgaaGreatDoor
namespace Go.Bd
open Go.RowKit
def figB (l:Bs):Bs×Bs:=if 0≤Lib.indexAny l [32,9] then (l.take (Lib.indexAny l [32,9]).toNat,dropL (l.drop (Lib.indexAny l [32,9]).toNat)) else (l,[])
end Go.Bd
namespace Go.Proofs.YtkdknllcllhpgaaGreatDoor
open Go.RowKit Go.Bd
end Go.Proofs.YtkdknllcllhpgaaGreatDoor
namespace Go.Proofs.YtkdknllcllhpgaaGreatDoor
open Go.RowKit Go.Bd
theorem note_any (kd:ByteArray) (pb:Nat) (w:World) :
  Calls Tryz.prog 82 #[.string kd,.pointer (some ⟨pb,0,none⟩)] w fun e w'=>e=.returned (.func (.func 83) #[] #[.pointer (some ⟨w.heap.size,0,none⟩),.pointer (some ⟨pb,0,none⟩)])∧w'=w.alloc (.cells #[.string kd] 9):=by
 go_enter Tryz.func82,Tryz.ntmps82
 go_wp2
 go_ret
 exact⟨rfl,rfl⟩
end Go.Proofs.YtkdknllcllhpgaaGreatDoor
namespace Go.Bd
def tr (b:ByteArray):ByteArray:=⟨(trim b.data.toList).toArray⟩
def bar:ByteArray:=⟨#[124]⟩
def pieces (b:ByteArray):List ByteArray:=Lib.splitB bar 0 (Lib.countB b bar) b
def dropEnd (xs:List ByteArray):List ByteArray:=if 1<xs.length∧xs.getD (xs.length-1) ⟨#[]⟩=⟨#[]⟩ then xs.take (xs.length-1) else xs
def beginsB (s:ByteArray):Bool:=Lib.hasPrefix (trim s.data.toList) [124]
def rowOf (s:ByteArray):List ByteArray:=dropEnd ((pieces ⟨(Lib.trimPrefix (trim s.data.toList) [124]).toArray⟩).map tr)
theorem pieces_length (b:ByteArray):(pieces b).length=Lib.countB b bar+1:=Lib.splitB_all bar (by decide) 0 _ b rfl
theorem tr_le (b:ByteArray):(tr b).size≤b.size:=by
 have:=trim_le b.data.toList
 rw[←size_list] at this;exact this
end Go.Bd
namespace Go.Proofs.YtkdknllcllhpgaaGreatDoor
open Go.RowKit Go.Bd
theorem ba_ext {s t:ByteArray} (h:s.data.toList=t.data.toList):s=t:=by
 cases s;cases t
 rw[ByteArray.mk.injEq];exact Array.toList_inj.1 h
theorem ba_nonempty {s:ByteArray} (h:¬s=⟨#[]⟩):s.toList.isEmpty=false:=by
 rw[ByteArray.toList_eq];cases e:s.data.toList with
 | nil=>exact absurd (ba_ext (t:=⟨#[]⟩) e) h
 | cons a l=>rfl
end Go.Proofs.YtkdknllcllhpgaaGreatDoor
namespace Go.Proofs.YtkdknllcllhpgaaGreatDoor
open Go.RowKit Go.Bd
def evenB (ns:List Nat):Bool:=ns.all (· == ns.headD 0)
end Go.Proofs.YtkdknllcllhpgaaGreatDoor
namespace Go.Bd
open Go.RowKit
theorem faults_le (s:Bs):(faultsOf s).length≤s.length:=by
 have hI:=Inv.run (s:=s) s.length 0 Pst.first Inv.first (Nat.zero_le _) (by omega);have h1:=(hI.drop (n:=0) hI.2.2.1).1;have h2:Inv (endP s) s.length:=h1;unfold faultsOf;rw[List.length_map,(sortF_perm (faultsAt s)).length_eq];have h3:=h2.2.1;have h4:=h2.2.2.1;have h5:(faultsAt s).length=(endP s).faults.length:=rfl;omega
def wtX:List Ln→Nat
 | []=>0
 | x::l=>x.text.size+1+wtX l
theorem wtX_append:∀a b:List Ln,wtX (a++b)=wtX a+wtX b
 | [],b=>by simp[wtX]
 | x::a,b=>by rw[List.cons_append,wtX,wtX,wtX_append a b];omega
theorem wtX_split (l:List Ln) (k:Nat):wtX (l.take k)+wtX (l.drop k)=wtX l:=by rw[←wtX_append,List.take_append_drop]
theorem wtX_len:∀l:List Ln,l.length≤wtX l
 | []=>Nat.le_refl _
 | x::l=>by have:=wtX_len l;rw[wtX,List.length_cons];omega
theorem wtX_mem:∀{l:List Ln}{x:Ln},x∈l→x.text.size+1≤wtX l
 | [],x,h=>by cases h
 | y::l,x,h=>by
  rw[wtX]
  rcases List.mem_cons.1 h with rfl|h
  ·omega
  ·have:=wtX_mem h;omega
def endN (k n:Nat):Nat:=if k<n then k+1 else k
theorem endN_le {k n:Nat} (h:k≤n):endN k n≤n:=by unfold endN;split<;>omega
end Go.Bd
namespace Go.Proofs.YtkdknllcllhpgaaGreatDoor
open Go.RowKit Go.Bd
def rowT (x:Ln):List (List (List Sp)):=if trim x.text.data.toList=[]∨beginsB (tr x.text)=false then [] else [(rowOf (tr x.text)).map fun t=>spansOf t.data.toList]
def rowF (x:Ln):List Dg:=if trim x.text.data.toList=[] then [] else if beginsB (tr x.text)=false then [⟨x.file,x.no,9,tr x.text⟩] else (rowOf (tr x.text)).flatMap fun t=>(faultsOf t.data.toList).map (dgOf x.file x.no t)
def tabN (rest:List Ln):Nat:=untilN (fun t=>t==barsL) rest
def tabR (rest:List Ln):List (List (List Sp)):=(rest.take (tabN rest)).flatMap rowT
def tabF (rest:List Ln):List Dg:=(rest.take (tabN rest)).flatMap rowF
def tabT (s:ByteArray):ByteArray:=⟨(dropL (s.data.toList.drop 4)).toArray⟩
def tabE (f:ByteArray) (no:Int) (s:ByteArray) (rest:List Ln):List Dg:=(if tabN rest<rest.length then [] else [⟨f,no,4,s⟩])++(if evenB ((tabR rest).map List.length)=true then [] else [⟨f,no,9,s⟩])
abbrev Told:Type:=Nat×List Bl×List Dg
def tableR (f:ByteArray) (no:Int) (s:ByteArray) (rest:List Ln):Told :=
 (endN (tabN rest) rest.length,[titledB ⟨6,0,false,⟨#[]⟩,⟨#[]⟩,[],tabR rest,⟨#[]⟩,0⟩ f no (tabT s)],tabE f no s rest++titledD f no (tabT s)++tabF rest)
def codeR (f:ByteArray) (no:Int) (s:ByteArray) (rest:List Ln):Told :=
 (endN (codeN rest 0) rest.length,[⟨4,0,false,⟨#[]⟩,⟨(Lib.join (codeT rest 0) [10]).toArray⟩,[],[],f,no⟩],if codeN rest 0<rest.length then [] else [⟨f,no,4,s⟩])
def paraR (f:ByteArray) (no:Int) (s:ByteArray) (rest:List Ln):Told :=
 (untilN (fun t=>!plainL t) rest,[⟨2,0,false,⟨#[]⟩,⟨#[]⟩,spansOf (paraB rest 0 s),[],f,no⟩],(faultsOf (paraB rest 0 s)).map (dgOf f no ⟨(paraB rest 0 s).toArray⟩))
def headR (f:ByteArray) (no:Int) (s:ByteArray):Told :=
 (0,[titledB ⟨1,(leadB s.data.toList 61).1,false,⟨#[]⟩,⟨#[]⟩,[],[],⟨#[]⟩,0⟩ f no ⟨(leadB s.data.toList 61).2.toArray⟩],titledD f no ⟨(leadB s.data.toList 61).2.toArray⟩)
def itemR (f:ByteArray) (no:Int) (s:ByteArray):Told :=
 (0,[⟨3,(itemB s.data.toList).1,(itemB s.data.toList).2.1,⟨#[]⟩,⟨#[]⟩,spansOf (itemB s.data.toList).2.2,[],f,no⟩],(faultsOf (itemB s.data.toList).2.2).map (dgOf f no ⟨(itemB s.data.toList).2.2.toArray⟩))
def readR (f:ByteArray) (no:Int) (s:ByteArray) (rest:List Ln):Told :=
 if 0<(leadB s.data.toList 61).1 then headR f no s
 else if 0<(itemB s.data.toList).1 then itemR f no s
 else if s.data.toList=[] then (0,[],[])
 else if s.data.toList=fenceL then codeR f no s rest
 else if Lib.hasPrefix s.data.toList barsL=true then tableR f no s rest
 else paraR f no s rest
def noteR (f:ByteArray) (no:Int) (wd bh:Bs):Told :=
 (0,[⟨5,0,false,⟨#[]⟩,⟨wd.toArray⟩,spansOf bh,[],f,no⟩],(faultsOf bh).map (dgOf f no ⟨bh.toArray⟩))
def figR (f:ByteArray) (no:Int) (bh:Bs):Told :=
 (0,[titledB ⟨7,0,false,⟨#[]⟩,⟨(figB bh).1.toArray⟩,[],[],⟨#[]⟩,0⟩ f no ⟨(figB bh).2.toArray⟩],titledD f no ⟨(figB bh).2.toArray⟩)
def wordR (f:ByteArray) (no:Int) (s:ByteArray):Told:=(0,[],[⟨f,no,3,s⟩])
def cmdR (f:ByteArray) (no:Int) (s:ByteArray) (wd bh:Bs):Told :=
 if wd=[102,105,103] then (if bh=[] then wordR f no s else figR f no bh)
 else if wd=[110,111,116,101]∨wd=[116,105,112]∨wd=[119,97,114,110] then noteR f no wd bh
 else wordR f no s
def stepR (x:Ln) (rest:List Ln):Told :=
 match commandB (trim x.text.data.toList) with
 | some p=>cmdR x.file x.no (tr x.text) p.1 p.2
 | none=>readR x.file x.no (tr x.text) rest
def parseR:Nat→List Ln→List Bl×List Dg
 | 0,_=>([],[])
 | _+1,[]=>([],[])
 | n+1,x::rest=>((stepR x rest).2.1++(parseR n (rest.drop (stepR x rest).1)).1,(stepR x rest).2.2++(parseR n (rest.drop (stepR x rest).1)).2)
def blocksOf (l:List Ln):List Bl:=(parseR l.length l).1
def diagsOf (l:List Ln):List Dg:=(parseR l.length l).2
theorem parseR_fuel:∀(n m:Nat) (l:List Ln),l.length≤n→l.length≤m→parseR n l=parseR m l
 | 0,m,l,h,_=>by
  have:l=[]:=List.length_eq_zero_iff.1 (by omega)
  subst this;cases m<;>rfl
 | n+1,0,l,_,h=>by
  have:l=[]:=List.length_eq_zero_iff.1 (by omega)
  subst this;rfl
 | n+1,m+1,[],_,_=>rfl
 | n+1,m+1,x::rest,h,h'=>by
  have e:=parseR_fuel n m (rest.drop (stepR x rest).1) (by simp at h ⊢;omega) (by simp at h' ⊢;omega);rw[parseR,parseR,e]
theorem blocksOf_nil:blocksOf []=[]:=rfl
theorem diagsOf_nil:diagsOf []=[]:=rfl
theorem blocksOf_cons (x:Ln) (rest:List Ln):blocksOf (x::rest)=(stepR x rest).2.1++blocksOf (rest.drop (stepR x rest).1):=by
 unfold blocksOf;rw[List.length_cons,parseR,parseR_fuel rest.length (rest.drop (stepR x rest).1).length _ (by simp) (Nat.le_refl _)]
theorem diagsOf_cons (x:Ln) (rest:List Ln):diagsOf (x::rest)=(stepR x rest).2.2++diagsOf (rest.drop (stepR x rest).1):=by
 unfold diagsOf;rw[List.length_cons,parseR,parseR_fuel rest.length (rest.drop (stepR x rest).1).length _ (by simp) (Nat.le_refl _)]
theorem titledD_le (f:ByteArray) (no:Int) (s:ByteArray):(titledD f no s).length≤1+s.size:=by
 have h1:=titleB_le s.data.toList;have h2:=faults_le (titleB s.data.toList).1;have h3:=size_list s;have h4:(titledW f no s).length≤1:=by unfold titledW;split<;>simp
 unfold titledD;rw[List.length_append,List.length_map];omega
theorem untilN_take (st:Bs→Bool) (l:List Ln):wtX (l.take (untilN st l))≤wtX l:=by have:=wtX_split l (untilN st l);omega
theorem read_le (f:ByteArray) (no:Int) (s:ByteArray) (rest:List Ln):(readR f no s rest).1≤rest.length:=by
 unfold readR;split
 ·exact Nat.zero_le _
 ·split
  ·exact Nat.zero_le _
  ·split
   ·exact Nat.zero_le _
   ·split
    ·exact endN_le (untilN_le _ _)
    ·split
     ·exact endN_le (untilN_le _ _)
     ·exact untilN_le _ _
theorem cmd_le (f:ByteArray) (no:Int) (s:ByteArray) (wd bh:Bs):(cmdR f no s wd bh).1=0:=by
 unfold cmdR
 repeat' split
 all_goals rfl
theorem step_le (x:Ln) (rest:List Ln):(stepR x rest).1≤rest.length:=by
 unfold stepR;split
 ·rw[cmd_le];exact Nat.zero_le _
 ·exact read_le _ _ _ _
theorem read_one (f:ByteArray) (no:Int) (s:ByteArray) (rest:List Ln):(readR f no s rest).2.1.length≤1:=by
 unfold readR
 repeat' split
 all_goals first|exact Nat.le_refl _|exact Nat.zero_le _
theorem cmd_one (f:ByteArray) (no:Int) (s:ByteArray) (wd bh:Bs):(cmdR f no s wd bh).2.1.length≤1:=by
 unfold cmdR
 repeat' split
 all_goals first|exact Nat.le_refl _|exact Nat.zero_le _
theorem step_one (x:Ln) (rest:List Ln):(stepR x rest).2.1.length≤1:=by
 unfold stepR;split
 ·exact cmd_one _ _ _ _ _
 ·exact read_one _ _ _ _
end Go.Proofs.YtkdknllcllhpgaaGreatDoor
namespace Go.Bd
open Go.RowKit
section
variable {α:Type} {R:Rel α} {t:TypeId} {w w':World} {B:Nat} {F G S:Nat→Prop} {v:Value} {l:List α}
end
section
variable {w w':World} {O F O' F' S:Nat→Prop} {rb:Nat} {lv:Value} {pos:Nat} {bv:Value} {bs:List Bl} {dv:Value} {ds:List Dg}
end
theorem rowD_one:∀{l:List Dg}{u:Value},u∈rowD l→u.oneCell'=true
 | [],u,h=>by cases h
 | d::l,u,h=>by
  rw[rowD,List.mem_append] at h
  rcases h with h|h
  ·simp only[dgCells,List.mem_cons,List.not_mem_nil,or_false] at h
   rcases h with rfl|rfl|rfl|rfl<;>rfl
  ·exact rowD_one h
theorem le_sum_mem:∀{l:List Nat}{x:Nat},x∈l→x≤l.sum
 | [],x,h=>by cases h
 | y::l,x,h=>by
  rw[List.sum_cons]
  rcases List.mem_cons.1 h with rfl|h
  ·omega
  ·have:=le_sum_mem h;omega
theorem splitB_sum:∀(k:Nat) (s:ByteArray),((Lib.splitB bar 0 k s).map (·.size)).sum≤s.size
 | 0,s=>by simp[Lib.splitB]
 | k+1,s=>by
  rw[Lib.splitB];split
  ·simp
  ·have h:=splitB_sum k (s.extract ((Lib.indexB s bar).toNat+bar.size) s.size);rw[List.map_cons,List.sum_cons];simp only[ByteArray.size_extract] at h ⊢;have hb:bar.size=1:=rfl;omega
theorem sum_take_le (l:List Nat) (k:Nat):(l.take k).sum≤l.sum:=by
 have:=congrArg List.sum (List.take_append_drop k l)
 rw[List.sum_append] at this;omega
theorem sum_tr_le:∀l:List ByteArray,((l.map tr).map (·.size)).sum≤(l.map (·.size)).sum
 | []=>Nat.le_refl _
 | x::l=>by
  have h1:=sum_tr_le l;have h2:=tr_le x;simp only[List.map_cons,List.sum_cons];omega
theorem rowOf_sum (s:ByteArray):((rowOf s).map (·.size)).sum≤s.size:=by
 have h1:=splitB_sum (Lib.countB ⟨(Lib.trimPrefix (trim s.data.toList) [124]).toArray⟩ bar) ⟨(Lib.trimPrefix (trim s.data.toList) [124]).toArray⟩;have h2:(⟨(Lib.trimPrefix (trim s.data.toList) [124]).toArray⟩:ByteArray).size≤s.size:=by
  rw[size_mk];have h3:=trim_le s.data.toList;rw[←size_list] at h3;have h4:(Lib.trimPrefix (trim s.data.toList) [124]).length≤(trim s.data.toList).length:=by unfold Lib.trimPrefix;split<;>simp
  omega
 have h3:=sum_tr_le (pieces ⟨(Lib.trimPrefix (trim s.data.toList) [124]).toArray⟩);have h4:(pieces ⟨(Lib.trimPrefix (trim s.data.toList) [124]).toArray⟩)=Lib.splitB bar 0 (Lib.countB ⟨(Lib.trimPrefix (trim s.data.toList) [124]).toArray⟩ bar) ⟨(Lib.trimPrefix (trim s.data.toList) [124]).toArray⟩:=rfl;rw[←h4] at h1;unfold rowOf dropEnd;split
 ·rw[List.map_take];have:=sum_take_le (((pieces ⟨(Lib.trimPrefix (trim s.data.toList) [124]).toArray⟩).map tr).map (·.size)) (((pieces ⟨(Lib.trimPrefix (trim s.data.toList) [124]).toArray⟩).map tr).length-1)
  omega
 ·omega
theorem flat_faults (f:ByteArray→List Dg) (hf:∀t,(f t).length≤t.size):∀l:List ByteArray,(l.flatMap f).length≤(l.map (·.size)).sum
 | []=>Nat.le_refl _
 | x::l=>by
  have h1:=flat_faults f hf l;have h2:=hf x;simp only[List.flatMap_cons,List.length_append,List.map_cons,List.sum_cons];omega
section
variable {w w':World} {B0:Nat} {Ow Fw O' F' S:Nat→Prop} {wi:Nat} {dvw dvw':Value} {dsw dsw':List Dg} {nb gb:Nat} {rv cv:Value} {rows:List (List (List Sp))} {xs:List (List Sp)}
end
end Go.Bd
namespace Go.Proofs.YtkdknllcllhpgaaGreatDoor
open Go.RowKit Go.Bd
theorem rowF_le (x:Ln):(rowF x).length≤x.text.size+1:=by
 unfold rowF;split
 ·simp
 ·split
  ·simp
  ·have h1:=flat_faults (fun t=>(faultsOf t.data.toList).map (dgOf x.file x.no t)) (fun t=>by have:=faults_le t.data.toList;rw[←size_list] at this;simpa using this) (rowOf (tr x.text));have h2:=rowOf_sum (tr x.text);have h3:=tr_le x.text;omega
theorem rowFs_le:∀l:List Ln,(l.flatMap rowF).length≤wtX l
 | []=>Nat.le_refl _
 | x::l=>by
  have h1:=rowFs_le l;have h2:=rowF_le x;simp only[List.flatMap_cons,List.length_append,wtX];omega
theorem rowT_le (x:Ln):(rowT x).length≤1:=by unfold rowT;split<;>simp
theorem rowTs_le:∀l:List Ln,(l.flatMap rowT).length≤l.length
 | []=>Nat.le_refl _
 | x::l=>by
  have h1:=rowTs_le l;have h2:=rowT_le x;simp only[List.flatMap_cons,List.length_append,List.length_cons];omega
end Go.Proofs.YtkdknllcllhpgaaGreatDoor
