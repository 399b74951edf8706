/-
  What the chapter's laws share, part 2: plain facts, memory, and walks of functions. Its conditions: those that each theorem names.
-/
import Derived.Deep.QuietTactic
import Derived.ScopeJumps
import Derived.WalkMore
import Derived.Test.YtkkebmciiiajeaaGreatDoorK0
import Derived.Test.YtkkebmciiiajeaaGreatDoorK1
set_option linter.unusedSimpArgs false
set_option linter.unusedVariables false
set_option maxHeartbeats 16000000
set_option maxRecDepth 100000
namespace Go.Proofs.YtkkebmciiiajeaaGreatDoor
open Go.RowKit Go.Bd
def RowTo (w:World) (B:Nat) (F:Nat→Prop) (b off:Nat) (cs:Array Value) (t:TypeId) (sv tv:Value) (r':Rw) (w':World):Prop :=
 ∃sv' tv',Holds w' b t ((cs.setIfInBounds off sv').setIfInBounds (off+1) tv')∧SpanRow w' B tS F sv' r'.sp∧TextRow w' B tv' r'.tx∧Chg w w' (fun k=>k=b∨sv.ownBlock=some k∨tv.ownBlock=some k) ∧
  (∀k,sv'.ownBlock=some k→sv.ownBlock=some k∨w.heap.size≤k)∧(∀k,tv'.ownBlock=some k→tv.ownBlock=some k∨w.heap.size≤k)
theorem cells5 {w:World}{x:Nat}{t:TypeId}{a b c d e:Value} (h:Holds w x t #[a,b,c,d,e]):w.cell? ⟨x,0,none⟩=some a∧w.cell? ⟨x,1,none⟩=some b∧w.cell? ⟨x,2,none⟩=some c∧w.cell? ⟨x,3,none⟩=some d∧w.cell? ⟨x,4,none⟩=some e :=
 ⟨h.cell 0,h.cell 1,h.cell 2,h.cell 3,h.cell 4⟩
theorem added_row {w W:World}{B:Nat}{F S:Nat→Prop}{sv' kv:Value}{sp:List Sp}{x:Sp}{kvs:List Value}{z0 z1 z2 z3 z4:Value} (hkl:kvs.length=sp.length) (hrl:(rowCells sp kvs).length=sp.length*5)
  (hkf:∀(j:Nat) y ku,sp[j]? = some y→kvs[j]? = some ku→Forest w F ku y.kids) (hx:Forest w F kv x.kids) (hch:Chg w W S) (hFS:∀k,F k→¬S k)
  (hO:W.ownsRow B tS 5 sv' (sp.length+1) ((((((rowCells sp kvs++[z0,z1,z2,z3,z4]).set (sp.length*5) (.int .u8 (x.kind:Int))).set (sp.length*5+1) (.string ⟨x.text.toArray⟩)).set (sp.length*5+2) (.string ⟨x.sub.toArray⟩)).set (sp.length*5+3) (.string ⟨x.see.toArray⟩)).set (sp.length*5+4) kv)) :
  SpanRow W B tS F sv' (sp++[x]):=by
 rw[set_five _ _ hrl] at hO;refine⟨kvs++[kv],by simp[hkl],?_,fun j y ku hy hku=>?_⟩
 ·rw[rowCells_snoc _ _ hkl,List.length_append];exact hO
 ·by_cases hj:j<sp.length
  ·rw[List.getElem?_append_left hj] at hy;rw[List.getElem?_append_left (by omega)] at hku;exact (hkf j y ku hy hku).chg hch (fun _ h=>h) hFS
  ·have hj2:j=sp.length:=by have:=(List.getElem?_eq_some_iff.1 hy).1;simp at this;omega
   subst hj2;rw[List.getElem?_append_right (Nat.le_refl _),Nat.sub_self] at hy;rw[List.getElem?_append_right (by omega),hkl,Nat.sub_self] at hku;cases hy;cases hku
   exact hx.chg hch (fun _ h=>h) hFS
theorem holds_add {W:World}{b off:Nat}{t:TypeId}{cs csF:Array Value}{u v tv:Value} (hF:csF=(cs.setIfInBounds off u).setIfInBounds (off+1) tv) (h:Holds W b t (csF.setIfInBounds off v)):Holds W b t ((cs.setIfInBounds off v).setIfInBounds (off+1) tv):=by
 have e:csF.setIfInBounds off v=(cs.setIfInBounds off v).setIfInBounds (off+1) tv:=by
  subst hF
  apply Array.ext_getElem?
  intro j;simp only[Array.getElem?_setIfInBounds,Array.size_setIfInBounds]
  by_cases h1:off=j
  ·subst h1;simp
  ·by_cases h2:off+1=j
   ·subst h2;simp
   ·simp[h1,h2]
 rw[←e];exact h
theorem add_any (b off:Nat) (cs:Array Value) (t:TypeId) (sv tv:Value) (r:Rw) (x:Sp) (kv:Value) (w:World) (B:Nat) (F:Nat→Prop) (hh:Holds w b t cs) (hc0:cs[off]? = some sv) (hc:cs[off+1]? = some tv) (hsp:SpanRow w B tS F sv r.sp) (ht:TextRow w B tv r.tx)
  (hbs:sv.ownBlock≠some b) (hb:tv.ownBlock≠some b) (hF:∀k,F k→k<w.heap.size∧k≠b∧sv.ownBlock≠some k∧tv.ownBlock≠some k) (hB:B≤w.heap.size) (hl:r.sp.length≤1000000000) (hs:r.tx.length≤1000000000)
  (hx:Forest w F kv x.kids) (hxt:x.kind=0→x.text.length≤1000000000) :
  Calls Tryz.prog 211 #[.pointer (some ⟨b,off,none⟩),.agg #[.int .u8 (x.kind:Int),strV x.text,strV x.sub,strV x.see,kv]] w fun e w'=>e=.returned (.tuple #[])∧RowTo w B F b off cs t sv tv (r.add x) w':=by
 have hbw:=hh.lt;obtain⟨Ak,ck,rfl,hck,_⟩:=hx.form;have hxk2:=hx;generalize hkn:x.kids.length=kn at hx hck ⊢;have HKN:=Lib.hid hkn;clear hkn hxk2;have hh0:=hh.alloc (.cells #[.int .u8 (x.kind:Int),strV x.text,strV x.sub,strV x.see,.slice Ak kn ck] 138);have hc1:=Chg.alloc (Chg.refl w (fun _=>False)) (.cells #[.int .u8 (x.kind:Int),strV x.text,strV x.sub,strV x.see,.slice Ak kn ck] 138);have hsp0:SpanRow (w.alloc (.cells #[.int .u8 (x.kind:Int),strV x.text,strV x.sub,strV x.see,.slice Ak kn ck] 138)) B tS F sv r.sp:=hsp.chg hc1 (fun _ h=>h) (fun _ _ h=>h) (fun _ _ h=>h);have ht0:TextRow (w.alloc (.cells #[.int .u8 (x.kind:Int),strV x.text,strV x.sub,strV x.see,.slice Ak kn ck] 138)) B tv r.tx:=ht.chg hc1 (fun _ _ h=>h);have hx0:Forest (w.alloc (.cells #[.int .u8 (x.kind:Int),strV x.text,strV x.sub,strV x.see,.slice Ak kn ck] 138)) F (.slice Ak kn ck) x.kids:=hx.chg hc1 (fun _ h=>h) (fun _ _ h=>h);have hX:=Holds.new w 138 #[.int .u8 (x.kind:Int),strV x.text,strV x.sub,strV x.see,.slice Ak kn ck];unfold strV at hh0 hc1 hsp0 ht0 hx0 hX ⊢
 by_cases hk:x.kind=0
 ·have hk0:((x.kind:Int)==0)=true:=by simp[hk]
  have hadd:r.add x=r.write x.text:=by rw[Rw.add,if_pos hk]
  have HADD:=Lib.hid hadd;have HK:=Lib.hid hk;have HHX:=Lib.hid hX;clear hadd hk;have cw:=write_any b off cs t tv r.tx ⟨x.text.toArray⟩ _ B hh0 hc ht0 hb (by simp;omega) (by omega) (by rw[size_mk];have:=hxt HK.out;omega)
  go_enter Tryz.func211,Tryz.ntmps211
  go_wp2_with (go_at_call 200;refine cw.mono ?_;rintro e w1 ⟨rfl,tv',h1,h2,h3,h4⟩)
  (try simp only[Exit.inBlock,Exit.then])
  refine bodyPost_ret (results_none rfl _ _ _) rfl ?_;refine⟨rfl,sv,tv',?_,?_,?_,?_,fun k h=>.inl h,?_⟩
  ·rw[set_same hc0];exact h1
  ·rw[HADD.out];exact hsp0.chg h3 (fun _ h=>h) (fun k hk h=>by have:=hF k hk;rcases h with h|h;exact this.2.1 h;exact this.2.2.2 h) (fun k hk h=>by
    rcases h with h|h
    ·exact hbs (by rw[hk,h])
    ·obtain⟨kvs,_,ho,_⟩:=hsp;exact own_apart ho ht (by decide) hk h)
  ·rw[HADD.out];exact h2
  ·exact (hc1.mono (T:=fun k=>k=b∨tv.ownBlock=some k) (fun _ _ h=>h.elim)).trans h3 (fun _ _ h=>h) |>.mono (fun k _ h=>by rcases h with h|h;exact .inl h;exact .inr (.inr h))
  ·intro k hk
   rcases h4.old k hk with h|h
   ·exact .inl h
   ·simp at h;exact .inr (by omega)
 ·have hk0:((x.kind:Int)==0)=false:=by simp;omega
  have hadd:r.add x=⟨r.flush.sp++[x],[]⟩:=by rw[Rw.add,if_neg hk]
  have HADD:=Lib.hid hadd;have HK:=Lib.hid hk;clear hadd hk;have cf:=flush_any b off cs t sv tv r _ B F hh0 hc0 hc hsp0 ht0 hbs hb (fun k hk=>by have:=hF k hk;exact⟨by simp;omega,this.2⟩) (by simp;omega) (by omega) (by omega);have HF:=Lib.hid hF;have hfl:=wtL_len r.flush.sp;have hfl2:r.flush.sp.length≤1000000001:=by
   have:r.flush.sp.length≤r.sp.length+1:=by unfold Rw.flush;split<;>simp
   omega
  clear hF hfl;generalize hrf:r.flush.sp=fsp at HADD hfl2;have HRF:=Lib.hid hrf;clear hrf
  go_enter Tryz.func211,Tryz.ntmps211
  go_wp2_with (go_at_call 167;refine cf.mono ?_;clear cf;rintro e w1 ⟨rfl,sv1,tv1,g1,g2,g3,g4,g5,g6⟩)
  rw[HRF.out] at g2;have hbl:=hbw;have hsz1:=g4.size;have hszw:w.heap.size+1≤w1.heap.size:=by simpa using hsz1
  have hx1:Holds w1 w.heap.size 138 #[.int .u8 (x.kind:Int),.string ⟨x.text.toArray⟩,.string ⟨x.sub.toArray⟩,.string ⟨x.see.toArray⟩,.slice Ak kn ck]:=g4.holds (fun h=>by
   rcases h with h|h|h
   ·omega
   ·have:=(hsp.lt _ h).2;omega
   ·have:=(ht.lt _ h).2;omega) hX
  have hkx1:Forest w1 F (.slice Ak kn ck) x.kids:=hx0.chg g4 (fun _ h=>h) (fun k hk h=>by
   have:=HF.out k hk
   rcases h with h|h|h
   ·exact this.2.1 h
   ·exact this.2.2.1 h
   ·exact this.2.2.2 h)
  obtain⟨As,cs',rfl,hcs'⟩:=g2.form;obtain⟨kvs,hkl,hso,hkf⟩:=g2;obtain⟨i0,hi0,hz0,hz1,hz2⟩:=info_parts span_info;have hbs1:(Value.slice As fsp.length cs').ownBlock≠some b:=fun h=>by
   rcases g5 _ h with h|h
   ·exact hbs h
   ·simp at h;omega
  have hxs1:(Value.slice As fsp.length cs').ownBlock≠some w.heap.size:=fun h=>by
   rcases g5 _ h with h|h
   ·have:=(hsp.lt _ h).2;omega
   ·simp at h;omega
  have hxb:w.heap.size≠b:=by omega
  have hto:∀k,tv1.ownBlock=some k→tv.ownBlock=some k:=g6;have htb1:tv1.ownBlock≠some b:=fun h=>hb (hto _ h)
  have hts1:∀k,tv1.ownBlock=some k→(Value.slice As fsp.length cs').ownBlock≠some k:=fun k h1 h2=>own_apart hso g3 (by decide) h2 h1
  have hoc:off+1<cs.size:=(Array.getElem?_eq_some_iff.1 hc).1;have hcs1:((cs.setIfInBounds off (.slice As fsp.length cs')).setIfInBounds (off+1) tv1)[off]? = some (.slice As fsp.length cs'):=by
   rw[Array.getElem?_setIfInBounds_ne (by omega),Array.getElem?_setIfInBounds_self_of_lt (by omega)]
  have k0:=(g1.cell off).trans hcs1;have hbw1:=g1.lt;have hBw1:B≤w1.heap.size:=by omega
  have hrl:=rowCells_length hkl;have hrc:∀i,i<5→(rowCells fsp kvs++[.int .u8 0,.string ⟨#[]⟩,.string ⟨#[]⟩,.string ⟨#[]⟩,.slice none 0 0])[fsp.length*5+i]? = ([.int .u8 0,.string ⟨#[]⟩,.string ⟨#[]⟩,.string ⟨#[]⟩,.slice none 0 0]:List Value)[i]?:=fun i _=>by
   rw[List.getElem?_append_right (by omega)]
   congr 1;omega
  have hrc0:Hid ((rowCells fsp kvs++[.int .u8 0,.string ⟨#[]⟩,.string ⟨#[]⟩,.string ⟨#[]⟩,.slice none 0 0])[fsp.length*5]? = some (.int .u8 0)):=hrc 0 (by omega);have hrc1:Hid ((rowCells fsp kvs++[.int .u8 0,.string ⟨#[]⟩,.string ⟨#[]⟩,.string ⟨#[]⟩,.slice none 0 0])[fsp.length*5+1]? = some (.string ⟨#[]⟩)):=hrc 1 (by omega);have hrc2:Hid ((rowCells fsp kvs++[.int .u8 0,.string ⟨#[]⟩,.string ⟨#[]⟩,.string ⟨#[]⟩,.slice none 0 0])[fsp.length*5+2]? = some (.string ⟨#[]⟩)):=hrc 2 (by omega);have hrc3:Hid ((rowCells fsp kvs++[.int .u8 0,.string ⟨#[]⟩,.string ⟨#[]⟩,.string ⟨#[]⟩,.slice none 0 0])[fsp.length*5+3]? = some (.string ⟨#[]⟩)):=hrc 3 (by omega);have hrc4:Hid ((rowCells fsp kvs++[.int .u8 0,.string ⟨#[]⟩,.string ⟨#[]⟩,.string ⟨#[]⟩,.slice none 0 0])[fsp.length*5+4]? = some (.slice none 0 0)):=hrc 4 (by omega);have HC1:=Lib.hid hc1;have HG4:=Lib.hid g4;have HG5:=Lib.hid g5;have HTO:=Lib.hid hto;have HTS:=Lib.hid hts1;have HKF:=Lib.hid hkf;have HRL:=Lib.hid hrl;have HKL:=Lib.hid hkl;have HG3:=Lib.hid g3;have HHX:=Lib.hid hx1;have HKX:=Lib.hid hkx1;have HCS:=Lib.hid hcs1;clear hrc hkf hrl hkl hc1 g4 g5 g6 hto hts1 hh0 hsp0 ht0 hx0 hX hcs1 hkx1 hc0 hc hsz1;have hi0':(0:Int)≤(fsp.length:Int):=by omega
  have hi1':(fsp.length:Int)<(fsp.length:Int)+1:=by omega
  refine wp_region_held_drew (S:=(fun w'=>w'.cell? ⟨w.heap.size,0,none⟩=some (.int .u8 (x.kind:Int))∧w'.cell? ⟨w.heap.size,1,none⟩=some (.string ⟨x.text.toArray⟩)∧w'.cell? ⟨w.heap.size,2,none⟩=some (.string ⟨x.sub.toArray⟩)∧w'.cell? ⟨w.heap.size,3,none⟩=some (.string ⟨x.see.toArray⟩)∧w'.cell? ⟨w.heap.size,4,none⟩=some (.slice Ak kn ck))) (by kernel_rfl) ?_ (fun hHeld0=>?_)
  ·(try dsimp only)
   refine cells5 (t:=138) ?_
   repeat (first|with_reducible exact hx1|with_reducible exact hx2|with_reducible refine Holds.far ?_ hxgg _|with_reducible refine Holds.far ?_ hxb _|with_reducible refine Holds.alloc ?_ _|with_reducible refine Holds.drew ?_)
  refine tkH 0 13 ?_;refine tkH 1 14 ?_;refine tkH 2 15 ?_;refine tkH 4 17 ?_;refine rdyH [3,6] ?_;refine AllReadyH.cons (o:=⟨some 16,_,_,_,_,_⟩) rfl (fun K hK=>?_) ?_
  ·skip
   go_simp;refine hK.out _ _ ?_ (fun hHeld1=>?_)
   ·(try dsimp only)
    refine cells5 (t:=138) ?_
    repeat (first|with_reducible exact hx1|with_reducible exact hx2|with_reducible refine Holds.far ?_ hxgg _|with_reducible refine Holds.far ?_ hxb _|with_reducible refine Holds.alloc ?_ _|with_reducible refine Holds.drew ?_)
   clear hK K hHeld0
   (try go_frame)
   refine tkH 5 18 ?_;refine rdyH [6] ?_;refine AllReadyH.cons (o:=⟨some 19,_,_,_,_,_⟩) rfl (fun K hK=>?_) AllReadyH.nil;go_simp;refine hK.out _ _ ?_ (fun hHeld2=>?_)
   ·(try dsimp only)
    refine cells5 (t:=138) ?_
    repeat (first|with_reducible exact hx1|with_reducible exact hx2|with_reducible refine Holds.far ?_ hxgg _|with_reducible refine Holds.far ?_ hxb _|with_reducible refine Holds.alloc ?_ _|with_reducible refine Holds.drew ?_)
   clear hK K hHeld1
   (try go_frame)
   refine rdyH [7] ?_;refine AllReadyH.cons (o:=⟨some 20,_,_,_,_,_⟩) rfl (fun K hK=>?_) AllReadyH.nil;refine step_append_lies _ (by rfl) _ _ _ (by rfl) B 138 i0 _ 5 80 Tryz.underlying59 hi0 hz0 hz1 hz2 rfl (by omega) (.slice As fsp.length cs') fsp.length (rowCells fsp kvs) (by rfl) ((hso.alloc _).drew)
    ⟨w1.heap.size,0,none⟩ 1 1 [.int .u8 0,.string ⟨#[]⟩,.string ⟨#[]⟩,.string ⟨#[]⟩,.slice none 0 0] (by rfl) (by rfl) (World.news_of_block (cs:=#[.int .u8 0,.string ⟨#[]⟩,.string ⟨#[]⟩,.string ⟨#[]⟩,.slice none 0 0]) (t:=138) (fr:=(0,0)) (heap_alloc_new w1 _)) (by simp[Value.oneCell'])
    (by omega) (by unfold maxLen;omega) (by omega) (by simp;omega) (w1.heap.size+1) (by simp) ?_
   intro gg cap1 w2 hown1 hgrow hat hlt;have hggb:gg≠b:=fun e=>by
    rcases hat with h|h
    ·exact hbs1 (h.trans (by rw[e]))
    ·omega
   have hbgg:b≠gg:=fun e=>hggb e.symm
   have hxgg:w.heap.size≠gg:=fun e=>by
    rcases hat with h|h
    ·exact hxs1 (h.trans (by rw[e]))
    ·omega
   have hch1:=Chg.grown hgrow;have hh1:=hch1.holds (fun h=>hbs1 h.symm) ((g1.alloc _).drew);have hx2:=hch1.holds (fun h=>hxs1 h.symm) ((hx1.alloc _).drew);have k1:=(hh1.cell off).trans HCS.out;have k2:=hh1.free off;have z0:=hown1.cellAt (fsp.length*5) (by omega);have z1:=hown1.cellAt (fsp.length*5+1) (by omega);have z2:=hown1.cellAt (fsp.length*5+2) (by omega);have z3:=hown1.cellAt (fsp.length*5+3) (by omega);have z4:=hown1.cellAt (fsp.length*5+4) (by omega);have y0:=hown1.frozenAt (fsp.length*5);have y1:=hown1.frozenAt (fsp.length*5+1);have y2:=hown1.frozenAt (fsp.length*5+2);have y3:=hown1.frozenAt (fsp.length*5+3);have y4:=hown1.frozenAt (fsp.length*5+4);rw[hrc0.out] at z0;rw[hrc1.out] at z1;rw[hrc2.out] at z2;rw[hrc3.out] at z3;rw[hrc4.out] at z4;have HOWN:=Lib.hid hown1;have HAT:=Lib.hid hat;have hggo:(Value.slice (some ⟨gg,0,none⟩) (fsp.length+1) cap1).ownBlock≠some b:=fun e=>hggb (by simpa [Value.ownBlock] using e)
   have HC0:Hid (Chg w1 w2 (fun k=>k=b∨(Value.slice As fsp.length cs').ownBlock=some k)):=(((Chg.refl w1 _).alloc _).drew).trans hch1 (fun k _ h=>Or.inr h.symm);have HTG:Hid (∀k,k<w1.heap.size→k=gg→(k=b∨(Value.slice As fsp.length cs').ownBlock=some k)):=fun k hk e=>by
    subst e
    rcases hat with h|h
    ·exact Or.inr h
    ·omega
   have HTB:Hid (∀k,k<w1.heap.size→k=b→(k=b∨(Value.slice As fsp.length cs').ownBlock=some k)):=fun k _ e=>Or.inl e
   clear hown1 hat hch1 hgrow;refine hK.out _ _ ?_ (fun hHeld3=>?_)
   ·(try dsimp only)
    refine cells5 (t:=138) ?_
    repeat (first|with_reducible exact hx1|with_reducible exact hx2|with_reducible refine Holds.far ?_ hxgg _|with_reducible refine Holds.far ?_ hxb _|with_reducible refine Holds.alloc ?_ _|with_reducible refine Holds.drew ?_)
   clear hK K hHeld2
   (try go_frame)
   refine tkH 8 21 ?_;refine tkH 10 22 ?_;refine tkH 11 23 ?_;refine rdyH [9,12] ?_;refine AllReadyH.cons rfl (fun K hK=>?_) ?_
   ·skip
    go_simp;refine hK.out _ _ ?_ (fun hHeld4=>?_)
    ·(try dsimp only)
     refine cells5 (t:=138) ?_
     repeat (first|with_reducible exact hx1|with_reducible exact hx2|with_reducible refine Holds.far ?_ hxgg _|with_reducible refine Holds.far ?_ hxb _|with_reducible refine Holds.alloc ?_ _|with_reducible refine Holds.drew ?_)
    clear hK K hHeld3
    (try go_frame)
    refine rdyH [12] ?_;refine AllReadyH.cons rfl (fun K hK=>?_) AllReadyH.nil;go_simp;refine hK.out _ _ ?_ (fun hHeld5=>?_)
    ·(try dsimp only)
     refine cells5 (t:=138) ?_
     repeat (first|with_reducible exact hx1|with_reducible exact hx2|with_reducible refine Holds.far ?_ hxgg _|with_reducible refine Holds.far ?_ hxb _|with_reducible refine Holds.alloc ?_ _|with_reducible refine Holds.drew ?_)
    clear hK K hHeld4
    (try go_frame)
    refine wpAnyH_done (by kernel_rfl) ?_ _;clear hHeld5;go_wp2
    go_end0
    refine⟨rfl,.slice (some ⟨gg,0,none⟩) (fsp.length+1) cap1,tv1,?_,?_,?_,?_,?_,?_⟩
    ·refine holds_add (csF:=(cs.setIfInBounds off (.slice As fsp.length cs')).setIfInBounds (off+1) tv1) (v:=.slice (some ⟨gg,0,none⟩) (fsp.length+1) cap1) rfl ?_
     repeat (first|with_reducible exact hh1|with_reducible refine Holds.set ?_ _ _|with_reducible refine Holds.far ?_ hbgg _)
    ·rw[HADD.out];refine added_row (z0:=.int .u8 0) (z1:=.string ⟨#[]⟩) (z2:=.string ⟨#[]⟩) (z3:=.string ⟨#[]⟩) (z4:=.slice none 0 0) (kv:=.slice Ak kn ck) (S:=fun k=>k=b∨(Value.slice As fsp.length cs').ownBlock=some k) HKL.out HRL.out HKF.out HKX.out ?_ (fun k hk h=>by
      have:=HF.out k hk
      rcases h with h|h
      ·exact this.2.1 h
      ·rcases HG5.out k h with h|h
       ·exact this.2.2.1 h
       ·simp at h;omega) ?_
     ·repeat (first|with_reducible exact HC0.out|with_reducible refine Chg.step ?_ HTG.out|with_reducible refine Chg.step ?_ HTB.out)
     ·repeat (first|with_reducible refine (World.ownsRow.stored ?_ _ _).1|with_reducible refine ownsRow_setCell_other ?_ hggo _)
      exact HOWN.out
    focus
     rw[HADD.out];refine TextRow.chg (S:=fun k=>k=b∨(Value.slice As fsp.length cs').ownBlock=some k) HG3.out ?_ (fun k hk h=>by
      rcases h with h|h
      ·exact htb1 (by rw[hk,h])
      ·exact HTS.out k hk h)
    rotate_left
    focus
     refine Chg.trans (S:=fun k=>k=b∨sv.ownBlock=some k∨tv.ownBlock=some k) (T:=fun k=>k=b∨(Value.slice As fsp.length cs').ownBlock=some k) (Chg.trans (HC1.out.mono (fun _ _ h=>h.elim)) HG4.out (fun _ _ h=>h)) ?_ (fun k hk h=>by
      rcases h with h|h
      ·exact .inl h
      ·rcases HG5.out k h with h|h
       ·exact .inr (.inl h)
       ·simp at h;omega)
    rotate_left
    ·intro k hk;simp only[Value.ownBlock,Option.some.injEq] at hk;subst hk
     rcases HAT.out with h|h
     ·rcases HG5.out _ h with h|h
      ·exact .inl h
      ·simp at h;exact .inr (by omega)
     ·exact .inr (by omega)
    ·intro k hk;exact .inl (HTO.out k hk)
    all_goals
     repeat (first|with_reducible exact HC0.out|with_reducible refine Chg.step ?_ HTG.out|with_reducible refine Chg.step ?_ HTB.out)
   refine AllReadyH.cons rfl (fun K hK=>?_) AllReadyH.nil;go_simp;refine hK.out _ _ ?_ (fun hHeld4=>?_)
   ·(try dsimp only)
    refine cells5 (t:=138) ?_
    repeat (first|with_reducible exact hx1|with_reducible exact hx2|with_reducible refine Holds.far ?_ hxgg _|with_reducible refine Holds.far ?_ hxb _|with_reducible refine Holds.alloc ?_ _|with_reducible refine Holds.drew ?_)
   clear hK K hHeld3
   (try go_frame)
   refine rdyH [9] ?_;refine AllReadyH.cons rfl (fun K hK=>?_) AllReadyH.nil;go_simp;refine hK.out _ _ ?_ (fun hHeld5=>?_)
   ·(try dsimp only)
    refine cells5 (t:=138) ?_
    repeat (first|with_reducible exact hx1|with_reducible exact hx2|with_reducible refine Holds.far ?_ hxgg _|with_reducible refine Holds.far ?_ hxb _|with_reducible refine Holds.alloc ?_ _|with_reducible refine Holds.drew ?_)
   clear hK K hHeld4
   (try go_frame)
   refine wpAnyH_done (by kernel_rfl) ?_ _;clear hHeld5;go_wp2
   go_end0
   refine⟨rfl,.slice (some ⟨gg,0,none⟩) (fsp.length+1) cap1,tv1,?_,?_,?_,?_,?_,?_⟩
   ·refine holds_add (csF:=(cs.setIfInBounds off (.slice As fsp.length cs')).setIfInBounds (off+1) tv1) (v:=.slice (some ⟨gg,0,none⟩) (fsp.length+1) cap1) rfl ?_
    repeat (first|with_reducible exact hh1|with_reducible refine Holds.set ?_ _ _|with_reducible refine Holds.far ?_ hbgg _)
   ·rw[HADD.out];refine added_row (z0:=.int .u8 0) (z1:=.string ⟨#[]⟩) (z2:=.string ⟨#[]⟩) (z3:=.string ⟨#[]⟩) (z4:=.slice none 0 0) (kv:=.slice Ak kn ck) (S:=fun k=>k=b∨(Value.slice As fsp.length cs').ownBlock=some k) HKL.out HRL.out HKF.out HKX.out ?_ (fun k hk h=>by
     have:=HF.out k hk
     rcases h with h|h
     ·exact this.2.1 h
     ·rcases HG5.out k h with h|h
      ·exact this.2.2.1 h
      ·simp at h;omega) ?_
    ·repeat (first|with_reducible exact HC0.out|with_reducible refine Chg.step ?_ HTG.out|with_reducible refine Chg.step ?_ HTB.out)
    ·repeat (first|with_reducible refine (World.ownsRow.stored ?_ _ _).1|with_reducible refine ownsRow_setCell_other ?_ hggo _)
     exact HOWN.out
   focus
    rw[HADD.out];refine TextRow.chg (S:=fun k=>k=b∨(Value.slice As fsp.length cs').ownBlock=some k) HG3.out ?_ (fun k hk h=>by
     rcases h with h|h
     ·exact htb1 (by rw[hk,h])
     ·exact HTS.out k hk h)
   rotate_left
   focus
    refine Chg.trans (S:=fun k=>k=b∨sv.ownBlock=some k∨tv.ownBlock=some k) (T:=fun k=>k=b∨(Value.slice As fsp.length cs').ownBlock=some k) (Chg.trans (HC1.out.mono (fun _ _ h=>h.elim)) HG4.out (fun _ _ h=>h)) ?_ (fun k hk h=>by
     rcases h with h|h
     ·exact .inl h
     ·rcases HG5.out k h with h|h
      ·exact .inr (.inl h)
      ·simp at h;omega)
   rotate_left
   ·intro k hk;simp only[Value.ownBlock,Option.some.injEq] at hk;subst hk
    rcases HAT.out with h|h
    ·rcases HG5.out _ h with h|h
     ·exact .inl h
     ·simp at h;exact .inr (by omega)
    ·exact .inr (by omega)
   ·intro k hk;exact .inl (HTO.out k hk)
   all_goals
    repeat (first|with_reducible exact HC0.out|with_reducible refine Chg.step ?_ HTG.out|with_reducible refine Chg.step ?_ HTB.out)
  refine AllReadyH.cons (o:=⟨some 19,_,_,_,_,_⟩) rfl (fun K hK=>?_) AllReadyH.nil;go_simp;refine hK.out _ _ ?_ (fun hHeld1=>?_)
  ·(try dsimp only)
   refine cells5 (t:=138) ?_
   repeat (first|with_reducible exact hx1|with_reducible exact hx2|with_reducible refine Holds.far ?_ hxgg _|with_reducible refine Holds.far ?_ hxb _|with_reducible refine Holds.alloc ?_ _|with_reducible refine Holds.drew ?_)
  clear hK K hHeld0
  (try go_frame)
  refine rdyH [3] ?_;refine AllReadyH.cons (o:=⟨some 16,_,_,_,_,_⟩) rfl (fun K hK=>?_) AllReadyH.nil;go_simp;refine hK.out _ _ ?_ (fun hHeld2=>?_)
  ·(try dsimp only)
   refine cells5 (t:=138) ?_
   repeat (first|with_reducible exact hx1|with_reducible exact hx2|with_reducible refine Holds.far ?_ hxgg _|with_reducible refine Holds.far ?_ hxb _|with_reducible refine Holds.alloc ?_ _|with_reducible refine Holds.drew ?_)
  clear hK K hHeld1
  (try go_frame)
  refine tkH 5 18 ?_;refine rdyH [7] ?_;refine AllReadyH.cons (o:=⟨some 20,_,_,_,_,_⟩) rfl (fun K hK=>?_) AllReadyH.nil;refine step_append_lies _ (by rfl) _ _ _ (by rfl) B 138 i0 _ 5 80 Tryz.underlying59 hi0 hz0 hz1 hz2 rfl (by omega) (.slice As fsp.length cs') fsp.length (rowCells fsp kvs) (by rfl) ((hso.alloc _).drew)
   ⟨w1.heap.size,0,none⟩ 1 1 [.int .u8 0,.string ⟨#[]⟩,.string ⟨#[]⟩,.string ⟨#[]⟩,.slice none 0 0] (by rfl) (by rfl) (World.news_of_block (cs:=#[.int .u8 0,.string ⟨#[]⟩,.string ⟨#[]⟩,.string ⟨#[]⟩,.slice none 0 0]) (t:=138) (fr:=(0,0)) (heap_alloc_new w1 _)) (by simp[Value.oneCell'])
   (by omega) (by unfold maxLen;omega) (by omega) (by simp;omega) (w1.heap.size+1) (by simp) ?_
  intro gg cap1 w2 hown1 hgrow hat hlt;have hggb:gg≠b:=fun e=>by
   rcases hat with h|h
   ·exact hbs1 (h.trans (by rw[e]))
   ·omega
  have hbgg:b≠gg:=fun e=>hggb e.symm
  have hxgg:w.heap.size≠gg:=fun e=>by
   rcases hat with h|h
   ·exact hxs1 (h.trans (by rw[e]))
   ·omega
  have hch1:=Chg.grown hgrow;have hh1:=hch1.holds (fun h=>hbs1 h.symm) ((g1.alloc _).drew);have hx2:=hch1.holds (fun h=>hxs1 h.symm) ((hx1.alloc _).drew);have k1:=(hh1.cell off).trans HCS.out;have k2:=hh1.free off;have z0:=hown1.cellAt (fsp.length*5) (by omega);have z1:=hown1.cellAt (fsp.length*5+1) (by omega);have z2:=hown1.cellAt (fsp.length*5+2) (by omega);have z3:=hown1.cellAt (fsp.length*5+3) (by omega);have z4:=hown1.cellAt (fsp.length*5+4) (by omega);have y0:=hown1.frozenAt (fsp.length*5);have y1:=hown1.frozenAt (fsp.length*5+1);have y2:=hown1.frozenAt (fsp.length*5+2);have y3:=hown1.frozenAt (fsp.length*5+3);have y4:=hown1.frozenAt (fsp.length*5+4);rw[hrc0.out] at z0;rw[hrc1.out] at z1;rw[hrc2.out] at z2;rw[hrc3.out] at z3;rw[hrc4.out] at z4;have HOWN:=Lib.hid hown1;have HAT:=Lib.hid hat;have hggo:(Value.slice (some ⟨gg,0,none⟩) (fsp.length+1) cap1).ownBlock≠some b:=fun e=>hggb (by simpa [Value.ownBlock] using e)
  have HC0:Hid (Chg w1 w2 (fun k=>k=b∨(Value.slice As fsp.length cs').ownBlock=some k)):=(((Chg.refl w1 _).alloc _).drew).trans hch1 (fun k _ h=>Or.inr h.symm);have HTG:Hid (∀k,k<w1.heap.size→k=gg→(k=b∨(Value.slice As fsp.length cs').ownBlock=some k)):=fun k hk e=>by
   subst e
   rcases hat with h|h
   ·exact Or.inr h
   ·omega
  have HTB:Hid (∀k,k<w1.heap.size→k=b→(k=b∨(Value.slice As fsp.length cs').ownBlock=some k)):=fun k _ e=>Or.inl e
  clear hown1 hat hch1 hgrow;refine hK.out _ _ ?_ (fun hHeld3=>?_)
  ·(try dsimp only)
   refine cells5 (t:=138) ?_
   repeat (first|with_reducible exact hx1|with_reducible exact hx2|with_reducible refine Holds.far ?_ hxgg _|with_reducible refine Holds.far ?_ hxb _|with_reducible refine Holds.alloc ?_ _|with_reducible refine Holds.drew ?_)
  clear hK K hHeld2
  (try go_frame)
  refine tkH 8 21 ?_;refine tkH 10 22 ?_;refine tkH 11 23 ?_;refine rdyH [9,12] ?_;refine AllReadyH.cons rfl (fun K hK=>?_) ?_
  ·skip
   go_simp;refine hK.out _ _ ?_ (fun hHeld4=>?_)
   ·(try dsimp only)
    refine cells5 (t:=138) ?_
    repeat (first|with_reducible exact hx1|with_reducible exact hx2|with_reducible refine Holds.far ?_ hxgg _|with_reducible refine Holds.far ?_ hxb _|with_reducible refine Holds.alloc ?_ _|with_reducible refine Holds.drew ?_)
   clear hK K hHeld3
   (try go_frame)
   refine rdyH [12] ?_;refine AllReadyH.cons rfl (fun K hK=>?_) AllReadyH.nil;go_simp;refine hK.out _ _ ?_ (fun hHeld5=>?_)
   ·(try dsimp only)
    refine cells5 (t:=138) ?_
    repeat (first|with_reducible exact hx1|with_reducible exact hx2|with_reducible refine Holds.far ?_ hxgg _|with_reducible refine Holds.far ?_ hxb _|with_reducible refine Holds.alloc ?_ _|with_reducible refine Holds.drew ?_)
   clear hK K hHeld4
   (try go_frame)
   refine wpAnyH_done (by kernel_rfl) ?_ _;clear hHeld5;go_wp2
   go_end0
   refine⟨rfl,.slice (some ⟨gg,0,none⟩) (fsp.length+1) cap1,tv1,?_,?_,?_,?_,?_,?_⟩
   ·refine holds_add (csF:=(cs.setIfInBounds off (.slice As fsp.length cs')).setIfInBounds (off+1) tv1) (v:=.slice (some ⟨gg,0,none⟩) (fsp.length+1) cap1) rfl ?_
    repeat (first|with_reducible exact hh1|with_reducible refine Holds.set ?_ _ _|with_reducible refine Holds.far ?_ hbgg _)
   ·rw[HADD.out];refine added_row (z0:=.int .u8 0) (z1:=.string ⟨#[]⟩) (z2:=.string ⟨#[]⟩) (z3:=.string ⟨#[]⟩) (z4:=.slice none 0 0) (kv:=.slice Ak kn ck) (S:=fun k=>k=b∨(Value.slice As fsp.length cs').ownBlock=some k) HKL.out HRL.out HKF.out HKX.out ?_ (fun k hk h=>by
     have:=HF.out k hk
     rcases h with h|h
     ·exact this.2.1 h
     ·rcases HG5.out k h with h|h
      ·exact this.2.2.1 h
      ·simp at h;omega) ?_
    ·repeat (first|with_reducible exact HC0.out|with_reducible refine Chg.step ?_ HTG.out|with_reducible refine Chg.step ?_ HTB.out)
    ·repeat (first|with_reducible refine (World.ownsRow.stored ?_ _ _).1|with_reducible refine ownsRow_setCell_other ?_ hggo _)
     exact HOWN.out
   focus
    rw[HADD.out];refine TextRow.chg (S:=fun k=>k=b∨(Value.slice As fsp.length cs').ownBlock=some k) HG3.out ?_ (fun k hk h=>by
     rcases h with h|h
     ·exact htb1 (by rw[hk,h])
     ·exact HTS.out k hk h)
   rotate_left
   focus
    refine Chg.trans (S:=fun k=>k=b∨sv.ownBlock=some k∨tv.ownBlock=some k) (T:=fun k=>k=b∨(Value.slice As fsp.length cs').ownBlock=some k) (Chg.trans (HC1.out.mono (fun _ _ h=>h.elim)) HG4.out (fun _ _ h=>h)) ?_ (fun k hk h=>by
     rcases h with h|h
     ·exact .inl h
     ·rcases HG5.out k h with h|h
      ·exact .inr (.inl h)
      ·simp at h;omega)
   rotate_left
   ·intro k hk;simp only[Value.ownBlock,Option.some.injEq] at hk;subst hk
    rcases HAT.out with h|h
    ·rcases HG5.out _ h with h|h
     ·exact .inl h
     ·simp at h;exact .inr (by omega)
    ·exact .inr (by omega)
   ·intro k hk;exact .inl (HTO.out k hk)
   all_goals
    repeat (first|with_reducible exact HC0.out|with_reducible refine Chg.step ?_ HTG.out|with_reducible refine Chg.step ?_ HTB.out)
  refine AllReadyH.cons rfl (fun K hK=>?_) AllReadyH.nil;go_simp;refine hK.out _ _ ?_ (fun hHeld4=>?_)
  ·(try dsimp only)
   refine cells5 (t:=138) ?_
   repeat (first|with_reducible exact hx1|with_reducible exact hx2|with_reducible refine Holds.far ?_ hxgg _|with_reducible refine Holds.far ?_ hxb _|with_reducible refine Holds.alloc ?_ _|with_reducible refine Holds.drew ?_)
  clear hK K hHeld3
  (try go_frame)
  refine rdyH [9] ?_;refine AllReadyH.cons rfl (fun K hK=>?_) AllReadyH.nil;go_simp;refine hK.out _ _ ?_ (fun hHeld5=>?_)
  ·(try dsimp only)
   refine cells5 (t:=138) ?_
   repeat (first|with_reducible exact hx1|with_reducible exact hx2|with_reducible refine Holds.far ?_ hxgg _|with_reducible refine Holds.far ?_ hxb _|with_reducible refine Holds.alloc ?_ _|with_reducible refine Holds.drew ?_)
  clear hK K hHeld4
  (try go_frame)
  refine wpAnyH_done (by kernel_rfl) ?_ _;clear hHeld5;go_wp2
  go_end0
  refine⟨rfl,.slice (some ⟨gg,0,none⟩) (fsp.length+1) cap1,tv1,?_,?_,?_,?_,?_,?_⟩
  ·refine holds_add (csF:=(cs.setIfInBounds off (.slice As fsp.length cs')).setIfInBounds (off+1) tv1) (v:=.slice (some ⟨gg,0,none⟩) (fsp.length+1) cap1) rfl ?_
   repeat (first|with_reducible exact hh1|with_reducible refine Holds.set ?_ _ _|with_reducible refine Holds.far ?_ hbgg _)
  ·rw[HADD.out];refine added_row (z0:=.int .u8 0) (z1:=.string ⟨#[]⟩) (z2:=.string ⟨#[]⟩) (z3:=.string ⟨#[]⟩) (z4:=.slice none 0 0) (kv:=.slice Ak kn ck) (S:=fun k=>k=b∨(Value.slice As fsp.length cs').ownBlock=some k) HKL.out HRL.out HKF.out HKX.out ?_ (fun k hk h=>by
    have:=HF.out k hk
    rcases h with h|h
    ·exact this.2.1 h
    ·rcases HG5.out k h with h|h
     ·exact this.2.2.1 h
     ·simp at h;omega) ?_
   ·repeat (first|with_reducible exact HC0.out|with_reducible refine Chg.step ?_ HTG.out|with_reducible refine Chg.step ?_ HTB.out)
   ·repeat (first|with_reducible refine (World.ownsRow.stored ?_ _ _).1|with_reducible refine ownsRow_setCell_other ?_ hggo _)
    exact HOWN.out
  focus
   rw[HADD.out];refine TextRow.chg (S:=fun k=>k=b∨(Value.slice As fsp.length cs').ownBlock=some k) HG3.out ?_ (fun k hk h=>by
    rcases h with h|h
    ·exact htb1 (by rw[hk,h])
    ·exact HTS.out k hk h)
  rotate_left
  focus
   refine Chg.trans (S:=fun k=>k=b∨sv.ownBlock=some k∨tv.ownBlock=some k) (T:=fun k=>k=b∨(Value.slice As fsp.length cs').ownBlock=some k) (Chg.trans (HC1.out.mono (fun _ _ h=>h.elim)) HG4.out (fun _ _ h=>h)) ?_ (fun k hk h=>by
    rcases h with h|h
    ·exact .inl h
    ·rcases HG5.out k h with h|h
     ·exact .inr (.inl h)
     ·simp at h;omega)
  rotate_left
  ·intro k hk;simp only[Value.ownBlock,Option.some.injEq] at hk;subst hk
   rcases HAT.out with h|h
   ·rcases HG5.out _ h with h|h
    ·exact .inl h
    ·simp at h;exact .inr (by omega)
   ·exact .inr (by omega)
  ·intro k hk;exact .inl (HTO.out k hk)
  all_goals
   repeat (first|with_reducible exact HC0.out|with_reducible refine Chg.step ?_ HTG.out|with_reducible refine Chg.step ?_ HTB.out)
section
variable {w:World} {B:Nat} {col:Nat→Nat} {pb ob cap len:Nat} {s:ByteArray} {st:Pst} {i:Nat} {fv:Value} {gb:Nat} {cs:Array Value} {gn:List Bs}
theorem PSx.drewN (h:PSx Tryz.prog w B col pb ob cap len s st i fv gb cs gn) (n:Nat):PSx Tryz.prog (w.drewN n) B col pb ob cap len s st i fv gb cs gn :=
 h.keep ((Chg.refl w (fun _=>False)).drewN n) (fun _ h=>h.elim)
theorem top_any {n:Nat} (h:PSx Tryz.prog w B col pb ob cap (n+1) s st i fv gb cs gn) (hn:n≤1000) :
  Calls Tryz.prog 166 #[.pointer (some ⟨pb,0,none⟩)] w fun e w'=>e=.returned (.pointer (some ⟨ob,n*5,none⟩))∧∃k,w.drewN k=w':=by
 have c1:=h.hp.cell 1;have e1:IntKind.i64.wrap ((n:Int)+1-1)=(n:Int):=by
  rw[show (n:Int)+1-1=n by omega];exact IntWalk.i64_in _ (by omega)
 have e2:((n:Int)+1-1)=(n:Int):=by omega
 have hi1:n<n+1:=by omega
 clear h
 go_enter Tryz.func166,Tryz.ntmps166
 go_wp2
 go_quiet (fail)
 go_wp2
 go_ret
 exact⟨rfl,_,rfl⟩
theorem told_info:(Tryz.prog.info? 248).map (fun i=>(i.zero,i.size,i.bytes))=some (some (.agg #[.int .i64 0,.int .i64 0]),2,16):=by kernel_rfl
theorem frame_info:(Tryz.prog.info? 245).map (fun i=>(i.zero,i.size,i.bytes))=some (some (.agg #[.slice none 0 0,.slice none 0 0,.int .u8 0,.string ⟨#[]⟩,.int .i64 0]),5,80):=by kernel_rfl
theorem toldCells_snoc (l:List (Nat×Nat)) (a f:Nat):toldCells (l++[(a,f)])=toldCells l++[.int .i64 (a:Int),.int .i64 (f:Int)]:=by simp[toldCells]
theorem tell_any (h:PSx Tryz.prog w B col pb ob cap len s st i fv gb cs gn) (a f:Nat) (hfl:st.faults.length≤10000000000) :
  Calls Tryz.prog 207 #[.pointer (some ⟨pb,0,none⟩),.int .i64 (a:Int),.int .i64 (f:Int)] w fun e w'=>e=.returned (.tuple #[])∧∃col' fv',PSx Tryz.prog w' B col' pb ob cap len s (st.tell a f) i fv' gb cs gn∧Stay B w w' col col':=by
 have H:=Lib.hid h;have c2:=h.hp.cell 2;have hpw:=h.hp.lt;have hB:=h.hpB;have hf:=h.hf;have hpf:fv.ownBlock≠some pb:=fun e=>by have h1:=h.cf _ e;have h2:=h.cp;omega
 clear h
 go_enter Tryz.func207,Tryz.ntmps207
 go_wp2_with (at_builtin;refine wpList_app_el _ rfl _ _ 235 rfl B 248 (.agg #[.int .i64 0,.int .i64 0]) 2 16 Tryz.underlying235 told_info rfl (by omega) _ st.faults.length (toldCells st.faults) rfl (hf.alloc _) _ 1 [.int .i64 (a:Int),.int .i64 (f:Int)] rfl rfl (Holds.new w _ _) (by simp[Value.oneCell']) (by omega) (by omega) (by simp;omega) ?_)
 intro v1 w1 ho1 hg1 hn1;have hch1:=Chg.grown hg1;have hp1:=hch1.holds (fun e=>hpf e.symm) (H.out.hp.alloc (.cells #[.int .i64 (a:Int),.int .i64 (f:Int)] 248));have d2:=hp1.cell 2;have d3:=hp1.free 2;obtain⟨A1,c1,rfl,hle⟩:=own_slice2 ho1;have HN:=Lib.hid hn1;have HO:=Lib.hid ho1;clear hn1 ho1;go_wp2
 go_end0
 refine⟨rfl,?_⟩;have hnear:∀b,(Value.slice A1 (st.faults.length+1) c1).ownBlock=some b→fv.ownBlock=some b∨w.heap.size≤b:=fun b hb=>by
  rcases HN.out.old b hb with h|h
  ·exact .inl h
  ·simp at h;exact .inr (by omega)
 have hch:Chg w (w1.setCell ⟨pb,2,none⟩ (.slice A1 (st.faults.length+1) c1)) (fun b=>b=pb∨fv.ownBlock=some b) :=
  Chg.step (((Chg.refl w _).alloc _).trans hch1 (fun k _ h=>Or.inr h.symm)) (fun k _ e=>Or.inl e)
 have hpn:=hp1.set 2 (.slice A1 (st.faults.length+1) c1);have hfn:(w1.setCell ⟨pb,2,none⟩ (.slice A1 (st.faults.length+1) c1)).ownsRow B tT 2 (.slice A1 (st.faults.length+1) c1) (st.faults++[(a,f)]).length (toldCells (st.faults++[(a,f)])):=by
  rw[toldCells_snoc,List.length_append];refine ownsRow_setCell_other HO.out (fun e=>?_) _
  rcases hnear _ e with h|h
  ·exact hpf h
  ·simp only at h;omega
 obtain⟨col',h1,h2⟩:=H.out.faults hch (fun b hb=>hb) hpn hfn hnear;exact⟨col',_,h1,h2⟩
theorem room_any (h:PSx Tryz.prog w B col pb ob cap len s st i fv gb cs gn) (hl:len=st.fs.length) (h1:1≤len) (h2:len≤1000) :
  Calls Tryz.prog 205 #[.pointer (some ⟨pb,0,none⟩)] w fun e w'=>e=.returned (.bool st.room)∧w=w':=by
 have c1:=h.hp.cell 1;have HR:Hid (st.room=decide ((len:Int)-1≤15)):=by
  unfold Hid Pst.room;rw[←hl]
  congr 1
  apply propext
  omega
 clear h hl
 go_enter Tryz.func205,Tryz.ntmps205
 go_wp2
 go_ret
 exact⟨by rw[HR.out];rfl,rfl⟩
theorem frame_cells {f:Fr}{sv tv:Value}{k:Nat} (h:FrAt w B col cs k f sv tv) (ho:Holds w ob tF cs) :
  w.cell? ⟨ob,k*5,none⟩=some sv∧w.cell? ⟨ob,k*5+1,none⟩=some tv∧w.cell? ⟨ob,k*5+2,none⟩=some (.int .u8 (f.kind:Int))∧w.cell? ⟨ob,k*5+3,none⟩=some (strV f.sign)∧w.cell? ⟨ob,k*5+4,none⟩=some (.int .i64 (f.at':Int)) :=
 ⟨(ho.cell _).trans h.c0,(ho.cell _).trans h.c1,(ho.cell _).trans h.c2,(ho.cell _).trans h.c3,(ho.cell _).trans h.c4⟩
theorem last_any (h:PSx Tryz.prog w B col pb ob cap len s st i fv gb cs gn) (hl:len=st.fs.length) (h1:1≤len) (h2:len≤1000) (k:Nat) :
  Calls Tryz.prog 208 #[.pointer (some ⟨pb,0,none⟩),.int .u8 (k:Int)] w fun e w'=>e=.returned (.int .i64 (lastK k st.fs:Nat))∧w=w':=by
 have c1:=h.hp.cell 1;have HK:Hid (∀(j:Nat) f,st.fs.reverse[j]? = some f→w.cell? ⟨ob,j*5+2,none⟩=some (.int .u8 (f.kind:Int))):=fun j f hj=>by
  obtain⟨sv,tv,hf⟩:=h.fr j f hj;exact (frame_cells hf h.ho).2.2.1
 clear h;obtain⟨n,rfl⟩:∃n,len=n+1:=⟨len-1,by omega⟩;have HL:=Lib.hid hl;clear hl;have e2:((n:Int)+1-1)=(n:Int):=by omega
 go_enter Tryz.func208,Tryz.ntmps208
 go_wp2;clear e2
 go_loopg [5] n (fun r i wr=>∃m:Nat,m+r=n∧i=.int .i64 (r:Int)∧Hid (lastK k st.fs=lastK k (st.fs.drop m))∧w=wr)
 case atStart=>exact⟨0,by omega,rfl,rfl,rfl⟩
 case round =>
  obtain⟨m,hm,rfl,HM,rfl⟩:=hrel;have hmlt:m<st.fs.length:=by have:=HL.out;omega
  have hd:=List.drop_eq_getElem_cons hmlt;have hlen:(st.fs.drop (m+1)).length=gk:=by rw[List.length_drop];have:=HL.out;omega
  have hrev:st.fs.reverse[gk]? = some st.fs[m]:=by
   rw[List.getElem?_reverse (by have:=HL.out;omega)];rw[show st.fs.length-1-gk=m by have:=HL.out;omega,List.getElem?_eq_getElem hmlt]
  cases hg:gk with
  | zero =>
   subst hg;have HZ:Hid (lastK k st.fs=0):=by
    unfold Hid;rw[HM.out,hd,List.eq_nil_of_length_eq_zero hlen];rfl
   clear hd hlen hrev;go_wp2
   go_ret
   exact⟨by rw[HZ.out];rfl,rfl⟩
  | succ g =>
   subst hg;have hc:=HK.out _ _ hrev;have hne:st.fs.drop (m+1)≠[]:=fun e=>by rw[e] at hlen;simp at hlen
   by_cases hk:(st.fs[m]).kind=k
   ·have HZ:Hid (lastK k st.fs=g+1):=by
     unfold Hid;rw[HM.out,hd,lastK,if_neg hne,if_pos hk,hlen]
    have hb:(((st.fs[m]).kind:Int)==(k:Int))=true:=by simp;omega
    generalize (st.fs[m]).kind=q at hc hb;clear hd hlen hrev hne hk;go_wp2
    go_ret
    exact⟨by rw[HZ.out];rfl,rfl⟩
   ·have HZ:Hid (lastK k st.fs=lastK k (st.fs.drop (m+1))):=by
     unfold Hid;rw[HM.out,hd,lastK,if_neg hne,if_neg hk]
    have hb:(((st.fs[m]).kind:Int)==(k:Int))=false:=by simp;omega
    generalize (st.fs[m]).kind=q at hc hb;clear hd hlen hrev hne hk;go_wp2
    go_roundg g
    case measure=>omega
    case rel=>exact⟨m+1,by omega,by go_num,HZ,rfl⟩
end
section
variable {w:World} {B:Nat} {col:Nat→Nat} {pb ob cap len:Nat} {s:ByteArray} {st:Pst} {i:Nat} {fv:Value} {gb:Nat} {cs:Array Value} {gn:List Bs}
theorem psRow (h:PSx Tryz.prog w B col pb ob cap len s st i fv gb cs gn):w.ownsRow B tF 5 (.slice (some ⟨ob,0,none⟩) len cap) len (cs.toList.take (len*5)):=by
 refine⟨?_,.inr ⟨ob,cap,cs,rfl,h.hoB,h.ho,h.hcap,h.hmax,h.hcs,rfl⟩⟩;have h1:=h.hcap;have h2:=h.hcs;have:=Nat.mul_le_mul_right 5 h1
 rw[List.length_take,Array.length_toList];omega
theorem psOfRow {P:Program}{v:Value}{n:Nat}{e:TypeId}{xs:List Value} (h:w.ownsRow B e 5 v (n+1) xs):∃ob' cap' cs',v=.slice (some ⟨ob',0,none⟩) (n+1) cap'∧Holds w ob' e cs'∧cs'.size=cap'*5∧n+1≤cap'∧cap'≤maxLen∧cs'.toList.take ((n+1)*5)=xs:=by
 rcases h.2 with ⟨_,h0⟩|⟨g,cap,cur,hv,_,hh,hc,hm,hs,ht⟩
 ·omega
 ·exact⟨g,cap,cur,hv,hh,hs,hc,hm,ht⟩
theorem begin_any (h:PSx Tryz.prog w B col pb ob cap len s st i fv gb cs gn) (hl:len=st.fs.length) (h2:len≤1000) (k a:Nat) (sign:Bs) :
  Calls Tryz.prog 206 #[.pointer (some ⟨pb,0,none⟩),.int .u8 (k:Int),.int .i64 (a:Int),.string ⟨sign.toArray⟩] w fun e w'=>e=.returned (.tuple #[]) ∧
   ∃col' ob' cap' cs',PSx Tryz.prog w' B col' pb ob' cap' (len+1) s (st.begin k a sign) i fv gb cs' gn∧Stay B w w' col col':=by
 have H:=Lib.hid h;have c1:=h.hp.cell 1;have hpw:=h.hp.lt;have how:=h.ho.lt;have hB:=h.hpB;have hr:=psRow h;have hpo:(Value.slice (some ⟨ob,0,none⟩) len cap).ownBlock≠some pb:=fun e=>by
  have h1:=h.co;have h2:=h.cp;simp only[Value.ownBlock,Option.some.injEq] at e;subst e;omega
 have HL:=Lib.hid hl;clear h hl
 go_enter Tryz.func206,Tryz.ntmps206
 go_wp2_with (at_builtin;refine wpList_app_el _ rfl _ _ 234 rfl B 245 (.agg #[.slice none 0 0,.slice none 0 0,.int .u8 0,.string ⟨#[]⟩,.int .i64 0]) 5 80 Tryz.underlying234 frame_info rfl (by omega) _ len (cs.toList.take (len*5)) rfl (hr.alloc _) _ 1 [.slice none 0 0,.slice none 0 0,.int .u8 (k:Int),.string ⟨sign.toArray⟩,.int .i64 (a:Int)] rfl rfl (Holds.new w _ _) (by simp[Value.oneCell']) (by omega) (by omega) (by simp;omega) ?_)
 intro v1 w1 ho1 hg1 hn1;have hch1:=Chg.grown hg1;have hp1:=hch1.holds (fun e=>hpo e.symm) (H.out.hp.alloc (.cells #[.slice none 0 0,.slice none 0 0,.int .u8 (k:Int),.string ⟨sign.toArray⟩,.int .i64 (a:Int)] 245));have d2:=hp1.cell 1;have d3:=hp1.free 1;obtain⟨ob',cap',cs',rfl,hho,hcs',hcap',hmax',htk⟩:=psOfRow (P:=Tryz.prog) ho1;have HN:=Lib.hid hn1;have HT:=Lib.hid htk;clear hn1 ho1 htk;go_wp2
 go_end0
 refine⟨rfl,?_⟩;have hnear:ob'=ob∨w.heap.size≤ob':=by
  rcases HN.out with h|h
  ·exact .inl (by simpa [Value.ownBlock] using h)
  ·simp[Value.ownBlock] at h;exact .inr (by omega)
 have hpb':ob'≠pb:=fun e=>by
  rcases hnear with h|h
  ·exact hpo (by rw[←h,e];rfl)
  ·omega
 have hch:Chg w (w1.setCell ⟨pb,1,none⟩ (.slice (some ⟨ob',0,none⟩) (len+1) cap')) (fun b=>b=pb∨b=ob) :=
  Chg.step (((Chg.refl w _).alloc _).trans hch1 (fun k _ h=>Or.inr (by simpa [Value.ownBlock] using h))) (fun k _ e=>Or.inl e)
 have hpn:=hp1.set 1 (.slice (some ⟨ob',0,none⟩) (len+1) cap');have hon:=hho.far (p:=⟨pb,1,none⟩) hpb' (.slice (some ⟨ob',0,none⟩) (len+1) cap');have hle:=H.out.hcap;have hsz:=H.out.hcs;have hm5:=Nat.mul_le_mul_right 5 hle;have hn5:=Nat.mul_le_mul_right 5 hcap';have hlen5:(cs.toList.take (len*5)).length=len*5:=by rw[List.length_take,Array.length_toList];omega
 have get:∀j,j<(len+1)*5→cs'[j]? = (cs.toList.take (len*5)++[.slice none 0 0,.slice none 0 0,.int .u8 (k:Int),.string ⟨sign.toArray⟩,.int .i64 (a:Int)])[j]?:=fun j hj=>by
  rw[←HT.out,List.getElem?_take,if_pos hj,Array.getElem?_toList]
 obtain⟨col',h1,h2⟩:=H.out.push (f:=⟨Rw.none,k,sign,a⟩) HL.out rfl hch (fun b hb=>hb) hpn hon hnear hcs' hcap' hmax'
  (fun j hj=>by rw[get j (by omega),List.getElem?_append_left (by omega),List.getElem?_take,if_pos hj,Array.getElem?_toList])
  (fun j u hu=>by
    have hj:j<5:=by have:=(List.getElem?_eq_some_iff.1 hu).1;simpa using this
    rw[get _ (by omega),List.getElem?_append_right (by omega),hlen5,Nat.add_sub_cancel_left];exact hu)
 exact⟨col',ob',cap',cs',h1,h2⟩
theorem psRowTo (h:PSx Tryz.prog w B col pb ob cap len s st i fv gb cs gn){f:Fr}{r:List Fr} (hfs:st.fs=f::r){sv tv:Value} (hfr:FrAt w B col cs r.length f sv tv){w':World}{row':Rw}
  (hR:RowTo w B (col ·=4) ob (r.length*5) cs tF sv tv row' w'):∃col' cs',PSx Tryz.prog w' B col' pb ob cap len s { st with fs:={ f with row:=row' } :: r } i fv gb cs' gn∧Stay B w w' col col':=by
 obtain⟨sv',tv',k1,k2,k3,k4,k5,k6⟩:=hR;obtain⟨col',h1,h2⟩:=h.put hfs hfr k4 (fun b hb=>hb) k1 k2 k3 k5 k6;exact⟨col',_,h1,h2⟩
theorem psAway (h:PSx Tryz.prog w B col pb ob cap len s st i fv gb cs gn){f:Fr}{k:Nat}{sv tv:Value} (hfr:FrAt w B col cs k f sv tv):sv.ownBlock≠some ob∧tv.ownBlock≠some ob∧∀b,col b=4→b<w.heap.size∧b≠ob∧sv.ownBlock≠some b∧tv.ownBlock≠some b:=by
 refine⟨fun e=>?_,fun e=>?_,fun b hb=>⟨h.lt4 hb,fun e=>?_,fun e=>?_,fun e=>?_⟩⟩
 ·have:=hfr.csp _ e;have:=h.co;omega
 ·have:=hfr.ctx _ e;have:=h.co;omega
 ·subst e;have:=h.co;omega
 ·have:=hfr.csp _ e;omega
 ·have:=hfr.ctx _ e;omega
theorem psBase (h:PSx Tryz.prog w B col pb ob cap len s st i fv gb cs gn):B≤w.heap.size:=by have:=h.hpB;have:=h.hp.lt;omega
theorem writeTop_any (h:PSx Tryz.prog w B col pb ob cap len s st i fv gb cs gn){f:Fr}{r:List Fr} (hfs:st.fs=f::r) (x:ByteArray) (hx:x.size≤10000000000) (hl:f.row.tx.length≤10000000000) :
  Calls Tryz.prog 200 #[.pointer (some ⟨ob,r.length*5,none⟩),.string x] w fun e w'=>e=.returned (.tuple #[]) ∧
   ∃col' cs',PSx Tryz.prog w' B col' pb ob cap len s (st.write x.data.toList) i fv gb cs' gn∧Stay B w w' col col':=by
 obtain⟨sv,tv,hfr⟩:=h.fr r.length f (by rw[hfs];exact rev_last f r);obtain⟨a1,a2,a3⟩:=psAway h hfr;refine (write_any ob (r.length*5) cs tF tv f.row.tx x w B h.ho hfr.c1 hfr.tx a2 (psBase h) hl hx).mono ?_;rintro e w' ⟨he,tv',k1,k2,k3,k4⟩;refine⟨he,?_⟩;have hR:RowTo w B (col ·=4) ob (r.length*5) cs tF sv tv (f.row.write x.data.toList) w':=by
  refine⟨sv,tv',by rw[set_same hfr.c0];exact k1,?_,k2,k3.mono (fun k _ h=>by rcases h with h|h;exact .inl h;exact .inr (.inr h)),fun k h=>.inl h,fun k hk=>k4.old k hk⟩;refine hfr.sp.chg k3 (fun _ h=>h) (fun b hb h=>by have:=a3 b hb;rcases h with h|h;exact this.2.1 h;exact this.2.2.2 h) (fun b hb h=>?_)
  rcases h with h|h
  ·exact a1 (by rw[hb,h])
  ·have:=hfr.csp b hb;have:=hfr.ctx b h;omega
 obtain⟨col',cs',h1,h2⟩:=psRowTo h hfs hfr hR;refine⟨col',cs',?_,h2⟩;have e:st.write x.data.toList={ st with fs:={ f with row:=f.row.write x.data.toList } :: r }:=by simp[Pst.write,Pst.top,onTop,hfs]
 rw[e];exact h1
theorem addTop_any (h:PSx Tryz.prog w B col pb ob cap len s st i fv gb cs gn){f:Fr}{r:List Fr} (hfs:st.fs=f::r) (x:Sp) (kv:Value) (hx:Forest w (col ·=4) kv x.kids) (hxt:x.kind=0→x.text.length≤1000000000) (hl:f.row.sp.length≤1000000000) (hl2:f.row.tx.length≤1000000000) :
  Calls Tryz.prog 211 #[.pointer (some ⟨ob,r.length*5,none⟩),.agg #[.int .u8 (x.kind:Int),strV x.text,strV x.sub,strV x.see,kv]] w fun e w'=>e=.returned (.tuple #[]) ∧
   ∃col' cs',PSx Tryz.prog w' B col' pb ob cap len s (st.top (·.add x)) i fv gb cs' gn∧Stay B w w' col col':=by
 obtain⟨sv,tv,hfr⟩:=h.fr r.length f (by rw[hfs];exact rev_last f r);obtain⟨a1,a2,a3⟩:=psAway h hfr;refine (add_any ob (r.length*5) cs tF sv tv f.row x kv w B (col ·=4) h.ho hfr.c0 hfr.c1 hfr.sp hfr.tx a1 a2 a3 (psBase h) hl hl2 hx hxt).mono ?_;rintro e w' ⟨he,hR⟩;obtain⟨col',cs',h1,h2⟩:=psRowTo h hfs hfr hR;refine⟨he,col',cs',?_,h2⟩;have e:st.top (·.add x)={ st with fs:={ f with row:=f.row.add x } :: r }:=by simp[Pst.top,onTop,hfs]
 rw[e];exact h1
theorem flushTop_any (h:PSx Tryz.prog w B col pb ob cap len s st i fv gb cs gn){f:Fr}{r:List Fr} (hfs:st.fs=f::r) (hl:f.row.sp.length≤1000000000) (hl2:f.row.tx.length≤1000000000) :
  Calls Tryz.prog 167 #[.pointer (some ⟨ob,r.length*5,none⟩)] w fun e w'=>e=.returned (.tuple #[]) ∧
   ∃col' cs',PSx Tryz.prog w' B col' pb ob cap len s (st.top (·.flush)) i fv gb cs' gn∧Stay B w w' col col':=by
 obtain⟨sv,tv,hfr⟩:=h.fr r.length f (by rw[hfs];exact rev_last f r);obtain⟨a1,a2,a3⟩:=psAway h hfr;refine (flush_any ob (r.length*5) cs tF sv tv f.row w B (col ·=4) h.ho hfr.c0 hfr.c1 hfr.sp hfr.tx a1 a2 a3 (psBase h) (by omega) (by omega)).mono ?_;rintro e w' ⟨he,sv',tv',k1,k2,k3,k4,k5,k6⟩;have hft:f.row.flush.tx=[]:=by unfold Rw.flush;split<;>rfl
 have hR:RowTo w B (col ·=4) ob (r.length*5) cs tF sv tv f.row.flush w':=⟨sv',tv',k1,k2,by rw[hft];exact k3,k4,k5,fun k hk=>.inl (k6 k hk)⟩;obtain⟨col',cs',h1,h2⟩:=psRowTo h hfs hfr hR;refine⟨he,col',cs',?_,h2⟩;have e:st.top (·.flush)={ st with fs:={ f with row:=f.row.flush } :: r }:=by simp[Pst.top,onTop,hfs]
 rw[e];exact h1
end
end Go.Proofs.YtkkebmciiiajeaaGreatDoor
namespace Go.Bd
open Go.RowKit
theorem dropN_next:∀(m:Nat) (st:Pst),st.dropN (m+1)=(st.dropN m).drop1
 | 0,_=>rfl
 | m+1,st=>by rw[Pst.dropN,dropN_next m st.drop1];rfl
theorem wp_scope_label {P:Program}{a:Act}{w:World}{Q:Exit→Act→World→Prop}{rest:Code} (l:Nat) (J:Act→World→Prop) (μ:Act→World→Nat) (h0:J a w)
  (pass:∀a w,J a w→rest.wp P (Exit.jump l (fun a' w'=>J a' w'∧μ a' w'<μ a w) Q) a w):(Code.scope ((Code.label l).seq rest)).wp P Q a w:=by
 refine wp_scope_jumps (rest:=Code.seq .skip rest) l J μ (by simp[findLabel]) ?_ (fun a w hJ=>wp_seq (wp_skip (pass a w hJ)));refine wp_seq (wp_label ?_);refine Code.wp_mono (fun e a w h=>?_) (pass a w h0);cases e<;>first|exact h|exact⟨h.1,h.2.1⟩
theorem Stay.undrew {w w':World}{B k:Nat}{col col':Nat→Nat} (h:Stay B (w.drewN k) w' col col'):Stay B w w' col col' :=
 ⟨(Go.below_drewN (Below.refl B w) k).trans h.below,h.tree⟩
def addsTo (g:Fr) (sign:Bs) (l:List Sp) (j:Nat):Rw:=(l.take j).foldl Rw.add (g.row.write sign)
theorem addsTo_next {g:Fr}{sign:Bs}{l:List Sp}{j:Nat}{x:Sp} (h:l[j]? = some x):addsTo g sign l (j+1)=(addsTo g sign l j).add x:=by
 unfold addsTo;rw[List.take_add_one,h,List.foldl_append];rfl
theorem addsTo_bound {g:Fr}{sign:Bs}{l:List Sp}{N:Nat} (h:wtL l+sign.length+(wtL g.row.sp+g.row.tx.length)≤N) (j:Nat):(addsTo g sign l j).sp.length≤N∧(addsTo g sign l j).tx.length≤N:=by
 have h1:=wtR_adds (l.take j) (g.row.write sign);have h2:wtL (l.take j)≤wtL l:=by
  have:=wtL_app (l.take j) (l.drop j)
  rw[List.take_append_drop] at this;omega
 rw[wtR_write] at h1;have h3:=wtL_len (addsTo g sign l j).sp;have h4:wtR (addsTo g sign l j)=wtL (addsTo g sign l j).sp+(addsTo g sign l j).tx.length:=rfl;have h5:wtR g.row=wtL g.row.sp+g.row.tx.length:=rfl
 change wtR (addsTo g sign l j)≤_ at h1
 omega
theorem kind0_bound {l:List Sp}{N:Nat} (h:wtL l≤N){j:Nat}{x:Sp} (hx:l[j]? = some x) (hk:x.kind=0):x.text.length≤N:=by
 have h1:=wtL_app (l.take j) (l.drop j);rw[List.take_append_drop] at h1;obtain⟨hj,e⟩:=List.getElem?_eq_some_iff.1 hx;rw[List.drop_eq_getElem_cons hj,e] at h1;have h2:wtL (x::l.drop (j+1))=wtS x+wtL (l.drop (j+1)):=by simp[wtL]
 have h3:wtS x=max 1 x.text.length:=by unfold wtS;rw[if_pos hk]
 omega
theorem own_app_bytes {P:Program} (w:World) (B B':Nat) (t ty e:TypeId) (ht:P.underlying t=some (.slice e)) (hi:(P.info? e).map (fun i=>(i.zero,i.size,i.bytes))=some (some (.int .u8 0),1,1))
  (v u:Value) (n m:Nat) (xs ys:List Value) (hown:w.ownsRow B e 1 v n xs) (hsrc:w.ownsRow B' e 1 u m ys) (h1:∀x∈ys,x.oneCell'=true) (hb:n+m≤140737488355328) (hbase:B≤w.heap.size) :
  ∃v' w',(Builtin.append_ #[t,t] ty #[v,u]).run P w=.ok v' w'∧w'.ownsRow B e 1 v' (n+m) (xs++ys)∧w.grownBy w' v.ownBlock∧Near w v v':=by
 obtain⟨i,hi,h2,h3,h4⟩:=info_parts hi
 rcases hsrc.2 with ⟨rfl,rfl⟩|⟨g,cap,cur,rfl,hg,hh,hc,hm,hs,htk⟩
 ·have hy:ys=[]:=List.eq_nil_of_length_eq_zero (by have:=hsrc.1;simpa using this);subst hy;refine⟨v,w,run_append_owned_none (P:=P) (w:=w) B t ty e i 1 ht hi v n xs hown,by simpa using hown,⟨rfl,rfl,rfl,Nat.le_refl _,fun _ _ _=>rfl⟩,.inl rfl⟩
 ·obtain⟨v',w',k1,k2,k3,_,k5⟩:=run_append_own_at (P:=P) w B t ty e i (.int .u8 0) 1 1 ht hi h2 h3 h4 rfl (by decide) v n xs hown ⟨g,0,none⟩ m cap ys (by have:=hsrc.1;omega) (fun j u hj=>hsrc.cells (g:=g) rfl j u hj) h1 (by unfold maxLen;omega) (by omega) hbase;exact⟨v',w',k1,k2,k3,k5⟩
theorem step_app_bytes {P:Program}{ops:Array Oper}{o:Oper}{a:Act}{w:World}{K:Act→World→Prop}{Q:Exit→Act→World→Prop}{E:Prop} (hgd:o.guard=none) (s x:Operand) (t:TypeId)
  (ho:o.op=.call { callee:=.builtin .append,args:=#[s,x],argTypes:=#[t,t] }) (B B':Nat) (e:TypeId) (ht:P.underlying t=some (.slice e)) (hi:(P.info? e).map (fun i=>(i.zero,i.size,i.bytes))=some (some (.int .u8 0),1,1))
  (v u:Value) (n m:Nat) (xs ys:List Value) (hs:a.eval s=v) (hx:a.eval x=u) (hown:w.ownsRow B e 1 v n xs) (hsrc:w.ownsRow B' e 1 u m ys) (h1:∀x∈ys,x.oneCell'=true) (hb:n+m≤140737488355328) (hbase:B≤w.heap.size)
  (h:∀v' w',w'.ownsRow B e 1 v' (n+m) (xs++ys)→w.grownBy w' v.ownBlock→Near w v v'→K (a.put o.dst v') w') :
  if Region.wanted o (yielded ops a.tmps)=true then Oper.wp P o a w K Q else E:=by
 have hw:Region.wanted o (yielded ops a.tmps)=true:=by simp[Region.wanted,hgd]
 rw[if_pos hw];obtain⟨v',w',hr,k2,k3,k4⟩:=own_app_bytes (P:=P) w B B' t o.type e ht hi v u n m xs ys hown hsrc h1 hb hbase;unfold Oper.wp execOp;simp only[ho,resolve,invoke,builtin,Sem.run_bind,Sem.run_pure,Result.andThen_ok,List.map_toArray,List.map_cons,List.map_nil,hs,hx,hr];exact h v' w' k2 k3 k4
end Go.Bd
namespace Go.Proofs.YtkkebmciiiajeaaGreatDoor
open Go.RowKit Go.Bd
def DropJ (w0:World) (B:Nat) (col0:Nat→Nat) (pb ob cap len:Nat) (s:ByteArray) (st:Pst) (i gb:Nat) (gn:List Bs) (n:Nat) (a':Act) (w':World):Prop :=
 ∃(m:Nat) (col':Nat→Nat) (fv':Value) (cs':Array Value) (u2 u3 u4 u5 u6 u7 u8 u9 u10 u11 u12 u13 u14 u15 u16 u17 u18 u19 u20 u21 u22 u23 u24 u25 u26 u27 u28 u29 u30 u31 u32 u33 u34 u35 u36 u37 u38 u39 u40 u41 u42 u43 u44 u45 u46 u47 u48 u49 u50 u51 u52 u53 u54 u55 u56 u57 u58 u59 u60 u61 u62 u63 u64 u65 u66 u67 u68 u69 u70 u71 u72:Value),n+1+m≤len∧a'={ tmps:=#[.pointer (some ⟨pb,0,none⟩),.int .i64 (n:Int),u2,u3,u4,u5,u6,u7,u8,u9,u10,u11,u12,u13,u14,u15,u16,u17,u18,u19,u20,u21,u22,u23,u24,u25,u26,u27,u28,u29,u30,u31,u32,u33,u34,u35,u36,u37,u38,u39,u40,u41,u42,u43,u44,u45,u46,u47,u48,u49,u50,u51,u52,u53,u54,u55,u56,u57,u58,u59,u60,u61,u62,u63,u64,u65,u66,u67,u68,u69,u70,u71,u72],defers:=[] } ∧
  PSx Tryz.prog w' B col' pb ob cap (len-m) s (st.dropN m) i fv' gb cs' gn∧Stay B w0 w' col0 col'
def openLen (pb:Nat) (_:Act) (w:World):Nat:=match w.cell? ⟨pb,1,none⟩ with|some (.slice _ l _)=>l|_=>0
section
variable {w:World} {B:Nat} {col:Nat→Nat} {pb ob cap len:Nat} {s:ByteArray} {st:Pst} {i:Nat} {fv:Value} {gb:Nat} {cs:Array Value} {gn:List Bs}
theorem drop_any (h:PSx Tryz.prog w B col pb ob cap len s st i fv gb cs gn) (hl:len=st.fs.length) (n:Nat) (hn:n<len) (i0:Nat) (hI:Inv st i0) (hi0:i0≤100000000) :
  Calls Tryz.prog 165 #[.pointer (some ⟨pb,0,none⟩),.int .i64 (n:Int)] w fun e w'=>e=.returned (.tuple #[]) ∧
   ∃col' fv' cs',PSx Tryz.prog w' B col' pb ob cap (n+1) s (st.drop n) i fv' gb cs' gn∧Stay B w w' col col':=by
 have HL:=Lib.hid hl;have HI:=Lib.hid hI;clear hl hI
 go_enter Tryz.func165,Tryz.ntmps165
 go_wp2;refine wp_scope_label 0 (DropJ w B col pb ob cap len s st i gb gn n) (openLen pb) ⟨0,col,fv,cs,_,_,_,_,_,_,_,_,_,_,_,_,_,_,_,_,_,_,_,_,_,_,_,_,_,_,_,_,_,_,_,_,_,_,_,_,_,_,_,_,_,_,_,_,_,_,_,_,_,_,_,_,_,_,_,_,_,_,_,_,_,_,_,_,_,_,_,_,_,_,_,by omega,rfl,h,Stay.refl _ _ _⟩ ?_;clear h;rintro a' wz ⟨m,col1,fv1,cs1,u2,u3,u4,u5,u6,u7,u8,u9,u10,u11,u12,u13,u14,u15,u16,u17,u18,u19,u20,u21,u22,u23,u24,u25,u26,u27,u28,u29,u30,u31,u32,u33,u34,u35,u36,u37,u38,u39,u40,u41,u42,u43,u44,u45,u46,u47,u48,u49,u50,u51,u52,u53,u54,u55,u56,u57,u58,u59,u60,u61,u62,u63,u64,u65,u66,u67,u68,u69,u70,u71,u72,hm,rfl,h,hst⟩;obtain⟨L,hL⟩:∃L,len-m=L+1:=⟨len-m-1,by omega⟩;rw[hL] at h;have H:=Lib.hid h;have HS:=Lib.hid hst;have hmd:=(HI.out.dropN m (by have:=HL.out;omega));obtain⟨hI1,hlen1⟩:=hmd;have hlen2:(st.dropN m).fs.length=L+1:=by have:=HL.out;omega
 have HLL:=Lib.hid hL;clear hL hst;have c1:=h.hp.cell 1;have c2:=h.hp.free 1;have hpw:=h.hp.lt;have hcapL:=h.hcap;have hcapL2:L≤cap:=by omega
 have hLb:L≤16:=by have:=hI1.2.2.2;omega
 have hnL1:n≤L:=by have:=HLL.out;omega
 by_cases hnL:n=L
 ·have hnL2:(L:Int)≤(n:Int):=by omega
  clear h;go_wp2;simp only[Exit.jump];refine bodyPost_ret (results_none rfl _ _ _) rfl ?_;have hm2:len-1-n=m:=by have:=HLL.out;omega
  refine⟨rfl,col1,fv1,cs1,?_,HS.out⟩;have e:st.drop n=st.dropN m:=by unfold Pst.drop;rw[←HL.out,hm2]
  rw[e,hnL];exact H.out
 ·have hlt:¬((L:Int)≤(n:Int)):=by omega
  obtain⟨f,g,r,hfs⟩:∃f g r,(st.dropN m).fs=f::g::r:=by
   match hq:(st.dropN m).fs,hlen2 with
   | f::g::r,_=>exact⟨f,g,r,rfl⟩
   | [f],hq2=>simp at hq2;omega
   | [],hq2=>simp at hq2
  have hLr:L=r.length+1:=by rw[hfs] at hlen2;simpa using hlen2.symm
  obtain⟨sv,tv,hfr⟩:=h.fr (g::r).length f (by rw[hfs];exact rev_last f (g::r));obtain⟨q0,q1,q2,q3,q4⟩:=frame_cells hfr h.ho;rw[List.length_cons,←hLr] at q0 q1 q2 q3 q4;obtain⟨colB,sv',tv',e0,e1,_,_,_,hB,stB,hspB,htxB,hcs,hct⟩:=h.pop hfs 4;rw[hfr.c0] at e0;cases e0
  rw[hfr.c1] at e1;cases e1
  obtain⟨hC,stC⟩:=hB.cut (n:=L) (by simp only[List.length_cons];omega) (by omega);obtain⟨colD,hD,stD,h8,_⟩:=hC.local (.cells #[sv,tv,.int .u8 (f.kind:Int),strV f.sign,.int .i64 (f.at':Int)] 245);have hsz:(wz.setCell ⟨pb,1,none⟩ (.slice (some ⟨ob,0,none⟩) L cap)).heap.size=wz.heap.size:=by simp
  have hFB:=Holds.new (wz.setCell ⟨pb,1,none⟩ (.slice (some ⟨ob,0,none⟩) L cap)) 245 #[sv,tv,.int .u8 (f.kind:Int),strV f.sign,.int .i64 (f.at':Int)];rw[hsz] at hFB h8;have hSP:=hspB.forest (G:=(colB ·=4)) (fun _ h=>h) (fun b hb=>hcs b hb)
  replace hSP:=stD.forest (stC.forest hSP)
  obtain⟨htxC,hctC⟩:=stC.text htxB hct;obtain⟨htxD,hctD⟩:=stD.text htxC hctC;have HST:=Lib.hid (((HS.out.trans stB).trans stC).trans stD);obtain⟨An,cn,rfl,hcn⟩:=hspB.form;obtain⟨At,ct,rfl,hct2⟩:=own_slice htxB;have ctl:=tell_any hD f.at' 7 (by have:=hI1.2.1;simp only;omega);have HA8:=Lib.hid h8;have HHF:=Lib.hid hFB;have HSP:=Lib.hid hSP;have HTX:=Lib.hid htxD;have HCT:=Lib.hid hctD;have HFS:=Lib.hid hfs;have HLR:=Lib.hid hLr;clear h hB hC hD hFB stB stC stD h8 hSP htxC hctC htxD hctD hspB htxB hfs hLr hcs hct hfr hsz;unfold strV at q3 ctl
  go_wp2_with fail
  refine ctl.mono ?_;clear ctl;rintro e w2 ⟨rfl,colE,fvE,hE,stE⟩;obtain⟨h8E,hFE⟩:=stE.holds HA8.out HHF.out;have hSE:=stE.forest HSP.out;obtain⟨htE,hcE⟩:=stE.text HTX.out HCT.out;have HST2:=Lib.hid (HST.out.trans stE);have HS8:=Lib.hid h8E;have HSF:=Lib.hid hFE;have HSS:=Lib.hid hSE;have HST3:=Lib.hid htE;have HSC:=Lib.hid hcE;have q33:=hFE.cell 3;have hEL:PSx Tryz.prog w2 B colE pb ob cap (r.length+1) s (({ st.dropN m with fs:=g::r }:Pst).tell f.at' 7) i fvE gb cs1 gn:=by
   rw[←HLR.out];exact hE
  have HE:=Lib.hid hEL;clear hE stE h8E hFE hSE htE hcE hEL HA8 HHF HSP HTX HCT HST HS q0 q1 q2 q3 q4
  go_wp2_with fail
  refine (top_any HE.out (by have:=HLR.out;omega)).mono ?_;rintro e w3 ⟨rfl,kk,rfl⟩;have HED:Hid (∀k,PSx Tryz.prog (w2.drewN k) B colE pb ob cap (r.length+1) s (({ st.dropN m with fs:=g::r }:Pst).tell f.at' 7) i fvE gb cs1 gn):=fun k=>PSx.drewN HE.out k
  have hwt:wtF f+(wtF g+wtFs r)≤i0:=by
   have:=hI1.1
   rw[HFS.out,wtFs_cons,wtFs_cons] at this;exact this
  have hwf:wtL f.row.sp+f.row.tx.length+f.sign.length+(wtL g.row.sp+g.row.tx.length)≤100000000:=by
   unfold wtF wtR at hwt;omega
  have hwl:=wtL_len f.row.sp
  go_wp2_with fail
  refine wp_region_held_drew (S:=(fun w'=>w'.cell? ⟨wz.heap.size,3,none⟩=some (.string ⟨f.sign.toArray⟩))) (by kernel_rfl) ?_ (fun hHeld0=>?_)
  ·(try dsimp only)
   first|exact q33|exact q43
  refine tkHo 0 ?_;refine tkHo 1 ?_;refine tkHo 2 ?_;refine tkHo 3 ?_;refine tkHo 4 ?_;refine rdyH [5] ?_;refine AllReadyH.cons rfl (fun K hK=>?_) AllReadyH.nil;go_simp;refine (writeTop_any (HED.out _) (f:=g) (r:=r) rfl ⟨f.sign.toArray⟩ (by rw[size_mk];omega) (by omega)).mono ?_;rintro e w4 ⟨rfl,colF,csF,hF,stF⟩;have stF2:Stay B w2 w4 colE colF:=stF.undrew;obtain⟨h8F,hFF⟩:=stF2.holds HS8.out HSF.out;have hSS:=stF2.forest HSS.out;obtain⟨htF,hcF⟩:=stF2.text HST3.out HSC.out;have HST4:=Lib.hid (HST2.out.trans stF2);have q43:=hFF.cell 3;have q40:=hFF.cell 0;have q41:=hFF.cell 1;have H48:=Lib.hid h8F;have H4F:=Lib.hid hFF;have H4S:=Lib.hid hSS;have H4T:=Lib.hid htF;have H4C:=Lib.hid hcF;have H4P:=Lib.hid hF;clear hF stF stF2 h8F hFF hSS htF hcF
  go_wp2_with fail
  refine hK.out _ _ ?_ (fun hHeld1=>?_)
  ·(try dsimp only)
   first|exact q33|exact q43
  clear hK K hHeld0
  (try go_frame)
  refine wpAnyH_done (by kernel_rfl) ?_ _;clear hHeld1 q33 q43;go_wp2;have hab:=fun j=>addsTo_bound (g:=g) (sign:=f.sign) (l:=f.row.sp) (N:=100000000) (by omega) j
  have HAB:=Lib.hid hab;have HKB:=Lib.hid (fun (j:Nat) x (hx:f.row.sp[j]? = some x) (hk:x.kind=0)=>kind0_bound (N:=100000000) (by omega) hx hk);clear hab;have hfl:f.row.sp.length≤100000000:=by omega
  have HFA:Hid ((({ st.dropN m with fs:=g::r }:Pst).tell f.at' 7).faults=(st.dropN m).faults++[(f.at',7)]):=rfl;have HP0:Hid (PSx Tryz.prog w4 B colF pb ob cap (r.length+1) s ⟨{ g with row:=addsTo g f.sign f.row.sp 0 } :: r,(st.dropN m).faults++[(f.at',7)]⟩ i fvE gb csF gn):=H4P.out;clear H4P
  go_loopg [50] f.row.sp.length (fun q idx wz=>∃(j:Nat) (colG:Nat→Nat) (csG:Array Value),j+q=f.row.sp.length∧idx=.int .i64 j∧Hid (PSx Tryz.prog wz B colG pb ob cap (r.length+1) s ⟨{ g with row:=addsTo g f.sign f.row.sp j } :: r,(st.dropN m).faults++[(f.at',7)]⟩ i fvE gb csG gn)∧Hid (Stay B w4 wz colF colG))
  case atStart=>exact⟨0,colF,csF,by omega,rfl,HP0,Stay.refl _ _ _⟩
  case round =>
   obtain⟨j,colG,csG,hj,rfl,HG,HGS⟩:=hrel
   by_cases hjl:j<f.row.sp.length
   ·obtain⟨x,hx⟩:∃x,f.row.sp[j]? = some x:=⟨_,List.getElem?_eq_getElem hjl⟩;have hfo:=HGS.out.forest H4S.out;obtain⟨A',c',ev,_,hform⟩:=hfo.form;obtain⟨bb,off,kv,rfl,hbb,hkv,x0,x1,x2,x3,x4⟩:=hform j x hx;cases ev
    have HXN:=Lib.hid (addsTo_next (g:=g) (sign:=f.sign) hx);have HXB:=Lib.hid (HKB.out j x hx);obtain⟨Ak,ck,rfl,hck,_⟩:=hkv.form;unfold strV at x1 x2 x3;have hbw:=World.block_lt_of_cell? _ _ x0;obtain⟨colH,hH,stH,h8H,_⟩:=HG.out.local (.cells #[.int .u8 (x.kind:Int),.string ⟨x.text.toArray⟩,.string ⟨x.sub.toArray⟩,.string ⟨x.see.toArray⟩,.slice Ak x.kids.length ck] 138);have hX:=Holds.new wr 138 #[.int .u8 (x.kind:Int),.string ⟨x.text.toArray⟩,.string ⟨x.sub.toArray⟩,.string ⟨x.see.toArray⟩,.slice Ak x.kids.length ck];have hkH:=stH.forest hkv;have HHD:=Lib.hid (fun k=>PSx.drewN hH k);have HKD:Hid (∀k,Forest ((wr.alloc (.cells #[.int .u8 (x.kind:Int),.string ⟨x.text.toArray⟩,.string ⟨x.sub.toArray⟩,.string ⟨x.see.toArray⟩,.slice Ak x.kids.length ck] 138)).drewN k) (colH ·=4) (.slice Ak x.kids.length ck) x.kids):=fun k=>hkH.keep (fun _ h=>h) (fun _ _ _ h=>h)
    have HSH:=Lib.hid (HGS.out.trans stH);have H8H:=Lib.hid h8H;have HAJ:=Lib.hid (HAB.out j);generalize hkn:x.kids.length=kn at x4 hck hX HHD HKD HSH;have HKN:=Lib.hid hkn;clear hkn hH stH hkH h8H hkv hfo hform hx HG;go_wp2;refine wp_region_held_drew (S:=(fun w'=>w'.cell? ⟨wr.heap.size,0,none⟩=some (.int .u8 (x.kind:Int))∧w'.cell? ⟨wr.heap.size,1,none⟩=some (.string ⟨x.text.toArray⟩)∧w'.cell? ⟨wr.heap.size,2,none⟩=some (.string ⟨x.sub.toArray⟩)∧w'.cell? ⟨wr.heap.size,3,none⟩=some (.string ⟨x.see.toArray⟩)∧w'.cell? ⟨wr.heap.size,4,none⟩=some (.slice Ak kn ck))) (by kernel_rfl) ?_ (fun hHeld0=>?_)
    ·(try dsimp only)
     first|exact cells5 hX2|exact cells5 hX.drew
    refine tkHo 0 ?_;refine tkHo 1 ?_;refine tkHo 2 ?_;refine tkHo 3 ?_;refine rdyH [4] ?_;refine AllReadyH.cons rfl (fun K hK=>?_) AllReadyH.nil;go_simp;refine (addTop_any (HHD.out _) (f:={ g with row:=addsTo g f.sign f.row.sp j }) (r:=r) rfl x (.slice Ak kn ck) (HKD.out _) (fun h=>by have:=HXB.out h;omega) (by have:=HAJ.out.1;simp only;omega) (by have:=HAJ.out.2;simp only;omega)).mono ?_;rintro e w6 ⟨rfl,colI,csI,hI6,stI⟩;have stI2:=stI.undrew;obtain⟨_,hX2⟩:=stI2.holds H8H.out hX;have HSI:=Lib.hid (HSH.out.trans stI2);have HI6:=Lib.hid hI6;clear stI stI2 hI6
    go_wp2_with fail
    refine hK.out _ _ ?_ (fun hHeld1=>?_)
    ·(try dsimp only)
     first|exact cells5 hX2|exact cells5 hX.drew
    clear hK K hHeld0
    (try go_frame)
    refine wpAnyH_done (by kernel_rfl) ?_ _;clear hHeld1 hX hX2;go_wp2
    go_roundg (gk-1)
    case measure=>omega
    case rel=>exact⟨j+1,colI,csI,by omega,by go_num,by unfold Hid;rw[HXN.out];exact HI6.out,HSI.out⟩
   ·obtain rfl:j=f.row.sp.length:=by omega
    obtain⟨sv2,tv2,hfr2⟩:=HG.out.fr r.length { g with row:=addsTo g f.sign f.row.sp f.row.sp.length } (rev_last _ r);obtain⟨p0,p1,p2,p3,p4⟩:=frame_cells hfr2 HG.out.ho;obtain⟨a1,a2,a3⟩:=psAway HG.out hfr2;obtain⟨_,hFZ⟩:=HGS.out.holds H48.out H4F.out;obtain⟨htZ,hcZ⟩:=HGS.out.text H4T.out H4C.out;have hB:=psBase HG.out;have how:=HG.out.ho.lt;have hobfb:wz.heap.size≠ob:=fun e=>by have h1:=HG.out.co;have h2:=(HGS.out.tree 8 _ (.inr rfl) H48.out H4F.out.lt).1;rw[e] at h2;omega
    have htv8:tv2.ownBlock≠some wz.heap.size:=fun e=>by have h1:=hfr2.ctx _ e;have h2:=(HGS.out.tree 8 _ (.inr rfl) H48.out H4F.out.lt).1;omega
    have z1:=hFZ.cell 1;have htx2:wr.ownsRow B tB 1 tv2 (addsTo g f.sign f.row.sp f.row.sp.length).tx.length ((addsTo g f.sign f.row.sp f.row.sp.length).tx.map byteV):=hfr2.tx;have hA2:=(HAB.out f.row.sp.length).2;obtain⟨A2,c2',rfl,hle2⟩:=own_slice htx2;have HFR2:=Lib.hid hfr2;have HA3:=Lib.hid a3;generalize hn2:(addsTo g f.sign f.row.sp f.row.sp.length).tx.length=n2 at *;have HN2:=Lib.hid hn2;clear hn2 hfr2 a3 hcZ;go_wp2;refine wp_region_held_drew (S:=(fun w'=>w'.cell? ⟨wz.heap.size,1,none⟩=some (.slice At f.row.tx.length ct))) (by kernel_rfl) ?_ (fun hHeld0=>?_)
    ·(try dsimp only)
     first|exact z1|exact zz1|exact cell_far hobfb.symm _ zz1
    refine tkHo 0 ?_;refine tkHo 1 ?_;refine tkHo 2 ?_;refine tkHo 3 ?_;refine tkHo 4 ?_;refine tkHo 6 ?_;refine tkHo 7 ?_;refine tkHo 8 ?_;refine rdyH [5] ?_;refine AllReadyH.cons rfl (fun K hK=>?_) AllReadyH.nil;go_simp;refine hK.out _ _ ?_ (fun hHeld1=>?_)
    ·(try dsimp only)
     first|exact z1|exact zz1|exact cell_far hobfb.symm _ zz1
    clear hK K hHeld0
    (try go_frame)
    refine rdyH [9] ?_;refine AllReadyH.cons rfl (fun K hK=>?_) AllReadyH.nil;refine step_app_bytes (by rfl) _ _ _ (by rfl) B B 5 Tryz.underlying107 u8_info (.slice A2 n2 c2') (.slice At f.row.tx.length ct) n2 f.row.tx.length _ (f.row.tx.map byteV) (by rfl) (by rfl) htx2.drew htZ.drew (by simp[byteV,Value.oneCell']) (by omega) (by simp;omega) ?_;intro v9 w9 ho9 hg9 hn9;have hch9:=Chg.grown hg9;have hh9:=hch9.holds (fun e=>a2 e.symm) HG.out.ho.drew;have hF9:=hch9.holds (fun e=>htv8 e.symm) hFZ.drew;have zz1:=hF9.cell 1;have pp1:=(hh9.cell (r.length*5+1)).trans HFR2.out.c1;have pp2:=hh9.free (r.length*5+1);obtain⟨A9,c9,rfl,hle9⟩:=own_slice ho9;have HN9:=Lib.hid hn9;have HO9:=Lib.hid ho9;clear hn9 ho9 hg9;refine hK.out _ _ ?_ (fun hHeld2=>?_)
    ·(try dsimp only)
     first|exact z1|exact zz1|exact cell_far hobfb.symm _ zz1
    clear hK K hHeld1
    (try go_frame)
    refine tkHo 10 ?_;refine tkHo 11 ?_;refine tkHo 12 ?_;refine rdyH [13] ?_;refine AllReadyH.cons rfl (fun K hK=>?_) AllReadyH.nil;go_simp;refine hK.out _ _ ?_ (fun hHeld3=>?_)
    ·(try dsimp only)
     first|exact z1|exact zz1|exact cell_far hobfb.symm _ zz1
    clear hK K hHeld2
    (try go_frame)
    refine wpAnyH_done (by kernel_rfl) ?_ _;clear hHeld3;go_wp2
    go_step3
    have hnr:∀k,(Value.slice A9 (n2+f.row.tx.length) c9).ownBlock=some k→(Value.slice A2 n2 c2').ownBlock=some k∨wr.heap.size≤k:=fun k hk=>HN9.out.old k hk
    have hobn:(Value.slice A9 (n2+f.row.tx.length) c9).ownBlock≠some ob:=fun e=>by
     rcases hnr _ e with h|h
     ·exact a2 h
     ·omega
    have hcz:Chg wr (w9.setCell ⟨ob,r.length*5+1,none⟩ (.slice A9 (n2+f.row.tx.length) c9)) (fun k=>k=ob∨(Value.slice A2 n2 c2').ownBlock=some k) :=
     Chg.step (((Chg.refl wr _).drew).trans hch9 (fun k _ h=>Or.inr h.symm)) (fun k _ e=>Or.inl e)
    have hbyt:RowTo wr B (colG ·=4) ob (r.length*5) csG tF sv2 (.slice A2 n2 c2') ((addsTo g f.sign f.row.sp f.row.sp.length).write f.row.tx) (w9.setCell ⟨ob,r.length*5+1,none⟩ (.slice A9 (n2+f.row.tx.length) c9)):=by
     refine⟨sv2,.slice A9 (n2+f.row.tx.length) c9,?_,?_,?_,hcz.mono (fun k _ h=>by rcases h with h|h;exact .inl h;exact .inr (.inr h)),fun k h=>.inl h,hnr⟩
     ·rw[set_same HFR2.out.c0];exact hh9.set _ _
     ·refine HFR2.out.sp.chg hcz (fun _ h=>h) (fun b hb h=>by have:=HA3.out b hb;rcases h with h|h;exact this.2.1 h;exact this.2.2.2 h) (fun b hb h=>?_)
      rcases h with h|h
      ·exact a1 (by rw[hb,h])
      ·have:=HFR2.out.csp b hb;have:=HFR2.out.ctx b h;omega
     ·have ho:=ownsRow_setCell_other HO9.out (a:=⟨ob,r.length*5+1,none⟩) hobn (.slice A9 (n2+f.row.tx.length) c9);unfold TextRow;have e:((addsTo g f.sign f.row.sp f.row.sp.length).write f.row.tx).tx=(addsTo g f.sign f.row.sp f.row.sp.length).tx++f.row.tx:=rfl;rw[e,List.length_append,HN2.out,List.map_append];exact ho
    obtain⟨colK,csK,hK,stK⟩:=psRowTo HG.out (f:={ g with row:=addsTo g f.sign f.row.sp f.row.sp.length }) (r:=r) rfl HFR2.out hbyt;refine⟨rfl,⟨m+1,colK,fvE,csK,_,_,_,_,_,_,_,_,_,_,_,_,_,_,_,_,_,_,_,_,_,_,_,_,_,_,_,_,_,_,_,_,_,_,_,_,_,_,_,_,_,_,_,_,_,_,_,_,_,_,_,_,_,_,_,_,_,_,_,_,_,_,_,_,_,_,_,_,_,_,_,by have:=HLL.out;omega,rfl,?_,(HST4.out.trans HGS.out).trans stK⟩,?_⟩
    ·have e1:len-(m+1)=r.length+1:=by have:=HLL.out;have:=HLR.out;omega
     have e2:st.dropN (m+1)=⟨{ g with row:=(addsTo g f.sign f.row.sp f.row.sp.length).write f.row.tx } :: r,(st.dropN m).faults++[(f.at',7)]⟩:=by
      rw[dropN_next];unfold Pst.drop1;rw[HFS.out];simp only[onTop,spill,addsTo,List.take_length]
     rw[e1,e2];exact hK
    ·have d1:=hK.hp.cell 1;have d1':(w9.setCell ⟨ob,r.length*5+1,none⟩ (.slice A9 (n2+f.row.tx.length) c9)).cell? ⟨pb,1,none⟩=some (.slice (some ⟨ob,0,none⟩) (r.length+1) cap):=d1;have d2:wz.cell? ⟨pb,1,none⟩=some (.slice (some ⟨ob,0,none⟩) (L+1) cap):=c1;unfold openLen;rw[d1',d2];have:=HLR.out
     simp only;omega
end
section
variable {w:World} {B:Nat} {col:Nat→Nat} {pb ob cap len:Nat} {s:ByteArray} {st:Pst} {i:Nat} {fv:Value} {gb:Nat} {cs:Array Value} {gn:List Bs}
theorem psAdopt (h:PSx Tryz.prog w B col pb ob cap len s st i fv gb cs gn) (d:Nat) (hd:d=4∨d=8) (g:Option Nat) (hg:∀b,g=some b→(col b=7∨col b=9)∧b<w.heap.size) :
  ∃col':Nat→Nat,PSx Tryz.prog w B col' pb ob cap len s st i fv gb cs gn∧Stay B w w col col'∧(∀b,col b=4→col' b=4)∧(∀b,g=some b→col' b=d)∧∀b,g≠some b→col' b=col b:=by
 obtain⟨col',hc'⟩:∃col':Nat→Nat,col'=fun b=>if g=some b then d else col b:=⟨_,rfl⟩
 have hold:∀{b d:Nat},col b=d→d≠7→d≠9→col' b=d:=fun {b d} h1 h2 h3=>by
  rw[hc'];simp only;rw[if_neg (fun e=>by have:=(hg b e).1;omega)];exact h1
 have h4:∀b,col b=4→col' b=4:=fun b hb=>hold hb (by omega) (by omega)
 refine⟨col',⟨h.hpB,h.hp,hold h.cp (by omega) (by omega),h.hoB,h.ho,hold h.co (by omega) (by omega),h.hcs,h.hcap,h.hlen,h.hmax,?_,h.hf,?_,h.hgB,h.hg,hold h.cg (by omega) (by omega),h.gone,h.gnl,?_,fun b hb=>hold (h.old b hb) (by omega) (by omega)⟩,⟨Below.refl _ _,fun c b hc hb _=>⟨hold hb (by omega) (by omega),rfl⟩⟩,h4,?_,?_⟩
 ·intro k q hq;obtain⟨sw,tw,hq'⟩:=h.fr k q hq;exact⟨sw,tw,⟨hq'.c0,hq'.c1,hq'.c2,hq'.c3,hq'.c4,hq'.sp.chg (Chg.refl w (fun _=>False)) h4 (fun _ _ h=>h) (fun _ _ h=>h),hq'.tx,fun b hb=>hold (hq'.csp b hb) (by omega) (by omega),fun b hb=>hold (hq'.ctx b hb) (by omega) (by omega)⟩⟩
 ·exact fun b hb=>hold (h.cf b hb) (by omega) (by omega)
 ·intro b hb;rw[hc'];simp only;rw[if_neg (fun e=>by have:=(hg b e).2;omega)];exact h.new b hb
 ·exact fun b hb=>by rw[hc'];simp only;rw[if_pos hb]
 ·exact fun b hb=>by rw[hc'];simp only;rw[if_neg hb]
theorem end_any (h:PSx Tryz.prog w B col pb ob cap len s st i fv gb cs gn) (hl:len=st.fs.length) (n:Nat) (h0:0<n) (hn:n<len) (i0:Nat) (hI:Inv st i0) (hi0:i0≤100000000) :
  Calls Tryz.prog 209 #[.pointer (some ⟨pb,0,none⟩),.int .i64 (n:Int)] w fun e w'=>e=.returned (.tuple #[]) ∧
   ∃col' fv' cs',PSx Tryz.prog w' B col' pb ob cap n s (st.fin n) i fv' gb cs' gn∧Stay B w w' col col':=by
 have cd:=drop_any h hl n hn i0 hI hi0;obtain⟨hI1,hlen1⟩:=hI.drop (n:=n) (by omega);have HFN:Hid (st.fin n=(st.drop n).shut):=rfl;clear h hl hI;generalize st.drop n=sd at cd hI1 hlen1 HFN;obtain⟨f,g,r,hfs⟩:∃f g r,sd.fs=f::g::r:=by
  match hq:sd.fs,hlen1 with
  | f::g::r,_=>exact⟨f,g,r,rfl⟩
  | [f],hq2=>simp at hq2;omega
  | [],hq2=>simp at hq2
 have hnr:n=r.length+1:=by rw[hfs] at hlen1;simp at hlen1;omega
 have hnb:n≤16:=by have:=hI1.2.2.2;omega
 have hwt:wtF f+(wtF g+wtFs r)≤i0:=by
  have:=hI1.1
  rw[hfs,wtFs_cons,wtFs_cons] at this;exact this
 have hwf:wtL f.row.sp+f.row.tx.length+(wtL g.row.sp+g.row.tx.length)≤100000000:=by
  unfold wtF wtR at hwt;omega
 have hwl:=wtL_len f.row.sp;have hwg:=wtL_len g.row.sp;have HFS:=Lib.hid hfs;have HNR:=Lib.hid hnr;clear hfs hwt hI1 hlen1 hnr
 go_enter Tryz.func209,Tryz.ntmps209
 go_wp2_with fail
 refine cd.mono ?_;clear cd;rintro e w1 ⟨rfl,col1,fv1,cs1,h,hst⟩;have H:=Lib.hid h;have HST:=Lib.hid hst;have c1:=h.hp.cell 1;have c2:=h.hp.free 1;have hpw:=h.hp.lt;have hcapn:=h.hcap;obtain⟨sv,tv,hfr⟩:=h.fr (g::r).length f (by rw[HFS.out];exact rev_last f (g::r));obtain⟨q0,q1,q2,q3,q4⟩:=frame_cells hfr h.ho;rw[List.length_cons,←HNR.out] at q0 q1 q2 q3 q4;obtain⟨colB,sv',tv',e0,e1,_,_,_,hB,stB,hspB,htxB,hcs,hct⟩:=h.pop HFS.out 7;rw[hfr.c0] at e0;cases e0
 rw[hfr.c1] at e1;cases e1
 have hB2:=hB.keep (S:=fun _=>False) ((Chg.refl w1 _).alloc (.cells #[sv,tv,.int .u8 (f.kind:Int),strV f.sign,.int .i64 (f.at':Int)] 245)) (fun _ h=>h.elim);have hFB:=Holds.new w1 245 #[sv,tv,.int .u8 (f.kind:Int),strV f.sign,.int .i64 (f.at':Int)];have hc1:=Chg.alloc (Chg.refl w1 (fun _=>False)) (.cells #[sv,tv,.int .u8 (f.kind:Int),strV f.sign,.int .i64 (f.at':Int)] 245);have hsp2:=hspB.chg hc1 (fun _ h=>h) (fun _ _ h=>h) (fun _ _ h=>h);have htx2:=htxB.chg hc1 (fun _ _ h=>h);have h9:colB w1.heap.size=9:=hB.new _ (Nat.le_refl _);have cf:=flush_any w1.heap.size 0 #[sv,tv,.int .u8 (f.kind:Int),strV f.sign,.int .i64 (f.at':Int)] 245 sv tv f.row _ B (colB ·=4) hFB rfl rfl hsp2 htx2
  (fun e=>by have:=hcs _ e;omega) (fun e=>by have:=hct _ e;omega) (fun k hk=>⟨by have:=hB.lt4 hk;simp;omega,fun e=>by subst e;omega,fun e=>by have:=hcs _ e;omega,fun e=>by have:=hct _ e;omega⟩)
  (by have:=psBase hB;simp;omega) (by omega) (by omega)
 have HB2:=Lib.hid hB2;have HLS:=Lib.hid hspB.lt;have HLT:=Lib.hid htxB.lt;have HCS:=Lib.hid hcs;have HCT:=Lib.hid hct;have HSTB:=Lib.hid (HST.out.trans stB);obtain⟨An,cn,rfl,hcn⟩:=hspB.form;obtain⟨At,ct,rfl,hct2⟩:=own_slice htxB;clear h hst hfr hB hB2 hFB hc1 hsp2 htx2 hspB htxB hcs hct stB HST;unfold strV at q3 cf
 go_wp2_with fail
 refine cf.mono ?_;clear cf;rintro e w2 ⟨rfl,sv2,tv2,g1,g2,g3,g4,g5,g6⟩;have hsz12:w1.heap.size+1≤w2.heap.size:=by simpa using g4.size
 have hP2:=HB2.out.keep g4 (fun b hb hl=>by
  rcases hb with h|h|h
  ·subst h;exact .inr h9
  ·exact .inl (HCS.out b h)
  ·exact .inl (HCT.out b h))
 obtain⟨colC0,hP20,stC0,hC40,hC80,hCo⟩:=psAdopt hP2 8 (.inr rfl) (some w1.heap.size) (fun b hb=>by cases hb;exact⟨.inr h9,g1.lt⟩);have hsvf:sv2.ownBlock≠some w1.heap.size:=fun e=>by
  obtain⟨kvs,_,ho,_⟩:=g2;exact own_apart_holds ho g1 (by decide) e
 obtain⟨colC,hP3,stC1,hC41,hCs,hCo2⟩:=psAdopt hP20 4 (.inl rfl) sv2.ownBlock (fun b hb=>⟨by
  rw[hCo b (fun e=>hsvf (by rw[hb,←e]))]
  rcases g5 b hb with h|h
  ·exact .inl (HCS.out b h)
  ·exact .inr (HB2.out.new b h),(g2.lt b hb).2⟩)
 have stC:=stC0.trans stC1;have hC4:∀b,colB b=4→colC b=4:=fun b hb=>hC41 b (hC40 b hb)
 have h8C:colC w1.heap.size=8:=by rw[hCo2 _ hsvf];exact hC80 _ rfl
 obtain⟨hP4,stD⟩:=hP3.cut (n:=n) (by simp only[List.length_cons];have:=HNR.out;omega) (by omega);have hst2:Stay B w1 w2 colB colB:=⟨g4.toBelow (by have:=psBase HB2.out;simpa using this) (fun b hb=>by
   rcases hb with h|h|h
   ·subst h;have:=HB2.out.hpB;omega
   ·exact (HLS.out b h).1
   ·exact (HLT.out b h).1) |> fun hb=>((Below.refl B w1).alloc (psBase H.out) _).trans hb,fun c b hc hb hl=>⟨hb,(g4.block b (by simp;omega) (fun h=>by
   rcases h with h|h|h
   ·subst h;omega
   ·have:=HCS.out b h;omega
   ·have:=HCT.out b h;omega)).trans (Below.heap_alloc w1 _ b hl)⟩⟩
 have HST2:=Lib.hid (((HSTB.out.trans hst2).trans stC).trans stD);have hSP:=g2.forest (G:=(colC ·=4)) hC4 hCs
 replace hSP:=stD.forest hSP
 obtain⟨A2,c2',rfl,hc2'⟩:=g2.form;have d1:=hP2.hp.cell 1;have d2:=hP2.hp.free 1;have hfbpb:w1.heap.size≠pb:=by omega
 have hF2:=g1.far (p:=⟨pb,1,none⟩) hfbpb (.slice (some ⟨ob,0,none⟩) n cap);have HF2:=Lib.hid hF2;have H8C:=Lib.hid h8C;have HSP:=Lib.hid hSP;have hP5:PSx Tryz.prog (w2.setCell ⟨pb,1,none⟩ (.slice (some ⟨ob,0,none⟩) n cap)) B colC pb ob cap (r.length+1) s { sd with fs:=g::r } i fv1 gb cs1 gn:=by
  rw[←HNR.out];exact hP4
 have HPD:=Lib.hid (fun k=>PSx.drewN hP5 k);have HSD:Hid (∀k,Forest ((w2.setCell ⟨pb,1,none⟩ (.slice (some ⟨ob,0,none⟩) n cap)).drewN k) (colC ·=4) (.slice A2 f.row.flush.sp.length c2') f.row.flush.sp):=fun k=>hSP.keep (fun _ h=>h) (fun _ _ _ h=>h)
 have y0:=hF2.cell 0;have y2:=hF2.cell 2;clear g1 g2 g3 g4 g5 g6 hP2 hP3 hP4 hP5 stC stC0 stC1 stD hSP hst2 hF2 hC4 hC40 hC41 hC80 hCo hCo2 hsvf h8C hP20 hCs q0 q1 q2 q3 q4;go_wp2;refine wp_region_held_drew (S:=(fun w'=>w'.cell? ⟨w1.heap.size,2,none⟩=some (.int .u8 (f.kind:Int))∧w'.cell? ⟨w1.heap.size,0,none⟩=some (.slice A2 f.row.flush.sp.length c2'))) (by kernel_rfl) ?_ (fun hHeld0=>?_)
 ·(try dsimp only)
  first|exact⟨y2,y0⟩|exact⟨z2,z0⟩
 refine tkHo 0 ?_;refine tkHo 4 ?_;refine tkHo 5 ?_;refine tkHo 6 ?_;refine tkHo 7 ?_;refine tkHo 8 ?_;refine tkHo 9 ?_;refine rdyH [1] ?_;refine AllReadyH.cons rfl (fun K hK=>?_) AllReadyH.nil;go_simp;refine (top_any (HPD.out _) (by have:=HNR.out;omega)).mono ?_;rintro e w3 ⟨rfl,kk,rfl⟩
 go_wp2_with fail
 refine hK.out _ _ ?_ (fun hHeld1=>?_)
 ·(try dsimp only)
  first|exact⟨y2,y0⟩|exact⟨z2,z0⟩
 clear hK K hHeld0
 (try go_frame)
 refine tkHo 2 ?_;refine tkHo 3 ?_;refine rdyH [10] ?_;refine AllReadyH.cons rfl (fun K hK=>?_) AllReadyH.nil;go_simp;refine (addTop_any (HPD.out _) (f:=g) (r:=r) rfl ⟨f.kind,[],[],[],f.row.flush.sp⟩ (.slice A2 f.row.flush.sp.length c2') (HSD.out _) (fun _=>by simp) (by omega) (by omega)).mono ?_;rintro e w4 ⟨rfl,colE,csE,hE,stE⟩;have stE2:=stE.undrew;have HE:=Lib.hid hE;have HSE:=Lib.hid stE2;obtain⟨_,hF4⟩:=stE2.holds H8C.out HF2.out;have z2:=hF4.cell 2;have z0:=hF4.cell 0;clear hE stE stE2
 go_wp2_with fail
 refine hK.out _ _ ?_ (fun hHeld2=>?_)
 ·(try dsimp only)
  first|exact⟨y2,y0⟩|exact⟨z2,z0⟩
 clear hK K hHeld1
 (try go_frame)
 refine wpAnyH_done (by kernel_rfl) ?_ _;go_wp2
 go_end0
 refine⟨rfl,colE,fv1,csE,?_,HST2.out.trans HSE.out⟩;have e:st.fin n=({ sd with fs:=g::r }:Pst).top (·.add ⟨f.kind,[],[],[],f.row.flush.sp⟩):=by
  rw[HFN.out];unfold Pst.shut Pst.top;rw[HFS.out]
 rw[e,HNR.out];exact HE.out
end
end Go.Proofs.YtkkebmciiiajeaaGreatDoor
