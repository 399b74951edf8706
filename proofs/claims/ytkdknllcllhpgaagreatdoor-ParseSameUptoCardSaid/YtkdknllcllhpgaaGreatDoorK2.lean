/-
  What the chapter's laws share, part 2: plain facts, memory, and walks of functions. Its conditions: those that each theorem names.
-/
import Derived.Test.YtkdknllcllhpgaaGreatDoorChecked
import Derived.IntWalk
import Derived.Deep.Light
import Derived.Handy
import Derived.Lib.Hide
import Derived.BigQuiet
import Derived.Deep.LoopGhost
import Derived.Below
import Derived.WalkKit
import Derived.WalkSpells
import Derived.Deep.RegionHeld3
import Derived.Deep.AppendLies
import Derived.Deep.DrawnRows
import Derived.Outline
import Derived.Deep.QuietTactic
import Derived.ScopeJumps
import Derived.WalkMore
import Derived.Shelf.Strings.Builder1
import Derived.Shelf.Strings.Builder2
import Derived.Shelf.Strings.OnBuilder
import Derived.Shelf.Strings.Trim
import Derived.Shelf.Small.Utf8
import Derived.Shelf.Small.Bits
import Derived.Shelf.Small.Strs
import Derived.Shelf.Small.Wraps
import Derived.Shelf.Strings.BuilderF
import Derived.Shelf.Strings.BuilderK
import Derived.Shelf.Utf8.RuneCount
import Derived.Shelf.Strings.Builder2Cap
import Derived.Shelf.Strconv.Itoa0
import Derived.Shelf.Strings.Search1
import Derived.Shelf.Strings.Search2
import Derived.Shelf.Strings.Search3
import Derived.Shelf.Strings.Cut
import Derived.Shelf.Strings.Count
import Derived.Shelf.LaysM
import Derived.Shelf.Strings.Shaped
import Derived.Shelf.Strings.Prefix
import Derived.Shelf.Strings.Split
import Derived.Shelf.Strings.SplitShaped
import Derived.Shelf.Unicode.Decode
import Derived.Shelf.Strings.Runes
import Derived.Shelf.Strings.RuneCount
import Derived.Shelf.Strings.IndexAny
import Derived.Shelf.Strings.AsciiSet
import Derived.Shelf.Strings.IndexAnyAll
import Derived.Shelf.Strings.Explode
import Derived.Shelf.Unicode.DecodeSlow
import Derived.Shelf.Unicode.DecodeAny
import Derived.Shelf.Unicode.DecodeLast
import Derived.Shelf.Strings.BuilderCap
import Derived.Ground.Names2Prog
import Derived.Shelf.Slices.SearchI
import Derived.Ground.SlgmProg
import Derived.Shelf.SortM.Plain
import Derived.Shelf.SortM.SortNone
import Derived.Test.YtkdknllcllhpgaaGreatDoorProg
import Derived.StringKeys
import Derived.Test.YtkdknllcllhpgaaGreatDoorK0
import Derived.Test.YtkdknllcllhpgaaGreatDoorK1
set_option linter.unusedSimpArgs false
set_option linter.unusedVariables false
set_option maxHeartbeats 16000000
set_option maxRecDepth 100000
namespace Go.Proofs.YtkdknllcllhpgaaGreatDoor
open Go.RowKit Go.Bd
theorem u8_info:(Tryz.prog.info? 5).map (fun i=>(i.zero,i.size,i.bytes))=some (some (.int .u8 0),1,1):=by kernel_rfl
theorem span_info:(Tryz.prog.info? 129).map (fun i=>(i.zero,i.size,i.bytes))=some (some (.agg #[.int .u8 0,.string ⟨#[]⟩,.string ⟨#[]⟩,.string ⟨#[]⟩,.slice none 0 0]),5,80):=by kernel_rfl
theorem write_any (b off:Nat) (cs:Array Value) (t:TypeId) (tv:Value) (l:Bs) (s:ByteArray) (w:World) (B:Nat) (hh:Holds w b t cs) (hc:cs[off+1]? = some tv) (ht:TextRow w B tv l) (hb:tv.ownBlock≠some b) (hB:B≤w.heap.size) (hl:l.length≤10000000000) (hs:s.size≤10000000000) :
  Calls Tryz.prog 216 #[.pointer (some ⟨b,off,none⟩),.string s] w fun e w'=>e=.returned (.tuple #[])∧∃tv',Holds w' b t (cs.setIfInBounds (off+1) tv')∧TextRow w' B tv' (l++s.data.toList)∧Chg w w' (fun k=>k=b∨tv.ownBlock=some k)∧Near w tv tv':=by
 have hcell:=(hh.cell (off+1)).trans hc
 go_enter Tryz.func216,Tryz.ntmps216
 go_wp2_with (at_builtin;refine wpList_app_string _ rfl _ _ 116 9 rfl B 5 Tryz.underlying116 Tryz.underlying9 u8_info _ l.length (l.map byteV) rfl ht s rfl (by omega) hB ?_)
 intro v1 w1 ho1 hg1 hn1;have hch:=Chg.grown hg1;have hh1:=hch.holds (fun h=>hb h.symm) hh;have hc1:=(hh1.cell (off+1)).trans hc;have hf1:=hh1.free (off+1);obtain⟨A1,c1,rfl,hle⟩:=own_slice ho1;have HN:=Lib.hid hn1;clear hn1;go_wp2
 go_end0
 refine⟨rfl,_,hh1.set (off+1) _,?_,?_,HN.out⟩
 ·have hap:(Value.slice A1 (l.length+s.size) c1).ownBlock≠some b:=fun h=>by
   rcases HN.out with h1|h1
   ·exact hb (h1.symm.trans h)
   ·rw[h] at h1;injection h1 with h1
    have:=hh.lt
    omega
  have:=own_far ho1 (p:=⟨b,off+1,none⟩) hap (.slice A1 (l.length+s.size) c1)
  unfold TextRow;rw[List.length_append,←size_list,List.map_append];exact this
 ·exact (hch.mono (fun k _ h=>Or.inr h.symm)).trans ((Chg.set w1 ⟨b,off+1,none⟩ _).mono (fun k _ h=>Or.inl h)) (fun k _ h=>h)
theorem Chg.step {w W:World}{S:Nat→Prop}{g i:Nat}{u:Value} (h:Chg w W S) (hg:∀k,k<w.heap.size→k=g→S k):Chg w (W.setCell ⟨g,i,none⟩ u) S:=h.trans (Chg.set W ⟨g,i,none⟩ u) hg
theorem set_same {cs:Array Value}{i:Nat}{v:Value} (h:cs[i]? = some v):cs.setIfInBounds i v=cs:=by
 apply Array.ext_getElem?
 intro j;rw[Array.getElem?_setIfInBounds];split
 ·rename_i e;subst e;split
  ·exact h.symm
  ·rename_i h2;rw[Array.getElem?_eq_none (by omega)]
 ·rfl
theorem set_five (xs:List Value) (n:Nat) (hl:xs.length=n) (a b c d e z0 z1 z2 z3 z4:Value):((((((xs++[z0,z1,z2,z3,z4]).set n a).set (n+1) b).set (n+2) c).set (n+3) d).set (n+4) e)=xs++[a,b,c,d,e]:=by
 subst hl;simp[List.set_append]
theorem flushed_row {w W:World}{B:Nat}{F S:Nat→Prop}{sv':Value}{sp:List Sp}{tx:Bs}{kvs:List Value}{z0 z1 z2 z3 z4:Value} (hkl:kvs.length=sp.length) (hrl:(rowCells sp kvs).length=sp.length*5) (htx:tx≠[])
  (hkf:∀(j:Nat) x kv,sp[j]? = some x→kvs[j]? = some kv→Forest w F kv x.kids) (hch:Chg w W S) (hFS:∀k,F k→¬S k)
  (hO:W.ownsRow B tS 5 sv' (sp.length+1) ((((((rowCells sp kvs++[z0,z1,z2,z3,z4]).set (sp.length*5) (.int .u8 0)).set (sp.length*5+1) (.string ⟨tx.toArray⟩)).set (sp.length*5+2) (.string ⟨#[]⟩)).set (sp.length*5+3) (.string ⟨#[]⟩)).set (sp.length*5+4) (.slice none 0 0))) :
  SpanRow W B tS F sv' (Rw.mk sp tx).flush.sp:=by
 rw[set_five _ _ hrl] at hO;have e:(Rw.mk sp tx).flush.sp=sp++[txt tx]:=by simp[Rw.flush,htx]
 rw[e];refine⟨kvs++[.slice none 0 0],by simp[hkl],?_,fun j x kv hx hkv=>?_⟩
 ·rw[rowCells_snoc _ _ hkl,List.length_append];exact hO
 ·by_cases hj:j<sp.length
  ·rw[List.getElem?_append_left hj] at hx;rw[List.getElem?_append_left (by omega)] at hkv;exact (hkf j x kv hx hkv).chg hch (fun _ h=>h) hFS
  ·have hj2:j=sp.length:=by have:=(List.getElem?_eq_some_iff.1 hx).1;simp at this;omega
   subst hj2;rw[List.getElem?_append_right (Nat.le_refl _),Nat.sub_self] at hx;rw[List.getElem?_append_right (by omega),hkl,Nat.sub_self] at hkv;cases hx;cases hkv
   exact Forest.nil W F
theorem text_nil {w W:World}{B g n c:Nat}{l:Bs}{cur:Array Value} (h:TextRow w B (.slice (some ⟨g,0,none⟩) n c) l) (hw:Holds w g tB cur) (hW:Holds W g tB cur):TextRow W B (.slice (some ⟨g,0,none⟩) 0 c) []:=by
 rcases h.2 with ⟨hv,_⟩|⟨g',cap',cur',hv,hb,hh,_,hm,hs,_⟩
 ·cases hv
 ·injection hv with h1 h2 h3
  injection h1 with h1
  injection h1 with h1
  subst h1;subst h3;unfold Holds at hw;rw[hh] at hw;injection hw with hw
  injection hw with hw
  subst hw;exact⟨rfl,.inr ⟨g,c,cur',rfl,hb,hW,Nat.zero_le _,hm,hs,by simp⟩⟩
def Flushed (w:World) (B:Nat) (F:Nat→Prop) (b off:Nat) (cs:Array Value) (t:TypeId) (sv tv:Value) (r:Rw) (w':World):Prop :=
 ∃sv' tv',Holds w' b t ((cs.setIfInBounds off sv').setIfInBounds (off+1) tv')∧SpanRow w' B tS F sv' r.flush.sp∧TextRow w' B tv' []∧Chg w w' (fun k=>k=b∨sv.ownBlock=some k∨tv.ownBlock=some k)∧(∀k,sv'.ownBlock=some k→sv.ownBlock=some k∨w.heap.size≤k)∧(∀k,tv'.ownBlock=some k→tv.ownBlock=some k)
theorem flush_any (b off:Nat) (cs:Array Value) (t:TypeId) (sv tv:Value) (r:Rw) (w:World) (B:Nat) (F:Nat→Prop) (hh:Holds w b t cs) (hc0:cs[off]? = some sv) (hc:cs[off+1]? = some tv) (hsp:SpanRow w B tS F sv r.sp) (ht:TextRow w B tv r.tx)
  (hbs:sv.ownBlock≠some b) (hb:tv.ownBlock≠some b) (hF:∀k,F k→k<w.heap.size∧k≠b∧sv.ownBlock≠some k∧tv.ownBlock≠some k) (hB:B≤w.heap.size) (hl:r.sp.length≤10000000000) (hs:r.tx.length≤10000000000) :
  Calls Tryz.prog 183 #[.pointer (some ⟨b,off,none⟩)] w fun e w'=>e=.returned (.tuple #[])∧Flushed w B F b off cs t sv tv r w':=by
 have hcell0:=(hh.cell off).trans hc0;have hcell:=(hh.cell (off+1)).trans hc;obtain⟨A,c,rfl,hle⟩:=own_slice ht
 go_enter Tryz.func183,Tryz.ntmps183
 by_cases hn:r.tx.length=0
 ·rw[hn] at hcell;go_wp2
  go_end0
  have htx:r.tx=[]:=List.eq_nil_of_length_eq_zero hn;have hfl:r.flush.sp=r.sp:=by unfold Rw.flush;rw[if_pos htx]
  rw[hn] at hc ht hb;refine⟨rfl,sv,.slice A 0 c,?_,?_,?_,Chg.refl _ _,fun k h=>.inl h,fun k h=>by rw[hn];exact h⟩
  ·have e1:cs.setIfInBounds off sv=cs:=set_same hc0;rw[e1];have e2:cs.setIfInBounds (off+1) (.slice A 0 c)=cs:=set_same hc;rw[e2];exact hh
  ·rw[hfl];exact hsp
  ·rw[htx] at ht;exact ht
 ·have hn1:decide (0<r.tx.length)=true:=by simp;omega
  obtain⟨As,cs',rfl,hcs'⟩:=hsp.form;obtain⟨kvs,hkl,hso,hkf⟩:=hsp;obtain⟨g,cap,hv,_,hglt,_⟩:=own_some ht (by omega);injection hv with e1 e2 e3
  subst e1;subst e3;obtain⟨cur,hgh⟩:∃cur,Holds w g tB cur:=by
   rcases ht.2 with ⟨hv,_⟩|⟨g',cap',cur,hv,_,hh,_⟩
   ·cases hv
   ·injection hv with h1
    injection h1 with h1
    injection h1 with h1
    subst h1;exact⟨cur,hh⟩
  have hcur:∀(j:Nat) u,(r.tx.map byteV)[j]? = some u→cur[j]? = some u:=fun j u hj=>by
   have:=own_cell ht hj
   rwa [hgh.cell] at this
  have hcv:∀W,Holds W g tB cur→(convert 116 9 (.slice (some ⟨g,0,none⟩) r.tx.length c)).run Tryz.prog W=.ok (.string ⟨r.tx.toArray⟩) W:=fun W hW=>by
   refine run_convert_bytes_back W 116 9 5 ⟨g,0,none⟩ c r.tx Tryz.underlying116 Tryz.underlying5 Tryz.underlying9 fun j hj=>?_
   rw[addr_add,hW.cell];exact hcur j _ (by rw[List.getElem?_map,List.getElem?_eq_getElem hj];rfl)
  obtain⟨i0,hi0,hz0,hz1,hz2⟩:=info_parts span_info;have hgb:g≠b:=fun e=>hb (by rw[e];rfl)
  have hgs:(Value.slice As r.sp.length cs').ownBlock≠some g:=fun e=>by
   have hq:w.ownsRow B tB 1 (.slice (some ⟨g,0,none⟩) r.tx.length c) r.tx.length (r.tx.map byteV):=ht;exact own_apart hso hq (by decide) e rfl
  have hbw:=hh.lt;have hrl:=rowCells_length hkl;have hrc:∀i,i<5→(rowCells r.sp kvs++[.int .u8 0,.string ⟨#[]⟩,.string ⟨#[]⟩,.string ⟨#[]⟩,.slice none 0 0])[r.sp.length*5+i]? = ([.int .u8 0,.string ⟨#[]⟩,.string ⟨#[]⟩,.string ⟨#[]⟩,.slice none 0 0]:List Value)[i]?:=fun i _=>by
   rw[List.getElem?_append_right (by omega)]
   congr 1;omega
  have hrc0:Hid ((rowCells r.sp kvs++[.int .u8 0,.string ⟨#[]⟩,.string ⟨#[]⟩,.string ⟨#[]⟩,.slice none 0 0])[r.sp.length*5]? = some (.int .u8 0)):=hrc 0 (by omega);have hrc1:Hid ((rowCells r.sp kvs++[.int .u8 0,.string ⟨#[]⟩,.string ⟨#[]⟩,.string ⟨#[]⟩,.slice none 0 0])[r.sp.length*5+1]? = some (.string ⟨#[]⟩)):=hrc 1 (by omega);have hrc2:Hid ((rowCells r.sp kvs++[.int .u8 0,.string ⟨#[]⟩,.string ⟨#[]⟩,.string ⟨#[]⟩,.slice none 0 0])[r.sp.length*5+2]? = some (.string ⟨#[]⟩)):=hrc 2 (by omega);have hrc3:Hid ((rowCells r.sp kvs++[.int .u8 0,.string ⟨#[]⟩,.string ⟨#[]⟩,.string ⟨#[]⟩,.slice none 0 0])[r.sp.length*5+3]? = some (.string ⟨#[]⟩)):=hrc 3 (by omega);have hrc4:Hid ((rowCells r.sp kvs++[.int .u8 0,.string ⟨#[]⟩,.string ⟨#[]⟩,.string ⟨#[]⟩,.slice none 0 0])[r.sp.length*5+4]? = some (.slice none 0 0)):=hrc 4 (by omega);have HCV:=Lib.hid hcv;have HKF:=Lib.hid hkf;have HFF:=Lib.hid hF;have HRL:=Lib.hid hrl;have HKL:=Lib.hid hkl;clear hrc hcv hkf hF hcur hrl hkl;have hi0':(0:Int)≤(r.sp.length:Int):=by omega
  have hi1':(r.sp.length:Int)<(r.sp.length:Int)+1:=by omega
  go_wp2;refine wp_region_held_drew (S:=(fun w'=>w'.cell? ⟨b,off+1,none⟩=some (.slice (some ⟨g,0,none⟩) r.tx.length c)∧(convert 116 9 (.slice (some ⟨g,0,none⟩) r.tx.length c)).run Tryz.prog w'=.ok (.string ⟨r.tx.toArray⟩) w')) (by kernel_rfl) ?_ (fun hHeld0=>?_)
  ·(try dsimp only)
   (repeat' apply And.intro)<;>first
    | with_reducible exact HCV.out _ hgh
    | with_reducible exact HCV.out _ (hgh.alloc _)
    | with_reducible exact HCV.out _ hgh.drew
    | with_reducible exact HCV.out _ (hgh.alloc _).drew
    | with_reducible exact HCV.out _ hg1
    | (with_reducible refine HCV.out _ ?_
       repeat (first|with_reducible exact hg1|with_reducible refine Holds.far ?_ hggg _|with_reducible refine Holds.far ?_ hgb _)
       done)
    | (repeat (first|with_reducible exact k1|with_reducible refine cell_off (by omega) _ ?_|with_reducible refine cell_far hggb _ ?_)
       done)
    | go_keep
  refine tkHo 0 ?_;refine tkHo 1 ?_;refine tkHo 2 ?_;refine tkHo 4 ?_;refine tkHo 5 ?_;refine tkHo 6 ?_;refine tkHo 7 ?_;refine tkHo 8 ?_;refine tkHo 9 ?_;refine rdyH [3,11] ?_;refine AllReadyH.cons rfl (fun K hK=>?_) ?_
  ·skip
   go_simp;refine hK.out _ _ ?_ (fun hHeld1=>?_)
   ·(try dsimp only)
    (repeat' apply And.intro)<;>first
     | with_reducible exact HCV.out _ hgh
     | with_reducible exact HCV.out _ (hgh.alloc _)
     | with_reducible exact HCV.out _ hgh.drew
     | with_reducible exact HCV.out _ (hgh.alloc _).drew
     | with_reducible exact HCV.out _ hg1
     | (with_reducible refine HCV.out _ ?_
        repeat (first|with_reducible exact hg1|with_reducible refine Holds.far ?_ hggg _|with_reducible refine Holds.far ?_ hgb _)
        done)
     | (repeat (first|with_reducible exact k1|with_reducible refine cell_off (by omega) _ ?_|with_reducible refine cell_far hggb _ ?_)
        done)
     | go_keep
   clear hK K hHeld0
   (try go_frame)
   refine tkHo 10 ?_;refine rdyH [11] ?_;refine AllReadyH.cons rfl (fun K hK=>?_) AllReadyH.nil;go_simp;refine hK.out _ _ ?_ (fun hHeld2=>?_)
   ·(try dsimp only)
    (repeat' apply And.intro)<;>first
     | with_reducible exact HCV.out _ hgh
     | with_reducible exact HCV.out _ (hgh.alloc _)
     | with_reducible exact HCV.out _ hgh.drew
     | with_reducible exact HCV.out _ (hgh.alloc _).drew
     | with_reducible exact HCV.out _ hg1
     | (with_reducible refine HCV.out _ ?_
        repeat (first|with_reducible exact hg1|with_reducible refine Holds.far ?_ hggg _|with_reducible refine Holds.far ?_ hgb _)
        done)
     | (repeat (first|with_reducible exact k1|with_reducible refine cell_off (by omega) _ ?_|with_reducible refine cell_far hggb _ ?_)
        done)
     | go_keep
   clear hK K hHeld1
   (try go_frame)
   refine rdyH [12] ?_;refine AllReadyH.cons rfl (fun K hK=>?_) AllReadyH.nil;refine step_append_lies _ (by rfl) _ _ _ (by rfl) B 129 i0 _ 5 80 Tryz.underlying69 hi0 hz0 hz1 hz2 rfl (by omega) (.slice As r.sp.length cs') r.sp.length (rowCells r.sp kvs) (by rfl) ((hso.alloc _).drew)
    ⟨w.heap.size,0,none⟩ 1 1 [.int .u8 0,.string ⟨#[]⟩,.string ⟨#[]⟩,.string ⟨#[]⟩,.slice none 0 0] (by rfl) (by rfl) (World.news_of_block (cs:=#[.int .u8 0,.string ⟨#[]⟩,.string ⟨#[]⟩,.string ⟨#[]⟩,.slice none 0 0]) (t:=129) (fr:=(0,0)) (heap_alloc_new w _)) (by simp[Value.oneCell'])
    (by omega) (by unfold maxLen;omega) (by omega) (by simp;omega) (w.heap.size+1) (by simp) ?_
   intro gg cap1 w1 hown1 hgrow hat hlt;have hggb:gg≠b:=fun e=>by
    rcases hat with h|h
    ·exact hbs (h.trans (by rw[e]))
    ·omega
   have hggg:g≠gg:=fun e=>by
    rcases hat with h|h
    ·exact hgs (h.trans (by rw[e]))
    ·omega
   have hbgg:b≠gg:=fun e=>hggb e.symm
   have hch1:=Chg.grown hgrow;have hh1:Holds w1 b t cs:=hch1.holds (fun h=>hbs h.symm) ((hh.alloc _).drew);have hg1:Holds w1 g tB cur:=hch1.holds (fun h=>hgs h.symm) ((hgh.alloc _).drew);have k0:=(hh1.cell off).trans hc0;have k1:=(hh1.cell (off+1)).trans hc;have k2:=hh1.free off;have k3:=hh1.free (off+1);have z0:=hown1.cellAt (r.sp.length*5) (by omega);have z1:=hown1.cellAt (r.sp.length*5+1) (by omega);have z2:=hown1.cellAt (r.sp.length*5+2) (by omega);have z3:=hown1.cellAt (r.sp.length*5+3) (by omega);have z4:=hown1.cellAt (r.sp.length*5+4) (by omega);have y0:=hown1.frozenAt (r.sp.length*5);have y1:=hown1.frozenAt (r.sp.length*5+1);have y2:=hown1.frozenAt (r.sp.length*5+2);have y3:=hown1.frozenAt (r.sp.length*5+3);have y4:=hown1.frozenAt (r.sp.length*5+4);rw[hrc0.out] at z0;rw[hrc1.out] at z1;rw[hrc2.out] at z2;rw[hrc3.out] at z3;rw[hrc4.out] at z4;have HOWN:=Lib.hid hown1;have HAT:=Lib.hid hat;have HCH:=Lib.hid hch1;have hggo:(Value.slice (some ⟨gg,0,none⟩) (r.sp.length+1) cap1).ownBlock≠some b:=fun e=>hggb (by simpa [Value.ownBlock] using e)
   have HC0:Hid (Chg w w1 (fun k=>k=b∨(Value.slice As r.sp.length cs').ownBlock=some k)):=(((Chg.refl w _).alloc _).drew).trans hch1 (fun k _ h=>Or.inr h.symm);have HTG:Hid (∀k,k<w.heap.size→k=gg→(k=b∨(Value.slice As r.sp.length cs').ownBlock=some k)):=fun k hk e=>by
    subst e
    rcases hat with h|h
    ·exact Or.inr h
    ·omega
   have HTB:Hid (∀k,k<w.heap.size→k=b→(k=b∨(Value.slice As r.sp.length cs').ownBlock=some k)):=fun k _ e=>Or.inl e
   clear hown1 hat hch1 hgrow;refine hK.out _ _ ?_ (fun hHeld3=>?_)
   ·(try dsimp only)
    (repeat' apply And.intro)<;>first
     | with_reducible exact HCV.out _ hgh
     | with_reducible exact HCV.out _ (hgh.alloc _)
     | with_reducible exact HCV.out _ hgh.drew
     | with_reducible exact HCV.out _ (hgh.alloc _).drew
     | with_reducible exact HCV.out _ hg1
     | (with_reducible refine HCV.out _ ?_
        repeat (first|with_reducible exact hg1|with_reducible refine Holds.far ?_ hggg _|with_reducible refine Holds.far ?_ hgb _)
        done)
     | (repeat (first|with_reducible exact k1|with_reducible refine cell_off (by omega) _ ?_|with_reducible refine cell_far hggb _ ?_)
        done)
     | go_keep
   clear hK K hHeld2
   (try go_frame)
   refine tkHo 13 ?_;refine tkHo 15 ?_;refine tkHo 16 ?_;refine rdyH [14,17] ?_;refine AllReadyH.cons rfl (fun K hK=>?_) ?_
   ·skip
    go_simp;refine hK.out _ _ ?_ (fun hHeld4=>?_)
    ·(try dsimp only)
     (repeat' apply And.intro)<;>first
      | with_reducible exact HCV.out _ hgh
      | with_reducible exact HCV.out _ (hgh.alloc _)
      | with_reducible exact HCV.out _ hgh.drew
      | with_reducible exact HCV.out _ (hgh.alloc _).drew
      | with_reducible exact HCV.out _ hg1
      | (with_reducible refine HCV.out _ ?_
         repeat (first|with_reducible exact hg1|with_reducible refine Holds.far ?_ hggg _|with_reducible refine Holds.far ?_ hgb _)
         done)
      | (repeat (first|with_reducible exact k1|with_reducible refine cell_off (by omega) _ ?_|with_reducible refine cell_far hggb _ ?_)
         done)
      | go_keep
    clear hK K hHeld3
    (try go_frame)
    refine rdyH [17] ?_;refine AllReadyH.cons rfl (fun K hK=>?_) AllReadyH.nil;go_simp;refine hK.out _ _ ?_ (fun hHeld5=>?_)
    ·(try dsimp only)
     (repeat' apply And.intro)<;>first
      | with_reducible exact HCV.out _ hgh
      | with_reducible exact HCV.out _ (hgh.alloc _)
      | with_reducible exact HCV.out _ hgh.drew
      | with_reducible exact HCV.out _ (hgh.alloc _).drew
      | with_reducible exact HCV.out _ hg1
      | (with_reducible refine HCV.out _ ?_
         repeat (first|with_reducible exact hg1|with_reducible refine Holds.far ?_ hggg _|with_reducible refine Holds.far ?_ hgb _)
         done)
      | (repeat (first|with_reducible exact k1|with_reducible refine cell_off (by omega) _ ?_|with_reducible refine cell_far hggb _ ?_)
         done)
      | go_keep
    clear hK K hHeld4
    (try go_frame)
    refine wpAnyH_done (by kernel_rfl) ?_ _;clear hHeld5;go_wp2
    go_end0
    refine⟨rfl,.slice (some ⟨gg,0,none⟩) (r.sp.length+1) cap1,.slice (some ⟨g,0,none⟩) 0 c,?_,?_,?_,?_,?_,?_⟩
    ·repeat (first|with_reducible exact hh1|with_reducible refine Holds.set ?_ _ _|with_reducible refine Holds.far ?_ hbgg _)
    ·refine flushed_row (z0:=.int .u8 0) (z1:=.string ⟨#[]⟩) (z2:=.string ⟨#[]⟩) (z3:=.string ⟨#[]⟩) (z4:=.slice none 0 0) (S:=fun k=>k=b∨(Value.slice As r.sp.length cs').ownBlock=some k) HKL.out HRL.out (fun e=>hn (by rw[e];rfl)) HKF.out ?_ (fun k hk h=>by have:=HFF.out k hk;rcases h with h|h;exact this.2.1 h;exact this.2.2.1 h) ?_
     ·repeat (first|with_reducible exact HC0.out|with_reducible refine Chg.step ?_ HTG.out|with_reducible refine Chg.step ?_ HTB.out)
     ·repeat (first|with_reducible refine (World.ownsRow.stored ?_ _ _).1|with_reducible refine ownsRow_setCell_other ?_ hggo _)
      exact HOWN.out
    ·refine text_nil (g:=g) (cur:=cur) ht hgh ?_
     repeat (first|with_reducible exact hg1|with_reducible refine Holds.far ?_ hggg _|with_reducible refine Holds.far ?_ hgb _)
    ·refine Chg.mono (S:=fun k=>k=b∨(Value.slice As r.sp.length cs').ownBlock=some k) ?_ (fun k _ h=>by rcases h with h|h;exact .inl h;exact .inr (.inl h))
     repeat (first|with_reducible exact HC0.out|with_reducible refine Chg.step ?_ HTG.out|with_reducible refine Chg.step ?_ HTB.out)
    ·intro k hk;simp only[Value.ownBlock,Option.some.injEq] at hk;subst hk
     rcases HAT.out with h|h
     ·exact .inl h
     ·exact .inr (by omega)
    ·intro k hk;exact hk
   refine AllReadyH.cons rfl (fun K hK=>?_) AllReadyH.nil;go_simp;refine hK.out _ _ ?_ (fun hHeld4=>?_)
   ·(try dsimp only)
    (repeat' apply And.intro)<;>first
     | with_reducible exact HCV.out _ hgh
     | with_reducible exact HCV.out _ (hgh.alloc _)
     | with_reducible exact HCV.out _ hgh.drew
     | with_reducible exact HCV.out _ (hgh.alloc _).drew
     | with_reducible exact HCV.out _ hg1
     | (with_reducible refine HCV.out _ ?_
        repeat (first|with_reducible exact hg1|with_reducible refine Holds.far ?_ hggg _|with_reducible refine Holds.far ?_ hgb _)
        done)
     | (repeat (first|with_reducible exact k1|with_reducible refine cell_off (by omega) _ ?_|with_reducible refine cell_far hggb _ ?_)
        done)
     | go_keep
   clear hK K hHeld3
   (try go_frame)
   refine rdyH [14] ?_;refine AllReadyH.cons rfl (fun K hK=>?_) AllReadyH.nil;go_simp;refine hK.out _ _ ?_ (fun hHeld5=>?_)
   ·(try dsimp only)
    (repeat' apply And.intro)<;>first
     | with_reducible exact HCV.out _ hgh
     | with_reducible exact HCV.out _ (hgh.alloc _)
     | with_reducible exact HCV.out _ hgh.drew
     | with_reducible exact HCV.out _ (hgh.alloc _).drew
     | with_reducible exact HCV.out _ hg1
     | (with_reducible refine HCV.out _ ?_
        repeat (first|with_reducible exact hg1|with_reducible refine Holds.far ?_ hggg _|with_reducible refine Holds.far ?_ hgb _)
        done)
     | (repeat (first|with_reducible exact k1|with_reducible refine cell_off (by omega) _ ?_|with_reducible refine cell_far hggb _ ?_)
        done)
     | go_keep
   clear hK K hHeld4
   (try go_frame)
   refine wpAnyH_done (by kernel_rfl) ?_ _;clear hHeld5;go_wp2
   go_end0
   refine⟨rfl,.slice (some ⟨gg,0,none⟩) (r.sp.length+1) cap1,.slice (some ⟨g,0,none⟩) 0 c,?_,?_,?_,?_,?_,?_⟩
   ·repeat (first|with_reducible exact hh1|with_reducible refine Holds.set ?_ _ _|with_reducible refine Holds.far ?_ hbgg _)
   ·refine flushed_row (z0:=.int .u8 0) (z1:=.string ⟨#[]⟩) (z2:=.string ⟨#[]⟩) (z3:=.string ⟨#[]⟩) (z4:=.slice none 0 0) (S:=fun k=>k=b∨(Value.slice As r.sp.length cs').ownBlock=some k) HKL.out HRL.out (fun e=>hn (by rw[e];rfl)) HKF.out ?_ (fun k hk h=>by have:=HFF.out k hk;rcases h with h|h;exact this.2.1 h;exact this.2.2.1 h) ?_
    ·repeat (first|with_reducible exact HC0.out|with_reducible refine Chg.step ?_ HTG.out|with_reducible refine Chg.step ?_ HTB.out)
    ·repeat (first|with_reducible refine (World.ownsRow.stored ?_ _ _).1|with_reducible refine ownsRow_setCell_other ?_ hggo _)
     exact HOWN.out
   ·refine text_nil (g:=g) (cur:=cur) ht hgh ?_
    repeat (first|with_reducible exact hg1|with_reducible refine Holds.far ?_ hggg _|with_reducible refine Holds.far ?_ hgb _)
   ·refine Chg.mono (S:=fun k=>k=b∨(Value.slice As r.sp.length cs').ownBlock=some k) ?_ (fun k _ h=>by rcases h with h|h;exact .inl h;exact .inr (.inl h))
    repeat (first|with_reducible exact HC0.out|with_reducible refine Chg.step ?_ HTG.out|with_reducible refine Chg.step ?_ HTB.out)
   ·intro k hk;simp only[Value.ownBlock,Option.some.injEq] at hk;subst hk
    rcases HAT.out with h|h
    ·exact .inl h
    ·exact .inr (by omega)
   ·intro k hk;exact hk
  refine AllReadyH.cons rfl (fun K hK=>?_) AllReadyH.nil;go_simp;refine hK.out _ _ ?_ (fun hHeld1=>?_)
  ·(try dsimp only)
   (repeat' apply And.intro)<;>first
    | with_reducible exact HCV.out _ hgh
    | with_reducible exact HCV.out _ (hgh.alloc _)
    | with_reducible exact HCV.out _ hgh.drew
    | with_reducible exact HCV.out _ (hgh.alloc _).drew
    | with_reducible exact HCV.out _ hg1
    | (with_reducible refine HCV.out _ ?_
       repeat (first|with_reducible exact hg1|with_reducible refine Holds.far ?_ hggg _|with_reducible refine Holds.far ?_ hgb _)
       done)
    | (repeat (first|with_reducible exact k1|with_reducible refine cell_off (by omega) _ ?_|with_reducible refine cell_far hggb _ ?_)
       done)
    | go_keep
  clear hK K hHeld0
  (try go_frame)
  refine rdyH [3] ?_;refine AllReadyH.cons rfl (fun K hK=>?_) AllReadyH.nil;go_simp;refine hK.out _ _ ?_ (fun hHeld2=>?_)
  ·(try dsimp only)
   (repeat' apply And.intro)<;>first
    | with_reducible exact HCV.out _ hgh
    | with_reducible exact HCV.out _ (hgh.alloc _)
    | with_reducible exact HCV.out _ hgh.drew
    | with_reducible exact HCV.out _ (hgh.alloc _).drew
    | with_reducible exact HCV.out _ hg1
    | (with_reducible refine HCV.out _ ?_
       repeat (first|with_reducible exact hg1|with_reducible refine Holds.far ?_ hggg _|with_reducible refine Holds.far ?_ hgb _)
       done)
    | (repeat (first|with_reducible exact k1|with_reducible refine cell_off (by omega) _ ?_|with_reducible refine cell_far hggb _ ?_)
       done)
    | go_keep
  clear hK K hHeld1
  (try go_frame)
  refine tkHo 10 ?_;refine rdyH [12] ?_;refine AllReadyH.cons rfl (fun K hK=>?_) AllReadyH.nil;refine step_append_lies _ (by rfl) _ _ _ (by rfl) B 129 i0 _ 5 80 Tryz.underlying69 hi0 hz0 hz1 hz2 rfl (by omega) (.slice As r.sp.length cs') r.sp.length (rowCells r.sp kvs) (by rfl) ((hso.alloc _).drew)
   ⟨w.heap.size,0,none⟩ 1 1 [.int .u8 0,.string ⟨#[]⟩,.string ⟨#[]⟩,.string ⟨#[]⟩,.slice none 0 0] (by rfl) (by rfl) (World.news_of_block (cs:=#[.int .u8 0,.string ⟨#[]⟩,.string ⟨#[]⟩,.string ⟨#[]⟩,.slice none 0 0]) (t:=129) (fr:=(0,0)) (heap_alloc_new w _)) (by simp[Value.oneCell'])
   (by omega) (by unfold maxLen;omega) (by omega) (by simp;omega) (w.heap.size+1) (by simp) ?_
  intro gg cap1 w1 hown1 hgrow hat hlt;have hggb:gg≠b:=fun e=>by
   rcases hat with h|h
   ·exact hbs (h.trans (by rw[e]))
   ·omega
  have hggg:g≠gg:=fun e=>by
   rcases hat with h|h
   ·exact hgs (h.trans (by rw[e]))
   ·omega
  have hbgg:b≠gg:=fun e=>hggb e.symm
  have hch1:=Chg.grown hgrow;have hh1:Holds w1 b t cs:=hch1.holds (fun h=>hbs h.symm) ((hh.alloc _).drew);have hg1:Holds w1 g tB cur:=hch1.holds (fun h=>hgs h.symm) ((hgh.alloc _).drew);have k0:=(hh1.cell off).trans hc0;have k1:=(hh1.cell (off+1)).trans hc;have k2:=hh1.free off;have k3:=hh1.free (off+1);have z0:=hown1.cellAt (r.sp.length*5) (by omega);have z1:=hown1.cellAt (r.sp.length*5+1) (by omega);have z2:=hown1.cellAt (r.sp.length*5+2) (by omega);have z3:=hown1.cellAt (r.sp.length*5+3) (by omega);have z4:=hown1.cellAt (r.sp.length*5+4) (by omega);have y0:=hown1.frozenAt (r.sp.length*5);have y1:=hown1.frozenAt (r.sp.length*5+1);have y2:=hown1.frozenAt (r.sp.length*5+2);have y3:=hown1.frozenAt (r.sp.length*5+3);have y4:=hown1.frozenAt (r.sp.length*5+4);rw[hrc0.out] at z0;rw[hrc1.out] at z1;rw[hrc2.out] at z2;rw[hrc3.out] at z3;rw[hrc4.out] at z4;have HOWN:=Lib.hid hown1;have HAT:=Lib.hid hat;have HCH:=Lib.hid hch1;have hggo:(Value.slice (some ⟨gg,0,none⟩) (r.sp.length+1) cap1).ownBlock≠some b:=fun e=>hggb (by simpa [Value.ownBlock] using e)
  have HC0:Hid (Chg w w1 (fun k=>k=b∨(Value.slice As r.sp.length cs').ownBlock=some k)):=(((Chg.refl w _).alloc _).drew).trans hch1 (fun k _ h=>Or.inr h.symm);have HTG:Hid (∀k,k<w.heap.size→k=gg→(k=b∨(Value.slice As r.sp.length cs').ownBlock=some k)):=fun k hk e=>by
   subst e
   rcases hat with h|h
   ·exact Or.inr h
   ·omega
  have HTB:Hid (∀k,k<w.heap.size→k=b→(k=b∨(Value.slice As r.sp.length cs').ownBlock=some k)):=fun k _ e=>Or.inl e
  clear hown1 hat hch1 hgrow;refine hK.out _ _ ?_ (fun hHeld3=>?_)
  ·(try dsimp only)
   (repeat' apply And.intro)<;>first
    | with_reducible exact HCV.out _ hgh
    | with_reducible exact HCV.out _ (hgh.alloc _)
    | with_reducible exact HCV.out _ hgh.drew
    | with_reducible exact HCV.out _ (hgh.alloc _).drew
    | with_reducible exact HCV.out _ hg1
    | (with_reducible refine HCV.out _ ?_
       repeat (first|with_reducible exact hg1|with_reducible refine Holds.far ?_ hggg _|with_reducible refine Holds.far ?_ hgb _)
       done)
    | (repeat (first|with_reducible exact k1|with_reducible refine cell_off (by omega) _ ?_|with_reducible refine cell_far hggb _ ?_)
       done)
    | go_keep
  clear hK K hHeld2
  (try go_frame)
  refine tkHo 13 ?_;refine tkHo 15 ?_;refine tkHo 16 ?_;refine rdyH [14,17] ?_;refine AllReadyH.cons rfl (fun K hK=>?_) ?_
  ·skip
   go_simp;refine hK.out _ _ ?_ (fun hHeld4=>?_)
   ·(try dsimp only)
    (repeat' apply And.intro)<;>first
     | with_reducible exact HCV.out _ hgh
     | with_reducible exact HCV.out _ (hgh.alloc _)
     | with_reducible exact HCV.out _ hgh.drew
     | with_reducible exact HCV.out _ (hgh.alloc _).drew
     | with_reducible exact HCV.out _ hg1
     | (with_reducible refine HCV.out _ ?_
        repeat (first|with_reducible exact hg1|with_reducible refine Holds.far ?_ hggg _|with_reducible refine Holds.far ?_ hgb _)
        done)
     | (repeat (first|with_reducible exact k1|with_reducible refine cell_off (by omega) _ ?_|with_reducible refine cell_far hggb _ ?_)
        done)
     | go_keep
   clear hK K hHeld3
   (try go_frame)
   refine rdyH [17] ?_;refine AllReadyH.cons rfl (fun K hK=>?_) AllReadyH.nil;go_simp;refine hK.out _ _ ?_ (fun hHeld5=>?_)
   ·(try dsimp only)
    (repeat' apply And.intro)<;>first
     | with_reducible exact HCV.out _ hgh
     | with_reducible exact HCV.out _ (hgh.alloc _)
     | with_reducible exact HCV.out _ hgh.drew
     | with_reducible exact HCV.out _ (hgh.alloc _).drew
     | with_reducible exact HCV.out _ hg1
     | (with_reducible refine HCV.out _ ?_
        repeat (first|with_reducible exact hg1|with_reducible refine Holds.far ?_ hggg _|with_reducible refine Holds.far ?_ hgb _)
        done)
     | (repeat (first|with_reducible exact k1|with_reducible refine cell_off (by omega) _ ?_|with_reducible refine cell_far hggb _ ?_)
        done)
     | go_keep
   clear hK K hHeld4
   (try go_frame)
   refine wpAnyH_done (by kernel_rfl) ?_ _;clear hHeld5;go_wp2
   go_end0
   refine⟨rfl,.slice (some ⟨gg,0,none⟩) (r.sp.length+1) cap1,.slice (some ⟨g,0,none⟩) 0 c,?_,?_,?_,?_,?_,?_⟩
   ·repeat (first|with_reducible exact hh1|with_reducible refine Holds.set ?_ _ _|with_reducible refine Holds.far ?_ hbgg _)
   ·refine flushed_row (z0:=.int .u8 0) (z1:=.string ⟨#[]⟩) (z2:=.string ⟨#[]⟩) (z3:=.string ⟨#[]⟩) (z4:=.slice none 0 0) (S:=fun k=>k=b∨(Value.slice As r.sp.length cs').ownBlock=some k) HKL.out HRL.out (fun e=>hn (by rw[e];rfl)) HKF.out ?_ (fun k hk h=>by have:=HFF.out k hk;rcases h with h|h;exact this.2.1 h;exact this.2.2.1 h) ?_
    ·repeat (first|with_reducible exact HC0.out|with_reducible refine Chg.step ?_ HTG.out|with_reducible refine Chg.step ?_ HTB.out)
    ·repeat (first|with_reducible refine (World.ownsRow.stored ?_ _ _).1|with_reducible refine ownsRow_setCell_other ?_ hggo _)
     exact HOWN.out
   ·refine text_nil (g:=g) (cur:=cur) ht hgh ?_
    repeat (first|with_reducible exact hg1|with_reducible refine Holds.far ?_ hggg _|with_reducible refine Holds.far ?_ hgb _)
   ·refine Chg.mono (S:=fun k=>k=b∨(Value.slice As r.sp.length cs').ownBlock=some k) ?_ (fun k _ h=>by rcases h with h|h;exact .inl h;exact .inr (.inl h))
    repeat (first|with_reducible exact HC0.out|with_reducible refine Chg.step ?_ HTG.out|with_reducible refine Chg.step ?_ HTB.out)
   ·intro k hk;simp only[Value.ownBlock,Option.some.injEq] at hk;subst hk
    rcases HAT.out with h|h
    ·exact .inl h
    ·exact .inr (by omega)
   ·intro k hk;exact hk
  refine AllReadyH.cons rfl (fun K hK=>?_) AllReadyH.nil;go_simp;refine hK.out _ _ ?_ (fun hHeld4=>?_)
  ·(try dsimp only)
   (repeat' apply And.intro)<;>first
    | with_reducible exact HCV.out _ hgh
    | with_reducible exact HCV.out _ (hgh.alloc _)
    | with_reducible exact HCV.out _ hgh.drew
    | with_reducible exact HCV.out _ (hgh.alloc _).drew
    | with_reducible exact HCV.out _ hg1
    | (with_reducible refine HCV.out _ ?_
       repeat (first|with_reducible exact hg1|with_reducible refine Holds.far ?_ hggg _|with_reducible refine Holds.far ?_ hgb _)
       done)
    | (repeat (first|with_reducible exact k1|with_reducible refine cell_off (by omega) _ ?_|with_reducible refine cell_far hggb _ ?_)
       done)
    | go_keep
  clear hK K hHeld3
  (try go_frame)
  refine rdyH [14] ?_;refine AllReadyH.cons rfl (fun K hK=>?_) AllReadyH.nil;go_simp;refine hK.out _ _ ?_ (fun hHeld5=>?_)
  ·(try dsimp only)
   (repeat' apply And.intro)<;>first
    | with_reducible exact HCV.out _ hgh
    | with_reducible exact HCV.out _ (hgh.alloc _)
    | with_reducible exact HCV.out _ hgh.drew
    | with_reducible exact HCV.out _ (hgh.alloc _).drew
    | with_reducible exact HCV.out _ hg1
    | (with_reducible refine HCV.out _ ?_
       repeat (first|with_reducible exact hg1|with_reducible refine Holds.far ?_ hggg _|with_reducible refine Holds.far ?_ hgb _)
       done)
    | (repeat (first|with_reducible exact k1|with_reducible refine cell_off (by omega) _ ?_|with_reducible refine cell_far hggb _ ?_)
       done)
    | go_keep
  clear hK K hHeld4
  (try go_frame)
  refine wpAnyH_done (by kernel_rfl) ?_ _;clear hHeld5;go_wp2
  go_end0
  refine⟨rfl,.slice (some ⟨gg,0,none⟩) (r.sp.length+1) cap1,.slice (some ⟨g,0,none⟩) 0 c,?_,?_,?_,?_,?_,?_⟩
  ·repeat (first|with_reducible exact hh1|with_reducible refine Holds.set ?_ _ _|with_reducible refine Holds.far ?_ hbgg _)
  ·refine flushed_row (z0:=.int .u8 0) (z1:=.string ⟨#[]⟩) (z2:=.string ⟨#[]⟩) (z3:=.string ⟨#[]⟩) (z4:=.slice none 0 0) (S:=fun k=>k=b∨(Value.slice As r.sp.length cs').ownBlock=some k) HKL.out HRL.out (fun e=>hn (by rw[e];rfl)) HKF.out ?_ (fun k hk h=>by have:=HFF.out k hk;rcases h with h|h;exact this.2.1 h;exact this.2.2.1 h) ?_
   ·repeat (first|with_reducible exact HC0.out|with_reducible refine Chg.step ?_ HTG.out|with_reducible refine Chg.step ?_ HTB.out)
   ·repeat (first|with_reducible refine (World.ownsRow.stored ?_ _ _).1|with_reducible refine ownsRow_setCell_other ?_ hggo _)
    exact HOWN.out
  ·refine text_nil (g:=g) (cur:=cur) ht hgh ?_
   repeat (first|with_reducible exact hg1|with_reducible refine Holds.far ?_ hggg _|with_reducible refine Holds.far ?_ hgb _)
  ·refine Chg.mono (S:=fun k=>k=b∨(Value.slice As r.sp.length cs').ownBlock=some k) ?_ (fun k _ h=>by rcases h with h|h;exact .inl h;exact .inr (.inl h))
   repeat (first|with_reducible exact HC0.out|with_reducible refine Chg.step ?_ HTG.out|with_reducible refine Chg.step ?_ HTB.out)
  ·intro k hk;simp only[Value.ownBlock,Option.some.injEq] at hk;subst hk
   rcases HAT.out with h|h
   ·exact .inl h
   ·exact .inr (by omega)
  ·intro k hk;exact hk
def RowTo (w:World) (B:Nat) (F:Nat→Prop) (b off:Nat) (cs:Array Value) (t:TypeId) (sv tv:Value) (r':Rw) (w':World):Prop :=
 ∃sv' tv',Holds w' b t ((cs.setIfInBounds off sv').setIfInBounds (off+1) tv')∧SpanRow w' B tS F sv' r'.sp∧TextRow w' B tv' r'.tx∧Chg w w' (fun k=>k=b∨sv.ownBlock=some k∨tv.ownBlock=some k) ∧
  (∀k,sv'.ownBlock=some k→sv.ownBlock=some k∨w.heap.size≤k)∧(∀k,tv'.ownBlock=some k→tv.ownBlock=some k∨w.heap.size≤k)
theorem cells5 {w:World}{x:Nat}{t:TypeId}{a b c d e:Value} (h:Holds w x t #[a,b,c,d,e]):w.cell? ⟨x,0,none⟩=some a∧w.cell? ⟨x,1,none⟩=some b∧w.cell? ⟨x,2,none⟩=some c∧w.cell? ⟨x,3,none⟩=some d∧w.cell? ⟨x,4,none⟩=some e :=
 ⟨h.cell 0,h.cell 1,h.cell 2,h.cell 3,h.cell 4⟩
section
variable {w:World} {B:Nat} {col:Nat→Nat} {pb ob cap len:Nat} {s:ByteArray} {st:Pst} {i:Nat} {fv:Value} {gb:Nat} {cs:Array Value} {gn:List Bs}
theorem PSx.drewN (h:PSx Tryz.prog w B col pb ob cap len s st i fv gb cs gn) (n:Nat):PSx Tryz.prog (w.drewN n) B col pb ob cap len s st i fv gb cs gn :=
 h.keep ((Chg.refl w (fun _=>False)).drewN n) (fun _ h=>h.elim)
theorem top_any {n:Nat} (h:PSx Tryz.prog w B col pb ob cap (n+1) s st i fv gb cs gn) (hn:n≤1000) :
  Calls Tryz.prog 182 #[.pointer (some ⟨pb,0,none⟩)] w fun e w'=>e=.returned (.pointer (some ⟨ob,n*5,none⟩))∧∃k,w.drewN k=w':=by
 have c1:=h.hp.cell 1;have e1:IntKind.i64.wrap ((n:Int)+1-1)=(n:Int):=by
  rw[show (n:Int)+1-1=n by omega];exact IntWalk.i64_in _ (by omega)
 have e2:((n:Int)+1-1)=(n:Int):=by omega
 have hi1:n<n+1:=by omega
 clear h
 go_enter Tryz.func182,Tryz.ntmps182
 go_wp2
 go_quiet (fail)
 go_wp2
 go_ret
 exact⟨rfl,_,rfl⟩
theorem frame_info:(Tryz.prog.info? 254).map (fun i=>(i.zero,i.size,i.bytes))=some (some (.agg #[.slice none 0 0,.slice none 0 0,.int .u8 0,.string ⟨#[]⟩,.int .i64 0]),5,80):=by kernel_rfl
theorem frame_cells {f:Fr}{sv tv:Value}{k:Nat} (h:FrAt w B col cs k f sv tv) (ho:Holds w ob tF cs) :
  w.cell? ⟨ob,k*5,none⟩=some sv∧w.cell? ⟨ob,k*5+1,none⟩=some tv∧w.cell? ⟨ob,k*5+2,none⟩=some (.int .u8 (f.kind:Int))∧w.cell? ⟨ob,k*5+3,none⟩=some (strV f.sign)∧w.cell? ⟨ob,k*5+4,none⟩=some (.int .i64 (f.at':Int)) :=
 ⟨(ho.cell _).trans h.c0,(ho.cell _).trans h.c1,(ho.cell _).trans h.c2,(ho.cell _).trans h.c3,(ho.cell _).trans h.c4⟩
end
section
variable {w:World} {B:Nat} {col:Nat→Nat} {pb ob cap len:Nat} {s:ByteArray} {st:Pst} {i:Nat} {fv:Value} {gb:Nat} {cs:Array Value} {gn:List Bs}
theorem psRowTo (h:PSx Tryz.prog w B col pb ob cap len s st i fv gb cs gn){f:Fr}{r:List Fr} (hfs:st.fs=f::r){sv tv:Value} (hfr:FrAt w B col cs r.length f sv tv){w':World}{row':Rw}
  (hR:RowTo w B (col ·=4) ob (r.length*5) cs tF sv tv row' w'):∃col' cs',PSx Tryz.prog w' B col' pb ob cap len s { st with fs:={ f with row:=row' } :: r } i fv gb cs' gn∧Stay B w w' col col':=by
 obtain⟨sv',tv',k1,k2,k3,k4,k5,k6⟩:=hR;obtain⟨col',h1,h2⟩:=h.put hfs hfr k4 (fun b hb=>hb) k1 k2 k3 k5 k6;exact⟨col',_,h1,h2⟩
theorem psAway (h:PSx Tryz.prog w B col pb ob cap len s st i fv gb cs gn){f:Fr}{k:Nat}{sv tv:Value} (hfr:FrAt w B col cs k f sv tv):sv.ownBlock≠some ob∧tv.ownBlock≠some ob∧∀b,col b=4→b<w.heap.size∧b≠ob∧sv.ownBlock≠some b∧tv.ownBlock≠some b:=by
 refine⟨fun e=>?_,fun e=>?_,fun b hb=>⟨h.lt4 hb,fun e=>?_,fun e=>?_,fun e=>?_⟩⟩
 ·have:=hfr.csp _ e;have:=h.co;omega
 ·have:=hfr.ctx _ e;have:=h.co;omega
 ·subst e;have:=h.co;omega
 ·have:=hfr.csp _ e;omega
 ·have:=hfr.ctx _ e;omega
theorem psBase (h:PSx Tryz.prog w B col pb ob cap len s st i fv gb cs gn):B≤w.heap.size:=by have:=h.hpB;have:=h.hp.lt;omega
theorem writeTop_any (h:PSx Tryz.prog w B col pb ob cap len s st i fv gb cs gn){f:Fr}{r:List Fr} (hfs:st.fs=f::r) (x:ByteArray) (hx:x.size≤10000000000) (hl:f.row.tx.length≤10000000000) :
  Calls Tryz.prog 216 #[.pointer (some ⟨ob,r.length*5,none⟩),.string x] w fun e w'=>e=.returned (.tuple #[]) ∧
   ∃col' cs',PSx Tryz.prog w' B col' pb ob cap len s (st.write x.data.toList) i fv gb cs' gn∧Stay B w w' col col':=by
 obtain⟨sv,tv,hfr⟩:=h.fr r.length f (by rw[hfs];exact rev_last f r);obtain⟨a1,a2,a3⟩:=psAway h hfr;refine (write_any ob (r.length*5) cs tF tv f.row.tx x w B h.ho hfr.c1 hfr.tx a2 (psBase h) hl hx).mono ?_;rintro e w' ⟨he,tv',k1,k2,k3,k4⟩;refine⟨he,?_⟩;have hR:RowTo w B (col ·=4) ob (r.length*5) cs tF sv tv (f.row.write x.data.toList) w':=by
  refine⟨sv,tv',by rw[set_same hfr.c0];exact k1,?_,k2,k3.mono (fun k _ h=>by rcases h with h|h;exact .inl h;exact .inr (.inr h)),fun k h=>.inl h,fun k hk=>k4.old k hk⟩;refine hfr.sp.chg k3 (fun _ h=>h) (fun b hb h=>by have:=a3 b hb;rcases h with h|h;exact this.2.1 h;exact this.2.2.2 h) (fun b hb h=>?_)
  rcases h with h|h
  ·exact a1 (by rw[hb,h])
  ·have:=hfr.csp b hb;have:=hfr.ctx b h;omega
 obtain⟨col',cs',h1,h2⟩:=psRowTo h hfs hfr hR;refine⟨col',cs',?_,h2⟩;have e:st.write x.data.toList={ st with fs:={ f with row:=f.row.write x.data.toList } :: r }:=by simp[Pst.write,Pst.top,onTop,hfs]
 rw[e];exact h1
theorem flushTop_any (h:PSx Tryz.prog w B col pb ob cap len s st i fv gb cs gn){f:Fr}{r:List Fr} (hfs:st.fs=f::r) (hl:f.row.sp.length≤1000000000) (hl2:f.row.tx.length≤1000000000) :
  Calls Tryz.prog 183 #[.pointer (some ⟨ob,r.length*5,none⟩)] w fun e w'=>e=.returned (.tuple #[]) ∧
   ∃col' cs',PSx Tryz.prog w' B col' pb ob cap len s (st.top (·.flush)) i fv gb cs' gn∧Stay B w w' col col':=by
 obtain⟨sv,tv,hfr⟩:=h.fr r.length f (by rw[hfs];exact rev_last f r);obtain⟨a1,a2,a3⟩:=psAway h hfr;refine (flush_any ob (r.length*5) cs tF sv tv f.row w B (col ·=4) h.ho hfr.c0 hfr.c1 hfr.sp hfr.tx a1 a2 a3 (psBase h) (by omega) (by omega)).mono ?_;rintro e w' ⟨he,sv',tv',k1,k2,k3,k4,k5,k6⟩;have hft:f.row.flush.tx=[]:=by unfold Rw.flush;split<;>rfl
 have hR:RowTo w B (col ·=4) ob (r.length*5) cs tF sv tv f.row.flush w':=⟨sv',tv',k1,k2,by rw[hft];exact k3,k4,k5,fun k hk=>.inl (k6 k hk)⟩;obtain⟨col',cs',h1,h2⟩:=psRowTo h hfs hfr hR;refine⟨he,col',cs',?_,h2⟩;have e:st.top (·.flush)={ st with fs:={ f with row:=f.row.flush } :: r }:=by simp[Pst.top,onTop,hfs]
 rw[e];exact h1
end
end Go.Proofs.YtkdknllcllhpgaaGreatDoor
namespace Go.Bd
open Go.RowKit
theorem wp_scope_label {P:Program}{a:Act}{w:World}{Q:Exit→Act→World→Prop}{rest:Code} (l:Nat) (J:Act→World→Prop) (μ:Act→World→Nat) (h0:J a w)
  (pass:∀a w,J a w→rest.wp P (Exit.jump l (fun a' w'=>J a' w'∧μ a' w'<μ a w) Q) a w):(Code.scope ((Code.label l).seq rest)).wp P Q a w:=by
 refine wp_scope_jumps (rest:=Code.seq .skip rest) l J μ (by simp[findLabel]) ?_ (fun a w hJ=>wp_seq (wp_skip (pass a w hJ)));refine wp_seq (wp_label ?_);refine Code.wp_mono (fun e a w h=>?_) (pass a w h0);cases e<;>first|exact h|exact⟨h.1,h.2.1⟩
theorem Stay.undrew {w w':World}{B k:Nat}{col col':Nat→Nat} (h:Stay B (w.drewN k) w' col col'):Stay B w w' col col' :=
 ⟨(Go.below_drewN (Below.refl B w) k).trans h.below,h.tree⟩
end Go.Bd
namespace Go.Proofs.YtkdknllcllhpgaaGreatDoor
open Go.RowKit Go.Bd
section
variable {w:World} {B:Nat} {col:Nat→Nat} {pb ob cap len:Nat} {s:ByteArray} {st:Pst} {i:Nat} {fv:Value} {gb:Nat} {cs:Array Value} {gn:List Bs}
end
section
variable {w:World} {B:Nat} {col:Nat→Nat} {pb ob cap len:Nat} {s:ByteArray} {st:Pst} {i:Nat} {fv:Value} {gb:Nat} {cs:Array Value} {gn:List Bs}
end
end Go.Proofs.YtkdknllcllhpgaaGreatDoor
namespace Go.Proofs
open Go.Shelf
def Tryz.lays169_ren:Go.Shelf.Ren:=⟨fun|169=>60|n=>n,fun|70=>115|9=>9|0=>0|72=>118|37=>116|127=>154|3=>3|5=>5|n=>n,fun|n=>n⟩
theorem Tryz.lays169:Go.Proofs.Lays.n169 Tryz.prog Tryz.lays169_ren:={
 mixed:=by kernel_rfl
 f169:=Tryz.func60.trans (congrArg some (by kernel_rfl))
 t0:=Tryz.underlying0
 a0:=Tryz.isAgg0
 z0:=Tryz.sizeOf0
 v0:=Tryz.zeroValue0
 t3:=Tryz.underlying3
 a3:=Tryz.isAgg3
 z3:=Tryz.sizeOf3
 v3:=Tryz.zeroValue3
 t9:=Tryz.underlying9
 a9:=Tryz.isAgg9
 z9:=Tryz.sizeOf9
 v9:=Tryz.zeroValue9
 t37:=Tryz.underlying116
 a37:=Tryz.isAgg116
 z37:=Tryz.sizeOf116
 v37:=Tryz.zeroValue116
 t70:=Tryz.underlying115
 a70:=Tryz.isAgg115
 z70:=Tryz.sizeOf115
 v70:=Tryz.zeroValue115
 t72:=Tryz.underlying118
 a72:=Tryz.isAgg118
 z72:=Tryz.sizeOf118
 v72:=Tryz.zeroValue118
 t127:=Tryz.underlying154
 a127:=Tryz.isAgg154
 z127:=Tryz.sizeOf154
 v127:=Tryz.zeroValue154 }
theorem Tryz.Builder_Extra_169:Builder.Extra Tryz.prog Tryz.lays169_ren:={
 sizeBuilder:=by kernel_rfl
 liesBuilder:=by kernel_rfl
 t5:=Tryz.underlying5
 a5:=Tryz.isAgg5
 z5:=Tryz.sizeOf5
 v5:=Tryz.zeroValue5
 infoByte:=by kernel_rfl
 cellsByte:=by kernel_rfl
 sizeByte:=by kernel_rfl
 neB5:=by decide }
open Go.RowKit in
theorem Tryz.Builder_String_any (B b:Nat) (l:List UInt8) (w:World) (h:Lib.IsBuilder 118 5 B b (Lib.byteCells l) w) (hBw:B≤w.heap.size) :
  Calls Tryz.prog 60 #[.pointer (some ⟨b,0,none⟩)] w fun e w'=>e=.returned (.string ⟨l.toArray⟩)∧Below B w w':=Any.Builder_String_any Tryz.lays169 Tryz.Builder_Extra_169 B b l w h hBw
def Tryz.lays156_ren:Go.Shelf.Ren:=⟨fun|156=>146|165=>197|166=>97|169=>60|240=>147|241=>234|276=>198|277=>257|n=>n,fun|31=>24|9=>9|3=>3|4=>4|0=>0|20=>20|72=>118|76=>152|70=>115|37=>116|75=>151|127=>154|164=>266|5=>5|80=>120|n=>n,fun|n=>n⟩
theorem Tryz.lays156:Go.Proofs.Lays.n156 Tryz.prog Tryz.lays156_ren:={
 mixed:=by kernel_rfl
 f156:=Tryz.func146.trans (congrArg some (by kernel_rfl))
 f165:=Tryz.func197.trans (congrArg some (by kernel_rfl))
 f166:=Tryz.func97.trans (congrArg some (by kernel_rfl))
 f169:=Tryz.func60.trans (congrArg some (by kernel_rfl))
 f240:=Tryz.func147.trans (congrArg some (by kernel_rfl))
 f241:=Tryz.func234.trans (congrArg some (by kernel_rfl))
 f276:=Tryz.func198.trans (congrArg some (by kernel_rfl))
 f277:=Tryz.func257.trans (congrArg some (by kernel_rfl))
 t0:=Tryz.underlying0
 a0:=Tryz.isAgg0
 z0:=Tryz.sizeOf0
 v0:=Tryz.zeroValue0
 t3:=Tryz.underlying3
 a3:=Tryz.isAgg3
 z3:=Tryz.sizeOf3
 v3:=Tryz.zeroValue3
 t4:=Tryz.underlying4
 a4:=Tryz.isAgg4
 z4:=Tryz.sizeOf4
 v4:=Tryz.zeroValue4
 t9:=Tryz.underlying9
 a9:=Tryz.isAgg9
 z9:=Tryz.sizeOf9
 v9:=Tryz.zeroValue9
 t20:=Tryz.underlying20
 a20:=Tryz.isAgg20
 z20:=Tryz.sizeOf20
 v20:=Tryz.zeroValue20
 t31:=Tryz.underlying24
 a31:=Tryz.isAgg24
 z31:=Tryz.sizeOf24
 v31:=Tryz.zeroValue24
 t37:=Tryz.underlying116
 a37:=Tryz.isAgg116
 z37:=Tryz.sizeOf116
 v37:=Tryz.zeroValue116
 t70:=Tryz.underlying115
 a70:=Tryz.isAgg115
 z70:=Tryz.sizeOf115
 v70:=Tryz.zeroValue115
 t72:=Tryz.underlying118
 a72:=Tryz.isAgg118
 z72:=Tryz.sizeOf118
 v72:=Tryz.zeroValue118
 t75:=Tryz.underlying151
 a75:=Tryz.isAgg151
 z75:=Tryz.sizeOf151
 v75:=Tryz.zeroValue151
 t76:=Tryz.underlying152
 a76:=Tryz.isAgg152
 z76:=Tryz.sizeOf152
 v76:=Tryz.zeroValue152
 t127:=Tryz.underlying154
 a127:=Tryz.isAgg154
 z127:=Tryz.sizeOf154
 v127:=Tryz.zeroValue154
 t164:=Tryz.underlying266
 a164:=Tryz.isAgg266
 z164:=Tryz.sizeOf266
 v164:=Tryz.zeroValue266 }
theorem Tryz.Builder_Extra_156:Builder.Extra Tryz.prog Tryz.lays156_ren:={
 sizeBuilder:=by kernel_rfl
 liesBuilder:=by kernel_rfl
 t5:=Tryz.underlying5
 a5:=Tryz.isAgg5
 z5:=Tryz.sizeOf5
 v5:=Tryz.zeroValue5
 infoByte:=by kernel_rfl
 cellsByte:=by kernel_rfl
 sizeByte:=by kernel_rfl
 neB5:=by decide }
open Go.RowKit in
theorem Tryz.strings_Join (bk o c:Nat) (xs:List ByteArray) (sep:ByteArray) (w:World) (hcells:∀(j:Nat) x,xs[j]? = some x→w.cell? ⟨bk,o+j,none⟩=some (.string x)) (hbk:bk<w.heap.size) (hN:xs.length≤140737488355328) (hcap:xs.length≤c) (hlen:(Lib.join (xs.map (·.data.toList)) sep.data.toList).length≤140737488355328) :
  Calls Tryz.prog 146 #[.slice (some ⟨bk,o,none⟩) xs.length c,.string sep] w fun e w'=>e=.returned (.string ⟨(Lib.join (xs.map (·.data.toList)) sep.data.toList).toArray⟩)∧Below w.heap.size w w':=Any.strings_Join Tryz.lays156 Tryz.Builder_Extra_156 bk o c xs sep w hcells hbk hN hcap hlen
def Tryz.lays161_ren:Go.Shelf.Ren:=⟨fun|161=>88|231=>130|227=>128|233=>131|235=>132|228=>129|197=>191|151=>192|260=>231|152=>126|137=>187|119=>188|224=>189|225=>190|217=>230|266=>256|n=>n,fun|9=>9|4=>4|3=>3|5=>5|117=>202|116=>201|0=>0|124=>206|105=>262|21=>21|119=>305|46=>194|139=>308|138=>307|n=>n,fun|3=>1|4=>2|n=>n⟩
theorem Tryz.lays161:Go.Proofs.Lays.n161 Tryz.prog Tryz.lays161_ren:={
 mixed:=by kernel_rfl
 f119:=Tryz.func188.trans (congrArg some (by kernel_rfl))
 f137:=Tryz.func187.trans (congrArg some (by kernel_rfl))
 f151:=Tryz.func192.trans (congrArg some (by kernel_rfl))
 f152:=Tryz.func126.trans (congrArg some (by kernel_rfl))
 f161:=Tryz.func88.trans (congrArg some (by kernel_rfl))
 f197:=Tryz.func191.trans (congrArg some (by kernel_rfl))
 f217:=Tryz.func230.trans (congrArg some (by kernel_rfl))
 f224:=Tryz.func189.trans (congrArg some (by kernel_rfl))
 f225:=Tryz.func190.trans (congrArg some (by kernel_rfl))
 f227:=Tryz.func128.trans (congrArg some (by kernel_rfl))
 f228:=Tryz.func129.trans (congrArg some (by kernel_rfl))
 f231:=Tryz.func130.trans (congrArg some (by kernel_rfl))
 f233:=Tryz.func131.trans (congrArg some (by kernel_rfl))
 f235:=Tryz.func132.trans (congrArg some (by kernel_rfl))
 f260:=Tryz.func231.trans (congrArg some (by kernel_rfl))
 f266:=Tryz.func256.trans (congrArg some (by kernel_rfl))
 t0:=Tryz.underlying0
 a0:=Tryz.isAgg0
 z0:=Tryz.sizeOf0
 v0:=Tryz.zeroValue0
 t3:=Tryz.underlying3
 a3:=Tryz.isAgg3
 z3:=Tryz.sizeOf3
 v3:=Tryz.zeroValue3
 t4:=Tryz.underlying4
 a4:=Tryz.isAgg4
 z4:=Tryz.sizeOf4
 v4:=Tryz.zeroValue4
 t5:=Tryz.underlying5
 a5:=Tryz.isAgg5
 z5:=Tryz.sizeOf5
 v5:=Tryz.zeroValue5
 t9:=Tryz.underlying9
 a9:=Tryz.isAgg9
 z9:=Tryz.sizeOf9
 v9:=Tryz.zeroValue9
 t21:=Tryz.underlying21
 a21:=Tryz.isAgg21
 z21:=Tryz.sizeOf21
 v21:=Tryz.zeroValue21
 t46:=Tryz.underlying194
 a46:=Tryz.isAgg194
 z46:=Tryz.sizeOf194
 v46:=Tryz.zeroValue194
 t105:=Tryz.underlying262
 a105:=Tryz.isAgg262
 z105:=Tryz.sizeOf262
 v105:=Tryz.zeroValue262
 t116:=Tryz.underlying201
 a116:=Tryz.isAgg201
 z116:=Tryz.sizeOf201
 t117:=Tryz.underlying202
 a117:=Tryz.isAgg202
 z117:=Tryz.sizeOf202
 v117:=Tryz.zeroValue202
 t119:=Tryz.underlying305
 a119:=Tryz.isAgg305
 z119:=Tryz.sizeOf305
 t124:=Tryz.underlying206
 a124:=Tryz.isAgg206
 z124:=Tryz.sizeOf206
 v124:=Tryz.zeroValue206
 t138:=Tryz.underlying307
 a138:=Tryz.isAgg307
 z138:=Tryz.sizeOf307
 v138:=Tryz.zeroValue307
 t139:=Tryz.underlying308
 a139:=Tryz.isAgg308
 z139:=Tryz.sizeOf308
 v139:=Tryz.zeroValue308
 g3:=by kernel_rfl
 g4:=by kernel_rfl }
def Tryz.lays162_ren:Go.Shelf.Ren:=⟨fun|162=>194|232=>134|227=>128|234=>135|236=>136|228=>129|271=>195|151=>192|120=>232|197=>191|152=>126|260=>231|137=>187|119=>188|224=>189|225=>190|217=>230|266=>256|n=>n,fun|9=>9|4=>4|3=>3|5=>5|117=>202|116=>201|0=>0|124=>206|21=>21|105=>262|46=>194|119=>305|139=>308|138=>307|n=>n,fun|3=>1|4=>2|n=>n⟩
theorem Tryz.lays162:Go.Proofs.Lays.n162 Tryz.prog Tryz.lays162_ren:={
 mixed:=by kernel_rfl
 f119:=Tryz.func188.trans (congrArg some (by kernel_rfl))
 f120:=Tryz.func232.trans (congrArg some (by kernel_rfl))
 f137:=Tryz.func187.trans (congrArg some (by kernel_rfl))
 f151:=Tryz.func192.trans (congrArg some (by kernel_rfl))
 f152:=Tryz.func126.trans (congrArg some (by kernel_rfl))
 f162:=Tryz.func194.trans (congrArg some (by kernel_rfl))
 f197:=Tryz.func191.trans (congrArg some (by kernel_rfl))
 f217:=Tryz.func230.trans (congrArg some (by kernel_rfl))
 f224:=Tryz.func189.trans (congrArg some (by kernel_rfl))
 f225:=Tryz.func190.trans (congrArg some (by kernel_rfl))
 f227:=Tryz.func128.trans (congrArg some (by kernel_rfl))
 f228:=Tryz.func129.trans (congrArg some (by kernel_rfl))
 f232:=Tryz.func134.trans (congrArg some (by kernel_rfl))
 f234:=Tryz.func135.trans (congrArg some (by kernel_rfl))
 f236:=Tryz.func136.trans (congrArg some (by kernel_rfl))
 f260:=Tryz.func231.trans (congrArg some (by kernel_rfl))
 f266:=Tryz.func256.trans (congrArg some (by kernel_rfl))
 f271:=Tryz.func195.trans (congrArg some (by kernel_rfl))
 t0:=Tryz.underlying0
 a0:=Tryz.isAgg0
 z0:=Tryz.sizeOf0
 v0:=Tryz.zeroValue0
 t3:=Tryz.underlying3
 a3:=Tryz.isAgg3
 z3:=Tryz.sizeOf3
 v3:=Tryz.zeroValue3
 t4:=Tryz.underlying4
 a4:=Tryz.isAgg4
 z4:=Tryz.sizeOf4
 v4:=Tryz.zeroValue4
 t5:=Tryz.underlying5
 a5:=Tryz.isAgg5
 z5:=Tryz.sizeOf5
 v5:=Tryz.zeroValue5
 t9:=Tryz.underlying9
 a9:=Tryz.isAgg9
 z9:=Tryz.sizeOf9
 v9:=Tryz.zeroValue9
 t21:=Tryz.underlying21
 a21:=Tryz.isAgg21
 z21:=Tryz.sizeOf21
 v21:=Tryz.zeroValue21
 t46:=Tryz.underlying194
 a46:=Tryz.isAgg194
 z46:=Tryz.sizeOf194
 v46:=Tryz.zeroValue194
 t105:=Tryz.underlying262
 a105:=Tryz.isAgg262
 z105:=Tryz.sizeOf262
 v105:=Tryz.zeroValue262
 t116:=Tryz.underlying201
 a116:=Tryz.isAgg201
 z116:=Tryz.sizeOf201
 t117:=Tryz.underlying202
 a117:=Tryz.isAgg202
 z117:=Tryz.sizeOf202
 v117:=Tryz.zeroValue202
 t119:=Tryz.underlying305
 a119:=Tryz.isAgg305
 z119:=Tryz.sizeOf305
 t124:=Tryz.underlying206
 a124:=Tryz.isAgg206
 z124:=Tryz.sizeOf206
 v124:=Tryz.zeroValue206
 t138:=Tryz.underlying307
 a138:=Tryz.isAgg307
 z138:=Tryz.sizeOf307
 v138:=Tryz.zeroValue307
 t139:=Tryz.underlying308
 a139:=Tryz.isAgg308
 z139:=Tryz.sizeOf308
 v139:=Tryz.zeroValue308
 g3:=by kernel_rfl
 g4:=by kernel_rfl }
def Tryz.lays160_ren:Go.Shelf.Ren:=⟨fun|160=>90|232=>134|231=>130|227=>128|234=>135|233=>131|236=>136|235=>132|228=>129|271=>195|151=>192|197=>191|120=>232|152=>126|260=>231|137=>187|119=>188|224=>189|225=>190|217=>230|266=>256|n=>n,fun|9=>9|4=>4|3=>3|5=>5|117=>202|116=>201|0=>0|124=>206|21=>21|105=>262|46=>194|119=>305|139=>308|138=>307|n=>n,fun|3=>1|4=>2|n=>n⟩
theorem Tryz.lays160:Go.Proofs.Lays.n160 Tryz.prog Tryz.lays160_ren:={
 mixed:=by kernel_rfl
 f119:=Tryz.func188.trans (congrArg some (by kernel_rfl))
 f120:=Tryz.func232.trans (congrArg some (by kernel_rfl))
 f137:=Tryz.func187.trans (congrArg some (by kernel_rfl))
 f151:=Tryz.func192.trans (congrArg some (by kernel_rfl))
 f152:=Tryz.func126.trans (congrArg some (by kernel_rfl))
 f160:=Tryz.func90.trans (congrArg some (by kernel_rfl))
 f197:=Tryz.func191.trans (congrArg some (by kernel_rfl))
 f217:=Tryz.func230.trans (congrArg some (by kernel_rfl))
 f224:=Tryz.func189.trans (congrArg some (by kernel_rfl))
 f225:=Tryz.func190.trans (congrArg some (by kernel_rfl))
 f227:=Tryz.func128.trans (congrArg some (by kernel_rfl))
 f228:=Tryz.func129.trans (congrArg some (by kernel_rfl))
 f231:=Tryz.func130.trans (congrArg some (by kernel_rfl))
 f232:=Tryz.func134.trans (congrArg some (by kernel_rfl))
 f233:=Tryz.func131.trans (congrArg some (by kernel_rfl))
 f234:=Tryz.func135.trans (congrArg some (by kernel_rfl))
 f235:=Tryz.func132.trans (congrArg some (by kernel_rfl))
 f236:=Tryz.func136.trans (congrArg some (by kernel_rfl))
 f260:=Tryz.func231.trans (congrArg some (by kernel_rfl))
 f266:=Tryz.func256.trans (congrArg some (by kernel_rfl))
 f271:=Tryz.func195.trans (congrArg some (by kernel_rfl))
 t0:=Tryz.underlying0
 a0:=Tryz.isAgg0
 z0:=Tryz.sizeOf0
 v0:=Tryz.zeroValue0
 t3:=Tryz.underlying3
 a3:=Tryz.isAgg3
 z3:=Tryz.sizeOf3
 v3:=Tryz.zeroValue3
 t4:=Tryz.underlying4
 a4:=Tryz.isAgg4
 z4:=Tryz.sizeOf4
 v4:=Tryz.zeroValue4
 t5:=Tryz.underlying5
 a5:=Tryz.isAgg5
 z5:=Tryz.sizeOf5
 v5:=Tryz.zeroValue5
 t9:=Tryz.underlying9
 a9:=Tryz.isAgg9
 z9:=Tryz.sizeOf9
 v9:=Tryz.zeroValue9
 t21:=Tryz.underlying21
 a21:=Tryz.isAgg21
 z21:=Tryz.sizeOf21
 v21:=Tryz.zeroValue21
 t46:=Tryz.underlying194
 a46:=Tryz.isAgg194
 z46:=Tryz.sizeOf194
 v46:=Tryz.zeroValue194
 t105:=Tryz.underlying262
 a105:=Tryz.isAgg262
 z105:=Tryz.sizeOf262
 v105:=Tryz.zeroValue262
 t116:=Tryz.underlying201
 a116:=Tryz.isAgg201
 z116:=Tryz.sizeOf201
 t117:=Tryz.underlying202
 a117:=Tryz.isAgg202
 z117:=Tryz.sizeOf202
 v117:=Tryz.zeroValue202
 t119:=Tryz.underlying305
 a119:=Tryz.isAgg305
 z119:=Tryz.sizeOf305
 t124:=Tryz.underlying206
 a124:=Tryz.isAgg206
 z124:=Tryz.sizeOf206
 v124:=Tryz.zeroValue206
 t138:=Tryz.underlying307
 a138:=Tryz.isAgg307
 z138:=Tryz.sizeOf307
 v138:=Tryz.zeroValue307
 t139:=Tryz.underlying308
 a139:=Tryz.isAgg308
 z139:=Tryz.sizeOf308
 v139:=Tryz.zeroValue308
 g3:=by kernel_rfl
 g4:=by kernel_rfl }
def Tryz.lays119_ren:Go.Shelf.Ren:=⟨fun|119=>188|n=>n,fun|21=>21|4=>4|n=>n,fun|n=>n⟩
theorem Tryz.lays119:Go.Proofs.Lays.n119 Tryz.prog Tryz.lays119_ren:={
 mixed:=by kernel_rfl
 f119:=Tryz.func188.trans (congrArg some (by kernel_rfl))
 t4:=Tryz.underlying4
 a4:=Tryz.isAgg4
 z4:=Tryz.sizeOf4
 v4:=Tryz.zeroValue4
 t21:=Tryz.underlying21
 a21:=Tryz.isAgg21
 z21:=Tryz.sizeOf21
 v21:=Tryz.zeroValue21 }
theorem Tryz.utf8_ValidRune (r:Int) (w:World) :
  Calls Tryz.prog 188 #[.int .i32 r] w fun e w'=>e=.returned (.bool (Lib.validRune r))∧w'=w:=Any.utf8_ValidRune Tryz.lays119 r w
def Tryz.lays125_ren:Go.Shelf.Ren:=⟨fun|125=>124|128=>178|129=>179|n=>n,fun|46=>194|3=>3|51=>239|53=>241|4=>4|5=>5|9=>9|n=>n,fun|n=>n⟩
theorem Tryz.lays125:Go.Proofs.Lays.n125 Tryz.prog Tryz.lays125_ren:={
 mixed:=by kernel_rfl
 f125:=Tryz.func124.trans (congrArg some (by kernel_rfl))
 f128:=Tryz.func178.trans (congrArg some (by kernel_rfl))
 f129:=Tryz.func179.trans (congrArg some (by kernel_rfl))
 t3:=Tryz.underlying3
 a3:=Tryz.isAgg3
 z3:=Tryz.sizeOf3
 v3:=Tryz.zeroValue3
 t4:=Tryz.underlying4
 a4:=Tryz.isAgg4
 z4:=Tryz.sizeOf4
 v4:=Tryz.zeroValue4
 t5:=Tryz.underlying5
 a5:=Tryz.isAgg5
 z5:=Tryz.sizeOf5
 v5:=Tryz.zeroValue5
 t9:=Tryz.underlying9
 a9:=Tryz.isAgg9
 z9:=Tryz.sizeOf9
 v9:=Tryz.zeroValue9
 t46:=Tryz.underlying194
 a46:=Tryz.isAgg194
 z46:=Tryz.sizeOf194
 v46:=Tryz.zeroValue194
 t51:=Tryz.underlying239
 a51:=Tryz.isAgg239
 z51:=Tryz.sizeOf239
 v51:=Tryz.zeroValue239
 t53:=Tryz.underlying241
 a53:=Tryz.isAgg241
 z53:=Tryz.sizeOf241
 v53:=Tryz.zeroValue241 }
theorem Tryz.bits_Len (x:Int) (w:World) (h0:0≤x) (h1:x≤18446744073709551615) :
  Calls Tryz.prog 124 #[.int .u64 x] w fun e w'=>e=.returned (.int .i64 (Lib.bitLen x.toNat))∧w'=w:=Any.bits_Len Tryz.lays125 x w h0 h1
def Tryz.lays137_ren:Go.Shelf.Ren:=⟨fun|137=>187|217=>230|266=>256|n=>n,fun|9=>9|5=>5|3=>3|n=>n,fun|n=>n⟩
theorem Tryz.lays137:Go.Proofs.Lays.n137 Tryz.prog Tryz.lays137_ren:={
 mixed:=by kernel_rfl
 f137:=Tryz.func187.trans (congrArg some (by kernel_rfl))
 f217:=Tryz.func230.trans (congrArg some (by kernel_rfl))
 f266:=Tryz.func256.trans (congrArg some (by kernel_rfl))
 t3:=Tryz.underlying3
 a3:=Tryz.isAgg3
 z3:=Tryz.sizeOf3
 v3:=Tryz.zeroValue3
 t5:=Tryz.underlying5
 a5:=Tryz.isAgg5
 z5:=Tryz.sizeOf5
 v5:=Tryz.zeroValue5
 t9:=Tryz.underlying9
 a9:=Tryz.isAgg9
 z9:=Tryz.sizeOf9
 v9:=Tryz.zeroValue9 }
open Go.RowKit in
theorem Tryz.strings_IndexByte (s:ByteArray) (c:Int) (w:World) :
  Calls Tryz.prog 187 #[.string s,.int .u8 c] w fun e w'=>e=.returned (.int .i64 (Lib.indexByte s.data.toList c.toNat.toUInt8))∧w'=w:=Any.strings_IndexByte Tryz.lays137 s c w
def Tryz.lays99_ren:Go.Shelf.Ren:=⟨fun|99=>94|206=>140|n=>n,fun|9=>9|4=>4|3=>3|n=>n,fun|n=>n⟩
theorem Tryz.lays99:Go.Proofs.Lays.n99 Tryz.prog Tryz.lays99_ren:={
 mixed:=by kernel_rfl
 f99:=Tryz.func94.trans (congrArg some (by kernel_rfl))
 f206:=Tryz.func140.trans (congrArg some (by kernel_rfl))
 t3:=Tryz.underlying3
 a3:=Tryz.isAgg3
 z3:=Tryz.sizeOf3
 v3:=Tryz.zeroValue3
 t4:=Tryz.underlying4
 a4:=Tryz.isAgg4
 z4:=Tryz.sizeOf4
 v4:=Tryz.zeroValue4
 t9:=Tryz.underlying9
 a9:=Tryz.isAgg9
 z9:=Tryz.sizeOf9
 v9:=Tryz.zeroValue9 }
open Go.RowKit Go.Lib in
theorem Tryz.strings_HasPrefix (s p:ByteArray) (w:World) :
  Calls Tryz.prog 94 #[.string s,.string p] w fun e w'=>e=.returned (.bool (Lib.hasPrefix s.data.toList p.data.toList))∧w'=w:=Any.strings_HasPrefix Tryz.lays99 s p w
def Tryz.lays102_ren:Go.Shelf.Ren:=⟨fun|102=>168|209=>208|207=>242|n=>n,fun|9=>9|4=>4|3=>3|n=>n,fun|n=>n⟩
theorem Tryz.lays102:Go.Proofs.Lays.n102 Tryz.prog Tryz.lays102_ren:={
 mixed:=by kernel_rfl
 f102:=Tryz.func168.trans (congrArg some (by kernel_rfl))
 f207:=Tryz.func242.trans (congrArg some (by kernel_rfl))
 f209:=Tryz.func208.trans (congrArg some (by kernel_rfl))
 t3:=Tryz.underlying3
 a3:=Tryz.isAgg3
 z3:=Tryz.sizeOf3
 v3:=Tryz.zeroValue3
 t4:=Tryz.underlying4
 a4:=Tryz.isAgg4
 z4:=Tryz.sizeOf4
 v4:=Tryz.zeroValue4
 t9:=Tryz.underlying9
 a9:=Tryz.isAgg9
 z9:=Tryz.sizeOf9
 v9:=Tryz.zeroValue9 }
open Go.RowKit Go.Lib in
theorem Tryz.strings_TrimSuffix (s p:ByteArray) (w:World) (hs:s.size≤9223372036854775807) :
  Calls Tryz.prog 168 #[.string s,.string p] w fun e w'=>e=.returned (.string ⟨(Lib.trimSuffix s.data.toList p.data.toList).toArray⟩)∧w'=w:=Any.strings_TrimSuffix Tryz.lays102 s p w hs
def Tryz.lays146_ren:Go.Shelf.Ren:=⟨fun|146=>158|221=>203|268=>237|138=>238|143=>239|195=>259|197=>191|218=>260|219=>258|260=>231|217=>230|225=>190|224=>189|267=>265|266=>256|314=>269|n=>n,fun|9=>9|31=>24|3=>3|4=>4|0=>0|105=>262|21=>21|5=>5|46=>194|119=>305|139=>308|138=>307|146=>323|51=>239|n=>n,fun|1=>0|3=>1|4=>2|n=>n⟩
theorem Tryz.lays146:Go.Proofs.Lays.n146 Tryz.prog Tryz.lays146_ren:={
 mixed:=by kernel_rfl
 f138:=Tryz.func238.trans (congrArg some (by kernel_rfl))
 f143:=Tryz.func239.trans (congrArg some (by kernel_rfl))
 f146:=Tryz.func158.trans (congrArg some (by kernel_rfl))
 f195:=Tryz.func259.trans (congrArg some (by kernel_rfl))
 f197:=Tryz.func191.trans (congrArg some (by kernel_rfl))
 f217:=Tryz.func230.trans (congrArg some (by kernel_rfl))
 f218:=Tryz.func260.trans (congrArg some (by kernel_rfl))
 f219:=Tryz.func258.trans (congrArg some (by kernel_rfl))
 f221:=Tryz.func203.trans (congrArg some (by kernel_rfl))
 f224:=Tryz.func189.trans (congrArg some (by kernel_rfl))
 f225:=Tryz.func190.trans (congrArg some (by kernel_rfl))
 f260:=Tryz.func231.trans (congrArg some (by kernel_rfl))
 f266:=Tryz.func256.trans (congrArg some (by kernel_rfl))
 f267:=Tryz.func265.trans (congrArg some (by kernel_rfl))
 f268:=Tryz.func237.trans (congrArg some (by kernel_rfl))
 f314:=Tryz.func269.trans (congrArg some (by kernel_rfl))
 t0:=Tryz.underlying0
 a0:=Tryz.isAgg0
 z0:=Tryz.sizeOf0
 v0:=Tryz.zeroValue0
 t3:=Tryz.underlying3
 a3:=Tryz.isAgg3
 z3:=Tryz.sizeOf3
 v3:=Tryz.zeroValue3
 t4:=Tryz.underlying4
 a4:=Tryz.isAgg4
 z4:=Tryz.sizeOf4
 v4:=Tryz.zeroValue4
 t5:=Tryz.underlying5
 a5:=Tryz.isAgg5
 z5:=Tryz.sizeOf5
 v5:=Tryz.zeroValue5
 t9:=Tryz.underlying9
 a9:=Tryz.isAgg9
 z9:=Tryz.sizeOf9
 v9:=Tryz.zeroValue9
 t21:=Tryz.underlying21
 a21:=Tryz.isAgg21
 z21:=Tryz.sizeOf21
 v21:=Tryz.zeroValue21
 t31:=Tryz.underlying24
 a31:=Tryz.isAgg24
 z31:=Tryz.sizeOf24
 v31:=Tryz.zeroValue24
 t46:=Tryz.underlying194
 a46:=Tryz.isAgg194
 z46:=Tryz.sizeOf194
 v46:=Tryz.zeroValue194
 t51:=Tryz.underlying239
 a51:=Tryz.isAgg239
 z51:=Tryz.sizeOf239
 v51:=Tryz.zeroValue239
 t105:=Tryz.underlying262
 a105:=Tryz.isAgg262
 z105:=Tryz.sizeOf262
 v105:=Tryz.zeroValue262
 t119:=Tryz.underlying305
 a119:=Tryz.isAgg305
 z119:=Tryz.sizeOf305
 t138:=Tryz.underlying307
 a138:=Tryz.isAgg307
 z138:=Tryz.sizeOf307
 v138:=Tryz.zeroValue307
 t139:=Tryz.underlying308
 a139:=Tryz.isAgg308
 z139:=Tryz.sizeOf308
 v139:=Tryz.zeroValue308
 t146:=Tryz.underlying323
 a146:=Tryz.isAgg323
 z146:=Tryz.sizeOf323
 v146:=Tryz.zeroValue323
 g1:=by kernel_rfl
 g3:=by kernel_rfl
 g4:=by kernel_rfl }
open Go.RowKit Go.Lib in
theorem Tryz.strings_Split (s sep:ByteArray) (m:Int) (w:World) (hs:s.size<4294967281) (hm:w.cell? ⟨0,0,none⟩=some (.int .i64 m)) (h1:1≤sep.size) :
  Calls Tryz.prog 158 #[.string s,.string sep] w fun e w' =>
   e=.returned (.slice (some ⟨w.heap.size,0,none⟩) (Lib.countB s sep+1) (Lib.countB s sep+1))∧w'=w.alloc (.cells ((Lib.splitB sep 0 (Lib.countB s sep) s).map Value.string).toArray 9):=Any.strings_Split Tryz.lays146 (by kernel_rfl) s sep m w hs hm h1
def Tryz.lays152_ren:Go.Shelf.Ren:=⟨fun|152=>126|137=>187|119=>188|224=>189|225=>190|217=>230|266=>256|n=>n,fun|9=>9|21=>21|3=>3|4=>4|5=>5|0=>0|46=>194|n=>n,fun|n=>n⟩
theorem Tryz.lays152:Go.Proofs.Lays.n152 Tryz.prog Tryz.lays152_ren:={
 mixed:=by kernel_rfl
 f119:=Tryz.func188.trans (congrArg some (by kernel_rfl))
 f137:=Tryz.func187.trans (congrArg some (by kernel_rfl))
 f152:=Tryz.func126.trans (congrArg some (by kernel_rfl))
 f217:=Tryz.func230.trans (congrArg some (by kernel_rfl))
 f224:=Tryz.func189.trans (congrArg some (by kernel_rfl))
 f225:=Tryz.func190.trans (congrArg some (by kernel_rfl))
 f266:=Tryz.func256.trans (congrArg some (by kernel_rfl))
 t0:=Tryz.underlying0
 a0:=Tryz.isAgg0
 z0:=Tryz.sizeOf0
 v0:=Tryz.zeroValue0
 t3:=Tryz.underlying3
 a3:=Tryz.isAgg3
 z3:=Tryz.sizeOf3
 v3:=Tryz.zeroValue3
 t4:=Tryz.underlying4
 a4:=Tryz.isAgg4
 z4:=Tryz.sizeOf4
 v4:=Tryz.zeroValue4
 t5:=Tryz.underlying5
 a5:=Tryz.isAgg5
 z5:=Tryz.sizeOf5
 v5:=Tryz.zeroValue5
 t9:=Tryz.underlying9
 a9:=Tryz.isAgg9
 z9:=Tryz.sizeOf9
 v9:=Tryz.zeroValue9
 t21:=Tryz.underlying21
 a21:=Tryz.isAgg21
 z21:=Tryz.sizeOf21
 v21:=Tryz.zeroValue21
 t46:=Tryz.underlying194
 a46:=Tryz.isAgg194
 z46:=Tryz.sizeOf194
 v46:=Tryz.zeroValue194 }
open Go.RowKit Go.Lib in
theorem Tryz.strings_IndexRune_ascii (s:ByteArray) (r:Int) (w:World) (h0:0≤r) (h1:r<128) :
  Calls Tryz.prog 126 #[.string s,.int .i32 r] w fun e w'=>e=.returned (.int .i64 (Lib.indexByte s.data.toList r.toNat.toUInt8))∧w'=w:=Any.strings_IndexRune_ascii Tryz.lays152 s r w h0 h1
def Tryz.lays226_ren:Go.Shelf.Ren:=⟨fun|226=>127|n=>n,fun|3=>3|4=>4|n=>n,fun|n=>n⟩
theorem Tryz.lays226:Go.Proofs.Lays.n226 Tryz.prog Tryz.lays226_ren:={
 mixed:=by kernel_rfl
 f226:=Tryz.func127.trans (congrArg some (by kernel_rfl))
 t3:=Tryz.underlying3
 a3:=Tryz.isAgg3
 z3:=Tryz.sizeOf3
 v3:=Tryz.zeroValue3
 t4:=Tryz.underlying4
 a4:=Tryz.isAgg4
 z4:=Tryz.sizeOf4
 v4:=Tryz.zeroValue4 }
open Go.RowKit Go.Lib in
theorem Tryz.strings_shouldUseASCIISet (n:Int) (w:World) :
  Calls Tryz.prog 127 #[.int .i64 n] w fun e w'=>e=.returned (.bool (decide (8<n)))∧w'=w:=Any.strings_shouldUseASCIISet Tryz.lays226 n w
def Tryz.lays153_ren:Go.Shelf.Ren:=⟨fun|153=>87|152=>126|226=>127|227=>128|228=>129|137=>187|119=>188|224=>189|225=>190|217=>230|266=>256|n=>n,fun|9=>9|3=>3|4=>4|5=>5|21=>21|117=>202|116=>201|0=>0|46=>194|124=>206|n=>n,fun|n=>n⟩
theorem Tryz.lays153:Go.Proofs.Lays.n153 Tryz.prog Tryz.lays153_ren:={
 mixed:=by kernel_rfl
 f119:=Tryz.func188.trans (congrArg some (by kernel_rfl))
 f137:=Tryz.func187.trans (congrArg some (by kernel_rfl))
 f152:=Tryz.func126.trans (congrArg some (by kernel_rfl))
 f153:=Tryz.func87.trans (congrArg some (by kernel_rfl))
 f217:=Tryz.func230.trans (congrArg some (by kernel_rfl))
 f224:=Tryz.func189.trans (congrArg some (by kernel_rfl))
 f225:=Tryz.func190.trans (congrArg some (by kernel_rfl))
 f226:=Tryz.func127.trans (congrArg some (by kernel_rfl))
 f227:=Tryz.func128.trans (congrArg some (by kernel_rfl))
 f228:=Tryz.func129.trans (congrArg some (by kernel_rfl))
 f266:=Tryz.func256.trans (congrArg some (by kernel_rfl))
 t0:=Tryz.underlying0
 a0:=Tryz.isAgg0
 z0:=Tryz.sizeOf0
 v0:=Tryz.zeroValue0
 t3:=Tryz.underlying3
 a3:=Tryz.isAgg3
 z3:=Tryz.sizeOf3
 v3:=Tryz.zeroValue3
 t4:=Tryz.underlying4
 a4:=Tryz.isAgg4
 z4:=Tryz.sizeOf4
 v4:=Tryz.zeroValue4
 t5:=Tryz.underlying5
 a5:=Tryz.isAgg5
 z5:=Tryz.sizeOf5
 v5:=Tryz.zeroValue5
 t9:=Tryz.underlying9
 a9:=Tryz.isAgg9
 z9:=Tryz.sizeOf9
 v9:=Tryz.zeroValue9
 t21:=Tryz.underlying21
 a21:=Tryz.isAgg21
 z21:=Tryz.sizeOf21
 v21:=Tryz.zeroValue21
 t46:=Tryz.underlying194
 a46:=Tryz.isAgg194
 z46:=Tryz.sizeOf194
 v46:=Tryz.zeroValue194
 t116:=Tryz.underlying201
 a116:=Tryz.isAgg201
 z116:=Tryz.sizeOf201
 t117:=Tryz.underlying202
 a117:=Tryz.isAgg202
 z117:=Tryz.sizeOf202
 v117:=Tryz.zeroValue202
 t124:=Tryz.underlying206
 a124:=Tryz.isAgg206
 z124:=Tryz.sizeOf206
 v124:=Tryz.zeroValue206 }
def Tryz.lays227_ren:Go.Shelf.Ren:=⟨fun|227=>128|n=>n,fun|9=>9|116=>201|4=>4|0=>0|3=>3|5=>5|n=>n,fun|n=>n⟩
theorem Tryz.lays227:Go.Proofs.Lays.n227 Tryz.prog Tryz.lays227_ren:={
 mixed:=by kernel_rfl
 f227:=Tryz.func128.trans (congrArg some (by kernel_rfl))
 t0:=Tryz.underlying0
 a0:=Tryz.isAgg0
 z0:=Tryz.sizeOf0
 v0:=Tryz.zeroValue0
 t3:=Tryz.underlying3
 a3:=Tryz.isAgg3
 z3:=Tryz.sizeOf3
 v3:=Tryz.zeroValue3
 t4:=Tryz.underlying4
 a4:=Tryz.isAgg4
 z4:=Tryz.sizeOf4
 v4:=Tryz.zeroValue4
 t5:=Tryz.underlying5
 a5:=Tryz.isAgg5
 z5:=Tryz.sizeOf5
 v5:=Tryz.zeroValue5
 t9:=Tryz.underlying9
 a9:=Tryz.isAgg9
 z9:=Tryz.sizeOf9
 v9:=Tryz.zeroValue9
 t116:=Tryz.underlying201
 a116:=Tryz.isAgg201
 z116:=Tryz.sizeOf201 }
open Go.RowKit Go.Lib in
theorem Tryz.strings_makeASCIISet (hv116:∀w,(zeroValue 201).run Tryz.prog w=.ok (.agg (Array.replicate 256 (.bool false))) w) (chars:ByteArray) (w:World) (hs:chars.size<4294967281) (hascii:∀(j:Nat) b,chars.data.toList[j]? = some b→b.toNat<128) :
  Calls Tryz.prog 128 #[.string chars] w fun e w'=>e=.returned (.tuple #[.agg (Lib.setCells chars.data.toList),.bool true])∧w'=w.alloc (.cells (Lib.setCells chars.data.toList) 201):=Any.strings_makeASCIISet Tryz.lays227 hv116 (by kernel_rfl) chars w hs hascii
def Tryz.lays228_ren:Go.Shelf.Ren:=⟨fun|228=>129|n=>n,fun|124=>206|5=>5|4=>4|0=>0|116=>201|n=>n,fun|n=>n⟩
theorem Tryz.lays228:Go.Proofs.Lays.n228 Tryz.prog Tryz.lays228_ren:={
 mixed:=by kernel_rfl
 f228:=Tryz.func129.trans (congrArg some (by kernel_rfl))
 t0:=Tryz.underlying0
 a0:=Tryz.isAgg0
 z0:=Tryz.sizeOf0
 v0:=Tryz.zeroValue0
 t4:=Tryz.underlying4
 a4:=Tryz.isAgg4
 z4:=Tryz.sizeOf4
 v4:=Tryz.zeroValue4
 t5:=Tryz.underlying5
 a5:=Tryz.isAgg5
 z5:=Tryz.sizeOf5
 v5:=Tryz.zeroValue5
 t116:=Tryz.underlying201
 a116:=Tryz.isAgg201
 z116:=Tryz.sizeOf201
 t124:=Tryz.underlying206
 a124:=Tryz.isAgg206
 z124:=Tryz.sizeOf206
 v124:=Tryz.zeroValue206 }
open Go.RowKit Go.Lib in
theorem Tryz.asciiSet_contains (b:Nat) (x:UInt8) (v:Bool) (w:World) (hc:w.cell? ⟨b,x.toNat,none⟩=some (.bool v)) :
  Calls Tryz.prog 129 #[.pointer (some ⟨b,0,none⟩),.int .u8 x.toNat] w fun e w'=>e=.returned (.bool v)∧w'=w:=Any.asciiSet_contains Tryz.lays228 b x v w hc
open Go.RowKit Go.Lib in
theorem Tryz.strings_IndexAny_long (hv116:∀w,(zeroValue 201).run Tryz.prog w=.ok (.agg (Array.replicate 256 (.bool false))) w) (s chars:ByteArray) (w:World) (h2:2≤chars.size) (h8:8<s.size) (hs:s.size<4294967281) (hcs:chars.size<4294967281) (hascii:∀(j:Nat) b,chars.data.toList[j]? = some b→b.toNat<128) :
  Calls Tryz.prog 87 #[.string s,.string chars] w fun e w'=>e=.returned (.int .i64 (Lib.indexAny s.data.toList chars.data.toList))∧w'=((w.alloc (.cells (Lib.setCells chars.data.toList) 201)).alloc (.cells (Lib.setCells chars.data.toList) 201)):=Any.strings_IndexAny_long Tryz.lays153 hv116 (by kernel_rfl) s chars w h2 h8 hs hcs hascii
def Tryz.lays260_ren:Go.Shelf.Ren:=⟨fun|260=>231|n=>n,fun|9=>9|21=>21|3=>3|4=>4|5=>5|119=>305|0=>0|46=>194|139=>308|138=>307|n=>n,fun|3=>1|4=>2|n=>n⟩
theorem Tryz.lays260:Go.Proofs.Lays.n260 Tryz.prog Tryz.lays260_ren:={
 mixed:=by kernel_rfl
 f260:=Tryz.func231.trans (congrArg some (by kernel_rfl))
 t0:=Tryz.underlying0
 a0:=Tryz.isAgg0
 z0:=Tryz.sizeOf0
 v0:=Tryz.zeroValue0
 t3:=Tryz.underlying3
 a3:=Tryz.isAgg3
 z3:=Tryz.sizeOf3
 v3:=Tryz.zeroValue3
 t4:=Tryz.underlying4
 a4:=Tryz.isAgg4
 z4:=Tryz.sizeOf4
 v4:=Tryz.zeroValue4
 t5:=Tryz.underlying5
 a5:=Tryz.isAgg5
 z5:=Tryz.sizeOf5
 v5:=Tryz.zeroValue5
 t9:=Tryz.underlying9
 a9:=Tryz.isAgg9
 z9:=Tryz.sizeOf9
 v9:=Tryz.zeroValue9
 t21:=Tryz.underlying21
 a21:=Tryz.isAgg21
 z21:=Tryz.sizeOf21
 v21:=Tryz.zeroValue21
 t46:=Tryz.underlying194
 a46:=Tryz.isAgg194
 z46:=Tryz.sizeOf194
 v46:=Tryz.zeroValue194
 t119:=Tryz.underlying305
 a119:=Tryz.isAgg305
 z119:=Tryz.sizeOf305
 t138:=Tryz.underlying307
 a138:=Tryz.isAgg307
 z138:=Tryz.sizeOf307
 v138:=Tryz.zeroValue307
 t139:=Tryz.underlying308
 a139:=Tryz.isAgg308
 z139:=Tryz.sizeOf308
 v139:=Tryz.zeroValue308
 g3:=by kernel_rfl
 g4:=by kernel_rfl }
def Tryz.lays271_ren:Go.Shelf.Ren:=⟨fun|271=>195|120=>232|197=>191|260=>231|n=>n,fun|9=>9|21=>21|3=>3|4=>4|5=>5|105=>262|119=>305|0=>0|46=>194|139=>308|138=>307|n=>n,fun|3=>1|4=>2|n=>n⟩
theorem Tryz.lays271:Go.Proofs.Lays.n271 Tryz.prog Tryz.lays271_ren:={
 mixed:=by kernel_rfl
 f120:=Tryz.func232.trans (congrArg some (by kernel_rfl))
 f197:=Tryz.func191.trans (congrArg some (by kernel_rfl))
 f260:=Tryz.func231.trans (congrArg some (by kernel_rfl))
 f271:=Tryz.func195.trans (congrArg some (by kernel_rfl))
 t0:=Tryz.underlying0
 a0:=Tryz.isAgg0
 z0:=Tryz.sizeOf0
 v0:=Tryz.zeroValue0
 t3:=Tryz.underlying3
 a3:=Tryz.isAgg3
 z3:=Tryz.sizeOf3
 v3:=Tryz.zeroValue3
 t4:=Tryz.underlying4
 a4:=Tryz.isAgg4
 z4:=Tryz.sizeOf4
 v4:=Tryz.zeroValue4
 t5:=Tryz.underlying5
 a5:=Tryz.isAgg5
 z5:=Tryz.sizeOf5
 v5:=Tryz.zeroValue5
 t9:=Tryz.underlying9
 a9:=Tryz.isAgg9
 z9:=Tryz.sizeOf9
 v9:=Tryz.zeroValue9
 t21:=Tryz.underlying21
 a21:=Tryz.isAgg21
 z21:=Tryz.sizeOf21
 v21:=Tryz.zeroValue21
 t46:=Tryz.underlying194
 a46:=Tryz.isAgg194
 z46:=Tryz.sizeOf194
 v46:=Tryz.zeroValue194
 t105:=Tryz.underlying262
 a105:=Tryz.isAgg262
 z105:=Tryz.sizeOf262
 v105:=Tryz.zeroValue262
 t119:=Tryz.underlying305
 a119:=Tryz.isAgg305
 z119:=Tryz.sizeOf305
 t138:=Tryz.underlying307
 a138:=Tryz.isAgg307
 z138:=Tryz.sizeOf307
 v138:=Tryz.zeroValue307
 t139:=Tryz.underlying308
 a139:=Tryz.isAgg308
 z139:=Tryz.sizeOf308
 v139:=Tryz.zeroValue308
 g3:=by kernel_rfl
 g4:=by kernel_rfl }
open Go.RowKit Go.Lib in
theorem Tryz.utf8_DecodeLastRuneInString (s:ByteArray) (w:World) (hs:s.size≤9223372036854775807) (hT:Lib.Utf8Tabs 1 2 w) :
  Calls Tryz.prog 195 #[.string s] w fun e w'=>e=.returned (.tuple #[.int .i32 (Lib.decodeLastL s.data.toList).1,.int .i64 (Lib.decodeLastL s.data.toList).2])∧Below w.heap.size w w':=Any.utf8_DecodeLastRuneInString Tryz.lays271 s w hs hT
end Go.Proofs
namespace Go.Bd
end Go.Bd
namespace Go.Proofs.YtkdknllcllhpgaaGreatDoor
open Go.RowKit Go.Bd Go.Maps
section
variable {w:World} {B:Nat} {col:Nat→Nat} {pb ob cap len:Nat} {s:ByteArray} {st:Pst} {i:Nat} {fv:Value} {gb:Nat} {cs:Array Value} {gn:List Bs}
end
end Go.Proofs.YtkdknllcllhpgaaGreatDoor
namespace Go.Proofs.YtkdknllcllhpgaaGreatDoor
open Go.RowKit Go.Bd
theorem ret_bool {a b:Bool} (h:a=b):Ending.returned (.bool a)=.returned (.bool b):=by rw[h]
theorem u8_eq (c d:UInt8):(c==d)=decide (c.toNat=d.toNat):=by
 by_cases h:c=d
 ·subst h;simp
 ·rw[beq_eq_false_iff_ne.2 h,decide_eq_false];exact fun e=>h (UInt8.toNat_inj.1 e)
set_option linter.unusedSimpArgs false
theorem letter_any (c:UInt8) (w:World):Calls Tryz.prog 100 #[byteV c] w fun e w'=>e=.returned (.bool (letterB c))∧w=w':=by
 unfold byteV letterB;simp only[UInt8.le_iff_toNat_le,show UInt8.toNat 65=65 from rfl,show UInt8.toNat 90=90 from rfl,show UInt8.toNat 97=97 from rfl,show UInt8.toNat 122=122 from rfl];generalize c.toNat=n
 go_enter Tryz.func100,Tryz.ntmps100
 go_wp2
 all_goals
  go_ret
  refine⟨ret_bool ?_,rfl⟩;rw[Bool.eq_iff_iff];simp only[Bool.or_eq_true,Bool.and_eq_true,beq_iff_eq,decide_eq_true_eq,reduceCtorEq,iff_true,true_iff,false_iff,Bool.false_eq_true];omega
def digB (c:UInt8):Bool:=decide (48≤c)&&decide (c≤57)
theorem digit_any (c:UInt8) (w:World):Calls Tryz.prog 101 #[byteV c] w fun e w'=>e=.returned (.bool (digB c))∧w=w':=by
 unfold byteV digB;simp only[UInt8.le_iff_toNat_le,show UInt8.toNat 48=48 from rfl,show UInt8.toNat 57=57 from rfl];generalize c.toNat=n
 go_enter Tryz.func101,Tryz.ntmps101
 go_wp2
 all_goals
  go_ret
  refine⟨ret_bool ?_,rfl⟩;rw[Bool.eq_iff_iff];simp only[Bool.or_eq_true,Bool.and_eq_true,beq_iff_eq,decide_eq_true_eq,reduceCtorEq,iff_true,true_iff,false_iff,Bool.false_eq_true];omega
theorem headD_list (l:Bs) (h:0<l.length):l.headD 0=l[0]:=by
 cases l with
 | nil=>simp at h
 | cons a l=>simp
theorem headD_get (s:ByteArray) (h:0<s.size):s.data.toList.headD 0=s[0] :=
 (headD_list s.data.toList (by simpa using h)).trans (by first|rfl|simp[ByteArray.getElem_eq_getElem_data])
def okB (c:UInt8):Bool:=solid c || c==45
theorem okB_def (c:UInt8):okB c=(letterB c || digB c || decide (c.toNat=45)):=by
 rw[←show UInt8.toNat 45=45 from rfl,←u8_eq];rfl
theorem all_take_succ (s:ByteArray) (k:Nat) (h:k<s.size):(s.data.toList.take (k+1)).all okB=((s.data.toList.take k).all okB&&okB s[k]):=by
 have e:s[k]=s.data.toList[k]'(by simpa using h):=by
  first|rfl|simp[ByteArray.getElem_eq_getElem_data]
 rw[e,List.take_succ_eq_append_getElem (by simpa using h),List.all_append];simp
theorem name_any (s:ByteArray) (w:World) (hs:s.size≤100000000):Calls Tryz.prog 63 #[.string s] w fun e w'=>e=.returned (.bool (nameB s.data.toList))∧w=w':=by
 have cl:=fun c w=>letter_any c w
 have cd:=fun c w=>digit_any c w
 unfold byteV at cl cd;have hlen:s.data.toList.length=s.size:=by simp
 have HB:Hid (nameB s.data.toList=(decide (1≤s.size)&&decide (s.size≤60)&&letterB (s.data.toList.headD 0)&&s.data.toList.all okB)):=by
  show nameB s.data.toList=_
  unfold nameB;rw[hlen];rfl
 clear hlen
 go_enter Tryz.func63,Tryz.ntmps63
 go_wp2_with (first
  | (go_at_call 100;refine (cl _ _).mono ?_;rintro e w' ⟨rfl,rfl⟩)
  | fail)
 ·go_ret
  refine⟨ret_bool ?_,rfl⟩;rename_i h1 h2 h3 h4;rw[HB.out,headD_get s h3]
  rcases h4 with h4|h4
  ·omega
  ·have h5:letterB s[0]=false:=by simpa using h4
   simp[h5]
 ·have h3:0<s.size:=‹0<s.size›
  rename _∧(!letterB s[0])=false=>h4
  have hl0:letterB (s.data.toList.headD 0)=true:=by rw[headD_get s h3];simpa using h4.2
  have HL:=Lib.hid hl0;have HR:=Lib.hid h4.1;clear h4 hl0
  go_loopg [21] s.size (fun gk i wr=>wr=w∧∃k:Nat,k+gk=s.size∧i=.int .i64 k∧(s.data.toList.take k).all okB=true)
  case atStart=>exact⟨rfl,0,by omega,rfl,rfl⟩
  case round =>
   obtain⟨rfl,k,hk,rfl,hall⟩:=hrel;have HA:=Lib.hid hall;clear hall
   go_wp2_with (first
    | (go_at_call 100;refine (cl _ _).mono ?_;rintro e w' ⟨rfl,rfl⟩)
    | (go_at_call 101;refine (cd _ _).mono ?_;rintro e w' ⟨rfl,rfl⟩)
    | fail)
   ·go_roundg (gk-1)
    case measure=>omega
    case rel=>exact⟨rfl,k+1,by omega,by go_num,by rw[all_take_succ s k ‹_›,HA.out,okB_def,‹letterB s[k]=true›];rfl⟩
   ·go_roundg (gk-1)
    case measure=>omega
    case rel=>exact⟨rfl,k+1,by omega,by go_num,by rw[all_take_succ s k ‹_›,HA.out,okB_def,‹digB s[k]=true›,Bool.or_true];rfl⟩
   ·go_ret
    refine⟨ret_bool ?_,rfl⟩;have hk2:k<s.size:=by assumption
    have h5:¬s[k].toNat=45:=fun e=>by
     have h6:((s[k].toNat:Int) != 45)=true:=by assumption
     rw[e] at h6;simp at h6
    have h7:okB s[k]=false:=by
     rw[okB_def,Bool.eq_false_iff.2 ‹¬letterB s[k]=true›,Bool.eq_false_iff.2 ‹¬digB s[k]=true›,decide_eq_false h5];rfl
    have h8:s.data.toList.all okB=false:=by
     rw[Bool.eq_false_iff];intro h;have h9:=all_take_succ s k hk2;rw[h7,Bool.and_false] at h9;rw[Bool.eq_false_iff] at h9;refine h9 (List.all_eq_true.2 fun x hx=>List.all_eq_true.1 h x (List.mem_of_mem_take hx))
    rw[HB.out,h8,Bool.and_false]
   ·go_roundg (gk-1)
    case measure=>omega
    case rel =>
     have h5:s[k].toNat=45:=by
      have h6:((s[k].toNat:Int) != 45)=false:=by assumption
      simp at h6;omega
     exact⟨rfl,k+1,by omega,by go_num,by rw[all_take_succ s k ‹_›,HA.out,okB_def,decide_eq_true h5,Bool.or_true];rfl⟩
   ·go_ret
    refine⟨ret_bool ?_,rfl⟩;have hk2:k=s.size:=by omega
    have h8:=HA.out;rw[List.take_of_length_le (by simp;omega)] at h8;rw[HB.out,h8,HL.out,decide_eq_true (by omega),decide_eq_true (by omega)];rfl
 ·go_ret
  refine⟨ret_bool ?_,rfl⟩;rw[HB.out,decide_eq_false (by omega:¬s.size≤60)];simp
 ·go_ret
  refine⟨ret_bool ?_,rfl⟩;rw[HB.out,decide_eq_false (by omega:¬1≤s.size)];simp
end Go.Proofs.YtkdknllcllhpgaaGreatDoor
namespace Go.Bd
def plainC (c:UInt8):Bool:=!(c==42 || c==95 || c==60 || c==40 || c==94 || c==93 || c==92 || c==96)
theorem plain_ne {c:UInt8} (h:plainC c=true):c≠42∧c≠95∧c≠60∧c≠40∧c≠94∧c≠93∧c≠92∧c≠96:=by
 simp only[plainC,Bool.not_eq_true',Bool.or_eq_false_iff,beq_eq_false_iff_ne] at h;obtain⟨⟨⟨⟨⟨⟨⟨h1,h2⟩,h3⟩,h4⟩,h5⟩,h6⟩,h7⟩,h8⟩:=h;exact⟨h1,h2,h3,h4,h5,h6,h7,h8⟩
theorem run_end {s:Bs}{n i:Nat} (st:Pst) (h:s.length≤i):runP s n i st=st:=by
 cases n with
 | zero=>rfl
 | succ n=>rw[runP,if_neg (by omega)]
theorem run_fuel {s:Bs}:∀(n m i:Nat) (st:Pst),Inv st i→s.length-i≤n→s.length-i≤m→runP s n i st=runP s m i st
 | 0,m,i,st,_,h1,_=>by rw[run_end st (by omega),run_end st (by omega)]
 | n+1,0,i,st,_,_,h2=>by rw[run_end st (by omega),run_end st (by omega)]
 | n+1,m+1,i,st,hI,h1,h2=>by
  rw[runP,runP];split
  ·rename_i hi;obtain⟨h3,h4,h5⟩:=hI.step hi;exact run_fuel n m _ _ h3 (by omega) (by omega)
  ·rfl
theorem run_step {s:Bs}{n i:Nat}{st:Pst} (hI:Inv st i) (hi:i<s.length) (hn:s.length-i≤n):runP s n i st=runP s n (st.step s i).2 (st.step s i).1:=by
 obtain⟨n,rfl⟩:∃k,n=k+1:=⟨n-1,by omega⟩;obtain⟨h3,h4,h5⟩:=hI.step hi;rw[runP,if_pos hi];exact run_fuel _ _ _ _ h3 (by omega) (by omega)
theorem Inv.run {s:Bs}:∀(n i:Nat) (st:Pst),Inv st i→i≤s.length→s.length-i≤n→Inv (runP s n i st) s.length
 | 0,i,st,h,hi,hn=>by rw[run_end st (by omega)];exact h.more hi
 | n+1,i,st,h,hi,hn=>by
  rw[runP];split
  ·rename_i hlt;obtain⟨h3,h4,h5⟩:=h.step hlt;exact Inv.run n _ _ h3 h5 (by omega)
  ·exact h.more hi
theorem drop_one {st:Pst} (h:st.fs.length=1):st.drop 0=st:=by rw[Pst.drop,h];rfl
mutual
def say1:Sp→Bs
 | ⟨k,t,_,_,kids⟩=>if k=0∨k=3∨k=4∨k=5 then t else if k=1∨k=2 then sayL kids else []
def sayL:List Sp→Bs
 | []=>[]
 | x::l=>say1 x++sayL l
end
mutual
def snd1:Sp→Nat→Bool
 | ⟨k,t,u,v,kids⟩,d=>decide (k≤6) && !(decide (k=0)&&t.isEmpty) &&
   (if k=1∨k=2∨k=6 then t.isEmpty && !decide (d=16)&&sndL kids (d+1) 1 else kids.isEmpty) &&
   (decide (k=5) || (u.isEmpty&&v.isEmpty)) && !((decide (k=1) || decide (k=2))&&kids.isEmpty)
def sndL:List Sp→Nat→Nat→Bool
 | [],_,_=>true
 | x::l,d,p=>snd1 x d && !(decide (x.kind=0)&&decide (p=0))&&sndL l d x.kind
end
def lastKind (l:List Sp) (p:Nat):Nat:=match l.getLast? with|some x=>x.kind|none=>p
theorem lastKind_cons (x:Sp) (l:List Sp) (p:Nat):lastKind (x::l) p=lastKind l x.kind:=by
 cases l with
 | nil=>rfl
 | cons y l =>
  simp only[lastKind,List.getLast?_cons_cons];cases h:(y::l).getLast? with
  | none=>simp at h
  | some z=>rfl
theorem lastKind_snoc (l:List Sp) (x:Sp) (p:Nat):lastKind (l++[x]) p=x.kind:=by simp[lastKind]
theorem sndL_snoc:∀(l:List Sp) (x:Sp) (d p:Nat),sndL (l++[x]) d p=(sndL l d p&&(snd1 x d && !(decide (x.kind=0)&&decide (lastKind l p=0))))
 | [],x,d,p=>by simp only[List.nil_append,sndL,lastKind,List.getLast?_nil,Bool.and_true,Bool.true_and];rfl
 | y::l,x,d,p=>by
  rw[List.cons_append,sndL,sndL,sndL_snoc l x d y.kind,lastKind_cons];simp only[Bool.and_assoc]
theorem sayL_app:∀(a b:List Sp),sayL (a++b)=sayL a++sayL b
 | [],b=>by simp[sayL]
 | x::a,b=>by rw[List.cons_append,sayL,sayL,sayL_app a b,List.append_assoc]
theorem say_txt (s:Bs):say1 (txt s)=s:=by simp[txt,say1]
def sayR (r:Rw):Bs:=sayL r.sp++r.tx
theorem sayR_write (r:Rw) (s:Bs):sayR (r.write s)=sayR r++s:=by simp[sayR,Rw.write]
theorem sayR_flush (r:Rw):sayR r.flush=sayR r:=by
 unfold Rw.flush;split
 ·rename_i h;simp[sayR,h]
 ·simp[sayR,sayL_app,sayL,say_txt]
theorem flush_tx (r:Rw):r.flush.tx=[]:=by unfold Rw.flush;split<;>rfl
theorem sayL_flush (r:Rw):sayL r.flush.sp=sayR r:=by
 rw[←sayR_flush,sayR,flush_tx,List.append_nil]
theorem say1_text {x:Sp} (h:x.kind=0):say1 x=x.text:=by obtain⟨k,t,u,v,ks⟩:=x;simp only at h;subst h;simp[say1]
theorem sayR_add (r:Rw) (x:Sp):sayR (r.add x)=sayR r++say1 x:=by
 unfold Rw.add;split
 ·rename_i h;rw[sayR_write,say1_text h]
 ·simp[sayR,sayL_app,sayL];rw[sayL_flush];simp[sayR]
theorem sayR_adds:∀(l:List Sp) (r:Rw),sayR (l.foldl Rw.add r)=sayR r++sayL l
 | [],r=>by simp[sayL]
 | x::l,r=>by rw[List.foldl_cons,sayR_adds l,sayR_add,sayL,List.append_assoc]
theorem sayR_spill (f:Fr) (r:Rw):sayR (spill f r)=sayR r++f.sign++sayR f.row:=by
 rw[spill,sayR_write,sayR_adds,sayR_write];simp[sayR]
def rowOk (r:Rw) (d:Nat):Prop:=sndL r.sp d 1=true∧lastKind r.sp 1≠0
theorem snd_txt {s:Bs} (h:s≠[]) (d:Nat):snd1 (txt s) d=true:=by
 cases s with
 | nil=>exact absurd rfl h
 | cons a s=>simp[txt,snd1]
theorem rowOk.none (d:Nat):rowOk Rw.none d:=by simp[rowOk,Rw.none,sndL,lastKind]
theorem rowOk.write {r:Rw}{d:Nat} (h:rowOk r d) (s:Bs):rowOk (r.write s) d:=h
theorem rowOk.flush {r:Rw}{d:Nat} (h:rowOk r d):sndL r.flush.sp d 1=true:=by
 unfold Rw.flush;split
 ·exact h.1
 ·rename_i hn;simp only;rw[sndL_snoc,h.1,snd_txt hn];simp[h.2]
theorem rowOk.add {r:Rw}{d:Nat} (h:rowOk r d){x:Sp} (hx:x.kind=0∨snd1 x d=true):rowOk (r.add x) d:=by
 unfold Rw.add;split
 ·exact h
 ·rename_i hk;have hs:snd1 x d=true:=by
   rcases hx with h|h
   ·exact absurd h hk
   ·exact h
  refine⟨?_,?_⟩
  ·simp only;rw[sndL_snoc,h.flush,hs];simp[hk]
  ·simp only;rw[lastKind_snoc];exact hk
mutual
theorem snd1_up:∀(x:Sp) (d:Nat),d+1≤16→snd1 x (d+1)=true→snd1 x d=true
 | ⟨k,t,u,v,kids⟩,d,hd,h=>by
  simp only[snd1,Bool.and_eq_true] at h ⊢;obtain⟨⟨⟨h1,h2⟩,h3⟩,h4⟩:=h;refine⟨⟨⟨h1,?_⟩,h3⟩,h4⟩;split
  ·rename_i hk;rw[if_pos hk] at h2;simp only[Bool.and_eq_true,Bool.not_eq_true',decide_eq_false_iff_not] at h2 ⊢;obtain⟨⟨h5,h6⟩,h7⟩:=h2;exact⟨⟨h5,by omega⟩,sndL_up kids (d+1) 1 (by omega) h7⟩
  ·rename_i hk;rw[if_neg hk] at h2;exact h2
theorem sndL_up:∀(l:List Sp) (d p:Nat),d+1≤16→sndL l (d+1) p=true→sndL l d p=true
 | [],_,_,_,_=>rfl
 | x::l,d,p,hd,h=>by
  simp only[sndL,Bool.and_eq_true] at h ⊢;exact⟨⟨snd1_up x d hd h.1.1,h.1.2⟩,sndL_up l d x.kind hd h.2⟩
end
theorem rowOk.adds {d:Nat}:∀{l:List Sp}{p:Nat}{r:Rw},rowOk r d→sndL l d p=true→rowOk (l.foldl Rw.add r) d
 | [],_,_,h,_=>h
 | x::l,p,r,h,hl=>by
  simp only[sndL,Bool.and_eq_true] at hl;rw[List.foldl_cons];exact rowOk.adds (l:=l) (h.add (.inr hl.1.1)) hl.2
theorem rowOk.spill {f:Fr}{r:Rw}{d:Nat} (hf:rowOk f.row (d+1)) (h:rowOk r d) (hd:d+1≤16):rowOk (spill f r) d :=
 ((h.write f.sign).adds (sndL_up _ _ _ hd hf.1)).write f.row.tx
def Rw.has (r:Rw):Prop:=r.sp≠[]∨r.tx≠[]
theorem has_write {r:Rw}{s:Bs} (h:r.has∨s≠[]):(r.write s).has:=by
 rcases h with (h|h)|h
 ·exact .inl h
 ·exact .inr (by simp[Rw.write,h])
 ·exact .inr (by simp[Rw.write,h])
theorem has_add {r:Rw}{x:Sp} (h:r.has∨x.kind≠0∨x.text≠[]):(r.add x).has:=by
 unfold Rw.add;split
 ·rename_i hk;exact has_write (by rcases h with h|h|h;exact .inl h;exact absurd hk h;exact .inr h)
 ·exact .inl (by simp)
theorem has_adds:∀{l:List Sp}{r:Rw},r.has→(l.foldl Rw.add r).has
 | [],_,h=>h
 | x::l,r,h=>by rw[List.foldl_cons];exact has_adds (l:=l) (has_add (.inl h))
theorem has_spill {f:Fr}{r:Rw} (h:f.sign≠[]):(spill f r).has:=has_write (.inl (has_adds (has_write (.inr h))))
theorem has_flush {r:Rw} (h:r.has):r.flush.sp≠[]:=by
 unfold Rw.flush;split
 ·rename_i ht
  rcases h with h|h
  ·exact h
  ·exact absurd ht h
 ·simp
def frOk:List Fr→Nat→Prop
 | [],n=>n=0
 | f::r,n=>rowOk f.row r.length∧(r≠[]→(f.kind=1∨f.kind=2∨f.kind=6)∧f.sign≠[]∧(f.kind≠6→f.sign.length=1))∧∃m,frOk r m∧n=(sayR f.row).length+f.sign.length+m
structure Snd (st:Pst) (i:Nat):Prop where
 n1:1≤st.fs.length
 n17:st.fs.length≤17
 fr:∃n,frOk st.fs n∧n≤i
 top:∀f r,st.fs=f::r→r≠[]→f.kind≠6→f.at'+1=i∨f.row.has
 fa:∀p∈st.faults,p.2=7∨p.2=8∨p.2=10
theorem Snd.first:Snd Pst.first 0:=by
 refine⟨by simp[Pst.first],by simp[Pst.first],⟨0,?_,Nat.le_refl _⟩,?_,?_⟩
 ·exact⟨rowOk.none 0,fun h=>absurd rfl h,0,rfl,rfl⟩
 ·intro f r h hr;cases h;exact absurd rfl hr
 ·intro p hp;cases hp
theorem Snd.tell {st:Pst}{i:Nat} (h:Snd st i) (a f:Nat) (hf:f=7∨f=8∨f=10):Snd (st.tell a f) i:=by
 refine⟨h.n1,h.n17,h.fr,h.top,fun p hp=>?_⟩
 rcases List.mem_append.1 hp with hp|hp
 ·exact h.fa p hp
 ·simp at hp;subst hp;exact hf
theorem Snd.row {st:Pst}{i j m:Nat}{g:Rw→Rw} (h:Snd st i) (hj:i+m≤j) (hg:∀r d,rowOk r d→rowOk (g r) d) (hs:∀r,(sayR (g r)).length≤(sayR r).length+m) (hh:∀r,(g r).has):Snd (st.top g) j:=by
 obtain⟨fs,fa⟩:=st
 match fs,h with
 | f::r,h =>
  obtain⟨n,h1,h2⟩:=h.fr;obtain⟨g1,g2,k,g3,rfl⟩:=h1;refine⟨by simp[Pst.top,onTop],by have:=h.n17;simpa [Pst.top,onTop] using this,⟨(sayR (g f.row)).length+f.sign.length+k,⟨hg _ _ g1,g2,k,g3,rfl⟩,?_⟩,?_,h.fa⟩
  ·have:=hs f.row;omega
  ·intro f' r' e hr _;simp only[Pst.top,onTop,List.cons.injEq] at e;obtain⟨rfl,rfl⟩:=e;exact .inr (hh f.row)
 | [],h=>exact absurd h.n1 (by simp)
theorem Snd.write {st:Pst}{i j:Nat} (h:Snd st i) (s:Bs) (hs:s≠[]) (hj:i+s.length≤j):Snd (st.write s) j :=
 h.row hj (fun _ _ hr=>hr.write s) (fun r=>by rw[sayR_write];simp) (fun r=>has_write (.inr hs))
theorem Snd.drop1 {st:Pst}{i j:Nat} (h:Snd st i) (h2:2≤st.fs.length) (hj:i≤j):Snd st.drop1 j∧∃f r,st.drop1.fs=f::r∧f.row.has:=by
 obtain⟨fs,fa⟩:=st
 match fs,h2,h with
 | f::g::r,_,h =>
  obtain⟨n,h1,h3⟩:=h.fr;obtain⟨g1,g2,k,⟨g3,g4,m,g5,rfl⟩,rfl⟩:=h1;have h17:=h.n17;simp only[List.length_cons] at h17 g1 g2;have hsg:=(g2 (by simp)).2.1;have hh:(Go.Bd.spill f g.row).has:=has_spill hsg;refine⟨⟨by simp[Pst.drop1,onTop],by simp[Pst.drop1,onTop];omega,⟨(sayR (spill f g.row)).length+g.sign.length+m,⟨rowOk.spill g1 g3 (by omega),g4,m,g5,rfl⟩,?_⟩,?_,?_⟩,⟨_,_,rfl,hh⟩⟩
  ·rw[sayR_spill];simp only[List.length_append];omega
  ·intro f' r' e hr _;simp only[Pst.drop1,onTop,List.cons.injEq] at e;obtain⟨rfl,rfl⟩:=e;exact .inr hh
  ·intro p hp
   rcases List.mem_append.1 hp with hp|hp
   ·exact h.fa p hp
   ·simp at hp;subst hp;exact .inl rfl
theorem Snd.dropN {i:Nat}:∀(n:Nat){st:Pst},Snd st i→n+1≤st.fs.length→Snd (st.dropN n) i∧(st.dropN n).fs.length+n=st.fs.length∧(1≤n→∃f r,(st.dropN n).fs=f::r∧f.row.has)
 | 0,_,h,_=>⟨h,rfl,fun h=>by omega⟩
 | n+1,st,h,hl=>by
  have h1:=drop1_length (st:=st) (by omega);obtain⟨h4,h5⟩:=h.drop1 (by omega) (Nat.le_refl _);obtain⟨h2,h3,h6⟩:=Snd.dropN n h4 (by omega);refine⟨h2,by rw[Pst.dropN];omega,fun _=>?_⟩;rw[Pst.dropN];cases n with
  | zero=>exact h5
  | succ n=>exact h6 (by omega)
theorem Snd.drop {st:Pst}{i n:Nat} (h:Snd st i) (hn:n<st.fs.length):Snd (st.drop n) i∧(st.drop n).fs.length=n+1∧(n+1<st.fs.length→∃f r,(st.drop n).fs=f::r∧f.row.has):=by
 obtain⟨h1,h2,h3⟩:=Snd.dropN (st.fs.length-1-n) h (by omega);exact⟨h1,by rw[Pst.drop];omega,fun h=>h3 (by omega)⟩
theorem Snd.fin {st:Pst}{i n j:Nat} (h:Snd st i) (h0:0<n) (hn:n<st.fs.length) (hj:i≤j) (ht:(n+1=st.fs.length→∀f r,st.fs=f::r→f.kind≠6→f.at'+1≠i)):Snd (st.fin n) j:=by
 obtain⟨h1,h2,h3⟩:=h.drop hn;have hh:∀f r,(st.drop n).fs=f::r→f.kind≠6→f.row.has:=fun f r e hk=>by
  by_cases hl:n+1<st.fs.length
  ·obtain⟨f',r',e',hf⟩:=h3 hl;rw[e] at e';cases e';exact hf
  ·have hd:st.drop n=st:=by rw[Pst.drop,show st.fs.length-1-n=0 by omega];rfl
   rw[hd] at e;have hr:r≠[]:=fun hr=>by rw[e,hr] at hn;simp at hn;omega
   rcases h.top f r e hr hk with h5|h5
   ·exact absurd h5 (ht (by omega) f r e hk)
   ·exact h5
 unfold Pst.fin;generalize st.drop n=sd at h1 h2 hh;obtain⟨fs,fa⟩:=sd
 match fs,h1,h2,hh with
 | f::g::r,h1,h2,hh =>
  obtain⟨m,k1,k2⟩:=h1.fr;obtain⟨g1,g2,k,⟨g3,g4,q,g5,rfl⟩,rfl⟩:=k1;have h17:=h1.n17;simp only[List.length_cons] at h17 g1 g2 h2;obtain⟨hk,hsg,_⟩:=g2 (by simp);have hx:snd1 ⟨f.kind,[],[],[],f.row.flush.sp⟩ r.length=true:=by
   have hfl:=g1.flush;simp only[snd1,Bool.and_eq_true];refine⟨⟨⟨⟨by simp;omega,by simp;omega⟩,?_⟩,by simp⟩,?_⟩
   ·rw[if_pos hk,hfl];simp;omega
   ·by_cases h6:f.kind=6
    ·simp[h6]
    ·have:=has_flush (hh f (g::r) rfl h6)
     simp[this]
  have hsy:(say1 ⟨f.kind,[],[],[],f.row.flush.sp⟩).length≤(sayR f.row).length:=by
   simp only[say1];split
   ·simp
   ·split
    ·rw[sayL_flush];exact Nat.le_refl _
    ·simp
  refine⟨by simp[Pst.shut,onTop],by simp[Pst.shut,onTop];omega,⟨(sayR (g.row.add ⟨f.kind,[],[],[],f.row.flush.sp⟩)).length+g.sign.length+q,⟨g3.add (.inr hx),g4,q,g5,rfl⟩,?_⟩,?_,h1.fa⟩
  ·rw[sayR_add,List.length_append];omega
  ·intro f' r' e hr _;simp only[Pst.shut,onTop,List.cons.injEq] at e;obtain⟨rfl,rfl⟩:=e;exact .inr (has_add (.inr (.inl (by simp only;omega))))
 | [f],h1,h2,hh=>simp at h2;omega
 | [],h1,h2,hh=>simp at h2
theorem Snd.begin {st:Pst}{i j:Nat} (h:Snd st i) (hr:st.room=true) (k:Nat) (sign:Bs) (hk:k=1∨k=2∨k=6) (hs:sign≠[]) (hs1:k≠6→sign.length=1) (hj:j=i+sign.length):Snd (st.begin k i sign) j:=by
 unfold Pst.room at hr;have:=of_decide_eq_true hr
 obtain⟨n,h1,h2⟩:=h.fr;refine⟨by simp[Pst.begin],by simp[Pst.begin];omega,⟨0+sign.length+n,⟨rowOk.none _,fun _=>⟨hk,hs,hs1⟩,n,h1,by simp[sayR,Rw.none,sayL]⟩,by omega⟩,?_,h.fa⟩;intro f r e _ h6;simp only[Pst.begin,List.cons.injEq] at e;obtain⟨rfl,rfl⟩:=e;simp only at h6 ⊢;rw[hj,hs1 h6];exact .inl rfl
theorem atOf_top' (f:Fr) (r:List Fr):atOf (f::r) r.length=f.at':=by
 unfold atOf;rw[List.reverse_cons,List.getElem?_append_right (by simp)];simp
theorem Snd.mark {st:Pst}{s:Bs}{i k:Nat} (h:Snd st i) (hk:k=1∨k=2):Snd (st.mark s i k) (i+1):=by
 unfold Pst.mark;split
 ·rename_i hc
  rcases lastK_lt k st.fs with h0|h0
  ·omega
  ·refine h.fin hc.1 h0 (by omega) (fun e f r hf _ he=>hc.2.1 ?_);have:lastK k st.fs=r.length:=by rw[hf] at e ⊢;simp at e ⊢;omega
   rw[this,hf,atOf_top'];exact he
 ·split
  ·exact h.write _ (by simp) (by simp)
  ·split
   ·exact (h.write (j:=i+1) _ (by simp) (by simp)).tell _ _ (.inl rfl)
   ·exact h.begin (by simp_all) k _ (by omega) (by simp) (fun _=>rfl) rfl
theorem as_snd {asf:Bs→Sp ⊕ Nat}{l:Bs}{x:Sp} (h:asf=codeS∨asf=refS∨asf=termS) (hx:asf l=.inl x) (hp:∀a b c,parseB l=some (a,b,c)→a.length≤l.length):(∀d,snd1 x d=true)∧x.kind≠0∧(say1 x).length≤l.length:=by
 rcases h with rfl|rfl|rfl
 ·cases hx;exact⟨fun d=>by simp[snd1],by simp,by simp[say1]⟩
 ·unfold refS at hx;split at hx
  ·cases hx;exact⟨fun d=>by simp[snd1],by simp,by simp[say1]⟩
  ·cases hx
 ·unfold termS at hx;split at hx
  ·rename_i a b c e;cases hx;exact⟨fun d=>by simp[snd1],by simp,by simpa [say1] using hp a b c e⟩
  ·cases hx
theorem as_fault {asf:Bs→Sp ⊕ Nat}{l:Bs}{f:Nat} (h:asf=codeS∨asf=refS∨asf=termS) (hx:asf l=.inr f):f=7∨f=8∨f=10:=by
 rcases h with rfl|rfl|rfl
 ·cases hx
 ·unfold refS at hx;split at hx
  ·cases hx
  ·cases hx;exact .inr (.inr rfl)
 ·unfold termS at hx;split at hx
  ·cases hx
  ·cases hx;exact .inr (.inl rfl)
theorem parse_le {l a b c:Bs} (h:parseB l=some (a,b,c)):a.length≤l.length:=by
 have h1:=trim_le (l.take (min (first l 59) (first l 62)));have h2:(l.take (min (first l 59) (first l 62))).length≤l.length:=by rw[List.length_take];omega
 unfold parseB at h;split at h
 ·cases h
 split at h
 ·cases h
 split at h
 ·cases h;omega
 split at h
 ·cases h
 split at h
 ·cases h;omega
 ·cases h;omega
theorem Snd.between {st:Pst}{s a b:Bs}{i:Nat}{asf:Bs→Sp ⊕ Nat} (h:Snd st i) (has:asf=codeS∨asf=refS∨asf=termS) (ha:1≤a.length) (hb:1≤b.length) (hi:i+a.length≤s.length) :
  Snd (st.between s i a b asf).1 (st.between s i a b asf).2:=by
 have ha0:a≠[]:=fun e=>by rw[e] at ha;simp at ha
 unfold Pst.between;split
 ·exact (h.write _ ha0 (Nat.le_refl _)).tell _ _ (.inl rfl)
 ·rename_i n hn;obtain⟨h1,h2⟩:=nextAt_some hi hn;have hl1:((s.drop i).take (n+b.length-i)).length=n+b.length-i:=by rw[List.length_take,List.length_drop];omega
  have hl2:((s.drop (i+a.length)).take (n-(i+a.length))).length=n-(i+a.length):=by rw[List.length_take,List.length_drop];omega
  split
  ·rename_i f hf;refine (h.write (j:=n+b.length) _ (fun e=>?_) (by omega)).tell _ _ (as_fault has hf);rw[e] at hl1;simp at hl1;omega
  ·rename_i x hx;obtain⟨p1,p2,p3⟩:=as_snd has hx (fun a b c e=>parse_le e);exact h.row (m:=(say1 x).length) (by rw[hl2] at p3;simp only;omega) (fun r d hr=>hr.add (.inr (p1 d))) (fun r=>by rw[sayR_add,List.length_append];exact Nat.le_refl _) (fun r=>has_add (.inr (.inl p2)))
theorem Snd.step {st:Pst}{s:Bs}{i:Nat} (h:Snd st i) (hi:i<s.length):Snd (st.step s i).1 (st.step s i).2:=by
 unfold Pst.step;split
 ·exact h.write _ (by simp) (by simp)
 split
 ·exact h.between (.inl rfl) (by simp) (by simp) (by simp;omega)
 split
 ·rename_i hp;exact h.between (.inr (.inl rfl)) (by simp) (by simp) (prefix_two hp)
 split
 ·rename_i hp;exact h.between (.inr (.inr rfl)) (by simp) (by simp) (prefix_two hp)
 split
 ·simp only;split
  ·rename_i hr;exact h.begin hr 6 _ (by omega) (by simp) (fun h=>absurd rfl h) rfl
  ·exact (h.write (j:=i+2) _ (by simp) (by simp)).tell _ _ (.inl rfl)
 split
 ·rename_i hc
  rcases lastK_lt 6 st.fs with h0|h0
  ·omega
  ·refine h.fin hc.2 h0 (by simp) (fun e f r hf h6=>?_);exfalso;refine h6 ?_;rw[hf] at e;have hl:lastK 6 (f::r)=r.length:=by simp at e;omega
   rw[lastK] at hl
   by_cases h7:r=[]
   ·rw[hf,lastK,if_pos h7] at hc;omega
   ·rw[if_neg h7] at hl
    by_cases h8:f.kind=6
    ·exact h8
    ·rw[if_neg h8] at hl
     rcases lastK_lt 6 r with h9|h9
     ·have:0<r.length:=List.length_pos_iff.2 h7
      omega
     ·omega
 split
 ·exact h.mark (.inl rfl)
 split
 ·exact h.mark (.inr rfl)
 ·exact h.write _ (by simp) (by simp)
theorem Snd.run {s:Bs}:∀(n i:Nat) (st:Pst),Inv st i→Snd st i→i≤s.length→s.length-i≤n→Snd (runP s n i st) s.length
 | 0,i,st,_,h,hi,hn=>by
  rw[run_end (s:=s) st (by omega)];have:i=s.length:=by omega
  rw[←this];exact h
 | n+1,i,st,hI,h,hi,hn=>by
  rw[runP];split
  ·rename_i hlt;obtain⟨h3,h4,h5⟩:=hI.step hlt;exact Snd.run n _ _ h3 (h.step hlt) h5 (by omega)
  ·have:i=s.length:=by omega
   rw[←this];exact h
theorem snd_end (s:Bs):Snd (endP s) s.length:=by
 have h:=Snd.run (s:=s) s.length 0 Pst.first Inv.first Snd.first (Nat.zero_le _) (by omega);exact (h.drop h.n1).1
theorem endP_one (s:Bs):∃f,(endP s).fs=[f]:=by
 have h:=Snd.run (s:=s) s.length 0 Pst.first Inv.first Snd.first (Nat.zero_le _) (by omega);have h2:=(h.drop h.n1).2.1
 match hq:(endP s).fs with
 | [f]=>exact⟨f,rfl⟩
 | []=>unfold endP at hq;rw[hq] at h2;simp at h2
 | f::g::r=>unfold endP at hq;rw[hq] at h2;simp at h2
theorem say_spans (s:Bs):(sayL (spansOf s)).length≤s.length:=by
 obtain⟨f,hf⟩:=endP_one s;obtain⟨n,h1,h2⟩:=(snd_end s).fr;rw[hf] at h1;obtain⟨_,_,m,_,rfl⟩:=h1;unfold spansOf;rw[hf];simp only;rw[sayL_flush];omega
end Go.Bd
