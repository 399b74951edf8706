/- part 11 -/
import Derived.Deep.QuietTactic
import Derived.BigQuiet
import Derived.Deep.AppendLies
import Derived.Test.YtkdknllcllhpgaaGreatDoorK0
import Derived.Test.YtkdknllcllhpgaaGreatDoorK1
import Derived.Test.YtkdknllcllhpgaaGreatDoorK5
import Derived.Test.YtkdknllcllhpgaaGreatDoorK10
set_option linter.unusedSimpArgs false
set_option linter.unusedVariables false
set_option maxHeartbeats 16000000
set_option maxRecDepth 100000
namespace Go.Proofs.YtkdknllcllhpgaaGreatDoor
open Go.RowKit Go.Bd
def twC (x:(ByteArray×ByteArray)):List Value:=[.string x.1,.string x.2]
theorem flS_info:(Tryz.prog.info? 45).map (fun i=>(i.zero,i.size,i.bytes))=some (some (.agg #[.string ⟨#[]⟩,.string ⟨#[]⟩]),2,32):=by kernel_rfl
theorem flS_under:Tryz.prog.underlying 28=some (.slice 45):=by kernel_rfl
theorem flS_make (n:Nat) (w:World) (hn:n≤1000000000):(Instr.makeSlice 28 (.int .i64 0) (.int .i64 n)).run Tryz.prog w=.ok (.slice (some ⟨w.heap.size,0,none⟩) 0 n) (w.alloc (.cells (madeCells #[.string ⟨#[]⟩,.string ⟨#[]⟩] (n*2)) 45)):=by
 obtain⟨i0,hi,hz0,hz1,hz2⟩:=info_parts flS_info;have h:=run_make (P:=Tryz.prog) w 28 45 i0 _ flS_under hi hz0 .i64 .i64 0 n (by omega) (by omega) (by rw[hz2];omega) (by omega);rw[hz1] at h;simpa [Value.cells] using h
def markS:List Value:=[.string ⟨#[115,112,97,114,101]⟩,.string ⟨#[]⟩]
theorem twinSources_any {w:World}{v:Value}{l:List (ByteArray×ByteArray)} (h:FlatAt twC 2 w v l) (hl:l.length≤1048576) :
  Calls Tryz.prog 8 #[v] w fun e w'=>∃v',e=.returned v'∧FlatM twC 2 45 markS w.heap.size w' v' l∧Below w.heap.size w w':=by
 obtain⟨A,c,rfl,hc,h1⟩:=h;obtain⟨n,hn⟩:∃n,l.length=n:=⟨_,rfl⟩;rw[hn] at hl hc ⊢;have mf:=flS_make (n+1) w (by omega);have hmz:=(show ∀(z:Array Value) (m:Nat),(madeCells z m).size=m from fun z m=>by simp[madeCells]) #[.string ⟨#[]⟩,.string ⟨#[]⟩] ((n+1)*2);generalize madeCells #[.string ⟨#[]⟩,.string ⟨#[]⟩] ((n+1)*2)=zc at mf hmz;rw[show (((n+1:Nat):Int))=(n:Int)+1 by push_cast;rfl] at mf;obtain⟨i0,hi0,hz0,hz1,hz2⟩:=info_parts flS_info;have HI:=hidH4 hi0 hz0 hz1 hz2;have HN:=hidH3 hn h1 hmz;clear hn h1 hmz hi0 hz0 hz1 hz2
 go_enter Tryz.func8,Tryz.ntmps8
 go_wp2;clear mf
 go_loopg [3,4] n (fun q vt vi wr=>∃k g cap:Nat,k+q=n∧vi=.int .i64 (k:Int)∧vt=.slice (some ⟨g,0,none⟩) k cap∧Hid (wr.ownsRow w.heap.size 45 2 (.slice (some ⟨g,0,none⟩) k cap) k ((l.take k).flatMap twC)∧Below w.heap.size w wr))
 case atStart =>
  exact⟨0,w.heap.size,n+1,by omega,rfl,rfl,⟨rfl,.inr ⟨w.heap.size,n+1,zc,rfl,Nat.le_refl _,heap_alloc_new w _,Nat.zero_le _,by unfold maxLen;omega,HN.out.2.2,rfl⟩⟩,(Below.refl _ _).alloc (Nat.le_refl _) _⟩
 case round =>
  obtain⟨k,g,cap,hk,rfl,rfl,HR⟩:=hrel;have hrb:=HR.out.2.size
  by_cases hlt:k<n
  ·obtain⟨x,hx⟩:∃x,l[k]? = some x:=⟨_,List.getElem?_eq_getElem (by rw[HN.out.1];exact hlt)⟩;obtain⟨b,off,rfl,hcl⟩:=HN.out.2.1 k x hx;have HX:=Lib.hid (show (l.take (k+1)).flatMap twC=(l.take k).flatMap twC++twC x by rw[List.take_add_one,hx,List.flatMap_append];simp);have z0:wr.cell? ⟨b,off+k*2,none⟩=some (.string x.1):=by have h2:=hcl 0 _ rfl;(try simp only[Nat.mul_one,Nat.add_zero] at h2);exact (HR.out.2.cell (p:=⟨b,off+k*2,none⟩) (World.block_lt_of_cell? w _ h2)).trans h2
   have z1:wr.cell? ⟨b,off+k*2+1,none⟩=some (.string x.2):=by have h2:=hcl 1 _ rfl;(try simp only[Nat.mul_one,Nat.add_zero] at h2);exact (HR.out.2.cell (p:=⟨b,off+k*2+1,none⟩) (World.block_lt_of_cell? w _ h2)).trans h2
   obtain⟨a0,ha0⟩:∃a,x.1=a:=⟨_,rfl⟩;rw[ha0] at z0;obtain⟨a1,ha1⟩:∃a,x.2=a:=⟨_,rfl⟩;rw[ha1] at z1;have HC:=Lib.hid (show twC x=[.string a0,.string a1] by unfold twC;rw[ha0,ha1]);clear hx hcl ha0 ha1
   go_wp2_with (at_builtin;refine wpList_append_lies _ rfl _ _ 28 rfl w.heap.size 45 i0 _ 2 32 flS_under HI.out.1 HI.out.2.1 HI.out.2.2.1 HI.out.2.2.2 rfl (by omega) (.slice (some ⟨g,0,none⟩) k cap) k ((l.take k).flatMap twC) (by rfl) (HR.out.1.alloc _) ⟨wr.heap.size,0,none⟩ 1 1 [.string a0,.string a1] (by rfl) (by rfl) (World.news_of_block (cs:=#[.string a0,.string a1]) (t:=45) (fr:=(0,0)) (heap_alloc_new wr _)) (by simp[Value.oneCell']) (by omega) (by unfold maxLen;omega) (by omega) (by simp;omega) (wr.heap.size+1) (by simp) ?_;intro g1 cap1 w3 hown3 hgrow hat hlt3)
   have hb3:Below w.heap.size w w3:=(HR.out.2.alloc hrb _).trans ((Chg.grown hgrow).toBelow (by simp;omega) (fun j hj=>(HR.out.1.lt j hj.symm).1));have HE:=hidH2 (show w3.ownsRow w.heap.size 45 2 (.slice (some ⟨g1,0,none⟩) (k+1) cap1) (k+1) ((l.take (k+1)).flatMap twC) by rw[HX.out,HC.out];exact hown3) hb3;clear hown3 hgrow hat hlt3 hb3
   go_roundg (gk-1)
   case measure=>omega
   case rel=>exact⟨k+1,g1,cap1,by omega,by go_num,rfl,HE.out⟩
  ·obtain rfl:k=n:=by omega
   have hown:wr.ownsRow w.heap.size 45 2 (.slice (some ⟨g,0,none⟩) k cap) k (l.flatMap twC):=by
    have h2:=HR.out.1;rw[List.take_of_length_le (by rw[HN.out.1];exact Nat.le_refl _)] at h2;exact h2
   have HO:=hidH2 hown HR.out.2;clear hown
   go_wp2_with (at_builtin;refine wpList_append_lies _ rfl _ _ 28 rfl w.heap.size 45 i0 _ 2 32 flS_under HI.out.1 HI.out.2.1 HI.out.2.2.1 HI.out.2.2.2 rfl (by omega) (.slice (some ⟨g,0,none⟩) k cap) k (l.flatMap twC) (by rfl) (HO.out.1.alloc _) ⟨wr.heap.size,0,none⟩ 1 1 [.string ⟨#[115,112,97,114,101]⟩,.string ⟨#[]⟩] (by rfl) (by rfl) (World.news_of_block (cs:=#[.string ⟨#[115,112,97,114,101]⟩,.string ⟨#[]⟩]) (t:=45) (fr:=(0,0)) (heap_alloc_new wr _)) (by simp[Value.oneCell']) (by omega) (by unfold maxLen;omega) (by omega) (by simp;omega) (wr.heap.size+1) (by simp) ?_;intro g1 cap1 w3 hown3 hgrow hat hlt3;have hcap3:=fl_cap hown3)
   have hb3:Below w.heap.size w w3:=(HO.out.2.alloc hrb _).trans ((Chg.grown hgrow).toBelow (by simp;omega) (fun j hj=>(HO.out.1.lt j hj.symm).1));have HE:=hidH2 hown3 hb3;clear hown3 hgrow hat hlt3 hb3
   go_ret
   exact⟨_,rfl,⟨g1,cap1,by rw[HN.out.1];rfl,by rw[HN.out.1];exact HE.out.1⟩,HE.out.2⟩
theorem leftSources_any {w:World}{t v:Value}{l:List (ByteArray×ByteArray)}{b0:Nat} (ht:FlatM twC 2 45 markS b0 w t l) (h:FlatAt twC 2 w v l) (hl:l.length≤1048576) :
  Calls Tryz.prog 13 #[t,v] w fun e w'=>e=.returned (.bool true)∧Below w.heap.size w w':=by
 obtain⟨A,c,rfl,hc,h1⟩:=h;obtain⟨g,cap,rfl,ht2⟩:=ht;obtain⟨n,hn⟩:∃n,l.length=n:=⟨_,rfl⟩;rw[hn] at hl hc ht2 ⊢;have hcap:=fl_cap ht2;obtain⟨h2,h3⟩:=FlatM.at (f:=twC) (fun _=>rfl) ht2 hn;have s0:w.cell? ⟨g,n*2,none⟩=some (.string ⟨#[115,112,97,114,101]⟩):=by have h4:=h3 0 _ rfl;(try simp only[Nat.mul_one,Nat.add_zero] at h4);exact h4
 have s1:w.cell? ⟨g,n*2+1,none⟩=some (.string ⟨#[]⟩):=h3 1 _ rfl;have HN:=hidH3 hn h1 h2;have HS:=hidH2 s0 (s1);clear hn h1 h2 h3 ht2 s0 s1
 go_enter Tryz.func13,Tryz.ntmps13
 go_wp2
 go_loopg [5] n (fun q vi wr=>∃k:Nat,k+q=n∧vi=.int .i64 (k:Int)∧Hid (Below w.heap.size w wr))
 case atStart=>exact⟨0,by omega,rfl,Below.refl _ _⟩
 case round =>
  obtain⟨k,hk,rfl,HB⟩:=hrel
  by_cases hlt:k<n
  ·obtain⟨x,hx⟩:∃x,l[k]? = some x:=⟨_,List.getElem?_eq_getElem (by rw[HN.out.1];exact hlt)⟩;obtain⟨b,off,rfl,hcl⟩:=HN.out.2.1 k x hx;have hcg:=HN.out.2.2 k x hx;have z0:wr.cell? ⟨b,off+k*2,none⟩=some (.string x.1):=by have h2:=hcl 0 _ rfl;(try simp only[Nat.mul_one,Nat.add_zero] at h2);exact (HB.out.cell (p:=⟨b,off+k*2,none⟩) (World.block_lt_of_cell? w _ h2)).trans h2
   have y0:wr.cell? ⟨g,k*2,none⟩=some (.string x.1):=by have h2:=hcg 0 _ rfl;(try simp only[Nat.mul_one,Nat.add_zero] at h2);exact (HB.out.cell (p:=⟨g,k*2,none⟩) (World.block_lt_of_cell? w _ h2)).trans h2
   have z1:wr.cell? ⟨b,off+k*2+1,none⟩=some (.string x.2):=by have h2:=hcl 1 _ rfl;(try simp only[Nat.mul_one,Nat.add_zero] at h2);exact (HB.out.cell (p:=⟨b,off+k*2+1,none⟩) (World.block_lt_of_cell? w _ h2)).trans h2
   have y1:wr.cell? ⟨g,k*2+1,none⟩=some (.string x.2):=by have h2:=hcg 1 _ rfl;(try simp only[Nat.mul_one,Nat.add_zero] at h2);exact (HB.out.cell (p:=⟨g,k*2+1,none⟩) (World.block_lt_of_cell? w _ h2)).trans h2
   obtain⟨a0,ha0⟩:∃a,x.1=a:=⟨_,rfl⟩;rw[ha0] at z0 y0;obtain⟨a1,ha1⟩:∃a,x.2=a:=⟨_,rfl⟩;rw[ha1] at z1 y1;clear hx hcl hcg ha0 ha1;go_wp2
   go_quiet (fail)
   go_wp2;have hb2:=Below.trans HB.out (((Chg.refl wr (fun _=>False)).drewN nq).toBelow HB.out.size (fun _ h=>h.elim))
   go_roundg (gk-1)
   case measure=>omega
   case rel=>exact⟨k+1,by omega,by go_num,hb2⟩
  ·obtain rfl:k=n:=by omega
   have z0:=(HB.out.cell (p:=⟨g,k*2,none⟩) (World.block_lt_of_cell? w _ (HS.out.1))).trans (HS.out.1);have z1:=(HB.out.cell (p:=⟨g,k*2+1,none⟩) (World.block_lt_of_cell? w _ (HS.out.2))).trans (HS.out.2);go_wp2
   go_ret
   exact⟨by first|rfl|simp,by first|exact HB.out|exact HB.out.alloc HB.out.size _⟩
def txC (x:ByteArray):List Value:=[.string x]
theorem flT_info:(Tryz.prog.info? 9).map (fun i=>(i.zero,i.size,i.bytes))=some (some (.string ⟨#[]⟩),1,16):=by kernel_rfl
theorem flT_under:Tryz.prog.underlying 24=some (.slice 9):=by kernel_rfl
theorem flT_make (n:Nat) (w:World) (hn:n≤1000000000):(Instr.makeSlice 24 (.int .i64 0) (.int .i64 n)).run Tryz.prog w=.ok (.slice (some ⟨w.heap.size,0,none⟩) 0 n) (w.alloc (.cells (madeCells #[.string ⟨#[]⟩] (n*1)) 9)):=by
 obtain⟨i0,hi,hz0,hz1,hz2⟩:=info_parts flT_info;have h:=run_make (P:=Tryz.prog) w 24 9 i0 _ flT_under hi hz0 .i64 .i64 0 n (by omega) (by omega) (by rw[hz2];omega) (by omega);rw[hz1] at h;simpa [Value.cells] using h
def markT:List Value:=[.string ⟨#[115,112,97,114,101]⟩]
theorem twinTexts_any {w:World}{v:Value}{l:List ByteArray} (h:FlatAt txC 1 w v l) (hl:l.length≤1048576) :
  Calls Tryz.prog 24 #[v] w fun e w'=>∃v',e=.returned v'∧FlatM txC 1 9 markT w.heap.size w' v' l∧Below w.heap.size w w':=by
 obtain⟨A,c,rfl,hc,h1⟩:=h;obtain⟨n,hn⟩:∃n,l.length=n:=⟨_,rfl⟩;rw[hn] at hl hc ⊢;have mf:=flT_make (n+1) w (by omega);have hmz:=(show ∀(z:Array Value) (m:Nat),(madeCells z m).size=m from fun z m=>by simp[madeCells]) #[.string ⟨#[]⟩] ((n+1)*1);generalize madeCells #[.string ⟨#[]⟩] ((n+1)*1)=zc at mf hmz;rw[show (((n+1:Nat):Int))=(n:Int)+1 by push_cast;rfl] at mf;obtain⟨i0,hi0,hz0,hz1,hz2⟩:=info_parts flT_info;have HI:=hidH4 hi0 hz0 hz1 hz2;have HN:=hidH3 hn h1 hmz;clear hn h1 hmz hi0 hz0 hz1 hz2
 go_enter Tryz.func24,Tryz.ntmps24
 go_wp2;clear mf
 go_loopg [3,4] n (fun q vt vi wr=>∃k g cap:Nat,k+q=n∧vi=.int .i64 (k:Int)∧vt=.slice (some ⟨g,0,none⟩) k cap∧Hid (wr.ownsRow w.heap.size 9 1 (.slice (some ⟨g,0,none⟩) k cap) k ((l.take k).flatMap txC)∧Below w.heap.size w wr))
 case atStart =>
  exact⟨0,w.heap.size,n+1,by omega,rfl,rfl,⟨rfl,.inr ⟨w.heap.size,n+1,zc,rfl,Nat.le_refl _,heap_alloc_new w _,Nat.zero_le _,by unfold maxLen;omega,HN.out.2.2,rfl⟩⟩,(Below.refl _ _).alloc (Nat.le_refl _) _⟩
 case round =>
  obtain⟨k,g,cap,hk,rfl,rfl,HR⟩:=hrel;have hrb:=HR.out.2.size
  by_cases hlt:k<n
  ·obtain⟨x,hx⟩:∃x,l[k]? = some x:=⟨_,List.getElem?_eq_getElem (by rw[HN.out.1];exact hlt)⟩;obtain⟨b,off,rfl,hcl⟩:=HN.out.2.1 k x hx;have HX:=Lib.hid (show (l.take (k+1)).flatMap txC=(l.take k).flatMap txC++txC x by rw[List.take_add_one,hx,List.flatMap_append];simp);have z0:wr.cell? ⟨b,off+k,none⟩=some (.string x):=by have h2:=hcl 0 _ rfl;(try simp only[Nat.mul_one,Nat.add_zero] at h2);exact (HR.out.2.cell (p:=⟨b,off+k,none⟩) (World.block_lt_of_cell? w _ h2)).trans h2
   obtain⟨a0,ha0⟩:∃a,x=a:=⟨_,rfl⟩;rw[ha0] at z0;have HC:=Lib.hid (show txC x=[.string a0] by unfold txC;rw[ha0]);clear hx hcl ha0
   go_wp2_with (at_builtin;refine wpList_append_lies _ rfl _ _ 24 rfl w.heap.size 9 i0 _ 1 16 flT_under HI.out.1 HI.out.2.1 HI.out.2.2.1 HI.out.2.2.2 rfl (by omega) (.slice (some ⟨g,0,none⟩) k cap) k ((l.take k).flatMap txC) (by rfl) (HR.out.1.alloc _) ⟨wr.heap.size,0,none⟩ 1 1 [.string a0] (by rfl) (by rfl) (World.news_of_block (cs:=#[.string a0]) (t:=9) (fr:=(0,0)) (heap_alloc_new wr _)) (by simp[Value.oneCell']) (by omega) (by unfold maxLen;omega) (by omega) (by simp;omega) (wr.heap.size+1) (by simp) ?_;intro g1 cap1 w3 hown3 hgrow hat hlt3)
   have hb3:Below w.heap.size w w3:=(HR.out.2.alloc hrb _).trans ((Chg.grown hgrow).toBelow (by simp;omega) (fun j hj=>(HR.out.1.lt j hj.symm).1));have HE:=hidH2 (show w3.ownsRow w.heap.size 9 1 (.slice (some ⟨g1,0,none⟩) (k+1) cap1) (k+1) ((l.take (k+1)).flatMap txC) by rw[HX.out,HC.out];exact hown3) hb3;clear hown3 hgrow hat hlt3 hb3
   go_roundg (gk-1)
   case measure=>omega
   case rel=>exact⟨k+1,g1,cap1,by omega,by go_num,rfl,HE.out⟩
  ·obtain rfl:k=n:=by omega
   have hown:wr.ownsRow w.heap.size 9 1 (.slice (some ⟨g,0,none⟩) k cap) k (l.flatMap txC):=by
    have h2:=HR.out.1;rw[List.take_of_length_le (by rw[HN.out.1];exact Nat.le_refl _)] at h2;exact h2
   have HO:=hidH2 hown HR.out.2;clear hown
   go_wp2_with (at_builtin;refine wpList_append_lies _ rfl _ _ 24 rfl w.heap.size 9 i0 _ 1 16 flT_under HI.out.1 HI.out.2.1 HI.out.2.2.1 HI.out.2.2.2 rfl (by omega) (.slice (some ⟨g,0,none⟩) k cap) k (l.flatMap txC) (by rfl) (HO.out.1.alloc _) ⟨wr.heap.size,0,none⟩ 1 1 [.string ⟨#[115,112,97,114,101]⟩] (by rfl) (by rfl) (World.news_of_block (cs:=#[.string ⟨#[115,112,97,114,101]⟩]) (t:=9) (fr:=(0,0)) (heap_alloc_new wr _)) (by simp[Value.oneCell']) (by omega) (by unfold maxLen;omega) (by omega) (by simp;omega) (wr.heap.size+1) (by simp) ?_;intro g1 cap1 w3 hown3 hgrow hat hlt3;have hcap3:=fl_cap hown3)
   have hb3:Below w.heap.size w w3:=(HO.out.2.alloc hrb _).trans ((Chg.grown hgrow).toBelow (by simp;omega) (fun j hj=>(HO.out.1.lt j hj.symm).1));have HE:=hidH2 hown3 hb3;clear hown3 hgrow hat hlt3 hb3
   go_ret
   exact⟨_,rfl,⟨g1,cap1,by rw[HN.out.1];rfl,by rw[HN.out.1];exact HE.out.1⟩,HE.out.2⟩
theorem leftTexts_any {w:World}{t v:Value}{l:List ByteArray}{b0:Nat} (ht:FlatM txC 1 9 markT b0 w t l) (h:FlatAt txC 1 w v l) (hl:l.length≤1048576) :
  Calls Tryz.prog 33 #[t,v] w fun e w'=>e=.returned (.bool true)∧Below w.heap.size w w':=by
 obtain⟨A,c,rfl,hc,h1⟩:=h;obtain⟨g,cap,rfl,ht2⟩:=ht;obtain⟨n,hn⟩:∃n,l.length=n:=⟨_,rfl⟩;rw[hn] at hl hc ht2 ⊢;have hcap:=fl_cap ht2;obtain⟨h2,h3⟩:=FlatM.at (f:=txC) (fun _=>rfl) ht2 hn;have s0:w.cell? ⟨g,n,none⟩=some (.string ⟨#[115,112,97,114,101]⟩):=by have h4:=h3 0 _ rfl;(try simp only[Nat.mul_one,Nat.add_zero] at h4);exact h4
 have HN:=hidH3 hn h1 h2;have HS:=Lib.hid (s0);clear hn h1 h2 h3 ht2 s0
 go_enter Tryz.func33,Tryz.ntmps33
 go_wp2
 go_loopg [5] n (fun q vi wr=>∃k:Nat,k+q=n∧vi=.int .i64 (k:Int)∧Hid (Below w.heap.size w wr))
 case atStart=>exact⟨0,by omega,rfl,Below.refl _ _⟩
 case round =>
  obtain⟨k,hk,rfl,HB⟩:=hrel
  by_cases hlt:k<n
  ·obtain⟨x,hx⟩:∃x,l[k]? = some x:=⟨_,List.getElem?_eq_getElem (by rw[HN.out.1];exact hlt)⟩;obtain⟨b,off,rfl,hcl⟩:=HN.out.2.1 k x hx;have hcg:=HN.out.2.2 k x hx;have z0:wr.cell? ⟨b,off+k,none⟩=some (.string x):=by have h2:=hcl 0 _ rfl;(try simp only[Nat.mul_one,Nat.add_zero] at h2);exact (HB.out.cell (p:=⟨b,off+k,none⟩) (World.block_lt_of_cell? w _ h2)).trans h2
   have y0:wr.cell? ⟨g,k,none⟩=some (.string x):=by have h2:=hcg 0 _ rfl;(try simp only[Nat.mul_one,Nat.add_zero] at h2);exact (HB.out.cell (p:=⟨g,k,none⟩) (World.block_lt_of_cell? w _ h2)).trans h2
   obtain⟨a0,ha0⟩:∃a,x=a:=⟨_,rfl⟩;rw[ha0] at z0 y0;clear hx hcl hcg ha0;go_wp2
   go_quiet (fail)
   go_wp2;have hb2:=Below.trans HB.out (((Chg.refl wr (fun _=>False)).drewN nq).toBelow HB.out.size (fun _ h=>h.elim))
   go_roundg (gk-1)
   case measure=>omega
   case rel=>exact⟨k+1,by omega,by go_num,hb2⟩
  ·obtain rfl:k=n:=by omega
   have z0:=(HB.out.cell (p:=⟨g,k,none⟩) (World.block_lt_of_cell? w _ (HS.out))).trans (HS.out);go_wp2
   go_ret
   exact⟨by first|rfl|simp,by first|exact HB.out|exact HB.out.alloc HB.out.size _⟩
end Go.Proofs.YtkdknllcllhpgaaGreatDoor
namespace Go.Bd
open Go.RowKit Go.Proofs.YtkdknllcllhpgaaGreatDoor
def twoZ (l:List (ByteArray×ByteArray)):Nat:=l.length+(l.map fun f=>f.1.size+f.2.size).sum
theorem twoZ_take {l:List (ByteArray×ByteArray)}{k:Nat}{f:ByteArray×ByteArray} (h:l[k]? = some f):l.length+((l.take (k+1)).map fun f=>f.1.size+f.2.size).sum=l.length+((l.take k).map fun f=>f.1.size+f.2.size).sum+(f.1.size+f.2.size):=by
 rw[List.take_add_one,h,List.map_append,List.sum_append];simp;omega
theorem twoZ_mem:∀{l:List (ByteArray×ByteArray)}{f:ByteArray×ByteArray},f∈l→f.1.size+f.2.size+1≤twoZ l
 | [],f,h=>by cases h
 | x::l,f,h=>by
  have e:twoZ (x::l)=(x.1.size+x.2.size)+1+twoZ l:=by unfold twoZ;simp;omega
  rw[e]
  rcases List.mem_cons.1 h with rfl|h
  ·omega
  ·have:=twoZ_mem h;omega
theorem halfs_succ:∀(k n:Nat),halfs (k+1) n=halfs k n*3 / 2
 | 0,n=>rfl
 | k+1,n=>by
  have ih:=halfs_succ k (n*3 / 2)
  show halfs (k+1) (n*3 / 2)=_
  rw[ih];rfl
theorem cntB_short (w:Bs) (hw:0<w.length):∀l:Bs,l.length<w.length→cntB w l=0
 | [],_=>rfl
 | c::l,h=>by
  have ih:=cntB_short w hw l (by rw[List.length_cons] at h;omega)
  show (if Lib.hasPrefix (c::l) w then 1 else 0)+cntB w l=0
  rw[ih,if_neg];intro hp;unfold Lib.hasPrefix at hp;have:=(List.isPrefixOf_iff_prefix.1 hp).length_le
  omega
theorem cntB_step (w:Bs) (l:Bs) (i:Nat) (h:i<l.length):cntB w (l.drop i)=(if Lib.hasPrefix (l.drop i) w then 1 else 0)+cntB w (l.drop (i+1)):=by
 rw[List.drop_eq_getElem_cons h];rfl
theorem pre_take (l w:Bs) (h:w.length≤l.length):Lib.hasPrefix l w=decide (l.take w.length=w):=by
 unfold Lib.hasPrefix;rw[Bool.eq_iff_iff,List.isPrefixOf_iff_prefix,decide_eq_true_eq,List.prefix_iff_eq_take];exact⟨fun h=>h.symm,fun h=>h.symm⟩
end Go.Bd
namespace Go.Proofs.YtkdknllcllhpgaaGreatDoor
open Go.RowKit Go.Bd
theorem sourcesSize_any {w:World}{S:Nat→Prop}{v:Value}{l:List (ByteArray×ByteArray)} (h:TwoS w S v l) (hS:∀k,S k→k<w.heap.size) (hl:twoZ l≤1048576) :
  Calls Tryz.prog 15 #[v] w fun e w'=>e=.returned (.int .i64 (twoZ l:Int))∧Below w.heap.size w w':=by
 obtain⟨A,c,rfl,hc,k1⟩:=h;have H1:=hidH2 k1 hS;obtain⟨m,hm⟩:∃m,l.length=m:=⟨_,rfl⟩;have HL:Hid (∀k,k≤m→m+((l.take k).map fun f=>f.1.size+f.2.size).sum≤1048576):=Lib.hid (fun k _=>by
  have:=sum_take_le (l.map fun f=>f.1.size+f.2.size) k
  unfold twoZ at hl;rw[←List.map_take] at this;omega)
 have hml:m≤1048576:=by unfold twoZ at hl;omega
 have HZ:Hid (twoZ l=m+(l.map fun f=>f.1.size+f.2.size).sum):=Lib.hid (by unfold twoZ;omega);rw[hm] at hc ⊢;have HN:=Lib.hid hm;clear hm k1 hl hS
 go_enter Tryz.func15,Tryz.ntmps15
 go_wp2_with fail
 go_loopg [3,4] m (fun q nv iv wr=>∃k n:Nat,k+q=m∧iv=.int .i64 (k:Int)∧nv=.int .i64 (n:Int)∧n≤1048576∧Hid (n=m+((l.take k).map fun f=>f.1.size+f.2.size).sum∧Below w.heap.size w wr))
 case atStart=>exact⟨0,m,by omega,rfl,rfl,hml,Lib.hid ⟨by simp,Below.refl _ _⟩⟩
 case round =>
  obtain⟨k,n,hk,rfl,rfl,hn,HR⟩:=hrel
  by_cases hlt:k<m
  ·obtain⟨f,hf⟩:∃f,l[k]? = some f:=⟨_,List.getElem?_eq_getElem (by rw[HN.out];exact hlt)⟩;obtain⟨b,off,rfl,_,x0,x1⟩:=H1.out.1 k f hf;have e:∀{p:Addr} {z:Value},w.cell? p=some z→wr.cell? p=some z:=fun {p z} h=>(HR.out.2.cell (World.block_lt_of_cell? w _ h)).trans h
   replace x0:=e x0
   replace x1:=e x1
   have hnx:=twoZ_take hf;rw[HN.out,←HR.out.1] at hnx;have hle:=HL.out (k+1) (by omega);rw[hnx] at hle;obtain⟨gx,hgx⟩:∃gx,f.2=gx:=⟨_,rfl⟩;obtain⟨nx,hnm⟩:∃nx,f.1=nx:=⟨_,rfl⟩;rw[hgx] at x1 hnx hle;rw[hnm] at x0 hnx hle;have HX:=Lib.hid hnx;have HD:=Lib.hid (HR.out.2.drew);clear e hf hgx hnm hnx
   go_wp2_with fail
   go_region
   all_goals (
    go_wp2_with fail
    go_roundg (gk-1)
    case measure=>omega
    case rel=>exact⟨k+1,n+(nx.size+gx.size),by omega,by go_num,by go_num,hle,Lib.hid ⟨HX.out.symm,by first|exact HD.out|exact HR.out.2⟩⟩)
  ·obtain rfl:k=m:=by omega
   have hfin:Hid (n=twoZ l):=Lib.hid (by
    have:=HR.out.1
    rw[List.take_of_length_le (by rw[HN.out];exact Nat.le_refl _)] at this;rw[HZ.out,this])
   go_wp2_with fail
   go_ret
   exact⟨by rw[←hfin.out];(first|done|rfl),HR.out.2⟩
theorem attrsSize_any {w:World}{S:Nat→Prop}{v:Value}{l:List (ByteArray×ByteArray)} (h:TwoS w S v l) (hS:∀k,S k→k<w.heap.size) (hl:twoZ l≤1048576) :
  Calls Tryz.prog 16 #[v] w fun e w'=>e=.returned (.int .i64 (twoZ l:Int))∧Below w.heap.size w w':=by
 obtain⟨A,c,rfl,hc,k1⟩:=h;have H1:=hidH2 k1 hS;obtain⟨m,hm⟩:∃m,l.length=m:=⟨_,rfl⟩;have HL:Hid (∀k,k≤m→m+((l.take k).map fun f=>f.1.size+f.2.size).sum≤1048576):=Lib.hid (fun k _=>by
  have:=sum_take_le (l.map fun f=>f.1.size+f.2.size) k
  unfold twoZ at hl;rw[←List.map_take] at this;omega)
 have hml:m≤1048576:=by unfold twoZ at hl;omega
 have HZ:Hid (twoZ l=m+(l.map fun f=>f.1.size+f.2.size).sum):=Lib.hid (by unfold twoZ;omega);rw[hm] at hc ⊢;have HN:=Lib.hid hm;clear hm k1 hl hS
 go_enter Tryz.func16,Tryz.ntmps16
 go_wp2_with fail
 go_loopg [3,4] m (fun q nv iv wr=>∃k n:Nat,k+q=m∧iv=.int .i64 (k:Int)∧nv=.int .i64 (n:Int)∧n≤1048576∧Hid (n=m+((l.take k).map fun f=>f.1.size+f.2.size).sum∧Below w.heap.size w wr))
 case atStart=>exact⟨0,m,by omega,rfl,rfl,hml,Lib.hid ⟨by simp,Below.refl _ _⟩⟩
 case round =>
  obtain⟨k,n,hk,rfl,rfl,hn,HR⟩:=hrel
  by_cases hlt:k<m
  ·obtain⟨f,hf⟩:∃f,l[k]? = some f:=⟨_,List.getElem?_eq_getElem (by rw[HN.out];exact hlt)⟩;obtain⟨b,off,rfl,_,x0,x1⟩:=H1.out.1 k f hf;have e:∀{p:Addr} {z:Value},w.cell? p=some z→wr.cell? p=some z:=fun {p z} h=>(HR.out.2.cell (World.block_lt_of_cell? w _ h)).trans h
   replace x0:=e x0
   replace x1:=e x1
   have hnx:=twoZ_take hf;rw[HN.out,←HR.out.1] at hnx;have hle:=HL.out (k+1) (by omega);rw[hnx] at hle;obtain⟨gx,hgx⟩:∃gx,f.2=gx:=⟨_,rfl⟩;obtain⟨nx,hnm⟩:∃nx,f.1=nx:=⟨_,rfl⟩;rw[hgx] at x1 hnx hle;rw[hnm] at x0 hnx hle;have HX:=Lib.hid hnx;have HD:=Lib.hid (HR.out.2.drew);clear e hf hgx hnm hnx
   go_wp2_with fail
   go_region
   all_goals (
    go_wp2_with fail
    go_roundg (gk-1)
    case measure=>omega
    case rel=>exact⟨k+1,n+(nx.size+gx.size),by omega,by go_num,by go_num,hle,Lib.hid ⟨HX.out.symm,by first|exact HD.out|exact HR.out.2⟩⟩)
  ·obtain rfl:k=m:=by omega
   have hfin:Hid (n=twoZ l):=Lib.hid (by
    have:=HR.out.1
    rw[List.take_of_length_le (by rw[HN.out];exact Nat.le_refl _)] at this;rw[HZ.out,this])
   go_wp2_with fail
   go_ret
   exact⟨by rw[←hfin.out];(first|done|rfl),HR.out.2⟩
theorem count_any (s t:ByteArray) (w:World) (hs:s.size≤1000000000) (ht:0<t.size) (ht2:t.size≤1000) :
  Calls Tryz.prog 34 #[.string s,.string t] w fun e w'=>e=.returned (.int .i64 (cntB t.data.toList s.data.toList:Int))∧Below w.heap.size w w':=by
 have hlen:=cntB_le t.data.toList s.data.toList;rw[size_lst] at hlen;have HL:=Lib.hid hlen;clear hlen
 go_enter Tryz.func34,Tryz.ntmps34
 go_wp2_with fail
 go_loopg [5,6] s.size (fun q nv iv wr=>∃k c:Nat,k+q=s.size∧iv=.int .i64 (k:Int)∧nv=.int .i64 (c:Int)∧c≤k∧Hid (c+cntB t.data.toList (s.data.toList.drop k)=cntB t.data.toList s.data.toList∧Below w.heap.size w wr))
 case atStart=>exact⟨0,0,by omega,rfl,rfl,Nat.le_refl _,Lib.hid ⟨by simp,Below.refl _ _⟩⟩
 case round =>
  obtain⟨k,c,hk,rfl,rfl,hc,HR⟩:=hrel
  by_cases hlt:k+t.size≤s.size
  ·have h1:=cntB_step t.data.toList s.data.toList k (by rw[size_lst];omega);have h2:=pre_take (s.data.toList.drop k) t.data.toList (by rw[List.length_drop,size_lst,size_lst];omega);obtain⟨sub,hsub⟩:∃sub,s.extract k (k+t.size)=sub:=⟨_,rfl⟩;have hsl:sub.data.toList=(s.data.toList.drop k).take t.data.toList.length:=by
    rw[←hsub,ext_lst,size_lst,List.drop_take,Nat.add_sub_cancel_left]
   rw[←hsl] at h2;have hE:=toL_eq sub t;have hd2:decide (sub.data.toList=t.data.toList)=decide (sub=t):=by
    rw[Bool.eq_iff_iff,decide_eq_true_eq,decide_eq_true_eq];constructor
    ·intro h;cases sub;cases t;simp at h;rw[h]
    ·intro h;rw[h]
   rw[hd2] at h2;obtain⟨d,hd⟩:∃d,decide (sub=t)=d:=⟨_,rfl⟩;rw[hd] at hE h2;rw[h2] at h1;have HS:=hidH2 hsub h1;clear h1 h2 hsl hd2 hd;have hi1:((k:Int)+(t.size:Int)≤(s.size:Int)):=by omega
   have e1:IntKind.i64.wrap ((k:Int)+(t.size:Int))=(k:Int)+(t.size:Int):=IntWalk.i64_in _ (by omega);have e2:((k:Int)+(t.size:Int)).toNat=k+t.size:=by omega
   have e3:IntKind.i64.wrap ((c:Int)+1)=(c:Int)+1:=IntWalk.i64_in _ (by omega);have e4:IntKind.i64.wrap ((k:Int)+1)=(k:Int)+1:=IntWalk.i64_in _ (by omega);have e5:¬((k:Int)+(t.size:Int)<0):=by omega
   have e6:¬((k:Int)+(t.size:Int)<(k:Int)):=by omega
   cases d
   ·go_wp2_with fail
    go_roundg (gk-1)
    case measure=>omega
    case rel =>
     have h:=HS.out.2;simp only[Bool.false_eq_true,if_false] at h;exact⟨k+1,c,by omega,by go_num,by go_num,by omega,Lib.hid ⟨by have:=HR.out.1;omega,HR.out.2⟩⟩
   ·go_wp2_with fail
    go_roundg (gk-1)
    case measure=>omega
    case rel =>
     have h:=HS.out.2;simp only[if_true] at h;exact⟨k+1,c+1,by omega,by go_num,by go_num,by omega,Lib.hid ⟨by have:=HR.out.1;omega,HR.out.2⟩⟩
  ·have h0:=cntB_short t.data.toList (by rw[size_lst];exact ht) (s.data.toList.drop k) (by rw[List.length_drop,size_lst,size_lst];omega);have HE:Hid (c=cntB t.data.toList s.data.toList):=Lib.hid (by have:=HR.out.1;omega);have e1:IntKind.i64.wrap ((k:Int)+(t.size:Int))=(k:Int)+(t.size:Int):=IntWalk.i64_in _ (by omega);have hi1:¬((k:Int)+(t.size:Int)≤(s.size:Int)):=by omega
   clear h0
   go_wp2_with fail
   go_ret
   exact⟨by rw[←HE.out];(first|done|rfl),HR.out.2⟩
def cntL (l:List ByteArray):Nat:=(l.map fun t=>cntB inclW t.data.toList).sum
def sumL (l:List ByteArray):Nat:=(l.map (·.size)).sum
theorem cntL_snoc (l:List ByteArray) (t:ByteArray):cntL (l++[t])=cntL l+cntB inclW t.data.toList:=by unfold cntL;simp
theorem sumL_snoc (l:List ByteArray) (t:ByteArray):sumL (l++[t])=sumL l+t.size:=by unfold sumL;simp
theorem sumL_take (l:List ByteArray) (k:Nat):sumL (l.take k)≤sumL l:=by
 unfold sumL;have:=sum_take_le (l.map (·.size)) k
 rwa [←List.map_take] at this
theorem cntL_le:∀l:List ByteArray,cntL l≤sumL l
 | []=>Nat.le_refl _
 | t::l=>by
  have h1:=cntL_le l;have h2:=cntB_le inclW t.data.toList;rw[size_lst] at h2;unfold cntL sumL at *;simp only[List.map_cons,List.sum_cons];omega
def SwP (n:Nat) (l:List ByteArray) (w:World) (e:Ending) (w':World):Prop:=∃g:Bool,e=.returned (.bool g)∧(g=false→∃b,n≤b∧halfs (cntL l) b≤60000)∧Below w.heap.size w w'
theorem swells_any {w:World}{S:Nat→Prop}{tv:Value}{l:List ByteArray} (h:TxS w S tv l) (hS:∀k,S k→k<w.heap.size) (hl:l.length≤100) (hz:sumL l≤8000) (n value:Nat) (hn:n≤8000) (hv:value≤8000) :
  Calls Tryz.prog 17 #[tv,.int .i64 (n:Int),.int .i64 (value:Int)] w (SwP n l w):=by
 obtain⟨A,c,rfl,hc,k1⟩:=h;obtain⟨m,hm⟩:∃m,l.length=m:=⟨_,rfl⟩;rw[hm] at hc hl ⊢;have hct:∀(t:ByteArray) W,t.size≤8000→Calls Tryz.prog 34 #[.string t,.string ⟨#[105,110,99,108,117,100,101]⟩] W (fun e w'=>e=.returned (.int .i64 (cntB inclW t.data.toList:Int))∧Below W.heap.size W w') ∧
   Calls Tryz.prog 34 #[.string t,.string ⟨#[123]⟩] W (fun e w'=>(∃c:Nat,c≤t.size∧e=.returned (.int .i64 (c:Int)))∧Below W.heap.size W w') ∧
   Calls Tryz.prog 34 #[.string t,.string ⟨#[115,101,116]⟩] W (fun e w'=>(∃c:Nat,e=.returned (.int .i64 (c:Int)))∧Below W.heap.size W w'):=fun t W hts=>by
  refine⟨count_any t ⟨#[105,110,99,108,117,100,101]⟩ W (by omega) (by decide) (by decide),?_,?_⟩
  ·refine (count_any t ⟨#[123]⟩ W (by omega) (by decide) (by decide)).mono ?_;rintro e w' ⟨rfl,hb⟩;have:=cntB_le [123] t.data.toList
   rw[size_lst] at this;exact⟨⟨_,this,rfl⟩,hb⟩
  ·refine (count_any t ⟨#[115,101,116]⟩ W (by omega) (by decide) (by decide)).mono ?_;rintro e w' ⟨rfl,hb⟩;exact⟨⟨_,rfl⟩,hb⟩
 have hsum:∀k t,l[k]? = some t→sumL (l.take k)+t.size≤8000∧cntL (l.take (k+1))=cntL (l.take k)+cntB inclW t.data.toList:=fun k t hk=>by
  have e:l.take (k+1)=l.take k++[t]:=by rw[List.take_add_one,hk];rfl
  have h1:=sumL_take l (k+1);rw[e,sumL_snoc] at h1;rw[e,cntL_snoc];exact⟨by omega,rfl⟩
 have hcb:∀k,cntL (l.take k)≤8000:=fun k=>Nat.le_trans (cntL_le _) (Nat.le_trans (sumL_take l k) hz)
 have HH:=hidH6 k1 hS hct hsum hm hcb;clear k1 hS hct hsum hm hcb
 go_enter Tryz.func17,Tryz.ntmps17
 go_wp2_with fail
 go_loopg [2,7,8,9] m (fun q vv iv bv kv wr=>∃k v b:Nat,k+q=m∧kv=.int .i64 (k:Int)∧vv=.int .i64 (v:Int)∧bv=.int .i64 (b:Int)∧iv=.int .i64 (cntL (l.take k):Int)∧v≤8000∧b≤8000∧Hid (b≤sumL (l.take k)∧Below w.heap.size w wr))
 case atStart=>exact⟨0,value,0,by omega,rfl,rfl,rfl,rfl,hv,by omega,Lib.hid ⟨Nat.zero_le _,Below.refl _ _⟩⟩
 case round =>
  obtain⟨k,v,b,hk,rfl,rfl,rfl,rfl,hvb,hbb,HR⟩:=hrel
  by_cases hlt:k<m
  ·obtain⟨t,ht⟩:∃t,l[k]? = some t:=⟨_,List.getElem?_eq_getElem (by have:=HH.out.2.2.2.2.1;omega)⟩;obtain⟨g,off,rfl,hSg,c0⟩:=HH.out.1 k t ht;have hgl:=HH.out.2.1 g hSg;have q0:=(HR.out.2.cell (p:=⟨g,off+k,none⟩) hgl).trans c0;obtain⟨hs1,hs2⟩:=HH.out.2.2.2.1 k t ht;have hsk:sumL (l.take (k+1))=sumL (l.take k)+t.size:=by rw[List.take_add_one,ht];exact sumL_snoc _ _
   have hcl:=cntB_le inclW t.data.toList;rw[size_lst] at hcl;have hk8:=HH.out.2.2.2.2.2 k;have hb8:=HR.out.1;obtain⟨ck,hck⟩:∃ck,cntL (l.take k)=ck:=⟨_,rfl⟩;obtain⟨ct,hct⟩:∃ct,cntB inclW t.data.toList=ct:=⟨_,rfl⟩;have hC:=HH.out.2.2.1 t;rw[hct] at hs2 hcl hC;rw[hck] at hs2 hk8 ⊢;have e1:IntKind.i64.wrap ((ck:Int)+(ct:Int))=(ck:Int)+(ct:Int):=IntWalk.i64_in _ (by omega);have HT:=hidH6 hC hs2 hs1 hsk hgl hb8;clear ht hSg c0 hs1 hs2 hck hct hC hsk hb8
   go_wp2_with fail
   refine (HT.out.1 wr (by have:=HT.out.2.2.1;omega)).1.mono ?_;rintro e w2 ⟨rfl,hb2⟩;have q2:=(hb2.cell (p:=⟨g,off+k,none⟩) (Nat.lt_of_lt_of_le HT.out.2.2.2.2.1 HR.out.2.size)).trans q0;have hw2:=HR.out.2.trans (hb2.mono HR.out.2.size);have HW2:=Lib.hid hw2;clear hw2 hb2
   go_wp2_with fail
   refine (HT.out.1 w2 (by have:=HT.out.2.2.1;omega)).2.1.mono ?_;rintro e w3 ⟨⟨bc,hbc,rfl⟩,hb3⟩;have q3:=(hb3.cell (p:=⟨g,off+k,none⟩) (Nat.lt_of_lt_of_le HT.out.2.2.2.2.1 HW2.out.size)).trans q2;have hw3:=HW2.out.trans (hb3.mono HW2.out.size);have HW3:=Lib.hid hw3;have hbb2:b+bc≤8000:=by have h1:=HT.out.2.2.1;have h2:=HT.out.2.2.2.2.2;omega
   have e2:IntKind.i64.wrap ((b:Int)+(bc:Int))=(b:Int)+(bc:Int):=IntWalk.i64_in _ (by omega);clear hw3 hb3
   go_wp2_with fail
   refine (HT.out.1 w3 (by have:=HT.out.2.2.1;omega)).2.2.mono ?_;rintro e w4 ⟨⟨sc,rfl⟩,hb4⟩;have HW4:=Lib.hid (HW3.out.trans (hb4.mono HW3.out.size));clear hb4
   by_cases hsc:0<sc
   ·have hsi:(0:Int)<(sc:Int):=by omega
    go_wp2_with fail
    go_roundg (gk-1)
    case measure=>omega
    case rel=>exact⟨k+1,1024,b+bc,by omega,by go_num,rfl,by go_num,by rw[HT.out.2.1];go_num,by omega,by omega,Lib.hid ⟨by have h1:=HT.out.2.2.2.1;have h2:=HT.out.2.2.2.2.2;omega,HW4.out⟩⟩
   ·have hsi:¬(0:Int)<(sc:Int):=by omega
    go_wp2_with fail
    go_roundg (gk-1)
    case measure=>omega
    case rel=>exact⟨k+1,v,b+bc,by omega,by go_num,rfl,by go_num,by rw[HT.out.2.1];go_num,hvb,by omega,Lib.hid ⟨by have h1:=HT.out.2.2.2.1;have h2:=HT.out.2.2.2.2.2;omega,HW4.out⟩⟩
  ·obtain rfl:k=m:=by omega
   have hlk:l.take k=l:=List.take_of_length_le (by rw[HH.out.2.2.2.2.1];exact Nat.le_refl _);have hcb:=HH.out.2.2.2.2.2 k;rw[hlk] at hcb ⊢;obtain⟨K,hK⟩:∃K,cntL l=K:=⟨_,rfl⟩;have HK:=Lib.hid hK;rw[hK] at hcb ⊢;obtain⟨mn,hmn⟩:∃mn:Nat,(if v≤n then v else n)=mn:=⟨_,rfl⟩;have hmn1:(min (v:Int) (n:Int))=(mn:Int):=by subst hmn;split<;>omega
   have hmn2:mn≤8000:=by subst hmn;split<;>omega
   have hpr:b*mn≤8000*8000:=Nat.mul_le_mul hbb hmn2;obtain⟨pr,hpr2⟩:∃pr,b*mn=pr:=⟨_,rfl⟩;have hpi:(b:Int)*(mn:Int)=(pr:Int):=by rw[←hpr2];exact (Int.natCast_mul b mn).symm
   rw[hpr2] at hpr;have e1:IntKind.i64.wrap (pr:Int)=(pr:Int):=IntWalk.i64_in _ (by omega);have e2:IntKind.i64.wrap ((n:Int)+(pr:Int))=(n:Int)+(pr:Int):=IntWalk.i64_in _ (by omega);obtain⟨wO,hwO⟩:∃x,x=wr:=⟨_,rfl⟩;subst hwO;clear hlk hK hmn hpr2 hk hlt
   go_wp2_with fail
   go_loopg [10,11] K (fun q nv iv wr=>∃i x:Nat,i+q=K∧iv=.int .i64 (i:Int)∧nv=.int .i64 (x:Int)∧x≤64008000∧Hid (x=halfs i (n+pr)∧Below w.heap.size w wr))
   case atStart=>exact⟨0,n+pr,by omega,rfl,by go_num,by omega,Lib.hid ⟨rfl,HR.out.2⟩⟩
   case round =>
    obtain⟨i,x,hi,rfl,rfl,hx,HR2⟩:=hrel
    by_cases hlt:i<K
    ·by_cases hx6:x≤60000
     ·have hx7:((x:Int)≤60000):=by omega
      have e3:IntKind.i64.wrap ((x:Int)*3)=(x:Int)*3:=IntWalk.i64_in _ (by omega);have hs:=halfs_succ i (n+pr);rw[←HR2.out.1] at hs;have HS:=Lib.hid hs;clear hs
      go_wp2_with fail
      go_roundg (gk-1)
      case measure=>omega
      case rel=>exact⟨i+1,x*3 / 2,by omega,by go_num,congrArg (Value.int .i64) (by omega),by omega,Lib.hid ⟨HS.out.symm,HR2.out.2⟩⟩
     ·have hx7:¬((x:Int)≤60000):=by omega
      have hx8:((60000:Int)<(x:Int)):=by omega
      go_wp2_with fail
      go_ret
      exact⟨true,rfl,(fun h=>by cases h),HR2.out.2⟩
    ·obtain rfl:i=K:=by omega
     by_cases hx6:x≤60000
     ·have hx7:((x:Int)≤60000):=by omega
      have hx8:¬((60000:Int)<(x:Int)):=by omega
      have HX:=Lib.hid hx6
      go_wp2_with fail
      go_ret
      refine⟨false,rfl,fun _=>⟨n+pr,by omega,?_⟩,HR2.out.2⟩;rw[HK.out,←HR2.out.1];exact HX.out
     ·have hx7:¬((x:Int)≤60000):=by omega
      have hx8:((60000:Int)<(x:Int)):=by omega
      go_wp2_with fail
      go_ret
      exact⟨true,rfl,(fun h=>by cases h),HR2.out.2⟩
def Fine (src:List Sc) (attrs:List At):Prop:=twoZ (src.map scP)+twoZ (attrs.map atP)≤8000∧src.length≤100∧∃b,rawS src≤b∧halfs (cntS src) b≤60000
def GrP (src:List Sc) (attrs:List At) (w:World) (e:Ending) (w':World):Prop:=∃g:Bool,e=.returned (.bool g)∧(g=false→Fine src attrs)∧Below w.heap.size w w'
theorem raw_two:∀src:List Sc,rawS src≤twoZ (src.map scP)
 | []=>Nat.zero_le _
 | x::l=>by
  have h:=raw_two l;have e1:rawS (x::l)=x.text.size+1+rawS l:=by simp[rawS]
  have e2:twoZ ((x::l).map scP)=(x.name.size+x.text.size)+1+twoZ (l.map scP):=by unfold twoZ scP;simp;omega
  rw[e1,e2];omega
theorem sum_two:∀src:List Sc,sumL (src.map (·.text))≤twoZ (src.map scP)
 | []=>Nat.zero_le _
 | x::l=>by
  have h:=sum_two l;have e1:sumL ((x::l).map (·.text))=x.text.size+sumL (l.map (·.text)):=by simp[sumL]
  have e2:twoZ ((x::l).map scP)=(x.name.size+x.text.size)+1+twoZ (l.map scP):=by unfold twoZ scP;simp;omega
  rw[e1,e2];omega
theorem cnt_src (src:List Sc):cntL (src.map (·.text))=cntS src:=by unfold cntL cntS;rw[List.map_map];rfl
theorem great_any {w:World}{S T:Nat→Prop}{sv av:Value}{src:List Sc}{attrs:List At} (hsc:ScS w S sv src) (hat:AtS w T av attrs) (hS:∀k,S k→k<w.heap.size) (hT:∀k,T k→k<w.heap.size) (hz1:twoZ (src.map scP)≤1048576) (hz2:twoZ (attrs.map atP)≤1048576) :
  Calls Tryz.prog 4 #[sv,av] w (GrP src attrs w):=by
 have hc1:=sourcesSize_any hsc hS hz1;have hc2:=fun W (hW:Below w.heap.size w W)=>attrsSize_any (TwoS.below hat hW) (fun k hk=>Nat.lt_of_lt_of_le (hT k hk) hW.size) hz2
 have hl1:src.length≤1048576:=by unfold twoZ at hz1;rw[List.length_map] at hz1;omega
 have hl2:attrs.length≤1048576:=by unfold twoZ at hz2;rw[List.length_map] at hz2;omega
 have hr:=raw_two src;have hs:=sum_two src;have hat2:∀a∈attrs,a.value.size≤twoZ (attrs.map atP):=fun a ha=>by have:=twoZ_mem (List.mem_map_of_mem (f:=atP) ha);unfold atP at this;dsimp only at this;unfold atP;omega
 obtain⟨As,cs,hsv,hscc,k1⟩:=hsc;obtain⟨Aa,ca,hav,hacc,k2⟩:=hat;rw[List.length_map] at hsv hav hscc hacc;obtain⟨m,hm⟩:∃m,src.length=m:=⟨_,rfl⟩;obtain⟨m2,hm2⟩:∃m2,attrs.length=m2:=⟨_,rfl⟩;rw[hm] at hsv hscc hl1;rw[hm2] at hav hacc hl2;subst hsv hav;obtain⟨n1,hn1⟩:∃n1,twoZ (src.map scP)=n1:=⟨_,rfl⟩;obtain⟨n2,hn2⟩:∃n2,twoZ (attrs.map atP)=n2:=⟨_,rfl⟩;rw[hn1] at hz1 hc1 hr hs;rw[hn2] at hz2 hc2 hat2;have HH:=Lib.hid (And.intro hc1 (And.intro hc2 (And.intro k1 (And.intro k2 (And.intro hS (And.intro hT (And.intro hm (And.intro hm2 (And.intro hn1 (And.intro hn2 (And.intro hr (And.intro hs hat2))))))))))));have e0:IntKind.i64.wrap ((n1:Int)+(n2:Int))=(n1:Int)+(n2:Int):=IntWalk.i64_in _ (by omega);clear hc1 hc2 k1 k2 hS hT hm hm2 hn1 hn2 hr hs hat2
 go_enter Tryz.func4,Tryz.ntmps4
 go_wp2_with fail
 refine HH.out.1.mono ?_;rintro e w1 ⟨rfl,hb1⟩;have HB1:=Lib.hid hb1;clear hb1
 go_wp2_with fail
 refine (HH.out.2.1 w1 HB1.out).mono ?_;rintro e w2 ⟨rfl,hb2⟩;have HB2:=Lib.hid (HB1.out.trans (hb2.mono HB1.out.size));clear hb2
 by_cases hbig:8000<n1+n2
 ·have hbi:(8000:Int)<(n1:Int)+(n2:Int):=by omega
  go_wp2_with fail
  go_ret
  exact⟨true,rfl,(fun h=>by cases h),HB2.out⟩
 ·have hbi:¬(8000:Int)<(n1:Int)+(n2:Int):=by omega
  by_cases hmm:100<m
  ·have hmi:(100:Int)<(m:Int):=by omega
   go_wp2_with fail
   go_ret
   exact⟨true,rfl,(fun h=>by cases h),HB2.out⟩
  ·have hmi:¬(100:Int)<(m:Int):=by omega
   obtain⟨i2,hi2,hx0,hx1,hx2⟩:=info_parts txA_info;have HI2:=hidH4 hi2 hx0 hx1 hx2;clear hi2 hx0 hx1 hx2
   go_wp2_with fail
   go_loopg [6,7] m (fun q tv iv wr=>∃(k:Nat) (A:Option Addr) (c:Nat),k+q=m∧iv=.int .i64 (k:Int)∧tv=.slice A k c∧Hid (wr.ownsRow w.heap.size 9 1 (.slice A k c) k (rowTx ((src.map (·.text)).take k))∧Below w.heap.size w wr))
   case atStart=>exact⟨0,none,0,by omega,rfl,rfl,Lib.hid ⟨own_nil _ _ _ _,HB2.out⟩⟩
   case round =>
    obtain⟨k,A,c,hk,rfl,rfl,HR⟩:=hrel
    by_cases hlt:k<m
    ·obtain⟨s,hs⟩:∃s,src[k]? = some s:=⟨_,List.getElem?_eq_getElem (by have:=HH.out.2.2.2.2.2.2.1;omega)⟩;obtain⟨g,off,rfl,hSg,_,c1⟩:=HH.out.2.2.1 k (scP s) (by rw[List.getElem?_map,hs];rfl);have q1:=(HR.out.2.cell (p:=⟨g,off+k*2+1,none⟩) (HH.out.2.2.2.2.1 g hSg)).trans c1;unfold scP at q1;dsimp only at q1;have htk:(src.map (·.text)).take (k+1)=(src.map (·.text)).take k++[s.text]:=by rw[List.take_add_one,List.getElem?_map,hs];rfl
     obtain⟨tx,htx⟩:∃tx,s.text=tx:=⟨_,rfl⟩;rw[htx] at q1 htk;have HT:=Lib.hid htk;have hsz:=HR.out.2.size;clear c1 hs hSg htk htx
     go_wp2_with (at_builtin;refine wpList_append_lies _ rfl _ _ 24 rfl w.heap.size 9 i2 _ 1 16 txs_underA HI2.out.1 HI2.out.2.1 HI2.out.2.2.1 HI2.out.2.2.2 rfl (by omega) (.slice A k c) k (rowTx ((src.map (·.text)).take k)) (by rfl) (HR.out.1.alloc _) ⟨wr.heap.size,0,none⟩ 1 1 [.string tx] rfl rfl (World.news_of_block (cs:=#[.string tx]) (t:=9) (fr:=(0,0)) (heap_alloc_new wr _)) (by simp[Value.oneCell']) (by omega) (by unfold maxLen;omega) (by omega) (by simp;omega) (wr.heap.size+1) (by simp) ?_;intro g2 cap w10 ho10 hg10 hat10 hl10;have hC10:Chg wr w10 (fun b=>(Value.slice A k c).ownBlock=some b):=((Chg.refl wr _).alloc _).trans (Chg.grown hg10) (fun _ _ h=>h.symm);have H10:=hidH2 hC10 ho10;clear hC10 ho10 hat10 hg10 hl10)
     go_roundg (gk-1)
     case measure=>omega
     case rel =>
      refine⟨k+1,some ⟨g2,0,none⟩,cap,by omega,by go_num,rfl,Lib.hid ⟨?_,?_⟩⟩
      ·rw[HT.out];have er:rowTx ((src.map (·.text)).take k++[tx])=rowTx ((src.map (·.text)).take k)++[.string tx]:=by unfold rowTx;simp
       rw[er];exact H10.out.2
      ·exact HR.out.2.trans (H10.out.1.toBelow HR.out.2.size (fun b hb=>(own_lt HR.out.1 hb).1))
    ·obtain rfl:k=m:=by omega
     have hlen:(src.map (·.text)).length=k:=by rw[List.length_map];exact HH.out.2.2.2.2.2.2.1
     have hrow:=HR.out.1;rw[List.take_of_length_le (by rw[hlen];exact Nat.le_refl _)] at hrow;have HT:=hidH2 hrow hlen;obtain⟨wO,hwO⟩:∃x,x=wr:=⟨_,rfl⟩;subst hwO;clear hk hlt hrow hlen
     go_wp2_with fail
     go_loopg [8,9] m2 (fun q vv iv wr=>∃j v:Nat,j+q=m2∧iv=.int .i64 (j:Int)∧vv=.int .i64 (v:Int)∧v≤8000∧Hid (Below wO.heap.size wO wr))
     case atStart=>exact⟨0,0,by omega,rfl,rfl,by omega,Lib.hid (Below.refl _ _)⟩
     case round =>
      obtain⟨j,v,hj,rfl,rfl,hv,HR2⟩:=hrel
      by_cases hlt:j<m2
      ·obtain⟨a,ha⟩:∃a,attrs[j]? = some a:=⟨_,List.getElem?_eq_getElem (by have:=HH.out.2.2.2.2.2.2.2.1;omega)⟩;obtain⟨g,off,rfl,hSg,_,c1⟩:=HH.out.2.2.2.1 j (atP a) (by rw[List.getElem?_map,ha];rfl);have hgl:=HH.out.2.2.2.2.2.1 g hSg;have q1:=(HR2.out.cell (p:=⟨g,off+j*2+1,none⟩) (Nat.lt_of_lt_of_le hgl HR.out.2.size)).trans ((HR.out.2.cell (p:=⟨g,off+j*2+1,none⟩) hgl).trans c1);unfold atP at q1;dsimp only at q1;have hvs:=HH.out.2.2.2.2.2.2.2.2.2.2.2.2 a (List.mem_of_getElem? ha);obtain⟨tx,htx⟩:∃tx,a.value=tx:=⟨_,rfl⟩;rw[htx] at q1 hvs;obtain⟨mx,hmx⟩:∃mx:Nat,(if v≤tx.size then tx.size else v)=mx:=⟨_,rfl⟩;have hm1:(max (v:Int) (tx.size:Int))=(mx:Int):=by subst hmx;split<;>omega
       have hm3:mx≤8000:=by subst hmx;split<;>omega
       clear hmx ha hSg c1 htx hgl
       go_wp2_with fail
       go_roundg (gk-1)
       case measure=>omega
       case rel=>exact⟨j+1,mx,by omega,by go_num,rfl,hm3,HR2⟩
      ·obtain rfl:j=m2:=by omega
       have hTx:TxS wr (fun b=>b<wr.heap.size) (.slice A k c) (src.map (·.text)):=TxS.own ((Chg.below HR2.out (fun _=>False)).owns HT.out.1 (fun _ _ h=>h)) HT.out.2.symm (fun b hb=>Nat.lt_of_lt_of_le (own_lt HT.out.1 hb).2 HR2.out.size);have hSw:=swells_any hTx (fun _ h=>h) (by rw[HT.out.2];omega) (Nat.le_trans HH.out.2.2.2.2.2.2.2.2.2.2.2.1 (by omega)) (n1+n2) v (by omega) hv;have hnn:((n1+n2:Nat):Int)=(n1:Int)+(n2:Int):=by omega
       rw[hnn] at hSw;have HS:=Lib.hid hSw;clear hTx hSw hnn hj hlt
       go_wp2_with fail
       refine HS.out.mono ?_;intro e w9 hP;unfold SwP at hP;obtain⟨gb,rfl,hgb,hb9⟩:=hP;have H9:=hidH2 hgb hb9;clear hgb hb9
       go_wp2_with fail
       go_ret
       refine⟨gb,rfl,fun hg=>?_,HR.out.2.trans ((HR2.out.trans (H9.out.2.mono HR2.out.size)).mono HR.out.2.size)⟩;obtain⟨b,hb1,hb2⟩:=H9.out.1 hg;refine⟨by rw[HH.out.2.2.2.2.2.2.2.2.1,HH.out.2.2.2.2.2.2.2.2.2.1];omega,by rw[HH.out.2.2.2.2.2.2.1];omega,b,?_,?_⟩
       ·have:=HH.out.2.2.2.2.2.2.2.2.2.2.1;omega
       ·rw[←cnt_src];exact hb2
end Go.Proofs.YtkdknllcllhpgaaGreatDoor
namespace Go.Proofs.YtkdknllcllhpgaaGreatDoor
open Go.ChangeShapes Go.WideShapes Go.RowKit Go.Bd
theorem bulk_sum {H:Type}{α:Type}{s:α→Nat}{D:α→DataW H}:∀{r:List α},(∀i∈r,s i≤Rows.uptoBulk (D i))→(r.map s).sum≤Rows.uptoBulkAll (r.map D)
 | [],_=>Nat.le_refl _
 | i::r,h=>by
  have h1:=h i (List.mem_cons_self ..);have h2:=bulk_sum (r:=r) fun j hj=>h j (List.mem_cons_of_mem _ hj)
  simp only[List.map_cons,List.sum_cons,Rows.uptoBulkAll];omega
theorem bulk_txt {H:Type} (s:ByteArray){d:DataW H} (h:d=.lit (.string s.data.toList)):1+s.size≤Rows.uptoBulk d:=by
 subst h;have hn:s.data.toList.length=s.size:=Array.length_toList;simp only[Rows.uptoBulk];omega
theorem two_sum (l:List (ByteArray×ByteArray)):twoZ l=(l.map fun q=>1+(q.1.size+q.2.size)).sum:=by
 unfold twoZ
 induction l with
 | nil=>rfl
 | cons a l ih=>simp only[List.map_cons,List.sum_cons,List.length_cons] at ih ⊢;omega
theorem dg_sum (l:List Dx):twoZ (l.map fun d=>(d.file,d.text))=(l.map fun q=>1+(q.file.size+q.text.size)).sum:=by
 rw[two_sum,List.map_map];rfl
theorem tx_sum (l:List ByteArray):twoZ (l.map fun d=>(d,(⟨#[]⟩:ByteArray)))=(l.map fun q=>1+q.size).sum:=by
 rw[two_sum,List.map_map]
 congr 1
theorem bl_sum:∀l:List (Bx×Value×Value),szX szBl (l.map Prod.fst)=(l.map fun q=>2+szBl q.1).sum
 | []=>rfl
 | a::l=>by simp only[List.map_cons,List.sum_cons,szX,bl_sum l]
section
variable {H:Type} {enc:TypeId×Value→H} {w:World} {sp:Nat→Bool} {held:Bool}
theorem open_cells {e:TypeId}{fs:Array Field}{cs:List Value}{fuel:Nat}{x:DataW H×List MemPlace} (he:Tryz.prog.underlying e=some (.struct fs)) (hc:Tryz.prog.cellsOf e=fs.size)
  (ho:∀(i:Nat) f,fs[i]? = some f→f.offset=i∧Tryz.prog.cellsOf f.type=1) (h2:DataW.trod enc Tryz.prog w 0 sp held fuel e cs=some x) :
  ∃(m:Nat) (D:List (DataW H×List MemPlace)),cs.length=fs.size∧D.length=fs.size∧x.1=.agg (D.map (·.1))∧∀(i:Nat) f,fs[i]? = some f→∃u y,cs[i]? = some u∧D[i]? = some y∧DataW.trod enc Tryz.prog w 0 sp held m f.type [u]=some y:=by
 obtain⟨xs,k,hk,hxy,hcl,hxl,hf⟩:=DataW.trod_struct he h2;refine⟨k,xs,by omega,hxl,congrArg Prod.fst hxy,fun i f hif=>?_⟩;obtain⟨o,c⟩:=ho i f hif;have hi:i<fs.size:=(Array.getElem?_eq_some_iff.1 hif).1;have hic:i<cs.length:=by omega
 have hix:i<xs.length:=by omega
 have g:=hf i f hif;rw[o,c,take_drop_one hic,List.getElem?_eq_getElem hix] at g;exact⟨cs[i],xs[i],List.getElem?_eq_getElem hic,List.getElem?_eq_getElem hix,g⟩
theorem open_flat {α:Type} [Inhabited α] {f:α→List Value}{Q:α→Prop}{k:Nat}{s:α→Nat}{t e:TypeId} (ht:Tryz.prog.underlying t=some (.slice e)) (hc:Tryz.prog.cellsOf e=k) (hk:0<k) (hfk:∀x,(f x).length=k)
  (each:∀{fuel:Nat} {cs:List Value} {x:DataW H×List MemPlace},DataW.trod enc Tryz.prog w 0 sp held fuel e cs=some x→∃q,cs=f q∧Q q∧s q≤Rows.uptoBulk x.1)
  {fuel:Nat} {cs:List Value} {x:DataW H×List MemPlace} (h:DataW.trod enc Tryz.prog w 0 sp held fuel t cs=some x) :
  ∃v l,cs=[v]∧FlatAt f k w v l∧(∀y∈l,Q y)∧(l.map s).sum+1≤Rows.uptoBulk x.1:=by
 rcases Deep.open_slice (e:=e) ht h with ⟨rfl,rfl⟩|⟨a,len,cap,m,n,D,Pl,rfl,_,hl,_,hmm,rfl,hx⟩
 ·exact⟨_,[],rfl,⟨none,0,rfl,Nat.le_refl _,fun j x hx=>by simp at hx⟩,fun y hy=>by simp at hy,by simp[Rows.uptoBulk]⟩
 ·have hlm:len≤m:=by rw[hmm];split<;>omega
  have each':∀i,i<len→∃q:α,(∀(j:Nat) u,(f q)[j]? = some u→w.cell? ((a.add (i*k)).add j)=some u)∧Q q∧s q≤Rows.uptoBulk (D i):=by
   intro i hi;obtain⟨cs',h1,h2⟩:=hx i (by omega);obtain⟨q,rfl,hq,hs⟩:=each h2;rw[hc] at h1;obtain⟨_,hlen,hcell⟩:=World.cells?_some h1;refine⟨q,fun j u hu=>?_,hq,hs⟩;have hj:=(List.getElem?_eq_some_iff.1 hu).1;rw[hfk] at hj;rw[hcell j hj];exact hu
  obtain⟨S,hS⟩:=Deep.choose_lt each';refine⟨_,(List.range len).map S,rfl,⟨some a,cap,by simp,by simpa using hl,fun j x hj=>?_⟩,fun y hy=>?_,?_⟩
  ·have hjl:j<len:=by have:=(List.getElem?_eq_some_iff.1 hj).1;simpa using this
   rw[List.getElem?_map,List.getElem?_range hjl] at hj;simp only[Option.map_some,Option.some.injEq] at hj;subst hj;obtain⟨u0,hu0⟩:∃u,(f (S 0))[0]? = some u:=⟨_,List.getElem?_eq_getElem (by rw[hfk];exact hk)⟩;obtain⟨b,off,rfl,hb⟩:=open_addr (v:=u0) (by have:=(hS 0 (by omega)).1 0 u0 hu0;rwa [Nat.zero_mul,Deep.add_add] at this);refine⟨b,off,rfl,fun i u hu=>?_⟩;have:=(hS j hjl).1 i u hu
   rw[Deep.add_add,Addr.add_lit,←Nat.add_assoc] at this;exact this
  ·obtain⟨i,hi,rfl⟩:=List.mem_map.1 hy;exact (hS i (List.mem_range.1 hi)).2.1
  ·have h1:=bulk_sum (s:=fun i=>s (S i)) (D:=D) (r:=List.range len) fun i hi=>(hS i (List.mem_range.1 hi)).2.2
   simp only[Rows.uptoBulk];rw[List.map_map]
   show (List.map (fun i=>s (S i)) (List.range len)).sum+1≤_
   omega
theorem open_str2 {e:TypeId}{f0 f1:Field} (he:Tryz.prog.underlying e=some (.struct #[f0,f1])) (hc:Tryz.prog.cellsOf e=2) (h0:f0.offset=0∧f1.offset=1) (c0:Tryz.prog.cellsOf f0.type=1) (c1:Tryz.prog.cellsOf f1.type=1) (t0:Tryz.prog.underlying f0.type=some .string) (t1:Tryz.prog.underlying f1.type=some .string)
  {fuel:Nat} {cs:List Value} {x:DataW H×List MemPlace} (h:DataW.trod enc Tryz.prog w 0 sp held fuel e cs=some x):∃q,cs=twC q∧True∧1+(q.1.size+q.2.size)≤Rows.uptoBulk x.1:=by
 obtain⟨m,D,hl,hD,hx,hf⟩:=open_cells he hc (fun i f hif=>by
  have hi':i<2:=(Array.getElem?_eq_some_iff.1 hif).1
  match i,hi' with
  | 0,_=>obtain rfl:=Option.some.inj hif;exact⟨h0.1,c0⟩
  | 1,_=>obtain rfl:=Option.some.inj hif;exact⟨h0.2,c1⟩) h
 match cs,hl,D,hD with
 | [a0,a1],_,[y0,y1],_ =>
  obtain⟨u0,z0,e0,e0',g0⟩:=hf 0 _ rfl;obtain⟨u1,z1,e1,e1',g1⟩:=hf 1 _ rfl;cases e0;cases e0';cases e1;cases e1'
  obtain⟨s0,k0,d0,_⟩:=DataW.trod_string t0 g0;obtain⟨s1,k1,d1,_⟩:=DataW.trod_string t1 g1;simp only[List.cons.injEq,and_true] at k0 k1;subst k0 k1;refine⟨(s0,s1),rfl,trivial,?_⟩;rw[hx];have b0:=bulk_txt s0 (d:=y0.1) (by rw[d0]);have b1:=bulk_txt s1 (d:=y1.1) (by rw[d1]);simp only[List.map_cons,List.map_nil,Rows.uptoBulk,Rows.uptoBulkAll];omega
theorem open_srcF {fuel:Nat}{cs:List Value}{x:DataW H×List MemPlace} (h:DataW.trod enc Tryz.prog w 0 sp held fuel 28 cs=some x):∃v l,cs=[v]∧FlatAt twC 2 w v l∧twoZ l+1≤Rows.uptoBulk x.1:=by
 haveI:Inhabited (ByteArray×ByteArray):=⟨(⟨#[]⟩,⟨#[]⟩)⟩
 obtain⟨v,l,h1,h2,_,h3⟩:=open_flat (f:=twC) (k:=2) (Q:=fun _=>True) (s:=fun q:ByteArray×ByteArray=>1+(q.1.size+q.2.size)) Tryz.underlying28 (by kernel_rfl) (by decide) (fun _=>rfl) (fun h=>open_str2 Tryz.underlying45 (by kernel_rfl) ⟨rfl,rfl⟩ (by kernel_rfl) (by kernel_rfl) Tryz.underlying9 Tryz.underlying9 h) h;exact⟨v,l,h1,h2,by rw[two_sum];exact h3⟩
theorem open_atF {fuel:Nat}{cs:List Value}{x:DataW H×List MemPlace} (h:DataW.trod enc Tryz.prog w 0 sp held fuel 25 cs=some x):∃v l,cs=[v]∧FlatAt twC 2 w v l∧twoZ l+1≤Rows.uptoBulk x.1:=by
 haveI:Inhabited (ByteArray×ByteArray):=⟨(⟨#[]⟩,⟨#[]⟩)⟩
 obtain⟨v,l,h1,h2,_,h3⟩:=open_flat (f:=twC) (k:=2) (Q:=fun _=>True) (s:=fun q:ByteArray×ByteArray=>1+(q.1.size+q.2.size)) Tryz.underlying25 (by kernel_rfl) (by decide) (fun _=>rfl) (fun h=>open_str2 Tryz.underlying47 (by kernel_rfl) ⟨rfl,rfl⟩ (by kernel_rfl) (by kernel_rfl) Tryz.underlying9 Tryz.underlying9 h) h;exact⟨v,l,h1,h2,by rw[two_sum];exact h3⟩
theorem open_txF {fuel:Nat}{cs:List Value}{x:DataW H×List MemPlace} (h:DataW.trod enc Tryz.prog w 0 sp held fuel 24 cs=some x):∃v l,cs=[v]∧FlatAt txC 1 w v l∧twoZ (l.map fun d=>(d,(⟨#[]⟩:ByteArray)))+1≤Rows.uptoBulk x.1:=by
 haveI:Inhabited ByteArray:=⟨⟨#[]⟩⟩
 obtain⟨v,l,h1,h2,_,h3⟩:=open_flat (f:=txC) (k:=1) (Q:=fun _=>True) (s:=fun q:ByteArray=>1+q.size) Tryz.underlying24 (by kernel_rfl) (by decide) (fun _=>rfl) (fun {_ _ x} h=>by
  obtain⟨s0,k0,d0,_⟩:=DataW.trod_string Tryz.underlying9 h;exact⟨s0,k0,trivial,bulk_txt s0 (d:=x.1) (by rw[d0])⟩) h
 exact⟨v,l,h1,h2,by rw[tx_sum];exact h3⟩
theorem open_dgF {fuel:Nat}{cs:List Value}{x:DataW H×List MemPlace} (h:DataW.trod enc Tryz.prog w 0 sp held fuel 23 cs=some x):∃v l,cs=[v]∧FlatAt dxCells 4 w v l∧twoZ (l.map fun d=>(d.file,d.text))+1≤Rows.uptoBulk x.1:=by
 haveI:Inhabited Dx:=⟨⟨⟨#[]⟩,0,0,⟨#[]⟩⟩⟩
 have each:∀{fuel:Nat} {cs:List Value} {x:DataW H×List MemPlace},DataW.trod enc Tryz.prog w 0 sp held fuel 55 cs=some x→∃q,cs=dxCells q∧True∧1+(q.file.size+q.text.size)≤Rows.uptoBulk x.1:=by
  intro fuel cs x h;obtain⟨m,D,hl,hD,hx,hf⟩:=open_cells Tryz.underlying55 (by kernel_rfl) (fun i f hif=>by
  have hi':i<4:=(Array.getElem?_eq_some_iff.1 hif).1
  match i,hi' with
  | 0,_=>obtain rfl:=Option.some.inj hif;exact⟨rfl,by kernel_rfl⟩
  | 1,_=>obtain rfl:=Option.some.inj hif;exact⟨rfl,by kernel_rfl⟩
  | 2,_=>obtain rfl:=Option.some.inj hif;exact⟨rfl,by kernel_rfl⟩
  | 3,_=>obtain rfl:=Option.some.inj hif;exact⟨rfl,by kernel_rfl⟩) h
  match cs,hl,D,hD with
  | [a0,a1,a2,a3],_,[y0,y1,y2,y3],_ =>
   obtain⟨u0,z0,e0,e0',g0⟩:=hf 0 _ rfl;cases e0;cases e0'
   obtain⟨u1,z1,e1,e1',g1⟩:=hf 1 _ rfl;cases e1;cases e1'
   obtain⟨u2,z2,e2,e2',g2⟩:=hf 2 _ rfl;cases e2;cases e2'
   obtain⟨u3,z3,e3,e3',g3⟩:=hf 3 _ rfl;cases e3;cases e3'
   obtain⟨s0,k0,d0,_⟩:=DataW.trod_string Tryz.underlying9 g0;obtain⟨s1,k1,d1,_⟩:=DataW.trod_int Tryz.underlying3 g1;obtain⟨s2,k2,d2,_⟩:=DataW.trod_int Tryz.underlying53 g2;obtain⟨s3,k3,d3,_⟩:=DataW.trod_string Tryz.underlying9 g3;simp only[List.cons.injEq,and_true] at k0 k1 k2 k3;subst k0 k1 k2 k3;refine⟨⟨s0,s1,s2,s3⟩,rfl,trivial,?_⟩;rw[hx];have b0:=bulk_txt s0 (d:=y0.1) (by rw[d0]);have b3:=bulk_txt s3 (d:=y3.1) (by rw[d3]);simp only[List.map_cons,List.map_nil,Rows.uptoBulk,Rows.uptoBulkAll];omega
 obtain⟨v,l,h1,h2,_,h3⟩:=open_flat (f:=dxCells) (k:=4) (Q:=fun _=>True) (s:=fun q:Dx=>1+(q.file.size+q.text.size)) Tryz.underlying23 (by kernel_rfl) (by decide) (fun _=>rfl) each h;exact⟨v,l,h1,h2,by rw[dg_sum];exact h3⟩
theorem open_rowsF {fuel:Nat}{cs:List Value}{x:DataW H×List MemPlace} (h:DataW.trod enc Tryz.prog w 0 sp held fuel 70 cs=some x):∃v l,cs=[v]∧RowsF w (· < w.heap.size) v l∧szX (szX szL) l+1≤Rows.uptoBulk x.1 :=
 open_row1 (R:=CellsF) (s:=szX szL) Tryz.underlying70 Tryz.underlying133 rfl (by kernel_rfl) (by kernel_rfl)
  (fun h=>open_row1 (R:=Forest) (s:=szL) Tryz.underlying131 Tryz.underlying158 rfl (by kernel_rfl) (by kernel_rfl) (fun h=>open_spans_cells _ (Nat.le_refl _) h) h) h
theorem FlatAt.blocks {v:Value}{l:List (Bx×Value×Value)} (h:FlatAt (fun q:Bx×Value×Value=>bxCells q.1 q.2) 9 w v l) (hq:∀y∈l,Forest w (· < w.heap.size) y.2.1 y.1.spans∧RowsF w (· < w.heap.size) y.2.2 y.1.rows):BlocksX w w.heap.size v (l.map Prod.fst):=by
 obtain⟨A,c,h1,h2,h3⟩:=h;have hg:∀(j:Nat) x kv,(l.map Prod.fst)[j]? = some x→(l.map Prod.snd)[j]? = some kv→l[j]? = some (x,kv):=fun j x kv e1 e2=>by
  rw[List.getElem?_map] at e1 e2;cases hj:l[j]? with
  | none=>rw[hj] at e1;cases e1
  | some y =>
   rw[hj] at e1 e2;cases e1;cases e2
   rfl
 refine⟨A,c,l.map Prod.snd,by rw[List.length_map];exact h1,by rw[List.length_map];exact h2,by simp,fun hn=>?_,fun j x kv e1 e2=>hq _ (List.mem_of_getElem? (hg j x kv e1 e2))⟩;cases l with
 | nil=>exact absurd rfl hn
 | cons y l =>
  obtain⟨b,off,h4,h5⟩:=h3 0 y rfl;refine⟨b,off,h4,World.block_lt_of_cell? w _ (h5 0 _ rfl),fun j x kv e1 e2 i u hu=>?_⟩;obtain⟨b',off',e,h6⟩:=h3 j _ (hg j x kv e1 e2);rw[h4] at e;injection e with e
  injection e with e3 e4 _
  rw[e3,e4];exact h6 i u hu
theorem open_blF {fuel:Nat}{cs:List Value}{x:DataW H×List MemPlace} (h:DataW.trod enc Tryz.prog w 0 sp held fuel 22 cs=some x):∃v l,cs=[v]∧BlocksX w w.heap.size v l∧szX szBl l+1≤Rows.uptoBulk x.1:=by
 haveI:Inhabited (Bx×Value×Value):=⟨(⟨0,0,false,⟨#[]⟩,⟨#[]⟩,[],[],⟨#[]⟩,0⟩,.slice none 0 0,.slice none 0 0)⟩
 have each:∀{fuel:Nat} {cs:List Value} {x:DataW H×List MemPlace},DataW.trod enc Tryz.prog w 0 sp held fuel 72 cs=some x→∃q:Bx×Value×Value,cs=bxCells q.1 q.2∧(Forest w (· < w.heap.size) q.2.1 q.1.spans∧RowsF w (· < w.heap.size) q.2.2 q.1.rows)∧2+szBl q.1≤Rows.uptoBulk x.1:=by
  intro fuel cs x h;obtain⟨m,D,hl,hD,hx,hf⟩:=open_cells Tryz.underlying72 (by kernel_rfl) (fun i f hif=>by
  have hi':i<9:=(Array.getElem?_eq_some_iff.1 hif).1
  match i,hi' with
  | 0,_=>obtain rfl:=Option.some.inj hif;exact⟨rfl,by kernel_rfl⟩
  | 1,_=>obtain rfl:=Option.some.inj hif;exact⟨rfl,by kernel_rfl⟩
  | 2,_=>obtain rfl:=Option.some.inj hif;exact⟨rfl,by kernel_rfl⟩
  | 3,_=>obtain rfl:=Option.some.inj hif;exact⟨rfl,by kernel_rfl⟩
  | 4,_=>obtain rfl:=Option.some.inj hif;exact⟨rfl,by kernel_rfl⟩
  | 5,_=>obtain rfl:=Option.some.inj hif;exact⟨rfl,by kernel_rfl⟩
  | 6,_=>obtain rfl:=Option.some.inj hif;exact⟨rfl,by kernel_rfl⟩
  | 7,_=>obtain rfl:=Option.some.inj hif;exact⟨rfl,by kernel_rfl⟩
  | 8,_=>obtain rfl:=Option.some.inj hif;exact⟨rfl,by kernel_rfl⟩) h
  match cs,hl,D,hD with
  | [a0,a1,a2,a3,a4,a5,a6,a7,a8],_,[y0,y1,y2,y3,y4,y5,y6,y7,y8],_ =>
   obtain⟨u0,z0,e0,e0',g0⟩:=hf 0 _ rfl;cases e0;cases e0'
   obtain⟨u1,z1,e1,e1',g1⟩:=hf 1 _ rfl;cases e1;cases e1'
   obtain⟨u2,z2,e2,e2',g2⟩:=hf 2 _ rfl;cases e2;cases e2'
   obtain⟨u3,z3,e3,e3',g3⟩:=hf 3 _ rfl;cases e3;cases e3'
   obtain⟨u4,z4,e4,e4',g4⟩:=hf 4 _ rfl;cases e4;cases e4'
   obtain⟨u5,z5,e5,e5',g5⟩:=hf 5 _ rfl;cases e5;cases e5'
   obtain⟨u6,z6,e6,e6',g6⟩:=hf 6 _ rfl;cases e6;cases e6'
   obtain⟨u7,z7,e7,e7',g7⟩:=hf 7 _ rfl;cases e7;cases e7'
   obtain⟨u8,z8,e8,e8',g8⟩:=hf 8 _ rfl;cases e8;cases e8'
   obtain⟨s0,k0,d0,w0⟩:=DataW.trod_int Tryz.underlying68 g0;obtain⟨s1,k1,d1,_⟩:=DataW.trod_int Tryz.underlying3 g1;obtain⟨s2,k2,d2⟩:=DataW.trod_bool Tryz.underlying4 g2;obtain⟨s3,k3,d3,_⟩:=DataW.trod_string Tryz.underlying9 g3;obtain⟨s4,k4,d4,_⟩:=DataW.trod_string Tryz.underlying9 g4;obtain⟨v5,s5,k5,f5,d5⟩:=open_spans_cells _ (Nat.le_refl _) g5;obtain⟨v6,s6,k6,f6,d6⟩:=open_rowsF g6;obtain⟨s7,k7,d7,_⟩:=DataW.trod_string Tryz.underlying9 g7;obtain⟨s8,k8,d8,_⟩:=DataW.trod_int Tryz.underlying3 g8;have hz:0≤s0:=by
    have:0≤s0∧s0≤255:=by simpa [Lit.wf,IntKind.min,IntKind.max,IntKind.signed,IntKind.bits] using w0
    exact this.1
   simp only[List.cons.injEq,and_true] at k0 k1 k2 k3 k4 k5 k6 k7 k8;subst k0 k1 k2 k3 k4 k5 k6 k7 k8;refine⟨(⟨s0.toNat,s1,s2,s3,s4,s5,s6,s7,s8⟩,_,_),?_,⟨f5,f6⟩,?_⟩
   ·simp only[bxCells];rw[Int.toNat_of_nonneg hz]
   ·rw[hx];have b3:=bulk_txt s3 (d:=y3.1) (by rw[d3]);have b4:=bulk_txt s4 (d:=y4.1) (by rw[d4]);have b7:=bulk_txt s7 (d:=y7.1) (by rw[d7]);simp only[List.map_cons,List.map_nil,Rows.uptoBulk,Rows.uptoBulkAll,szBl];omega
 obtain⟨v,l,h1,h2,hq,h3⟩:=open_flat (f:=fun q:Bx×Value×Value=>bxCells q.1 q.2) (k:=9) (Q:=fun q:Bx×Value×Value=>Forest w (· < w.heap.size) q.2.1 q.1.spans∧RowsF w (· < w.heap.size) q.2.2 q.1.rows) (s:=fun q:Bx×Value×Value=>2+szBl q.1) Tryz.underlying22 (by kernel_rfl) (by decide) (fun _=>rfl) each h;exact⟨v,_,h1,FlatAt.blocks h2 hq,by rw[bl_sum];exact h3⟩
end
def ChIn (w:World) (nm bv dv fv av uv:Value) (c:Cx):Prop :=
 nm=.string c.name∧BlocksX w w.heap.size bv c.blocks∧FlatAt dxCells 4 w dv c.diags∧FlatAt txC 1 w fv c.files∧FlatAt twC 2 w av (c.attrs.map atP)∧FlatAt txC 1 w uv c.unset
def szCx (c:Cx):Nat:=1+c.name.size+szX szBl c.blocks+twoZ (c.diags.map fun d=>(d.file,d.text))+twoZ (c.files.map fun d=>(d,(⟨#[]⟩:ByteArray)))+twoZ (c.attrs.map atP)+twoZ (c.unset.map fun d=>(d,(⟨#[]⟩:ByteArray)))
theorem at_back (l:List (ByteArray×ByteArray)):(l.map fun q=>(⟨q.1,q.2⟩:At)).map atP=l:=by rw[List.map_map];exact List.map_id _
theorem sc_back (l:List (ByteArray×ByteArray)):(l.map fun q=>(⟨q.1,q.2⟩:Sc)).map scP=l:=by rw[List.map_map];exact List.map_id _
theorem open_two {H:Type}{enc:TypeId×Value→H}{W:World}{base:Nat}{sp:Nat→Bool}{hd:Bool}{v:Value}{d:DataW H}{p:List MemPlace}
  (hv:Value.okWide Tryz.prog W .any base 30 v) (h:DataW.Trod enc Tryz.prog W 0 sp hd 30 v d p) :
  ∃bv dv fv av uv sv lv tv,∃(c:Cx) (was l:List Sc) (a:List At),v=.agg #[.string c.name,bv,dv,fv,av,uv,sv,lv,tv]∧ChIn W (.string c.name) bv dv fv av uv c∧FlatAt twC 2 W sv (was.map scP)∧FlatAt twC 2 W lv (l.map scP)∧FlatAt twC 2 W tv (a.map atP)∧szCx c+twoZ (was.map scP)+twoZ (l.map scP)+twoZ (a.map atP)≤Rows.uptoBulk d:=by
 obtain⟨cs,rfl,hsz⟩:=okWide_struct Tryz.underlying30 hv;have hc9:Tryz.prog.cellsOf 30=9:=by kernel_rfl
 have hcC:Tryz.prog.cellsOf 27=6:=by kernel_rfl
 have hcS:Tryz.prog.cellsOf 28=1:=by kernel_rfl
 have hcA:Tryz.prog.cellsOf 25=1:=by kernel_rfl
 rw[hc9] at hsz;obtain⟨fuel,hf⟩:=h;obtain⟨xs,k,_,hxy,_,hxl,hi⟩:=DataW.trod_struct Tryz.underlying30 hf;obtain⟨cl,rfl⟩:∃l:List Value,cs=l.toArray:=⟨cs.toList,by simp⟩
 match cl,hsz with
 | [c0,c1,c2,c3,c4,c5,c6,c7,c8],_ =>
  match xs,hxl with
  | [x0,x1,x2,x3],_ =>
   have i0:DataW.trod enc Tryz.prog W 0 sp hd k 27 (([c0,c1,c2,c3,c4,c5,c6,c7,c8].drop 0).take (Tryz.prog.cellsOf 27))=some x0:=hi 0 _ rfl;have i1:DataW.trod enc Tryz.prog W 0 sp hd k 28 (([c0,c1,c2,c3,c4,c5,c6,c7,c8].drop 6).take (Tryz.prog.cellsOf 28))=some x1:=hi 1 _ rfl;have i2:DataW.trod enc Tryz.prog W 0 sp hd k 28 (([c0,c1,c2,c3,c4,c5,c6,c7,c8].drop 7).take (Tryz.prog.cellsOf 28))=some x2:=hi 2 _ rfl;have i3:DataW.trod enc Tryz.prog W 0 sp hd k 25 (([c0,c1,c2,c3,c4,c5,c6,c7,c8].drop 8).take (Tryz.prog.cellsOf 25))=some x3:=hi 3 _ rfl;rw[hcC] at i0;rw[hcS] at i1 i2;rw[hcA] at i3;obtain⟨v6,l6,e6,hA6,b6⟩:=open_srcF i1;obtain⟨v7,l7,e7,hA7,b7⟩:=open_srcF i2;obtain⟨v8,l8,e8,hA8,b8⟩:=open_atF i3;obtain⟨m,D,hl,hD,hx,hf6⟩:=open_cells Tryz.underlying27 (by kernel_rfl) (fun i f hif=>by
    have hi':i<6:=(Array.getElem?_eq_some_iff.1 hif).1
    match i,hi' with
    | 0,_=>obtain rfl:=Option.some.inj hif;exact⟨rfl,by kernel_rfl⟩
    | 1,_=>obtain rfl:=Option.some.inj hif;exact⟨rfl,by kernel_rfl⟩
    | 2,_=>obtain rfl:=Option.some.inj hif;exact⟨rfl,by kernel_rfl⟩
    | 3,_=>obtain rfl:=Option.some.inj hif;exact⟨rfl,by kernel_rfl⟩
    | 4,_=>obtain rfl:=Option.some.inj hif;exact⟨rfl,by kernel_rfl⟩
    | 5,_=>obtain rfl:=Option.some.inj hif;exact⟨rfl,by kernel_rfl⟩) i0
   match D,hD with
   | [y0,y1,y2,y3,y4,y5],_ =>
    obtain⟨u0,z0,q0,q0',g0⟩:=hf6 0 _ rfl;obtain⟨u1,z1,q1,q1',g1⟩:=hf6 1 _ rfl;obtain⟨u2,z2,q2,q2',g2⟩:=hf6 2 _ rfl;obtain⟨u3,z3,q3,q3',g3⟩:=hf6 3 _ rfl;obtain⟨u4,z4,q4,q4',g4⟩:=hf6 4 _ rfl;obtain⟨u5,z5,q5,q5',g5⟩:=hf6 5 _ rfl;cases q0;cases q0';cases q1;cases q1';cases q2;cases q2';cases q3;cases q3';cases q4;cases q4';cases q5;cases q5'
    obtain⟨s0,k0,d0,_⟩:=DataW.trod_string Tryz.underlying9 g0;obtain⟨v1,l1,k1,h1,b1⟩:=open_blF g1;obtain⟨v2,l2,k2,h2,b2⟩:=open_dgF g2;obtain⟨v3,l3,k3,h3,b3⟩:=open_txF g3;obtain⟨v4,l4,k4,h4,b4⟩:=open_atF g4;obtain⟨v5,l5,k5,h5,b5⟩:=open_txF g5;have b0:=bulk_txt s0 (d:=y0.1) (by rw[d0]);simp only[List.cons.injEq,and_true] at k0 k1 k2 k3 k4 k5;simp[Value.cells] at e6 e7 e8;subst k0 k1 k2 k3 k4 k5 e6 e7 e8;refine⟨_,_,_,_,_,_,_,_,⟨s0,l1,l2,l3,l4.map fun q=>⟨q.1,q.2⟩,l5⟩,l6.map fun q=>⟨q.1,q.2⟩,l7.map fun q=>⟨q.1,q.2⟩,l8.map fun q=>⟨q.1,q.2⟩,rfl,⟨rfl,h1,h2,h3,by rw[at_back];exact h4,h5⟩,by rw[sc_back];exact hA6,by rw[sc_back];exact hA7,by rw[at_back];exact hA8,?_⟩;have hd':d=.agg [x0.1,x1.1,x2.1,x3.1]:=congrArg Prod.fst hxy;rw[hd',hx];unfold szCx;rw[sc_back,sc_back,at_back,at_back];simp only[List.map_cons,List.map_nil,Rows.uptoBulk,Rows.uptoBulkAll];omega
end Go.Proofs.YtkdknllcllhpgaaGreatDoor
namespace Go.Proofs.YtkdknllcllhpgaaGreatDoor
open Go.RowKit Go.Bd
theorem make_room (n:Nat) (w:World) (hn:n≤1000000000):(Instr.makeSlice 69 (.int .i64 0) (.int .i64 n)).run Tryz.prog w=.ok (.slice (some ⟨w.heap.size,0,none⟩) 0 n) (w.alloc (.cells (madeCells #[.int .u8 0,.string ⟨#[]⟩,.string ⟨#[]⟩,.string ⟨#[]⟩,.slice none 0 0] (n*5)) 129)):=by
 obtain⟨i0,hi,hz0,hz1,hz2⟩:=info_parts span_info;have h:=run_make (P:=Tryz.prog) w 69 129 i0 _ Tryz.underlying69 hi hz0 .i64 .i64 0 n (by omega) (by omega) (by rw[hz2];omega) (by omega);rw[hz1] at h;simpa [Value.cells] using h
theorem chg_set {w w':World}{S:Nat→Prop} (h:Chg w w' S) (p:Addr) (u:Value) (hp:S p.block):Chg w (w'.setCell p u) S:=h.trans (Chg.set w' p u) (fun k _ e=>by subst e;exact hp)
theorem holds_five {w:World}{g:Nat}{t:TypeId}{z0 z1 z2 z3 z4 a b c d e:Value} (h:Holds w g t #[z0,z1,z2,z3,z4]):Holds (((((w.setCell ⟨g,0,none⟩ a).setCell ⟨g,1,none⟩ b).setCell ⟨g,2,none⟩ c).setCell ⟨g,3,none⟩ d).setCell ⟨g,4,none⟩ e) g t #[a,b,c,d,e] :=
 ((((h.set 0 _).set 1 _).set 2 _).set 3 _).set 4 _
theorem name_world' {α:Sort _}{K:α→World→Prop}{a:α}{W:World} (h:∀W',W'=W→K a W'):K a W:=h W rfl
def TwinOk (N:Nat):Prop:=∀(l:List Sp),manyL l≤N→manyL l≤4000000→∀(v:Value) (w:World) (B:Nat),Forest w (· < B) v l→B≤w.heap.size →
  Calls Tryz.prog 61 #[v] w fun e w'=>∃v',e=.returned v'∧Marked w' (fun b=>w.heap.size≤b∧b<w'.heap.size) v' l∧Below w.heap.size w w'
theorem twin1_any {N:Nat} (ih:TwinOk N) (x:Sp) (hN:manyL x.kids≤N) (hm:manyL x.kids≤4000000) (v:Value) (w:World) (B:Nat) (hF:Forest w (· < B) v x.kids) (hB:B≤w.heap.size) :
  Calls Tryz.prog 98 #[.agg #[.int .u8 (x.kind:Int),.string ⟨x.text.toArray⟩,.string ⟨x.sub.toArray⟩,.string ⟨x.see.toArray⟩,v]] w fun e w' =>
   ∃v',e=.returned (.agg #[.int .u8 (x.kind:Int),.string ⟨x.text.toArray⟩,.string ⟨x.sub.toArray⟩,.string ⟨x.see.toArray⟩,v'])∧Marked w' (fun b=>w.heap.size≤b∧b<w'.heap.size) v' x.kids∧Below w.heap.size w w':=by
 obtain⟨A,c,rfl,hc⟩:=hF.len;obtain⟨w0,hw0⟩:∃w0,(w.alloc (.cells #[.int .u8 (x.kind:Int),.string ⟨x.text.toArray⟩,.string ⟨x.sub.toArray⟩,.string ⟨x.see.toArray⟩,.slice A x.kids.length c] 129)).alloc (.cells #[.int .u8 0,.string ⟨#[]⟩,.string ⟨#[]⟩,.string ⟨#[]⟩,.slice none 0 0] 129)=w0:=⟨_,rfl⟩;have hb0:Below w.heap.size w w0:=by rw[←hw0];exact ((Below.refl _ _).alloc (Nat.le_refl _) _).alloc (by simp) _
 have hX:Holds w0 w.heap.size 129 #[.int .u8 (x.kind:Int),.string ⟨x.text.toArray⟩,.string ⟨x.sub.toArray⟩,.string ⟨x.see.toArray⟩,.slice A x.kids.length c]:=by rw[←hw0];exact (Holds.new w _ _).alloc _
 have hR:Holds w0 (w.heap.size+1) 129 #[.int .u8 0,.string ⟨#[]⟩,.string ⟨#[]⟩,.string ⟨#[]⟩,.slice none 0 0]:=by
  rw[←hw0];have h:=Holds.new (w.alloc (.cells #[.int .u8 (x.kind:Int),.string ⟨x.text.toArray⟩,.string ⟨x.sub.toArray⟩,.string ⟨x.see.toArray⟩,.slice A x.kids.length c] 129)) 129 #[.int .u8 0,.string ⟨#[]⟩,.string ⟨#[]⟩,.string ⟨#[]⟩,.slice none 0 0];rw[World.size_alloc] at h;exact h
 have hs0:w0.heap.size=w.heap.size+2:=by rw[←hw0];simp
 have HFO:=Lib.hid hF;have HB0:=Lib.hid hb0;clear hF
 go_enter Tryz.func98,Tryz.ntmps98
 go_wp2;clear hw0 hb0;refine wp_region_held_drew (S:=(fun w'=>w'.cell? ⟨w.heap.size,0,none⟩=some (.int .u8 (x.kind:Int))∧w'.cell? ⟨w.heap.size,1,none⟩=some (.string ⟨x.text.toArray⟩)∧w'.cell? ⟨w.heap.size,2,none⟩=some (.string ⟨x.sub.toArray⟩)∧w'.cell? ⟨w.heap.size,3,none⟩=some (.string ⟨x.see.toArray⟩)∧w'.cell? ⟨w.heap.size,4,none⟩=some (.slice A x.kids.length c))) (by kernel_rfl) ?_ (fun hHeld0=>?_)
 ·(try dsimp only)
  refine cells5 (t:=129) ?_
  repeat (first|with_reducible exact hX|with_reducible refine Holds.far ?_ hrx _|with_reducible refine Holds.alloc ?_ _|with_reducible refine Holds.drew ?_)
 refine tkHo 0 ?_;refine tkHo 1 ?_;refine tkHo 2 ?_;refine tkHo 3 ?_;refine tkHo 4 ?_;refine tkHo 5 ?_;refine tkHo 6 ?_;refine tkHo 7 ?_;refine tkHo 8 ?_;refine tkHo 9 ?_;refine rdyH [10] ?_;refine AllReadyH.cons rfl (fun K hK=>?_) AllReadyH.nil;go_simp;have hc0:Forest w0.drew (· < B) (.slice A x.kids.length c) x.kids:=(HFO.out.under (HB0.out.mono hB) (fun _ h=>h)).keep (fun _ h=>h) (fun _ _ _ h=>h);refine (ih x.kids hN hm _ _ B hc0 (by show B≤w0.heap.size;omega)).mono ?_;rintro e w2 ⟨v',rfl,ht2,hb2⟩;have hsz2:=hb2.size;have hX2:=holdsUnder (Holds.drew hX) hb2;have hR2:=holdsUnder (Holds.drew hR) hb2;have HB2:=Lib.hid ((HB0.out.drew).trans (hb2.mono (by show w.heap.size≤w0.heap.size;omega)));have hrx:w.heap.size≠w.heap.size+1:=by omega
 clear hX hR hc0;have hX:=hX2;have hR:=hR2;clear hX2 hR2;obtain⟨tg,tc,rfl,_⟩:=ht2.form;have HT2:=Lib.hid ht2;clear ht2 hb2
 go_wp2_with fail
 refine hK.out _ _ ?_ (fun hHeld1=>?_)
 ·(try dsimp only)
  refine cells5 (t:=129) ?_
  repeat (first|with_reducible exact hX|with_reducible refine Holds.far ?_ hrx _|with_reducible refine Holds.alloc ?_ _|with_reducible refine Holds.drew ?_)
 clear hK K hHeld0
 (try go_frame)
 refine tkHo 11 ?_;refine rdyH [12] ?_;refine AllReadyH.cons rfl (fun K hK=>?_) AllReadyH.nil;obtain⟨a0,a1,a2,a3,a4⟩:=cells5 hR;have f0:=hR.free 0;have f1:=hR.free 1;have f2:=hR.free 2;have f3:=hR.free 3;have f4:=hR.free 4;go_simp;refine name_world' ?_;intro w9 hw9;have hch:Chg w2 w9 (fun k=>k=w.heap.size+1):=by
  rw[hw9]
  repeat (first|with_reducible exact Chg.refl _ _|with_reducible refine Chg.drew ?_|with_reducible refine chg_set ?_ _ _ ?_|rfl)
 have hR9:Holds w9 (w.heap.size+1) 129 #[.int .u8 (x.kind:Int),.string ⟨x.text.toArray⟩,.string ⟨x.sub.toArray⟩,.string ⟨x.see.toArray⟩,.slice (some ⟨tg,0,none⟩) x.kids.length tc]:=by
  rw[hw9]
  first|with_reducible exact holds_five hR|with_reducible exact (holds_five hR).drew
 have hX9:=hch.holds (g:=w.heap.size) (by omega) hX;have hws:w0.heap.size≤w2.heap.size:=hsz2;have HT9:=Lib.hid (HT2.out.chg (G:=fun b=>w.heap.size≤b∧b<w9.heap.size) hch (fun b h=>⟨by have h1:w0.heap.size≤b:=h.1;omega,Nat.lt_of_lt_of_le h.2 hch.size⟩) (fun b h e=>by have h1:w0.heap.size≤b:=h.1;omega));have HB9:=Lib.hid (HB2.out.trans (hch.toBelow (by omega) (fun k e=>by omega)));clear a0 a1 a2 a3 a4 f0 f1 f2 f3 f4 hw9 hch hX hR HT2 HB2;have hX:=hX9;have hR:=hR9;clear hX9 hR9;refine hK.out _ _ ?_ (fun hHeld2=>?_)
 ·(try dsimp only)
  refine cells5 (t:=129) ?_
  repeat (first|with_reducible exact hX|with_reducible refine Holds.far ?_ hrx _|with_reducible refine Holds.alloc ?_ _|with_reducible refine Holds.drew ?_)
 clear hK K hHeld1
 (try go_frame)
 refine wpAnyH_done (by kernel_rfl) ?_ _;go_wp2
 (try simp only[Exit.inBlock,Exit.then])
 refine bodyPost_ret (results_row rfl _ _ (w.heap.size+1) _ _ _ _ rfl hR Tryz.underlying129 rfl span_size) rfl ?_;exact⟨_,rfl,HT9.out,HB9.out⟩
structure TwSt (w wr:World) (g cap k:Nat) (kvs:List Value) (l:List Sp):Prop where
 hl:kvs.length=k
 ho:wr.ownsRow w.heap.size 129 5 (.slice (some ⟨g,0,none⟩) k cap) k (rowCells (l.take k) kvs)
 hk:∀(j:Nat) x kv,(l.take k)[j]? = some x→kvs[j]? = some kv→Marked wr (fun b=>w.heap.size≤b∧b<wr.heap.size∧b≠g) kv x.kids
 hg:w.heap.size≤g∧g<wr.heap.size
 hb:Below w.heap.size w wr
theorem own_at {w:World}{B:Nat}{t:TypeId}{sz g k cap:Nat}{xs:List Value} (h:w.ownsRow B t sz (.slice (some ⟨g,0,none⟩) k cap) k xs):k≤cap:=by
 rcases h.2 with ⟨h,_⟩|⟨g',cap',cur,hv,_,_,hc,_⟩
 ·cases h
 ·injection hv with e1 e2 e3;omega
theorem twSt_next {w wr w2 w3:World}{g cap k g1 cap1:Nat}{kvs:List Value}{l:List Sp}{x:Sp}{kv:Value}{o:Obj} (h:TwSt w wr g cap k kvs l) (hx:l[k]? = some x) (hb2:Below wr.heap.size wr w2)
  (ht2:Marked w2 (fun b=>wr.heap.size≤b∧b<w2.heap.size) kv x.kids) (hown3:w3.ownsRow w.heap.size 129 5 (.slice (some ⟨g1,0,none⟩) (k+1) cap1) (k+1) (rowCells (l.take k) kvs++spCells x kv))
  (hgrow:(w2.alloc o).grownBy w3 (some g)) (hat:(some g:Option Nat)=some g1∨g1=w2.heap.size+1) (hlt3:g1<w3.heap.size):TwSt w w3 g1 cap1 (k+1) (kvs++[kv]) l:=by
 have hkl:k<l.length:=(List.getElem?_eq_some_iff.1 hx).1;have htl:(l.take k).length=k:=by rw[List.length_take];omega
 have etk:l.take (k+1)=l.take k++[x]:=by rw[List.take_add_one,hx];rfl
 have hc:Chg w2 w3 (fun b=>some b=some g):=((Chg.refl w2 (fun b=>some b=some g)).alloc o).trans (Chg.grown hgrow) (fun _ _ h=>h);have hs2:=hb2.size;have hs3:=hc.size;obtain⟨hg1,hg2⟩:=h.hg;have hgg:g1=g∨g1=w2.heap.size+1:=hat.imp (fun e=>(Option.some.inj e).symm) id;have hbb:=h.hb.size;refine⟨by rw[List.length_append,h.hl];rfl,by rw[etk,rowCells_snoc x kv (by rw[h.hl,htl])];exact hown3,fun j y ku e1 e2=>?_,⟨by omega,hlt3⟩,?_⟩
 ·rw[etk] at e1
  by_cases hj:j<k
  ·rw[List.getElem?_append_left (by omega)] at e1;rw[List.getElem?_append_left (by rw[h.hl];exact hj)] at e2;refine ((h.hk j y ku e1 e2).under hb2 (fun b hb=>hb.2.1)).chg hc (fun b hb=>⟨hb.1,by omega,by omega⟩) (fun b hb e=>hb.2.2 (Option.some.inj e))
  ·have hjk:j=k:=by
    have:=(List.getElem?_eq_some_iff.1 e1).1
    rw[List.length_append,htl] at this;simp at this;omega
   subst hjk;rw[List.getElem?_append_right (by omega),htl,Nat.sub_self] at e1;rw[List.getElem?_append_right (by rw[h.hl];exact Nat.le_refl _),h.hl,Nat.sub_self] at e2;simp only[List.getElem?_cons_zero,Option.some.injEq] at e1 e2;subst e1 e2;exact ht2.chg hc (fun b hb=>⟨by omega,by omega,by omega⟩) (fun b hb e=>by have:=Option.some.inj e;omega)
 ·exact (h.hb.trans (hb2.mono hbb)).trans (hc.toBelow (by omega) (fun b e=>by have:=Option.some.inj e;omega))
theorem twSt_last {w wr w3:World}{g cap k g1 cap1:Nat}{kvs:List Value}{l:List Sp}{o:Obj} (h:TwSt w wr g cap k kvs l) (hkl:l.length=k)
  (hown3:w3.ownsRow w.heap.size 129 5 (.slice (some ⟨g1,0,none⟩) (k+1) cap1) (k+1) (rowCells (l.take k) kvs++markCells))
  (hgrow:(wr.alloc o).grownBy w3 (some g)) (hat:(some g:Option Nat)=some g1∨g1=wr.heap.size+1) (hlt3:g1<w3.heap.size) :
  Marked w3 (fun b=>w.heap.size≤b∧b<w3.heap.size) (.slice (some ⟨g1,0,none⟩) l.length cap1) l∧Below w.heap.size w w3:=by
 have hc:Chg wr w3 (fun b=>some b=some g):=((Chg.refl wr (fun b=>some b=some g)).alloc o).trans (Chg.grown hgrow) (fun _ _ h=>h);have hs3:=hc.size;obtain⟨hg1,hg2⟩:=h.hg;have hgg:g1=g∨g1=wr.heap.size+1:=hat.imp (fun e=>(Option.some.inj e).symm) id;have hbb:=h.hb.size;have htk:l.take k=l:=List.take_of_length_le (by omega);have hk:=h.hk;rw[htk] at hown3 hk;rw[←hkl] at hown3;refine⟨twin_of_row (by rw[h.hl,hkl]) hown3 ⟨by omega,hlt3⟩ (fun j x kv e1 e2=>?_),h.hb.trans (hc.toBelow (by omega) (fun b e=>by have:=Option.some.inj e;omega))⟩;exact (hk j x kv e1 e2).chg hc (fun b hb=>⟨hb.1,by omega⟩) (fun b hb e=>hb.2.2 (Option.some.inj e))
theorem twin_step {N:Nat} (ih:∀M,M<N→TwinOk M):TwinOk N:=by
 intro l hN hm v w B hF hB;obtain⟨A,c,rfl,hc⟩:=hF.len;have hlm:=many_len l;have HF:=Lib.hid hF;have HIH:=Lib.hid ih;clear hF ih;obtain⟨n,hn⟩:∃n,l.length=n:=⟨_,rfl⟩;have HN:=Lib.hid hn;simp only[hn] at hc hlm HF ⊢;clear hn;have mf:=make_room (n+1) w (by omega);have hz:=madeCells_size #[.int .u8 0,.string ⟨#[]⟩,.string ⟨#[]⟩,.string ⟨#[]⟩,.slice none 0 0] ((n+1)*5);generalize madeCells #[.int .u8 0,.string ⟨#[]⟩,.string ⟨#[]⟩,.string ⟨#[]⟩,.slice none 0 0] ((n+1)*5)=zc at mf hz;have HZ:=Lib.hid hz;rw[show (((n+1:Nat):Int))=(n:Int)+1 by push_cast;rfl] at mf;clear hz;obtain⟨i0,hi0,hz0,hz1,hz2⟩:=info_parts span_info
 go_enter Tryz.func61,Tryz.ntmps61
 go_wp2;clear mf
 go_loopg [3,4] n (fun q vt vi wr=>∃k g cap:Nat,k+q=n∧vi=.int .i64 (k:Int)∧vt=.slice (some ⟨g,0,none⟩) k cap∧Hid (∃kvs,TwSt w wr g cap k kvs l))
 case atStart =>
  refine⟨0,w.heap.size,n+1,by omega,rfl,rfl,[],rfl,⟨rfl,.inr ⟨w.heap.size,n+1,zc,rfl,Nat.le_refl _,heap_alloc_new w _,Nat.zero_le _,by unfold maxLen;omega,HZ.out,rfl⟩⟩,fun j x kv h=>by simp at h,⟨Nat.le_refl _,by simp⟩,(Below.refl _ _).alloc (Nat.le_refl _) _⟩
 case round =>
  obtain⟨k,g,cap,hk,rfl,rfl,HR⟩:=hrel;obtain⟨kvs,hst⟩:=HR.out;have hkc:=own_at hst.ho;have hrb:=hst.hb.size;obtain⟨hg1,hg2⟩:=hst.hg
  by_cases hlt:k<n
  ·obtain⟨x,hx⟩:∃x,l[k]? = some x:=⟨_,List.getElem?_eq_getElem (by rw[HN.out];exact hlt)⟩;obtain⟨b1,off,kA,kc,rfl,hb1,hkF,p0,p1,p2,p3,p4⟩:=HF.out.at hx;have hbl:=hst.hb.mono hB
   replace p0:=(hbl.cell (p:=⟨b1,off+k*5,none⟩) hb1).trans p0
   replace p1:=(hbl.cell (p:=⟨b1,off+k*5+1,none⟩) hb1).trans p1
   replace p2:=(hbl.cell (p:=⟨b1,off+k*5+2,none⟩) hb1).trans p2
   replace p3:=(hbl.cell (p:=⟨b1,off+k*5+3,none⟩) hb1).trans p3
   replace p4:=(hbl.cell (p:=⟨b1,off+k*5+4,none⟩) hb1).trans p4
   have hgt:=many_get hx;have ci:=twin1_any (HIH.out (manyL x.kids) (by omega)) x (Nat.le_refl _) (by omega) _ wr B (hkF.under hbl (fun _ h=>h)) (by omega);have HST:=Lib.hid hst;have HX:=Lib.hid hx;clear hx hkF hbl hst HR
   go_wp2_with fail
   refine ci.mono ?_;clear ci;rintro e w2 ⟨v',rfl,ht2,hb2⟩;have hs2:=hb2.size;have hown2:=(Chg.below hb2 (fun _=>False)).owns HST.out.ho (fun _ _ h=>h);have HT2:=Lib.hid ht2;have HB2:=Lib.hid hb2;obtain⟨tg,tc,rfl,_⟩:=ht2.form;clear ht2 hb2
   go_wp2_with (at_builtin;refine wpList_append_lies _ rfl _ _ 69 rfl w.heap.size 129 i0 _ 5 80 Tryz.underlying69 hi0 hz0 hz1 hz2 rfl (by omega) (.slice (some ⟨g,0,none⟩) k cap) k (rowCells (l.take k) kvs) (by rfl) (hown2.alloc _) ⟨w2.heap.size,0,none⟩ 1 1 [.int .u8 (x.kind:Int),.string ⟨x.text.toArray⟩,.string ⟨x.sub.toArray⟩,.string ⟨x.see.toArray⟩,.slice (some ⟨tg,0,none⟩) x.kids.length tc] (by rfl) (by rfl) (World.news_of_block (cs:=#[.int .u8 (x.kind:Int),.string ⟨x.text.toArray⟩,.string ⟨x.sub.toArray⟩,.string ⟨x.see.toArray⟩,.slice (some ⟨tg,0,none⟩) x.kids.length tc]) (t:=129) (fr:=(0,0)) (heap_alloc_new w2 _)) (by simp[Value.oneCell']) (by omega) (by unfold maxLen;omega) (by omega) (by simp;omega) (w2.heap.size+1) (by simp) ?_;intro g1 cap1 w3 hown3 hgrow hat hlt3)
   have HN3:=Lib.hid (twSt_next HST.out HX.out HB2.out HT2.out hown3 hgrow hat hlt3);clear hown3 hgrow hat hlt3 hown2
   go_roundg (gk-1)
   case measure=>omega
   case rel=>exact⟨k+1,g1,cap1,by omega,by go_num,rfl,_,HN3.out⟩
  ·obtain rfl:k=n:=by omega
   have HST:=Lib.hid hst;have hown:=hst.ho;clear hst HR
   go_wp2_with (at_builtin;refine wpList_append_lies _ rfl _ _ 69 rfl w.heap.size 129 i0 _ 5 80 Tryz.underlying69 hi0 hz0 hz1 hz2 rfl (by omega) (.slice (some ⟨g,0,none⟩) k cap) k (rowCells (l.take k) kvs) (by rfl) (hown.alloc _) ⟨wr.heap.size,0,none⟩ 1 1 markCells (by rfl) (by rfl) (World.news_of_block (cs:=#[.int .u8 0,.string ⟨#[115,112,97,114,101]⟩,.string ⟨#[]⟩,.string ⟨#[]⟩,.slice none 0 0]) (t:=129) (fr:=(0,0)) (heap_alloc_new wr _)) (by simp[markCells,strV,Value.oneCell']) (by omega) (by unfold maxLen;omega) (by omega) (by simp;omega) (wr.heap.size+1) (by simp) ?_;intro g1 cap1 w3 hown3 hgrow hat hlt3;have hcap3:=own_at hown3)
   have HM3:=Lib.hid (twSt_last HST.out (by rw[HN.out]) hown3 hgrow hat hlt3)
   go_ret
   exact⟨_,rfl,by have h:=HM3.out.1;rw[HN.out] at h;exact h,HM3.out.2⟩
theorem twin_any (N:Nat):TwinOk N:=by
 induction N using Nat.strongRecOn with
 | _ N ih=>exact twin_step ih
def LeftOk (N:Nat):Prop:=∀(l:List Sp),manyL l≤N→manyL l≤4000000→∀(t v:Value) (w:World) (B:Nat),Marked w (· < B) t l→Forest w (· < B) v l→B≤w.heap.size →
  Calls Tryz.prog 67 #[t,v] w fun e w'=>e=.returned (.bool true)∧Below B w w'
theorem left1_any {N:Nat} (ih:LeftOk N) (x:Sp) (hN:manyL x.kids≤N) (hm:manyL x.kids≤4000000) (t v:Value) (w:World) (B:Nat) (hT:Marked w (· < B) t x.kids) (hF:Forest w (· < B) v x.kids) (hB:B≤w.heap.size) :
  Calls Tryz.prog 102 #[.agg #[.int .u8 (x.kind:Int),.string ⟨x.text.toArray⟩,.string ⟨x.sub.toArray⟩,.string ⟨x.see.toArray⟩,t],.agg #[.int .u8 (x.kind:Int),.string ⟨x.text.toArray⟩,.string ⟨x.sub.toArray⟩,.string ⟨x.see.toArray⟩,v]] w fun e w'=>e=.returned (.bool true)∧Below B w w':=by
 obtain⟨A,c,rfl,hc⟩:=hF.len;obtain⟨tg,tc,rfl,htc,_⟩:=hT.form;have HF:=Lib.hid hF;have HT:=Lib.hid hT;have HI:=Lib.hid ih;clear hF hT ih
 go_enter Tryz.func102,Tryz.ntmps102
 go_wp2_with fail
 refine (HI.out x.kids hN hm _ _ _ B (HT.out.under (((Below.refl B w).alloc hB _).alloc (by simp;omega) _) (fun _ h=>h)) (HF.out.under (((Below.refl B w).alloc hB _).alloc (by simp;omega) _) (fun _ h=>h)) (by simp;omega)).mono ?_;rintro e w2 ⟨rfl,hb2⟩;have HB:=Lib.hid ((((Below.refl B w).alloc hB _).alloc (by simp;omega) _).trans hb2);clear hb2;go_wp2
 go_ret
 exact⟨rfl,HB.out⟩
theorem left_step {N:Nat} (ih:∀M,M<N→LeftOk M):LeftOk N:=by
 intro l hN hm t v w B hT hF hB;obtain⟨A,c,rfl,hc⟩:=hF.len;obtain⟨tg,tc,rfl,htc,htB,hmk,htx⟩:=hT.form;have hlm:=many_len l;have HF:=Lib.hid hF;have HT:=Lib.hid htx;have HI:=Lib.hid ih;have HMK:=Lib.hid hmk;clear hF hT ih htx hmk;obtain⟨n,hn⟩:∃n,l.length=n:=⟨_,rfl⟩;have HN:=Lib.hid hn;simp only[hn] at hc hlm htc HF HMK ⊢;clear hn;have htB':tg<B:=htB;clear htB;have tcb:decide (tc≤n)=false:=decide_eq_false (by omega)
 go_enter Tryz.func67,Tryz.ntmps67
 go_wp2
 go_loopg [5] n (fun q i wr=>∃k:Nat,k+q=n∧i=.int .i64 (k:Int)∧Hid (Below B w wr))
 case atStart=>exact⟨0,by omega,rfl,Below.refl _ _⟩
 case round =>
  obtain⟨k,hk,rfl,HR⟩:=hrel
  by_cases hlt:k<n
  ·obtain⟨x,hx⟩:∃x,l[k]? = some x:=⟨_,List.getElem?_eq_getElem (by rw[HN.out];exact hlt)⟩;obtain⟨b2,off2,kA2,kc2,rfl,hb2,hkG,q0,q1,q2,q3,q4⟩:=HF.out.at hx;obtain⟨kv,hkT,p0,p1,p2,p3,p4⟩:=HT.out k x hx;obtain⟨sg,sc,rfl,hsc,_⟩:=hkT.form;have hbl:=HR.out;have hrb:=hbl.size
   replace p0:=(hbl.cell (p:=⟨tg,k*5,none⟩) htB').trans p0
   replace p1:=(hbl.cell (p:=⟨tg,k*5+1,none⟩) htB').trans p1
   replace p2:=(hbl.cell (p:=⟨tg,k*5+2,none⟩) htB').trans p2
   replace p3:=(hbl.cell (p:=⟨tg,k*5+3,none⟩) htB').trans p3
   replace p4:=(hbl.cell (p:=⟨tg,k*5+4,none⟩) htB').trans p4
   replace q0:=(hbl.cell (p:=⟨b2,off2+k*5,none⟩) hb2).trans q0
   replace q1:=(hbl.cell (p:=⟨b2,off2+k*5+1,none⟩) hb2).trans q1
   replace q2:=(hbl.cell (p:=⟨b2,off2+k*5+2,none⟩) hb2).trans q2
   replace q3:=(hbl.cell (p:=⟨b2,off2+k*5+3,none⟩) hb2).trans q3
   replace q4:=(hbl.cell (p:=⟨b2,off2+k*5+4,none⟩) hb2).trans q4
   simp only[strV] at p1 p2 p3;have hgt:=many_get hx;have HKT:=Lib.hid (hkT.under hbl (fun _ h=>h));have HKG:=Lib.hid (hkG.under hbl (fun _ h=>h));clear hx hkT hkG hbl;go_wp2;refine wp_region_held_drew (S:=(fun w'=>w'.cell? ⟨tg,k*5,none⟩=some (.int .u8 (x.kind:Int))∧w'.cell? ⟨tg,k*5+1,none⟩=some (.string ⟨x.text.toArray⟩)∧w'.cell? ⟨tg,k*5+2,none⟩=some (.string ⟨x.sub.toArray⟩)∧w'.cell? ⟨tg,k*5+3,none⟩=some (.string ⟨x.see.toArray⟩)∧w'.cell? ⟨tg,k*5+4,none⟩=some (.slice (some ⟨sg,0,none⟩) x.kids.length sc)∧w'.cell? ⟨b2,off2+k*5,none⟩=some (.int .u8 (x.kind:Int))∧w'.cell? ⟨b2,off2+k*5+1,none⟩=some (.string ⟨x.text.toArray⟩)∧w'.cell? ⟨b2,off2+k*5+2,none⟩=some (.string ⟨x.sub.toArray⟩)∧w'.cell? ⟨b2,off2+k*5+3,none⟩=some (.string ⟨x.see.toArray⟩)∧w'.cell? ⟨b2,off2+k*5+4,none⟩=some (.slice kA2 x.kids.length kc2))) (by kernel_rfl) ?_ (fun hHeld0=>?_)
   ·(try dsimp only)
    first|exact⟨p0,p1,p2,p3,p4,q0,q1,q2,q3,q4⟩|exact⟨r0,r1,r2,r3,r4,s0,s1,s2,s3,s4⟩
   refine tkHo 0 ?_;refine tkHo 1 ?_;refine tkHo 2 ?_;refine tkHo 3 ?_;refine tkHo 4 ?_;refine tkHo 5 ?_;refine tkHo 6 ?_;refine tkHo 7 ?_;refine rdyH [8] ?_;refine AllReadyH.cons rfl (fun K hK=>?_) AllReadyH.nil;go_simp;refine (left1_any (HI.out (manyL x.kids) (by omega)) x (Nat.le_refl _) (by omega) _ _ wr.drew B (HKT.out.keep (fun _ h=>h) (fun _ _ _ h=>h)) (HKG.out.keep (fun _ h=>h) (fun _ _ _ h=>h)) (by first|omega|(show B≤wr.heap.size;omega))).mono ?_;rintro e w2 ⟨rfl,hb2'⟩;have HB2:=Lib.hid (((Below.refl B wr).drew).trans hb2');clear hb2';have r0:=(HB2.out.cell (p:=⟨tg,k*5,none⟩) (by omega)).trans p0;have r1:=(HB2.out.cell (p:=⟨tg,k*5+1,none⟩) (by omega)).trans p1;have r2:=(HB2.out.cell (p:=⟨tg,k*5+2,none⟩) (by omega)).trans p2;have r3:=(HB2.out.cell (p:=⟨tg,k*5+3,none⟩) (by omega)).trans p3;have r4:=(HB2.out.cell (p:=⟨tg,k*5+4,none⟩) (by omega)).trans p4;have s0:=(HB2.out.cell (p:=⟨b2,off2+k*5,none⟩) (by omega)).trans q0;have s1:=(HB2.out.cell (p:=⟨b2,off2+k*5+1,none⟩) (by omega)).trans q1;have s2:=(HB2.out.cell (p:=⟨b2,off2+k*5+2,none⟩) (by omega)).trans q2;have s3:=(HB2.out.cell (p:=⟨b2,off2+k*5+3,none⟩) (by omega)).trans q3;have s4:=(HB2.out.cell (p:=⟨b2,off2+k*5+4,none⟩) (by omega)).trans q4
   go_wp2_with fail
   refine hK.out _ _ ?_ (fun hHeld1=>?_)
   ·(try dsimp only)
    first|exact⟨p0,p1,p2,p3,p4,q0,q1,q2,q3,q4⟩|exact⟨r0,r1,r2,r3,r4,s0,s1,s2,s3,s4⟩
   clear hK K hHeld0
   (try go_frame)
   refine tkHo 9 ?_;refine wpAnyH_done (by kernel_rfl) ?_ _;go_wp2
   go_roundg (gk-1)
   case measure=>omega
   case rel=>exact⟨k+1,by omega,by go_num,HR.out.trans HB2.out⟩
  ·obtain rfl:k=n:=by omega
   have hbl:=HR.out;have hrb:=hbl.size;have m0:wr.cell? ⟨tg,k*5,none⟩=some (.int .u8 0):=(hbl.cell (p:=⟨tg,k*5,none⟩) htB').trans (HMK.out 0 _ rfl);have m1:wr.cell? ⟨tg,k*5+1,none⟩=some (.string ⟨#[115,112,97,114,101]⟩):=(hbl.cell (p:=⟨tg,k*5+1,none⟩) htB').trans (HMK.out 1 _ rfl);have m2:wr.cell? ⟨tg,k*5+2,none⟩=some (.string ⟨#[]⟩):=(hbl.cell (p:=⟨tg,k*5+2,none⟩) htB').trans (HMK.out 2 _ rfl);have m3:wr.cell? ⟨tg,k*5+3,none⟩=some (.string ⟨#[]⟩):=(hbl.cell (p:=⟨tg,k*5+3,none⟩) htB').trans (HMK.out 3 _ rfl);have m4:wr.cell? ⟨tg,k*5+4,none⟩=some (.slice none 0 0):=(hbl.cell (p:=⟨tg,k*5+4,none⟩) htB').trans (HMK.out 4 _ rfl);clear hbl;go_wp2
   go_ret
   exact⟨by kernel_rfl,HR.out.alloc (by omega) _⟩
theorem left_any (N:Nat):LeftOk N:=by
 induction N using Nat.strongRecOn with
 | _ N ih=>exact left_step ih
end Go.Proofs.YtkdknllcllhpgaaGreatDoor
namespace Go.Bd
mutual
theorem many_sz1:∀x:Sp,many1 x≤sz1 x
 | ⟨_,_,_,_,kids⟩=>by have:=many_szL kids;simp only[many1,sz1];omega
theorem many_szL:∀l:List Sp,manyL l≤szL l
 | []=>Nat.le_refl _
 | x::l=>by have:=many_sz1 x;have:=many_szL l;simp only[manyL,szL];omega
end
end Go.Bd
namespace Go.Proofs.YtkdknllcllhpgaaGreatDoor
open Go.RowKit Go.Bd
def SizeOk (N:Nat):Prop:=∀(l:List Sp),szL l≤N→szL l≤1048576→∀(v:Value) (w:World) (B:Nat),Forest w (· < B) v l→B≤w.heap.size →
  Calls Tryz.prog 47 #[v] w fun e w'=>e=.returned (.int .i64 (szL l:Int))∧Below B w w'
theorem size1_any {N:Nat} (ih:SizeOk N) (x:Sp) (hN:szL x.kids≤N) (hz:sz1 x≤1048576) (v:Value) (w:World) (B:Nat) (hF:Forest w (· < B) v x.kids) (hB:B≤w.heap.size) :
  Calls Tryz.prog 69 #[.agg #[.int .u8 (x.kind:Int),.string ⟨x.text.toArray⟩,.string ⟨x.sub.toArray⟩,.string ⟨x.see.toArray⟩,v]] w fun e w'=>e=.returned (.int .i64 (sz1 x:Int))∧Below B w w':=by
 obtain⟨A,c,rfl,hc⟩:=hF.len;have hs:=sz1_eq x;have hal:=(Below.refl B w).alloc hB (.cells #[.int .u8 (x.kind:Int),.string ⟨x.text.toArray⟩,.string ⟨x.sub.toArray⟩,.string ⟨x.see.toArray⟩,.slice A x.kids.length c] 129);have ci:=ih x.kids hN (by omega) _ _ B (hF.under hal (fun _ h=>h)) (by simp;omega);have HAL:=Lib.hid hal;generalize szL x.kids=kz at ci hs hN;generalize sz1 x=z at hs hz ⊢;have z1:(⟨x.text.toArray⟩:ByteArray).size=x.text.length:=size_mk _;have z2:(⟨x.sub.toArray⟩:ByteArray).size=x.sub.length:=size_mk _;have z3:(⟨x.see.toArray⟩:ByteArray).size=x.see.length:=size_mk _;clear hF hal ih;generalize (⟨x.text.toArray⟩:ByteArray)=b1 at z1 ci HAL ⊢;generalize (⟨x.sub.toArray⟩:ByteArray)=b2 at z2 ci HAL ⊢;generalize (⟨x.see.toArray⟩:ByteArray)=b3 at z3 ci HAL ⊢;have hle:(1:Int)+b1.size+b2.size+b3.size≤1048576:=by omega
 have hz':(1:Int)+b1.size+b2.size+b3.size+kz=z:=by omega
 have HZ:=Lib.hid hz';clear hz' hs;generalize x.kids.length=kl at ci hc HAL ⊢
 go_enter Tryz.func69,Tryz.ntmps69
 go_wp2_with fail
 refine ci.mono ?_;clear ci;rintro e w2 ⟨rfl,hb2⟩;have HB2:=Lib.hid (HAL.out.trans hb2);clear hb2;go_wp2
 go_ret
 have hzz:=HZ.out;rw[z1,z2,z3] at hzz;exact⟨by rw[←hzz];exact congrArg (fun x=>Ending.returned (Value.int .i64 x)) (IntWalk.wrap64_in _ (by omega)),HB2.out⟩
theorem size_step {N:Nat} (ih:∀M,M<N→SizeOk M):SizeOk N:=by
 intro l hN hz v w B hF hB;obtain⟨A,c,rfl,hc⟩:=hF.len;have hlm:=szL_len l;have HF:=Lib.hid hF;have HIH:=Lib.hid ih;clear hF ih;obtain⟨n,hn⟩:∃n,l.length=n:=⟨_,rfl⟩;obtain⟨mm,hmm⟩:∃mm,szL l=mm:=⟨_,rfl⟩;have HN:=Lib.hid hn;have HMM:=Lib.hid hmm;simp only[hn,hmm] at hc hlm hN hz HF ⊢;clear hn hmm
 go_enter Tryz.func47,Tryz.ntmps47
 go_wp2
 go_loopg [3,4] n (fun q vn vi wr=>∃k a:Nat,k+q=n∧vi=.int .i64 (k:Int)∧vn=.int .i64 (a:Int)∧a≤mm∧Hid (a+k=n+szL (l.take k)∧Below B w wr))
 case atStart=>exact⟨0,n,by omega,rfl,rfl,hlm,by simp[szL],Below.refl _ _⟩
 case round =>
  obtain⟨k,a,hk,rfl,rfl,ham,HR⟩:=hrel
  by_cases hlt:k<n
  ·obtain⟨x,hx⟩:∃x,l[k]? = some x:=⟨_,List.getElem?_eq_getElem (by rw[HN.out];exact hlt)⟩;obtain⟨b1,off,kA,kc,rfl,hb1,hkF,p0,p1,p2,p3,p4⟩:=HF.out.at hx;have hbl:=HR.out.2
   replace p0:=(hbl.cell (p:=⟨b1,off+k*5,none⟩) hb1).trans p0
   replace p1:=(hbl.cell (p:=⟨b1,off+k*5+1,none⟩) hb1).trans p1
   replace p2:=(hbl.cell (p:=⟨b1,off+k*5+2,none⟩) hb1).trans p2
   replace p3:=(hbl.cell (p:=⟨b1,off+k*5+3,none⟩) hb1).trans p3
   replace p4:=(hbl.cell (p:=⟨b1,off+k*5+4,none⟩) hb1).trans p4
   have hgt:=sz_get hx;rw[HMM.out] at hgt;have hrb:=hbl.size;have htk:=szL_take hx;have hbd:szL (l.take (k+1))+n≤mm+(k+1):=by
    have e:=szL_app (l.take (k+1)) (l.drop (k+1));rw[List.take_append_drop,HMM.out] at e;have h2:=szL_len (l.drop (k+1));rw[List.length_drop,HN.out] at h2;omega
   have hx1:=sz1_eq x;have ci:=size1_any (HIH.out (szL x.kids) (by omega)) x (Nat.le_refl _) (by omega) _ wr B (hkF.under hbl (fun _ h=>h)) (by omega);have hsum:a+sz1 x+(k+1)=n+szL (l.take (k+1)):=by have:=HR.out.1;omega
   have HSM:=Lib.hid hsum;have ham2:a+sz1 x≤mm:=by omega
   have ham3:(a:Int)≤1048576:=by omega
   generalize sz1 x=mk at ci ham2 HSM;clear hx hkF hbl htk hbd hgt hsum hx1
   go_wp2_with fail
   refine ci.mono ?_;clear ci;rintro e w2 ⟨rfl,hb2⟩;have HB2:=Lib.hid (HR.out.2.trans hb2);clear hb2;go_wp2
   go_roundg (gk-1)
   case measure=>omega
   case rel=>exact⟨k+1,a+mk,by omega,by go_num,by go_num,ham2,HSM.out,HB2.out⟩
  ·obtain rfl:k=n:=by omega
   have ha:a=mm:=by
    have h1:=HR.out.1;rw[List.take_of_length_le (by rw[HN.out];exact Nat.le_refl _),HMM.out] at h1;omega
   subst ha;go_wp2
   go_ret
   exact⟨rfl,HR.out.2⟩
theorem size_any (N:Nat):SizeOk N:=by
 induction N using Nat.strongRecOn with
 | _ N ih=>exact size_step ih
end Go.Proofs.YtkdknllcllhpgaaGreatDoor
