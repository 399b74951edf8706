/-
  What the chapter's laws share, part 4: plain facts, memory, and walks of functions. Its conditions: those that each theorem names.
-/
import Derived.Test.YtkkebmciiiajeaaGreatDoorK0
import Derived.Test.YtkkebmciiiajeaaGreatDoorK1
import Derived.Test.YtkkebmciiiajeaaGreatDoorK3
set_option linter.unusedSimpArgs false
set_option linter.unusedVariables false
set_option maxHeartbeats 16000000
set_option maxRecDepth 100000
namespace Go.Proofs.YtkkebmciiiajeaaGreatDoor
open Go.RowKit Go.Bd
theorem cut59_none (s:ByteArray) (m:Int) (w:World) (hs:s.size≤240) (hm:w.cell? ⟨0,0,none⟩=some (.int .i64 m)) (h:first s.data.toList 59=s.data.toList.length) :
  Calls Tryz.prog 187 #[.string s,.string ⟨#[59]⟩] w fun e w'=>e=.returned (.tuple #[.string s,strV [],.bool false])∧Below w.heap.size w w':=by
 refine (Tryz.strings_Cut s ⟨#[59]⟩ m w (by omega) hm).mono ?_;rintro e w' ⟨he,n,hw⟩;refine⟨?_,hw ▸ Go.below_drewN (Below.refl _ _) _⟩;have hc:=@cut_none s.data.toList 59 (by rw[e59];omega);rw[he,show (⟨#[59]⟩:ByteArray).data.toList=[59] from rfl,hc];simp[strV]
theorem cut62_none (s:ByteArray) (m:Int) (w:World) (hs:s.size≤240) (hm:w.cell? ⟨0,0,none⟩=some (.int .i64 m)) (h:first s.data.toList 62=s.data.toList.length) :
  Calls Tryz.prog 187 #[.string s,.string ⟨#[62]⟩] w fun e w'=>e=.returned (.tuple #[.string s,strV [],.bool false])∧Below w.heap.size w w':=by
 refine (Tryz.strings_Cut s ⟨#[62]⟩ m w (by omega) hm).mono ?_;rintro e w' ⟨he,n,hw⟩;refine⟨?_,hw ▸ Go.below_drewN (Below.refl _ _) _⟩;have hc:=@cut_none s.data.toList 62 (by rw[e62];omega);rw[he,show (⟨#[62]⟩:ByteArray).data.toList=[62] from rfl,hc];simp[strV]
theorem cut62_hit (s:ByteArray) (m:Int) (w:World) (hs:s.size≤240) (hm:w.cell? ⟨0,0,none⟩=some (.int .i64 m)) (h:first s.data.toList 62<s.size) :
  Calls Tryz.prog 187 #[.string s,.string ⟨#[62]⟩] w fun e w'=>e=.returned (.tuple #[strV (s.data.toList.take (first s.data.toList 62)),strV (s.data.toList.drop (first s.data.toList 62+1)),.bool true])∧Below w.heap.size w w':=by
 refine (Tryz.strings_Cut s ⟨#[62]⟩ m w (by omega) hm).mono ?_;rintro e w' ⟨he,n,hw⟩;refine⟨?_,hw ▸ Go.below_drewN (Below.refl _ _) _⟩;have hc:=@cut_hit s.data.toList 62 (by rw[e62];simpa using h);rw[e62] at hc;rw[he,show (⟨#[62]⟩:ByteArray).data.toList=[62] from rfl,hc];rfl
theorem parse_see (s:ByteArray) (m:Int) (w:World) (hs:s.size≤240) (hm:w.cell? ⟨0,0,none⟩=some (.int .i64 m)) (h0:Hid (first s.data.toList 59=s.data.toList.length)) (h:first s.data.toList 62<s.size) :
  Calls Tryz.prog 239 #[.string s] w fun e w'=>e=.returned (parseP s.data.toList)∧Below w.heap.size w w':=by
 have hv:=Lib.hid (congrArg parseO (parseB_see (l:=s.data.toList) (by simpa using hs) h0.out (by simpa using h)));have f0:=form0;have f1:=form1;have ff:=forms_any
 change ∀w,Calls _ _ _ _ (fun e w'=>e=.returned formsV∧_) at ff
 generalize formsV=fv at f0 f1 ff;have hw0:=block_lt_of_cell hm;have l1:s.data.toList.length≤240:=by simpa using hs
 go_enter Tryz.func239,Tryz.ntmps239
 go_wp2_with fail
 refine (ff _).mono ?_;rintro e w1 ⟨rfl,hb1⟩
 go_wp2_with fail
 refine wp_loop_rounds 2 ?_;rw[rounds_succ]
 go_wp2_with fail
 have S1:=St.first ⟨#[59]⟩ (.func (.func 246) #[] #[]) hb1;obtain⟨W1,hW1⟩:∃W,W=w1.alloc (.cells #[.string ⟨#[59]⟩,.func (.func 246) #[] #[]] 306):=⟨_,rfl⟩;rw[←hW1] at S1 ⊢;clear hW1 hb1;generalize w1.heap.size=g at S1 ⊢;refine (cut59_none s m W1 hs ((S1.below.cell (p:=⟨0,0,none⟩) hw0).trans hm) h0.out).mono ?_;rintro e w2 ⟨rfl,hb2⟩;have S2':=S1.later hb2;clear S1 hb2;rw[strV]
 go_wp2_with fail
 rw[rounds_succ]
 go_wp2_with fail
 have S1:=S2'.next ⟨#[62]⟩ (.func (.func 247) #[] #[]);clear S2';obtain⟨W2,hW2⟩:∃W,W=w2.alloc (.cells #[.string ⟨#[62]⟩,.func (.func 247) #[] #[]] 306):=⟨_,rfl⟩;rw[←hW2] at S1 ⊢;clear hW2;generalize w2.heap.size=g2 at S1 ⊢;refine (cut62_hit s m W2 hs ((S1.below.cell (p:=⟨0,0,none⟩) hw0).trans hm) h).mono ?_;rintro e w2 ⟨rfl,hb2⟩;have S2:=S1.later hb2;clear S1 hb2;rw[strV,strV]
 go_wp2_with fail
 refine (termPart_any _ _ (by rw[size_mk,List.length_take];omega)).mono ?_;rintro e w3 ⟨rfl,hb3⟩;have S3:=S2.later hb3;clear S2 hb3;have k0:=(S3.res.cell 0);have k1:=(S3.res.cell 1);have k2:=(S3.res.cell 2);have z0:=(S3.res.free 0);have z1:=(S3.res.free 1);have z2:=(S3.res.free 2);rw[show ∀l:Bs,(ByteArray.mk l.toArray).data.toList=l from fun l=>by simp];cases p1:partB (trim (s.data.toList.take (first s.data.toList 62)))
 ·go_wp2;refine bodyPost_ret (v:=(.tuple #[.agg #[strV [],strV [],strV []],.bool false])) (by simp[results,Tryz.results239,go_sem,k0,k1,k2,strV]) rfl ?_;refine⟨congrArg Ending.returned ?_,?_⟩
  ·rw[show parseP s.data.toList=_ from hv.out,two,p1];rfl
  ·have S3b:=S3.below
   go_grown
 ·go_wp2_with fail
  clear k0 k1 k2 z0 z1 z2;refine (termPart_any _ _ (by rw[size_mk,List.length_drop];omega)).mono ?_;rintro e w4 ⟨rfl,hb4⟩;have S4:=S3.later hb4;clear S3 hb4;rw[show ∀l:Bs,(ByteArray.mk l.toArray).data.toList=l from fun l=>by simp];cases p2:partB (trim (s.data.toList.drop (first s.data.toList 62+1)))
  ·have k0:=(S4.res.cell 0);have k1:=(S4.res.cell 1);have k2:=(S4.res.cell 2);have z0:=(S4.res.free 0);have z1:=(S4.res.free 1);have z2:=(S4.res.free 2);go_wp2;refine bodyPost_ret (v:=(.tuple #[.agg #[strV [],strV [],strV []],.bool false])) (by simp[results,Tryz.results239,go_sem,k0,k1,k2,strV]) rfl ?_;refine⟨congrArg Ending.returned ?_,?_⟩
   ·rw[show parseP s.data.toList=_ from hv.out,two,p1,p2];rfl
   ·have S4b:=S4.below
    go_grown
  ·have q1:=S4.form.cell 1;rw[strV,strV]
   go_wp2_with fail
   clear q1;refine (tell2_any _ _ _).mono ?_;rintro e w5 ⟨rfl,hb5⟩;have S5:=S4.later hb5;have k0:=(S5.res.cell 0);have k1:=(S5.res.cell 1);have k2:=(S5.res.cell 2);have z0:=(S5.res.free 0);have z1:=(S5.res.free 1);have z2:=(S5.res.free 2);go_wp2;refine bodyPost_ret (v:=(.tuple #[.agg #[strV (trim (s.data.toList.take (first s.data.toList 62))),strV [],strV (trim (s.data.toList.drop (first s.data.toList 62+1)))],.bool true])) (by simp[results,Tryz.results239,go_sem,k0,k1,k2,strV]) rfl ?_;refine⟨congrArg Ending.returned ?_,?_⟩
   ·rw[show parseP s.data.toList=_ from hv.out,two,p1,p2];rfl
   ·have S5b:=S5.below
    go_grown
theorem parse_one (s:ByteArray) (m:Int) (w:World) (hs:s.size≤240) (hm:w.cell? ⟨0,0,none⟩=some (.int .i64 m)) (h0:Hid (first s.data.toList 59=s.data.toList.length)) (h:Hid (first s.data.toList 62=s.data.toList.length)) :
  Calls Tryz.prog 239 #[.string s] w fun e w'=>e=.returned (parseP s.data.toList)∧Below w.heap.size w w':=by
 have hv:=Lib.hid (congrArg parseO (parseB_one (l:=s.data.toList) (by simpa using hs) h0.out h.out));have f0:=form0;have f1:=form1;have f2:=form2;have ff:=forms_any
 change ∀w,Calls _ _ _ _ (fun e w'=>e=.returned formsV∧_) at ff
 generalize formsV=fv at f0 f1 f2 ff;have hw0:=block_lt_of_cell hm;have l1:s.data.toList.length≤240:=by simpa using hs
 go_enter Tryz.func239,Tryz.ntmps239
 go_wp2_with fail
 refine (ff _).mono ?_;rintro e w1 ⟨rfl,hb1⟩
 go_wp2_with fail
 refine wp_loop_rounds 3 ?_;rw[rounds_succ]
 go_wp2_with fail
 have S1:=St.first ⟨#[59]⟩ (.func (.func 246) #[] #[]) hb1;obtain⟨W1,hW1⟩:∃W,W=w1.alloc (.cells #[.string ⟨#[59]⟩,.func (.func 246) #[] #[]] 306):=⟨_,rfl⟩;rw[←hW1] at S1 ⊢;clear hW1 hb1;generalize w1.heap.size=g at S1 ⊢;refine (cut59_none s m W1 hs ((S1.below.cell (p:=⟨0,0,none⟩) hw0).trans hm) h0.out).mono ?_;rintro e w2 ⟨rfl,hb2⟩;have S2':=S1.later hb2;clear S1 hb2;rw[strV]
 go_wp2_with fail
 rw[rounds_succ]
 go_wp2_with fail
 have S1:=S2'.next ⟨#[62]⟩ (.func (.func 247) #[] #[]);clear S2';obtain⟨W2,hW2⟩:∃W,W=w2.alloc (.cells #[.string ⟨#[62]⟩,.func (.func 247) #[] #[]] 306):=⟨_,rfl⟩;rw[←hW2] at S1 ⊢;clear hW2;generalize w2.heap.size=g2 at S1 ⊢;refine (cut62_none s m W2 hs ((S1.below.cell (p:=⟨0,0,none⟩) hw0).trans hm) h.out).mono ?_;rintro e w2 ⟨rfl,hb2⟩;have S2':=S1.later hb2;clear S1 hb2;rw[strV]
 go_wp2_with fail
 rw[rounds_succ]
 go_wp2_with fail
 have S2:=S2'.next ⟨#[]⟩ (.func (.func 248) #[] #[]);clear S2';obtain⟨W3,hW3⟩:∃W,W=w2.alloc (.cells #[.string ⟨#[]⟩,.func (.func 248) #[] #[]] 306):=⟨_,rfl⟩;rw[←hW3] at S2 ⊢;clear hW3;generalize w2.heap.size=g3 at S2 ⊢;refine (termPart_any _ _ (by omega)).mono ?_;rintro e w3 ⟨rfl,hb3⟩;have S3:=S2.later hb3;clear S2 hb3;cases p1:partB (trim s.data.toList)
 ·have k0:=(S3.res.cell 0);have k1:=(S3.res.cell 1);have k2:=(S3.res.cell 2);have z0:=(S3.res.free 0);have z1:=(S3.res.free 1);have z2:=(S3.res.free 2);go_wp2;refine bodyPost_ret (v:=(.tuple #[.agg #[strV [],strV [],strV []],.bool false])) (by simp[results,Tryz.results239,go_sem,k0,k1,k2,strV]) rfl ?_;refine⟨congrArg Ending.returned ?_,?_⟩
  ·rw[show parseP s.data.toList=_ from hv.out,p1];rfl
  ·have S3b:=S3.below
   go_grown
 ·have q1:=S3.form.cell 1;rw[strV]
  go_wp2_with fail
  clear q1;refine (tell3_any _ _ _).mono ?_;rintro e w5 ⟨rfl,hb5⟩;have S5:=S3.later hb5;have k0:=(S5.res.cell 0);have k1:=(S5.res.cell 1);have k2:=(S5.res.cell 2);have z0:=(S5.res.free 0);have z1:=(S5.res.free 1);have z2:=(S5.res.free 2);go_wp2;refine bodyPost_ret (v:=(.tuple #[.agg #[strV (trim s.data.toList),strV [],strV []],.bool true])) (by simp[results,Tryz.results239,go_sem,k0,k1,k2,strV]) rfl ?_;refine⟨congrArg Ending.returned ?_,?_⟩
  ·rw[show parseP s.data.toList=_ from hv.out,p1];rfl
  ·have S5b:=S5.below
   go_grown
theorem parse_any (s:ByteArray) (m:Int) (w:World) (hs:s.size≤9223372036854775807) (hm:w.cell? ⟨0,0,none⟩=some (.int .i64 m)) :
  Calls Tryz.prog 239 #[.string s] w fun e w'=>e=.returned (parseP s.data.toList)∧Below w.heap.size w w':=by
 by_cases hl:240<s.size
 ·exact parse_long s w hs hl
 ·have h1:=first_le s.data.toList 59;have h2:=first_le s.data.toList 62;have hz:=size_list s
  by_cases h:first s.data.toList 59<s.size
  ·exact parse_sub s m w (by omega) hm h
  ·by_cases h':first s.data.toList 62<s.size
   ·exact parse_see s m w (by omega) hm (by unfold Hid;omega) h'
   ·exact parse_one s m w (by omega) hm (by unfold Hid;omega) (by unfold Hid;omega)
end Go.Proofs.YtkkebmciiiajeaaGreatDoor
namespace Go.Bd
def clear (l:Bs):Prop:=∀c∈l,c ∉ signs
def Told (l a b c:Bs):Prop :=
 (partB a=true∧trim a=a) ∧
 ((b=[]∧c=[]∧clear l∧a.length≤l.length) ∨
  (∃x y,(partB b=true∧trim b=b)∧c=[]∧l=x++59::y∧clear x∧clear y∧a.length≤x.length∧b.length≤y.length) ∨
  (∃x y,(partB c=true∧trim c=c)∧b=[]∧l=x++62::y∧clear x∧clear y∧a.length≤x.length∧c.length≤y.length))
def textL (a b c:Bs):Bs:=a++((if b=[] then [] else 59::b)++(if c=[] then [] else 62::c))
end Go.Bd
namespace Go.Proofs.YtkkebmciiiajeaaGreatDoor
open Go.RowKit Go.Bd
theorem parseV_none {l:Bs} (h:parseB l=none):parseV l=.tuple #[strV [],strV [],strV [],.int .i64 4]:=by rw[parseV,h]
theorem parseV_some {l a b c:Bs} (h:parseB l=some (a,b,c)):parseV l=.tuple #[strV a,strV b,strV c,.int .i64 0]:=by rw[parseV,h]
theorem parseP_none {l:Bs} (h:parseB l=none):parseP l=.tuple #[.agg #[strV [],strV [],strV []],.bool false]:=by rw[parseP,h];rfl
theorem parseP_some {l a b c:Bs} (h:parseB l=some (a,b,c)):parseP l=.tuple #[.agg #[strV a,strV b,strV c],.bool true]:=by rw[parseP,h];rfl
theorem Parse_any (s:ByteArray) (m:Int) (w:World) (hs:s.size≤9223372036854775807) (hm:w.cell? ⟨0,0,none⟩=some (.int .i64 m)) :
  Calls Tryz.prog 225 #[.string s] w fun e w'=>e=.returned (parseV s.data.toList)∧Below w.heap.size w w':=by
 have c:=parse_any s m w hs hm;cases hp:parseB s.data.toList with
 | none =>
  rw[parseP_none hp] at c;rw[parseV_none hp];clear hp
  go_enter Tryz.func225,Tryz.ntmps225
  go_wp2_with (go_at_call 239;refine c.mono ?_;rintro e w1 ⟨rfl,hb⟩;rw[strV])
  go_returns
  exact⟨rfl,hb.alloc hb.size _⟩
 | some t =>
  obtain⟨x,y,z⟩:=t;rw[parseP_some hp] at c;rw[parseV_some hp];clear hp
  go_enter Tryz.func225,Tryz.ntmps225
  go_wp2_with (go_at_call 239;refine c.mono ?_;rintro e w1 ⟨rfl,hb⟩;rw[strV,strV,strV])
  go_quiet (fail)
  go_wp2
  go_returns
  exact⟨rfl,Go.below_drewN (hb.alloc hb.size _) _⟩
theorem term_any:AsOk 204 termS:=by
 refine⟨fun args w=>by kernel_rfl,?_⟩;intro t w m ht hm;have hm2:(w.alloc (.cells #[.int .u8 0,.string ⟨#[]⟩,.string ⟨#[]⟩,.string ⟨#[]⟩,.slice none 0 0] 138)).cell? ⟨0,0,none⟩=some (.int .i64 m):=(World.cell?_of_block (Below.heap_alloc w _ 0 (World.block_lt_of_cell? w _ hm))).trans hm;have cp:=Parse_any t m _ (by omega) hm2;have HW:Hid (0<w.heap.size):=World.block_lt_of_cell? w _ hm;unfold termS;cases hp:parseB t.data.toList with
 | none =>
  have e:parseV t.data.toList=.tuple #[.string ⟨#[]⟩,.string ⟨#[]⟩,.string ⟨#[]⟩,.int .i64 4]:=by unfold parseV;rw[hp];rfl
  rw[e] at cp;clear e hp
  go_enter Tryz.func204,Tryz.ntmps204
  go_wp2_with fail
  refine cp.mono ?_;clear cp;rintro e w1 ⟨rfl,hb⟩;have hX:Holds w1 w.heap.size 138 #[.int .u8 0,.string ⟨#[]⟩,.string ⟨#[]⟩,.string ⟨#[]⟩,.slice none 0 0]:=(hb.block _ (by simp)).trans (Holds.new w _ _);have c0:=hX.cell 0;have c1:=hX.cell 1;have c2:=hX.cell 2;have c3:=hX.cell 3;have c4:=hX.cell 4;have f0:=hX.free 0;have f1:=hX.free 1;have f2:=hX.free 2;have f3:=hX.free 3;have f4:=hX.free 4;have HX:=Lib.hid hX;clear hX;go_wp2;have hR:=((((HX.out.set 0 (.int .u8 0)).set 1 (.string ⟨#[]⟩)).set 2 (.string ⟨#[]⟩)).set 3 (.string ⟨#[]⟩)).set 4 (.slice none 0 0);have hR2:Holds _ w.heap.size 138 #[.int .u8 0,.string ⟨#[]⟩,.string ⟨#[]⟩,.string ⟨#[]⟩,.slice none 0 0]:=hR
  (try simp only[Exit.inBlock,Exit.then])
  refine bodyPost_ret (results_row_tmp rfl _ _ w.heap.size _ _ _ _ rfl hR2 Tryz.underlying138 rfl span_size) rfl ?_;have hbw:Below w.heap.size w w1:=((Below.refl _ _).alloc (Nat.le_refl _) _).trans (hb.mono (by simp));exact⟨rfl,((((hbw.setCell (Nat.le_refl _) _).setCell (Nat.le_refl _) _).setCell (Nat.le_refl _) _).setCell (Nat.le_refl _) _).setCell (Nat.le_refl _) _⟩
 | some v =>
  obtain⟨a,b,c⟩:=v;have e:parseV t.data.toList=.tuple #[strV a,strV b,strV c,.int .i64 0]:=by unfold parseV;rw[hp]
  rw[e] at cp;clear e hp;unfold strV at cp
  go_enter Tryz.func204,Tryz.ntmps204
  go_wp2_with fail
  refine cp.mono ?_;clear cp;rintro e w1 ⟨rfl,hb⟩;have hX:Holds w1 w.heap.size 138 #[.int .u8 0,.string ⟨#[]⟩,.string ⟨#[]⟩,.string ⟨#[]⟩,.slice none 0 0]:=(hb.block _ (by simp)).trans (Holds.new w _ _);have c0:=hX.cell 0;have c1:=hX.cell 1;have c2:=hX.cell 2;have c3:=hX.cell 3;have c4:=hX.cell 4;have f0:=hX.free 0;have f1:=hX.free 1;have f2:=hX.free 2;have f3:=hX.free 3;have f4:=hX.free 4;have HX:=Lib.hid hX;clear hX;go_wp2;have hR:=((((HX.out.set 0 (.int .u8 5)).set 1 (.string ⟨a.toArray⟩)).set 2 (.string ⟨b.toArray⟩)).set 3 (.string ⟨c.toArray⟩)).set 4 (.slice none 0 0);have hR2:Holds _ w.heap.size 138 #[.int .u8 5,.string ⟨a.toArray⟩,.string ⟨b.toArray⟩,.string ⟨c.toArray⟩,.slice none 0 0]:=hR
  (try simp only[Exit.inBlock,Exit.then])
  refine bodyPost_ret (results_row_tmp rfl _ _ w.heap.size _ _ _ _ rfl hR2 Tryz.underlying138 rfl span_size) rfl ?_;have hbw:Below w.heap.size w w1:=((Below.refl _ _).alloc (Nat.le_refl _) _).trans (hb.mono (by simp));exact⟨rfl,((((hbw.setCell (Nat.le_refl _) _).setCell (Nat.le_refl _) _).setCell (Nat.le_refl _) _).setCell (Nat.le_refl _) _).setCell (Nat.le_refl _) _⟩
section
variable {w:World} {B:Nat} {col:Nat→Nat} {pb ob cap len:Nat} {s:ByteArray} {st:Pst} {i:Nat} {fv:Value} {gb:Nat} {cs:Array Value} {gn:List Bs}
theorem getD_getN (s:ByteArray) (i:Nat) (h:i<s.size):s.data.toList.getD i 0=s[i]:=by
 have e:s[i]=s.data.toList[i]'(by simpa using h):=by first|rfl|simp[ByteArray.getElem_eq_getElem_data]
 rw[e,List.getD_eq_getElem?_getD,List.getElem?_eq_getElem (by simpa using h)];rfl
theorem psAt (h:PSx Tryz.prog w B col pb ob cap len s st i fv gb cs gn) (n:Nat) (hn:n<st.fs.length):w.cell? ⟨ob,n*5+4,none⟩=some (.int .i64 (atOf st.fs n:Int)):=by
 obtain⟨f,hf⟩:∃f,st.fs.reverse[n]? = some f:=⟨_,List.getElem?_eq_getElem (by simpa using hn)⟩;obtain⟨sv,tv,hfr⟩:=h.fr n f hf;unfold atOf;rw[hf];exact (frame_cells hfr h.ho).2.2.2.2
theorem one_list (s:ByteArray) (i:Nat) (h:i<s.size):(s.extract i (i+1)).data.toList=[s.data.toList.getD i 0]:=by
 have hl:i<s.data.toList.length:=by simpa using h
 rw[cut_list,Nat.add_sub_cancel_left,List.getD_eq_getElem?_getD,List.getElem?_eq_getElem hl,List.drop_eq_getElem_cons hl];simp
theorem writeLen (st:Pst) (x:Bs):(st.write x).fs.length=st.fs.length:=onTop_length (·.write x) st.fs
theorem tellLen (st:Pst) (a f:Nat):(st.tell a f).fs.length=st.fs.length:=rfl
theorem beginLen (st:Pst) (k a:Nat) (x:Bs):(st.begin k a x).fs.length=st.fs.length+1:=rfl
theorem finLen {st:Pst}{i0 n:Nat} (hI:Inv st i0) (h0:0<n) (hn:n<st.fs.length):(st.fin n).fs.length=n:=by
 have h2:=(hI.drop hn).2;unfold Pst.fin;generalize st.drop n=sd at h2;obtain⟨fs,fa⟩:=sd
 match fs,h2 with
 | f::r,h2 =>
  simp only[Pst.shut,onTop_length];simpa using h2
theorem mark_any (h:PSx Tryz.prog w B col pb ob cap len s st i fv gb cs gn) (hl:len=st.fs.length) (hI:Inv st i) (hi:i<s.size) (hs:s.size≤100000000) (k:Nat) :
  Calls Tryz.prog 210 #[.pointer (some ⟨pb,0,none⟩),.int .i64 (i:Int),.int .u8 (k:Int)] w fun e w'=>e=.returned (.tuple #[]) ∧
   ∃col' ob' cap' fv' cs',PSx Tryz.prog w' B col' pb ob' cap' (st.mark s.data.toList i k).fs.length s (st.mark s.data.toList i k) i fv' gb cs' gn∧Stay B w w' col col':=by
 have h17:=hI.2.2.2;have h1:=hI.2.2.1;have c0:=h.hp.cell 0;have c1:=h.hp.cell 1;have e1:IntKind.i64.wrap ((i:Int)+1)=(i:Int)+1:=IntWalk.i64_in _ (by omega);have e2:IntKind.i64.wrap ((i:Int)-1)=(i:Int)-1:=IntWalk.i64_in _ (by omega);have e3:((i:Int)-1).toNat=i-1:=by omega
 have hla:lastK k st.fs<len:=by rw[hl];rcases lastK_lt k st.fs with h0|h0<;>omega
 have HLA:=psAt h (lastK k st.fs) (by omega);have cl:=last_any h hl (by omega) (by omega) k;have cr:=room_any h hl (by omega) (by omega);have HMK:Hid (st.mark s.data.toList i k=if lastK k st.fs > 0∧atOf st.fs (lastK k st.fs)+1≠i∧0<i∧Bd.blank (s.data.toList.getD (i-1) 0)=false∧¬(i+1<s.data.toList.length∧solid (s.data.toList.getD (i+1) 0)=true) then st.fin (lastK k st.fs)
  else if (0<i∧solid (s.data.toList.getD (i-1) 0)=true)∨s.data.toList.length≤i+1∨Bd.blank (s.data.toList.getD (i+1) 0)=true then st.write [s.data.toList.getD i 0]
  else if st.room=false then (st.write [s.data.toList.getD i 0]).tell i 7
  else st.begin k i [s.data.toList.getD i 0]):=rfl
 obtain⟨f,r,hfs⟩:∃f r,st.fs=f::r:=by
  match hq:st.fs,hI.2.2.1 with
  | f::r,_=>exact⟨f,r,rfl⟩
  | [],hq2=>simp at hq2
 have hftx:f.row.tx.length≤100000000:=by
  have:=hI.1
  rw[hfs,wtFs_cons] at this;unfold wtF wtR at this;omega
 have hflt:st.faults.length≤10000000000:=by have:=hI.2.1;omega
 have HFS:=Lib.hid hfs;have HL:=Lib.hid hl;have HLR:Hid (len=r.length+1):=by unfold Hid;rw[hl,hfs];rfl
 have HLL:=HLR.out;have HI:=Lib.hid hI;have HN:Hid (st.fs.length=st.fs.length):=rfl;generalize hlk:lastK k st.fs=n at hla HLA cl HMK;generalize hrm:st.room=rm at cr HMK;generalize hat:atOf st.fs n=at' at HLA HMK;have cbp:∀(h:i-1<s.size) w,Calls Tryz.prog 226 #[.int .u8 ((s[i-1]'h).toNat:Int)] w fun e w'=>e=.returned (.bool (Bd.blank (s.data.toList.getD (i-1) 0)))∧w=w':=fun h w=>by
  rw[getD_getN s (i-1) h];exact blank_any _ w
 have cbn:∀(h:i+1<s.size) w,Calls Tryz.prog 226 #[.int .u8 ((s[i+1]'h).toNat:Int)] w fun e w'=>e=.returned (.bool (Bd.blank (s.data.toList.getD (i+1) 0)))∧w=w':=fun h w=>by
  rw[getD_getN s (i+1) h];exact blank_any _ w
 have csp:∀(h:i-1<s.size) w,Calls Tryz.prog 227 #[.int .u8 ((s[i-1]'h).toNat:Int)] w fun e w'=>e=.returned (.bool (solid (s.data.toList.getD (i-1) 0)))∧w=w':=fun h w=>by
  rw[getD_getN s (i-1) h];exact solid_any _ w
 have csn:∀(h:i+1<s.size) w,Calls Tryz.prog 227 #[.int .u8 ((s[i+1]'h).toNat:Int)] w fun e w'=>e=.returned (.bool (solid (s.data.toList.getD (i+1) 0)))∧w=w':=fun h w=>by
  rw[getD_getN s (i+1) h];exact solid_any _ w
 rw[show s.data.toList.length=s.size by simp] at HMK;generalize Bd.blank (s.data.toList.getD (i-1) 0)=bp at cbp HMK;generalize Bd.blank (s.data.toList.getD (i+1) 0)=bn at cbn HMK;generalize solid (s.data.toList.getD (i-1) 0)=sp at csp HMK;generalize solid (s.data.toList.getD (i+1) 0)=sn at csn HMK;have H:=Lib.hid h;have hr17:r.length≤17:=by omega
 clear h hl hI h17 h1 hfs HLL
 go_enter Tryz.func210,Tryz.ntmps210
 go_wp2_with (first
  | (go_at_call 226;(first|with_reducible refine (cbp (by omega) _).mono ?_|with_reducible refine (cbn (by omega) _).mono ?_);rintro e w' ⟨rfl,rfl⟩)
  | (go_at_call 227;(first|with_reducible refine (csp (by omega) _).mono ?_|with_reducible refine (csn (by omega) _).mono ?_);rintro e w' ⟨rfl,rfl⟩)
  | (go_at_call 208;refine cl.mono ?_;rintro e w' ⟨rfl,rfl⟩)
  | (go_at_call 205;refine cr.mono ?_;rintro e w' ⟨rfl,rfl⟩)
  | fail)
 all_goals clear c0 c1 cbp cbn csp csn cl cr
 all_goals try (exact absurd (‹sp=true›.symm.trans ‹sp=false›) (by decide))
 all_goals try (exact absurd (‹(!decide ((i:Int)+1<(s.size:Int)))=true›.symm.trans ‹(!decide ((i:Int)+1<(s.size:Int)))=false›) (by decide))
 all_goals try (exact absurd (‹bn=true›.symm.trans ‹bn=false›) (by decide))
 all_goals try (exact absurd (‹bp=true›.symm.trans ‹bp=false›) (by decide))
 all_goals try (exfalso;have hq:=‹(!decide ((i:Int)+1<(s.size:Int)))=false›;simp only[Bool.not_eq_false',decide_eq_true_eq] at hq;omega)
 all_goals first
  | (have hm:st.mark s.data.toList i k=st.write [s.data.toList.getD i 0]:=by
      rw[HMK.out,if_neg (fun hc=>by
       obtain⟨p1,p2,p3,p4,p5⟩:=hc
       first
        | omega
        | exact absurd (p4.symm.trans ‹bp=true›) (by decide)
        | (have hq:=‹((at':Int) != (i:Int)-1)=false∨(!sn)=false›
           rcases hq with hq|hq
           ·simp only[bne_eq_false_iff_eq] at hq;omega
           ·exact p5 ⟨by omega,by simpa using hq⟩)),if_pos (by
       first
        | exact .inl ⟨by omega,‹sp=true›⟩
        | exact .inr (.inr ‹bn=true›)
        | exact .inr (.inl (by omega))
        | (have hq:=‹(!decide ((i:Int)+1<(s.size:Int)))=true›;simp only[Bool.not_eq_true',decide_eq_false_iff_not] at hq;exact .inr (.inl (by omega))))]
     refine (top_any (n:=r.length) (by rw[←HLR.out];exact H.out) (by omega)).mono ?_;rintro e w2 ⟨rfl,kk,rfl⟩
     go_wp2_with fail
     refine (writeTop_any (PSx.drewN H.out kk) HFS.out (s.extract i (i+1)) (by simp;omega) (by omega)).mono ?_;rintro e w3 ⟨rfl,col3,cs3,h3,st3⟩;rw[one_list s i hi] at h3;have H3:=Lib.hid h3;have ST3:=Lib.hid st3.undrew;clear h3 st3;go_wp2
     go_end0
     exact⟨rfl,col3,ob,cap,fv,cs3,by rw[hm,writeLen,←HL.out];exact H3.out,ST3.out⟩)
  | (have hrf:rm=false:=by simpa using ‹(!rm)=true›
     have hm:st.mark s.data.toList i k=(st.write [s.data.toList.getD i 0]).tell i 7:=by
      rw[HMK.out,if_neg (fun hc=>by
       obtain⟨p1,p2,p3,p4,p5⟩:=hc
       first
        | omega
        | exact absurd (p4.symm.trans ‹bp=true›) (by decide)
        | (have hq:=‹((at':Int) != (i:Int)-1)=false∨(!sn)=false›
           rcases hq with hq|hq
           ·simp only[bne_eq_false_iff_eq] at hq;omega
           ·exact p5 ⟨by omega,by simpa using hq⟩)),if_neg (fun hc=>by
       rcases hc with ⟨q1,q2⟩|q1|q1
       ·first
         | omega
         | exact absurd (q2.symm.trans ‹sp=false›) (by decide)
       ·omega
       ·exact absurd (q1.symm.trans ‹bn=false›) (by decide)),if_pos hrf]
     refine (top_any (n:=r.length) (by rw[←HLR.out];exact H.out) (by omega)).mono ?_;rintro e w2 ⟨rfl,kk,rfl⟩
     go_wp2_with fail
     refine (writeTop_any (PSx.drewN H.out kk) HFS.out (s.extract i (i+1)) (by simp;omega) (by omega)).mono ?_;rintro e w3 ⟨rfl,col3,cs3,h3,st3⟩;rw[one_list s i hi] at h3;have H3:=Lib.hid h3;have ST3:=Lib.hid st3.undrew;clear h3 st3
     go_wp2_with fail
     refine (tell_any H3.out i 7 hflt).mono ?_;rintro e w4 ⟨rfl,col4,fv4,h4,st4⟩;have H4:=Lib.hid h4;have ST4:=Lib.hid (ST3.out.trans st4);clear h4 st4;go_wp2
     go_end0
     exact⟨rfl,col4,ob,cap,fv4,cs3,by rw[hm,tellLen,writeLen,←HL.out];exact H4.out,ST4.out⟩)
  | (have hrt:rm=true:=by simpa using ‹(!rm)=false›
     have hm:st.mark s.data.toList i k=st.begin k i [s.data.toList.getD i 0]:=by
      rw[HMK.out,if_neg (fun hc=>by
       obtain⟨p1,p2,p3,p4,p5⟩:=hc
       first
        | omega
        | exact absurd (p4.symm.trans ‹bp=true›) (by decide)
        | (have hq:=‹((at':Int) != (i:Int)-1)=false∨(!sn)=false›
           rcases hq with hq|hq
           ·simp only[bne_eq_false_iff_eq] at hq;omega
           ·exact p5 ⟨by omega,by simpa using hq⟩)),if_neg (fun hc=>by
       rcases hc with ⟨q1,q2⟩|q1|q1
       ·first
         | omega
         | exact absurd (q2.symm.trans ‹sp=false›) (by decide)
       ·omega
       ·exact absurd (q1.symm.trans ‹bn=false›) (by decide)),if_neg (by rw[hrt];decide)]
     have cbg:=begin_any H.out HL.out (by have:=HLR.out;omega) k i [s.data.toList.getD i 0];have hsg:(⟨[s.data.toList.getD i 0].toArray⟩:ByteArray)=s.extract i (i+1):=by rw[←one_list s i hi]
     rw[hsg] at cbg;refine cbg.mono ?_;clear cbg;rintro e w2 ⟨rfl,col2,ob2,cap2,cs2,h2,st2⟩;have H2:=Lib.hid h2;have ST2:=Lib.hid st2;clear h2 st2;go_wp2
     go_end0
     exact⟨rfl,col2,ob2,cap2,fv,cs2,by rw[hm,beginLen,←HL.out];exact H2.out,ST2.out⟩)
  | (have hm:st.mark s.data.toList i k=st.fin n:=by
      rw[HMK.out,if_pos ⟨by omega,by
       first
        | omega
        | (have hq:=‹((at':Int) != (i:Int)-1)=true›;simp only[bne_iff_ne,ne_eq] at hq;omega),by omega,(by first|assumption|(have hq:=‹¬bp=true›;simpa using hq)),fun hc=>by
       first
        | omega
        | exact absurd (hc.2.symm.trans ‹sn=false›) (by decide)
        | (have hq:=(‹((at':Int) != (i:Int)-1)=true∧(!sn)=true›).2;simp only[Bool.not_eq_true'] at hq;exact absurd (hc.2.symm.trans hq) (by decide))
        | (have hq:=‹(!sn)=true›;simp only[Bool.not_eq_true'] at hq;exact absurd (hc.2.symm.trans hq) (by decide))⟩]
     refine (end_any H.out HL.out n (by omega) hla i HI.out (by omega)).mono ?_;rintro e w2 ⟨rfl,col2,fv2,cs2,h2,st2⟩;have H2:=Lib.hid h2;have ST2:=Lib.hid st2;clear h2 st2;go_wp2
     (try simp only[Exit.inBlock,Exit.then])
     refine bodyPost_ret (results_none rfl _ _ _) rfl ?_;have hfl:=finLen HI.out (n:=n) (by omega) (by rw[←HL.out];exact hla);exact⟨rfl,col2,ob,cap,fv2,cs2,by rw[hm,hfl];exact H2.out,ST2.out⟩)
end
end Go.Proofs.YtkkebmciiiajeaaGreatDoor
namespace Go.Bd
theorem drop_cons {s:Bs}{i:Nat} (h:i<s.length):s.drop i=s.getD i 0::s.drop (i+1):=by
 rw[List.drop_eq_getElem_cons h,List.getD_eq_getElem?_getD,List.getElem?_eq_getElem h];rfl
theorem pre_ne {a b:UInt8}{s:Bs}{i:Nat} (hi:i<s.length) (h:s.getD i 0≠a):[a,b].isPrefixOf (s.drop i)=false:=by
 rw[drop_cons hi,List.isPrefixOf];have:(a==s.getD i 0)=false:=by simpa using fun e=>h e.symm
 rw[this];rfl
theorem run_end {s:Bs}{n i:Nat} (st:Pst) (h:s.length≤i):runP s n i st=st:=by
 cases n with
 | zero=>rfl
 | succ n=>rw[runP,if_neg (by omega)]
theorem run_fuel {s:Bs}:∀(n m i:Nat) (st:Pst),Inv st i→s.length-i≤n→s.length-i≤m→runP s n i st=runP s m i st
 | 0,m,i,st,_,h1,_=>by rw[run_end st (by omega),run_end st (by omega)]
 | n+1,0,i,st,_,_,h2=>by rw[run_end st (by omega),run_end st (by omega)]
 | n+1,m+1,i,st,hI,h1,h2=>by
  rw[runP,runP];split
  ·rename_i hi;obtain⟨h3,h4,h5⟩:=hI.step hi;exact run_fuel n m _ _ h3 (by omega) (by omega)
  ·rfl
theorem run_step {s:Bs}{n i:Nat}{st:Pst} (hI:Inv st i) (hi:i<s.length) (hn:s.length-i≤n):runP s n i st=runP s n (st.step s i).2 (st.step s i).1:=by
 obtain⟨n,rfl⟩:∃k,n=k+1:=⟨n-1,by omega⟩;obtain⟨h3,h4,h5⟩:=hI.step hi;rw[runP,if_pos hi];exact run_fuel _ _ _ _ h3 (by omega) (by omega)
theorem Inv.run {s:Bs}:∀(n i:Nat) (st:Pst),Inv st i→i≤s.length→s.length-i≤n→Inv (runP s n i st) s.length
 | 0,i,st,h,hi,hn=>by rw[run_end st (by omega)];exact h.more hi
 | n+1,i,st,h,hi,hn=>by
  rw[runP];split
  ·rename_i hlt;obtain⟨h3,h4,h5⟩:=h.step hlt;exact Inv.run n _ _ h3 h5 (by omega)
  ·exact h.more hi
mutual
def say1:Sp→Bs
 | ⟨k,t,_,_,kids⟩=>if k=0∨k=3∨k=4∨k=5 then t else if k=1∨k=2 then sayL kids else []
def sayL:List Sp→Bs
 | []=>[]
 | x::l=>say1 x++sayL l
end
mutual
def snd1:Sp→Nat→Bool
 | ⟨k,t,u,v,kids⟩,d=>decide (k≤6) && !(decide (k=0)&&t.isEmpty) &&
   (if k=1∨k=2∨k=6 then t.isEmpty && !decide (d=16)&&sndL kids (d+1) 1 else kids.isEmpty) &&
   (decide (k=5) || (u.isEmpty&&v.isEmpty)) && !((decide (k=1) || decide (k=2))&&kids.isEmpty)
def sndL:List Sp→Nat→Nat→Bool
 | [],_,_=>true
 | x::l,d,p=>snd1 x d && !(decide (x.kind=0)&&decide (p=0))&&sndL l d x.kind
end
def lastKind (l:List Sp) (p:Nat):Nat:=match l.getLast? with|some x=>x.kind|none=>p
theorem lastKind_cons (x:Sp) (l:List Sp) (p:Nat):lastKind (x::l) p=lastKind l x.kind:=by
 cases l with
 | nil=>rfl
 | cons y l =>
  simp only[lastKind,List.getLast?_cons_cons];cases h:(y::l).getLast? with
  | none=>simp at h
  | some z=>rfl
theorem lastKind_snoc (l:List Sp) (x:Sp) (p:Nat):lastKind (l++[x]) p=x.kind:=by simp[lastKind]
theorem sndL_snoc:∀(l:List Sp) (x:Sp) (d p:Nat),sndL (l++[x]) d p=(sndL l d p&&(snd1 x d && !(decide (x.kind=0)&&decide (lastKind l p=0))))
 | [],x,d,p=>by simp only[List.nil_append,sndL,lastKind,List.getLast?_nil,Bool.and_true,Bool.true_and];rfl
 | y::l,x,d,p=>by
  rw[List.cons_append,sndL,sndL,sndL_snoc l x d y.kind,lastKind_cons];simp only[Bool.and_assoc]
theorem sayL_app:∀(a b:List Sp),sayL (a++b)=sayL a++sayL b
 | [],b=>by simp[sayL]
 | x::a,b=>by rw[List.cons_append,sayL,sayL,sayL_app a b,List.append_assoc]
theorem say_txt (s:Bs):say1 (txt s)=s:=by simp[txt,say1]
def sayR (r:Rw):Bs:=sayL r.sp++r.tx
theorem sayR_write (r:Rw) (s:Bs):sayR (r.write s)=sayR r++s:=by simp[sayR,Rw.write]
theorem sayR_flush (r:Rw):sayR r.flush=sayR r:=by
 unfold Rw.flush;split
 ·rename_i h;simp[sayR,h]
 ·simp[sayR,sayL_app,sayL,say_txt]
theorem flush_tx (r:Rw):r.flush.tx=[]:=by unfold Rw.flush;split<;>rfl
theorem sayL_flush (r:Rw):sayL r.flush.sp=sayR r:=by
 rw[←sayR_flush,sayR,flush_tx,List.append_nil]
theorem say1_text {x:Sp} (h:x.kind=0):say1 x=x.text:=by obtain⟨k,t,u,v,ks⟩:=x;simp only at h;subst h;simp[say1]
theorem sayR_add (r:Rw) (x:Sp):sayR (r.add x)=sayR r++say1 x:=by
 unfold Rw.add;split
 ·rename_i h;rw[sayR_write,say1_text h]
 ·simp[sayR,sayL_app,sayL];rw[sayL_flush];simp[sayR]
theorem sayR_adds:∀(l:List Sp) (r:Rw),sayR (l.foldl Rw.add r)=sayR r++sayL l
 | [],r=>by simp[sayL]
 | x::l,r=>by rw[List.foldl_cons,sayR_adds l,sayR_add,sayL,List.append_assoc]
theorem sayR_spill (f:Fr) (r:Rw):sayR (spill f r)=sayR r++f.sign++sayR f.row:=by
 rw[spill,sayR_write,sayR_adds,sayR_write];simp[sayR]
def rowOk (r:Rw) (d:Nat):Prop:=sndL r.sp d 1=true∧lastKind r.sp 1≠0
theorem snd_txt {s:Bs} (h:s≠[]) (d:Nat):snd1 (txt s) d=true:=by
 cases s with
 | nil=>exact absurd rfl h
 | cons a s=>simp[txt,snd1]
theorem rowOk.none (d:Nat):rowOk Rw.none d:=by simp[rowOk,Rw.none,sndL,lastKind]
theorem rowOk.write {r:Rw}{d:Nat} (h:rowOk r d) (s:Bs):rowOk (r.write s) d:=h
theorem rowOk.flush {r:Rw}{d:Nat} (h:rowOk r d):sndL r.flush.sp d 1=true:=by
 unfold Rw.flush;split
 ·exact h.1
 ·rename_i hn;simp only;rw[sndL_snoc,h.1,snd_txt hn];simp[h.2]
theorem rowOk.add {r:Rw}{d:Nat} (h:rowOk r d){x:Sp} (hx:x.kind=0∨snd1 x d=true):rowOk (r.add x) d:=by
 unfold Rw.add;split
 ·exact h
 ·rename_i hk;have hs:snd1 x d=true:=by
   rcases hx with h|h
   ·exact absurd h hk
   ·exact h
  refine⟨?_,?_⟩
  ·simp only;rw[sndL_snoc,h.flush,hs];simp[hk]
  ·simp only;rw[lastKind_snoc];exact hk
mutual
theorem snd1_up:∀(x:Sp) (d:Nat),d+1≤16→snd1 x (d+1)=true→snd1 x d=true
 | ⟨k,t,u,v,kids⟩,d,hd,h=>by
  simp only[snd1,Bool.and_eq_true] at h ⊢;obtain⟨⟨⟨h1,h2⟩,h3⟩,h4⟩:=h;refine⟨⟨⟨h1,?_⟩,h3⟩,h4⟩;split
  ·rename_i hk;rw[if_pos hk] at h2;simp only[Bool.and_eq_true,Bool.not_eq_true',decide_eq_false_iff_not] at h2 ⊢;obtain⟨⟨h5,h6⟩,h7⟩:=h2;exact⟨⟨h5,by omega⟩,sndL_up kids (d+1) 1 (by omega) h7⟩
  ·rename_i hk;rw[if_neg hk] at h2;exact h2
theorem sndL_up:∀(l:List Sp) (d p:Nat),d+1≤16→sndL l (d+1) p=true→sndL l d p=true
 | [],_,_,_,_=>rfl
 | x::l,d,p,hd,h=>by
  simp only[sndL,Bool.and_eq_true] at h ⊢;exact⟨⟨snd1_up x d hd h.1.1,h.1.2⟩,sndL_up l d x.kind hd h.2⟩
end
theorem rowOk.adds {d:Nat}:∀{l:List Sp}{p:Nat}{r:Rw},rowOk r d→sndL l d p=true→rowOk (l.foldl Rw.add r) d
 | [],_,_,h,_=>h
 | x::l,p,r,h,hl=>by
  simp only[sndL,Bool.and_eq_true] at hl;rw[List.foldl_cons];exact rowOk.adds (l:=l) (h.add (.inr hl.1.1)) hl.2
theorem rowOk.spill {f:Fr}{r:Rw}{d:Nat} (hf:rowOk f.row (d+1)) (h:rowOk r d) (hd:d+1≤16):rowOk (spill f r) d :=
 ((h.write f.sign).adds (sndL_up _ _ _ hd hf.1)).write f.row.tx
def Rw.has (r:Rw):Prop:=r.sp≠[]∨r.tx≠[]
theorem has_write {r:Rw}{s:Bs} (h:r.has∨s≠[]):(r.write s).has:=by
 rcases h with (h|h)|h
 ·exact .inl h
 ·exact .inr (by simp[Rw.write,h])
 ·exact .inr (by simp[Rw.write,h])
theorem has_add {r:Rw}{x:Sp} (h:r.has∨x.kind≠0∨x.text≠[]):(r.add x).has:=by
 unfold Rw.add;split
 ·rename_i hk;exact has_write (by rcases h with h|h|h;exact .inl h;exact absurd hk h;exact .inr h)
 ·exact .inl (by simp)
theorem has_adds:∀{l:List Sp}{r:Rw},r.has→(l.foldl Rw.add r).has
 | [],_,h=>h
 | x::l,r,h=>by rw[List.foldl_cons];exact has_adds (l:=l) (has_add (.inl h))
theorem has_spill {f:Fr}{r:Rw} (h:f.sign≠[]):(spill f r).has:=has_write (.inl (has_adds (has_write (.inr h))))
theorem has_flush {r:Rw} (h:r.has):r.flush.sp≠[]:=by
 unfold Rw.flush;split
 ·rename_i ht
  rcases h with h|h
  ·exact h
  ·exact absurd ht h
 ·simp
def frOk:List Fr→Nat→Prop
 | [],n=>n=0
 | f::r,n=>rowOk f.row r.length∧(r≠[]→(f.kind=1∨f.kind=2∨f.kind=6)∧f.sign≠[]∧(f.kind≠6→f.sign.length=1))∧∃m,frOk r m∧n=(sayR f.row).length+f.sign.length+m
structure Snd (st:Pst) (i:Nat):Prop where
 n1:1≤st.fs.length
 n17:st.fs.length≤17
 fr:∃n,frOk st.fs n∧n≤i
 top:∀f r,st.fs=f::r→r≠[]→f.kind≠6→f.at'+1=i∨f.row.has
 fa:∀p∈st.faults,p.2=7∨p.2=8∨p.2=10
theorem Snd.first:Snd Pst.first 0:=by
 refine⟨by simp[Pst.first],by simp[Pst.first],⟨0,?_,Nat.le_refl _⟩,?_,?_⟩
 ·exact⟨rowOk.none 0,fun h=>absurd rfl h,0,rfl,rfl⟩
 ·intro f r h hr;cases h;exact absurd rfl hr
 ·intro p hp;cases hp
theorem Snd.tell {st:Pst}{i:Nat} (h:Snd st i) (a f:Nat) (hf:f=7∨f=8∨f=10):Snd (st.tell a f) i:=by
 refine⟨h.n1,h.n17,h.fr,h.top,fun p hp=>?_⟩
 rcases List.mem_append.1 hp with hp|hp
 ·exact h.fa p hp
 ·simp at hp;subst hp;exact hf
theorem Snd.row {st:Pst}{i j m:Nat}{g:Rw→Rw} (h:Snd st i) (hj:i+m≤j) (hg:∀r d,rowOk r d→rowOk (g r) d) (hs:∀r,(sayR (g r)).length≤(sayR r).length+m) (hh:∀r,(g r).has):Snd (st.top g) j:=by
 obtain⟨fs,fa⟩:=st
 match fs,h with
 | f::r,h =>
  obtain⟨n,h1,h2⟩:=h.fr;obtain⟨g1,g2,k,g3,rfl⟩:=h1;refine⟨by simp[Pst.top,onTop],by have:=h.n17;simpa [Pst.top,onTop] using this,⟨(sayR (g f.row)).length+f.sign.length+k,⟨hg _ _ g1,g2,k,g3,rfl⟩,?_⟩,?_,h.fa⟩
  ·have:=hs f.row;omega
  ·intro f' r' e hr _;simp only[Pst.top,onTop,List.cons.injEq] at e;obtain⟨rfl,rfl⟩:=e;exact .inr (hh f.row)
 | [],h=>exact absurd h.n1 (by simp)
theorem Snd.write {st:Pst}{i j:Nat} (h:Snd st i) (s:Bs) (hs:s≠[]) (hj:i+s.length≤j):Snd (st.write s) j :=
 h.row hj (fun _ _ hr=>hr.write s) (fun r=>by rw[sayR_write];simp) (fun r=>has_write (.inr hs))
theorem Snd.drop1 {st:Pst}{i j:Nat} (h:Snd st i) (h2:2≤st.fs.length) (hj:i≤j):Snd st.drop1 j∧∃f r,st.drop1.fs=f::r∧f.row.has:=by
 obtain⟨fs,fa⟩:=st
 match fs,h2,h with
 | f::g::r,_,h =>
  obtain⟨n,h1,h3⟩:=h.fr;obtain⟨g1,g2,k,⟨g3,g4,m,g5,rfl⟩,rfl⟩:=h1;have h17:=h.n17;simp only[List.length_cons] at h17 g1 g2;have hsg:=(g2 (by simp)).2.1;have hh:(Go.Bd.spill f g.row).has:=has_spill hsg;refine⟨⟨by simp[Pst.drop1,onTop],by simp[Pst.drop1,onTop];omega,⟨(sayR (spill f g.row)).length+g.sign.length+m,⟨rowOk.spill g1 g3 (by omega),g4,m,g5,rfl⟩,?_⟩,?_,?_⟩,⟨_,_,rfl,hh⟩⟩
  ·rw[sayR_spill];simp only[List.length_append];omega
  ·intro f' r' e hr _;simp only[Pst.drop1,onTop,List.cons.injEq] at e;obtain⟨rfl,rfl⟩:=e;exact .inr hh
  ·intro p hp
   rcases List.mem_append.1 hp with hp|hp
   ·exact h.fa p hp
   ·simp at hp;subst hp;exact .inl rfl
theorem Snd.dropN {i:Nat}:∀(n:Nat){st:Pst},Snd st i→n+1≤st.fs.length→Snd (st.dropN n) i∧(st.dropN n).fs.length+n=st.fs.length∧(1≤n→∃f r,(st.dropN n).fs=f::r∧f.row.has)
 | 0,_,h,_=>⟨h,rfl,fun h=>by omega⟩
 | n+1,st,h,hl=>by
  have h1:=drop1_length (st:=st) (by omega);obtain⟨h4,h5⟩:=h.drop1 (by omega) (Nat.le_refl _);obtain⟨h2,h3,h6⟩:=Snd.dropN n h4 (by omega);refine⟨h2,by rw[Pst.dropN];omega,fun _=>?_⟩;rw[Pst.dropN];cases n with
  | zero=>exact h5
  | succ n=>exact h6 (by omega)
theorem Snd.drop {st:Pst}{i n:Nat} (h:Snd st i) (hn:n<st.fs.length):Snd (st.drop n) i∧(st.drop n).fs.length=n+1∧(n+1<st.fs.length→∃f r,(st.drop n).fs=f::r∧f.row.has):=by
 obtain⟨h1,h2,h3⟩:=Snd.dropN (st.fs.length-1-n) h (by omega);exact⟨h1,by rw[Pst.drop];omega,fun h=>h3 (by omega)⟩
theorem Snd.fin {st:Pst}{i n j:Nat} (h:Snd st i) (h0:0<n) (hn:n<st.fs.length) (hj:i≤j) (ht:(n+1=st.fs.length→∀f r,st.fs=f::r→f.kind≠6→f.at'+1≠i)):Snd (st.fin n) j:=by
 obtain⟨h1,h2,h3⟩:=h.drop hn;have hh:∀f r,(st.drop n).fs=f::r→f.kind≠6→f.row.has:=fun f r e hk=>by
  by_cases hl:n+1<st.fs.length
  ·obtain⟨f',r',e',hf⟩:=h3 hl;rw[e] at e';cases e';exact hf
  ·have hd:st.drop n=st:=by rw[Pst.drop,show st.fs.length-1-n=0 by omega];rfl
   rw[hd] at e;have hr:r≠[]:=fun hr=>by rw[e,hr] at hn;simp at hn;omega
   rcases h.top f r e hr hk with h5|h5
   ·exact absurd h5 (ht (by omega) f r e hk)
   ·exact h5
 unfold Pst.fin;generalize st.drop n=sd at h1 h2 hh;obtain⟨fs,fa⟩:=sd
 match fs,h1,h2,hh with
 | f::g::r,h1,h2,hh =>
  obtain⟨m,k1,k2⟩:=h1.fr;obtain⟨g1,g2,k,⟨g3,g4,q,g5,rfl⟩,rfl⟩:=k1;have h17:=h1.n17;simp only[List.length_cons] at h17 g1 g2 h2;obtain⟨hk,hsg,_⟩:=g2 (by simp);have hx:snd1 ⟨f.kind,[],[],[],f.row.flush.sp⟩ r.length=true:=by
   have hfl:=g1.flush;simp only[snd1,Bool.and_eq_true];refine⟨⟨⟨⟨by simp;omega,by simp;omega⟩,?_⟩,by simp⟩,?_⟩
   ·rw[if_pos hk,hfl];simp;omega
   ·by_cases h6:f.kind=6
    ·simp[h6]
    ·have:=has_flush (hh f (g::r) rfl h6)
     simp[this]
  have hsy:(say1 ⟨f.kind,[],[],[],f.row.flush.sp⟩).length≤(sayR f.row).length:=by
   simp only[say1];split
   ·simp
   ·split
    ·rw[sayL_flush];exact Nat.le_refl _
    ·simp
  refine⟨by simp[Pst.shut,onTop],by simp[Pst.shut,onTop];omega,⟨(sayR (g.row.add ⟨f.kind,[],[],[],f.row.flush.sp⟩)).length+g.sign.length+q,⟨g3.add (.inr hx),g4,q,g5,rfl⟩,?_⟩,?_,h1.fa⟩
  ·rw[sayR_add,List.length_append];omega
  ·intro f' r' e hr _;simp only[Pst.shut,onTop,List.cons.injEq] at e;obtain⟨rfl,rfl⟩:=e;exact .inr (has_add (.inr (.inl (by simp only;omega))))
 | [f],h1,h2,hh=>simp at h2;omega
 | [],h1,h2,hh=>simp at h2
theorem Snd.begin {st:Pst}{i j:Nat} (h:Snd st i) (hr:st.room=true) (k:Nat) (sign:Bs) (hk:k=1∨k=2∨k=6) (hs:sign≠[]) (hs1:k≠6→sign.length=1) (hj:j=i+sign.length):Snd (st.begin k i sign) j:=by
 unfold Pst.room at hr;have:=of_decide_eq_true hr
 obtain⟨n,h1,h2⟩:=h.fr;refine⟨by simp[Pst.begin],by simp[Pst.begin];omega,⟨0+sign.length+n,⟨rowOk.none _,fun _=>⟨hk,hs,hs1⟩,n,h1,by simp[sayR,Rw.none,sayL]⟩,by omega⟩,?_,h.fa⟩;intro f r e _ h6;simp only[Pst.begin,List.cons.injEq] at e;obtain⟨rfl,rfl⟩:=e;simp only at h6 ⊢;rw[hj,hs1 h6];exact .inl rfl
theorem atOf_top' (f:Fr) (r:List Fr):atOf (f::r) r.length=f.at':=by
 unfold atOf;rw[List.reverse_cons,List.getElem?_append_right (by simp)];simp
theorem Snd.mark {st:Pst}{s:Bs}{i k:Nat} (h:Snd st i) (hk:k=1∨k=2):Snd (st.mark s i k) (i+1):=by
 unfold Pst.mark;split
 ·rename_i hc
  rcases lastK_lt k st.fs with h0|h0
  ·omega
  ·refine h.fin hc.1 h0 (by omega) (fun e f r hf _ he=>hc.2.1 ?_);have:lastK k st.fs=r.length:=by rw[hf] at e ⊢;simp at e ⊢;omega
   rw[this,hf,atOf_top'];exact he
 ·split
  ·exact h.write _ (by simp) (by simp)
  ·split
   ·exact (h.write (j:=i+1) _ (by simp) (by simp)).tell _ _ (.inl rfl)
   ·exact h.begin (by simp_all) k _ (by omega) (by simp) (fun _=>rfl) rfl
theorem as_snd {asf:Bs→Sp ⊕ Nat}{l:Bs}{x:Sp} (h:asf=codeS∨asf=refS∨asf=termS) (hx:asf l=.inl x) (hp:∀a b c,parseB l=some (a,b,c)→a.length≤l.length):(∀d,snd1 x d=true)∧x.kind≠0∧(say1 x).length≤l.length:=by
 rcases h with rfl|rfl|rfl
 ·cases hx;exact⟨fun d=>by simp[snd1],by simp,by simp[say1]⟩
 ·unfold refS at hx;split at hx
  ·cases hx;exact⟨fun d=>by simp[snd1],by simp,by simp[say1]⟩
  ·cases hx
 ·unfold termS at hx;split at hx
  ·rename_i a b c e;cases hx;exact⟨fun d=>by simp[snd1],by simp,by simpa [say1] using hp a b c e⟩
  ·cases hx
theorem as_fault {asf:Bs→Sp ⊕ Nat}{l:Bs}{f:Nat} (h:asf=codeS∨asf=refS∨asf=termS) (hx:asf l=.inr f):f=7∨f=8∨f=10:=by
 rcases h with rfl|rfl|rfl
 ·cases hx
 ·unfold refS at hx;split at hx
  ·cases hx
  ·cases hx;exact .inr (.inr rfl)
 ·unfold termS at hx;split at hx
  ·cases hx
  ·cases hx;exact .inr (.inl rfl)
theorem parse_le {l a b c:Bs} (h:parseB l=some (a,b,c)):a.length≤l.length:=by
 have h1:=trim_le (l.take (min (first l 59) (first l 62)));have h2:(l.take (min (first l 59) (first l 62))).length≤l.length:=by rw[List.length_take];omega
 unfold parseB at h;split at h
 ·cases h
 split at h
 ·cases h
 split at h
 ·cases h;omega
 split at h
 ·cases h
 split at h
 ·cases h;omega
 ·cases h;omega
theorem Snd.between {st:Pst}{s a b:Bs}{i:Nat}{asf:Bs→Sp ⊕ Nat} (h:Snd st i) (has:asf=codeS∨asf=refS∨asf=termS) (ha:1≤a.length) (hb:1≤b.length) (hi:i+a.length≤s.length) :
  Snd (st.between s i a b asf).1 (st.between s i a b asf).2:=by
 have ha0:a≠[]:=fun e=>by rw[e] at ha;simp at ha
 unfold Pst.between;split
 ·exact (h.write _ ha0 (Nat.le_refl _)).tell _ _ (.inl rfl)
 ·rename_i n hn;obtain⟨h1,h2⟩:=nextAt_some hi hn;have hl1:((s.drop i).take (n+b.length-i)).length=n+b.length-i:=by rw[List.length_take,List.length_drop];omega
  have hl2:((s.drop (i+a.length)).take (n-(i+a.length))).length=n-(i+a.length):=by rw[List.length_take,List.length_drop];omega
  split
  ·rename_i f hf;refine (h.write (j:=n+b.length) _ (fun e=>?_) (by omega)).tell _ _ (as_fault has hf);rw[e] at hl1;simp at hl1;omega
  ·rename_i x hx;obtain⟨p1,p2,p3⟩:=as_snd has hx (fun a b c e=>parse_le e);exact h.row (m:=(say1 x).length) (by rw[hl2] at p3;simp only;omega) (fun r d hr=>hr.add (.inr (p1 d))) (fun r=>by rw[sayR_add,List.length_append];exact Nat.le_refl _) (fun r=>has_add (.inr (.inl p2)))
theorem Snd.step {st:Pst}{s:Bs}{i:Nat} (h:Snd st i) (hi:i<s.length):Snd (st.step s i).1 (st.step s i).2:=by
 unfold Pst.step;split
 ·exact h.write _ (by simp) (by simp)
 split
 ·exact h.between (.inl rfl) (by simp) (by simp) (by simp;omega)
 split
 ·rename_i hp;exact h.between (.inr (.inl rfl)) (by simp) (by simp) (prefix_two hp)
 split
 ·rename_i hp;exact h.between (.inr (.inr rfl)) (by simp) (by simp) (prefix_two hp)
 split
 ·simp only;split
  ·rename_i hr;exact h.begin hr 6 _ (by omega) (by simp) (fun h=>absurd rfl h) rfl
  ·exact (h.write (j:=i+2) _ (by simp) (by simp)).tell _ _ (.inl rfl)
 split
 ·rename_i hc
  rcases lastK_lt 6 st.fs with h0|h0
  ·omega
  ·refine h.fin hc.2 h0 (by simp) (fun e f r hf h6=>?_);exfalso;refine h6 ?_;rw[hf] at e;have hl:lastK 6 (f::r)=r.length:=by simp at e;omega
   rw[lastK] at hl
   by_cases h7:r=[]
   ·rw[hf,lastK,if_pos h7] at hc;omega
   ·rw[if_neg h7] at hl
    by_cases h8:f.kind=6
    ·exact h8
    ·rw[if_neg h8] at hl
     rcases lastK_lt 6 r with h9|h9
     ·have:0<r.length:=List.length_pos_iff.2 h7
      omega
     ·omega
 split
 ·exact h.mark (.inl rfl)
 split
 ·exact h.mark (.inr rfl)
 ·exact h.write _ (by simp) (by simp)
theorem Snd.run {s:Bs}:∀(n i:Nat) (st:Pst),Inv st i→Snd st i→i≤s.length→s.length-i≤n→Snd (runP s n i st) s.length
 | 0,i,st,_,h,hi,hn=>by
  rw[run_end (s:=s) st (by omega)];have:i=s.length:=by omega
  rw[←this];exact h
 | n+1,i,st,hI,h,hi,hn=>by
  rw[runP];split
  ·rename_i hlt;obtain⟨h3,h4,h5⟩:=hI.step hlt;exact Snd.run n _ _ h3 (h.step hlt) h5 (by omega)
  ·have:i=s.length:=by omega
   rw[←this];exact h
theorem snd_end (s:Bs):Snd (endP s) s.length:=by
 have h:=Snd.run (s:=s) s.length 0 Pst.first Inv.first Snd.first (Nat.zero_le _) (by omega);exact (h.drop h.n1).1
theorem endP_one (s:Bs):∃f,(endP s).fs=[f]:=by
 have h:=Snd.run (s:=s) s.length 0 Pst.first Inv.first Snd.first (Nat.zero_le _) (by omega);have h2:=(h.drop h.n1).2.1
 match hq:(endP s).fs with
 | [f]=>exact⟨f,rfl⟩
 | []=>unfold endP at hq;rw[hq] at h2;simp at h2
 | f::g::r=>unfold endP at hq;rw[hq] at h2;simp at h2
theorem say_spans (s:Bs):(sayL (spansOf s)).length≤s.length:=by
 obtain⟨f,hf⟩:=endP_one s;obtain⟨n,h1,h2⟩:=(snd_end s).fr;rw[hf] at h1;obtain⟨_,_,m,_,rfl⟩:=h1;unfold spansOf;rw[hf];simp only;rw[sayL_flush];omega
end Go.Bd
