/- part 19 -/
import Derived.Test.YtkkebmciiiajeaaGreatDoorCards
import Derived.Test.YtkkebmciiiajeaaGreatDoorTie
import Derived.WalkKit
import Derived.Below
import Derived.ChangeSame
import Derived.ProofKit
import Derived.OpenShut
import Derived.SizedLaws
import Derived.Deep.DeepHandedRow
import Derived.Lib.LaidTab
import Derived.Lib.LaidU8T
import Derived.Deep.Slices
import Derived.ChangeArms
import Derived.WideShapes
import Derived.Test.YtkkebmciiiajeaaGreatDoorRows
import Derived.Test.YtkkebmciiiajeaaGreatDoorChecked
import Derived.Test.YtkkebmciiiajeaaGreatDoorK0
import Derived.Test.YtkkebmciiiajeaaGreatDoorK3
import Derived.Test.YtkkebmciiiajeaaGreatDoorK18
set_option linter.unusedSimpArgs false
set_option linter.unusedVariables false
set_option maxHeartbeats 16000000
set_option maxRecDepth 100000
namespace Go.Proofs.YtkkebmciiiajeaaGreatDoor
open Go.RowKit Go.Bd
theorem alike_true {w:World}{sv1 av1 sv2 av2:Value}{s1 s2:List Sc}{a1 a2:List At}{name:ByteArray} (hs1:ScS w (· < w.heap.size) sv1 s1) (ha1:AtS w (· < w.heap.size) av1 a1) (hs2:ScS w (· < w.heap.size) sv2 s2) (ha2:AtS w (· < w.heap.size) av2 a2)
  (z1:twoZ (s1.map scP)≤1048576) (z2:twoZ (a1.map atP)≤1048576) (z3:twoZ (s2.map scP)≤1048576) (z4:twoZ (a2.map atP)≤1048576) (hnm:name.size≤1048576) {m:Int} (hg:Glob m w) (h3:3≤w.heap.size) :
  Calls Tryz.prog 3 #[.agg #[sv1,av1,.string name],sv2,av2] w fun e w'=>e=.returned (.bool true)∧Below w.heap.size w w':=by
 have hB0:=(Below.refl w.heap.size w).alloc (Nat.le_refl _) (.cells #[sv1,av1,.string name] 25);have hX0:=Holds.new w 25 #[sv1,av1,.string name];obtain⟨p,hp⟩:∃p,w.heap.size=p:=⟨_,rfl⟩;obtain⟨W0,hW0⟩:∃W0,w.alloc (.cells #[sv1,av1,.string name] 25)=W0:=⟨_,rfl⟩;rw[hW0] at hB0 hX0;rw[hp] at hX0;have hall:∀W,Below W0.heap.size W0 W→(W.cell? ⟨p,0,none⟩=some sv1∧W.cell? ⟨p,1,none⟩=some av1∧W.cell? ⟨p,2,none⟩=some (.string name))∧Below w.heap.size w W∧Glob m W∧3≤W.heap.size∧ScS W (· < w.heap.size) sv1 s1∧AtS W (· < w.heap.size) av1 a1∧ScS W (· < w.heap.size) sv2 s2∧AtS W (· < w.heap.size) av2 a2∧(∀k,k<w.heap.size→k<W.heap.size):=fun W hW=>by
  have h:=hX0.below hW hX0.lt;have c0:=h.cell 0;have c1:=h.cell 1;have c2:=h.cell 2;simp at c0 c1 c2;have hb:=hB0.trans (hW.mono hB0.size);exact⟨⟨c0,c1,c2⟩,hb,hg.chg (Chg.below hb (fun _=>False)) (fun _ h=>h.elim),Nat.le_trans h3 hb.size,TwoS.below hs1 hb,TwoS.below ha1 hb,TwoS.below hs2 hb,TwoS.below ha2 hb,fun k hk=>Nat.lt_of_lt_of_le hk hb.size⟩
 have hG1:=fun W (hW:Below W0.heap.size W0 W)=>great_any (hall W hW).2.2.2.2.1 (hall W hW).2.2.2.2.2.1 (hall W hW).2.2.2.2.2.2.2.2 (hall W hW).2.2.2.2.2.2.2.2 z1 z2
 have hG2:=fun W (hW:Below W0.heap.size W0 W)=>great_any (hall W hW).2.2.2.2.2.2.1 (hall W hW).2.2.2.2.2.2.2.1 (hall W hW).2.2.2.2.2.2.2.2 (hall W hW).2.2.2.2.2.2.2.2 z3 z4
 have hL:=fun W (hW:Below W0.heap.size W0 W)=>lives_any (hall W hW).2.2.1 (hall W hW).2.2.2.1
 have hC1:=fun (hf:Fine s1 a1) (hn:name.size≤100000) W (hW:Below W0.heap.size W0 W)=>chapter_any (hall W hW).2.2.2.2.1 (hall W hW).2.2.2.2.2.1 (hall W hW).2.2.2.2.2.2.2.2 (hall W hW).2.2.2.2.2.2.2.2 (Nat.le_trans (Fine.src hf).2.2.1 (by decide)) (Nat.le_trans (Fine.src hf).2.2.2 (by decide)) (Fine.src hf).1 (Fine.src hf).2.1 (hall W hW).2.2.1 (hall W hW).2.2.2.1 name hn (Fine.wt hf name)
 have hC2:=fun (hf:Fine s2 a2) (hn:name.size≤100000) W (hW:Below W0.heap.size W0 W)=>chapter_any (hall W hW).2.2.2.2.2.2.1 (hall W hW).2.2.2.2.2.2.2.1 (hall W hW).2.2.2.2.2.2.2.2 (hall W hW).2.2.2.2.2.2.2.2 (Nat.le_trans (Fine.src hf).2.2.1 (by decide)) (Nat.le_trans (Fine.src hf).2.2.2 (by decide)) (Fine.src hf).1 (Fine.src hf).2.1 (hall W hW).2.2.1 (hall W hW).2.2.2.1 name hn (Fine.wt hf name)
 have hSm:=fun (hf1:Fine s1 a1) (hf2:Fine s2 a2) W (hW:Below W0.heap.size W0 W) cv (hc:ChAt W W.heap.size cv (chapM s1 a1 name))=>same_ch hc (Nat.le_refl _) (hall W hW).2.2.2.2.1 (hall W hW).2.2.2.2.2.2.1 (hall W hW).2.2.2.2.2.2.2.1 (hall W hW).2.2.2.2.2.2.2.2 (hall W hW).2.2.2.2.2.2.2.2 (hall W hW).2.2.2.2.2.2.2.2 (Nat.le_trans (Fine.src hf1).2.2.1 (by decide)) (Nat.le_trans (Fine.src hf2).2.2.1 (by decide)) (Nat.le_trans (Fine.src hf2).2.2.2 (by decide)) (Fine.src hf2).2.1 (by have h:=chap_bounds hf1 name;exact⟨h.2.2.2.1,h.2.2.1,h.2.2.2.2.1,h.2.2.2.2.2⟩)
 have HH:=hidH7 hall hG1 hG2 hL hC1 hC2 hSm;obtain⟨⟨c0,c1,c2⟩,-⟩:=hall W0 (Below.refl _ _);obtain⟨As1,cs1,hv1,-⟩:=hs1;obtain⟨Aa1,ca1,hv2,-⟩:=ha1;obtain⟨As2,cs2,hv3,-⟩:=hs2;obtain⟨Aa2,ca2,hv4,-⟩:=ha2;subst hv1 hv2 hv3 hv4;generalize (s1.map scP).length=n1 at *;generalize (a1.map atP).length=n2 at *;generalize (s2.map scP).length=n3 at *;generalize (a2.map atP).length=n4 at *;have HW:=hidH2 hW0 hp;clear hall hG1 hG2 hL hC1 hC2 hSm hB0 hX0 hg h3 z1 z2 z3 z4
 go_enter Tryz.func3,Tryz.ntmps3
 go_wp2_with fail
 (try rw[HW.out.1])
 (try rw[HW.out.2])
 clear hW0 hp;refine (HH.out.2.1 W0 (Below.refl _ _)).mono ?_;intro e w1 hP;unfold GrP at hP;obtain⟨gb,rfl,hgb,hb1⟩:=hP;have HB1:=Lib.hid hb1;cases gb
 ·have Hf1:=Lib.hid (hgb rfl);obtain⟨⟨-,-,d2⟩,-⟩:=HH.out.1 w1 hb1;clear hgb hb1
  go_wp2_with fail
  refine (HH.out.2.2.1 w1 HB1.out).mono ?_;intro e w2 hP;unfold GrP at hP;obtain⟨gb2,rfl,hgb2,hb2⟩:=hP;have HB2:=Lib.hid (HB1.out.trans (hb2.mono HB1.out.size));cases gb2
  ·have Hf2:=Lib.hid (hgb2 rfl);obtain⟨⟨e0,e1,e2⟩,-⟩:=HH.out.1 w2 HB2.out;clear hgb2 hb2
   by_cases hz:3000<name.size
   ·have hz':(3000:Int)<(name.size:Int):=by omega
    go_wp2_with fail
    refine (HH.out.2.2.2.1 w2 HB2.out).mono ?_;rintro e w3 ⟨rfl,hb3⟩
    go_wp2_with fail
    go_ret
    exact⟨rfl,(HH.out.1 w3 (HB2.out.trans (hb3.mono HB2.out.size))).2.1⟩
   ·have hz':¬(3000:Int)<(name.size:Int):=by omega
    have Hz:=Lib.hid (show name.size≤100000 by omega)
    go_wp2_with fail
    refine (HH.out.2.2.2.2.1 Hf1.out Hz.out w2 HB2.out).mono ?_;rintro e w3 ⟨cv,rfl,hch,hb3⟩;have HB3:=Lib.hid (HB2.out.trans (hb3.mono HB2.out.size));have Hch:=Lib.hid hch;obtain⟨bv,dv,fv,av,uv,hcv,⟨A1,k1,_,hv1,-⟩,⟨A2,k2,hv2,-⟩,⟨A3,k3,hv3,-⟩,⟨A4,k4,hv4,-⟩,⟨A5,k5,hv5,-⟩⟩:=hch;obtain⟨A1,m1,k1,rfl⟩:∃A n c,bv=.slice A n c:=⟨_,_,_,hv1⟩;obtain⟨A2,m2,k2,rfl⟩:∃A n c,dv=.slice A n c:=⟨_,_,_,hv2⟩;obtain⟨A3,m3,k3,rfl⟩:∃A n c,fv=.slice A n c:=⟨_,_,_,hv3⟩;obtain⟨A4,m4,k4,rfl⟩:∃A n c,av=.slice A n c:=⟨_,_,_,hv4⟩;obtain⟨A5,m5,k5,rfl⟩:∃A n c,uv=.slice A n c:=⟨_,_,_,hv5⟩;clear hv1 hv2 hv3 hv4 hv5;generalize (chapM s1 a1 name).name=cn at *;subst hcv;have hX:=Holds.new w3 32 #[.string cn,.slice A1 m1 k1,.slice A2 m2 k2,.slice A3 m3 k3,.slice A4 m4 k4,.slice A5 m5 k5];obtain⟨W4,hW4⟩:∃W4,w3.alloc (.cells #[.string cn,.slice A1 m1 k1,.slice A2 m2 k2,.slice A3 m3 k3,.slice A4 m4 k4,.slice A5 m5 k5] 32)=W4:=⟨_,rfl⟩;have hb34:=(Below.refl w3.heap.size w3).alloc (Nat.le_refl _) (.cells #[.string cn,.slice A1 m1 k1,.slice A2 m2 k2,.slice A3 m3 k3,.slice A4 m4 k4,.slice A5 m5 k5] 32);obtain⟨q,hq⟩:∃q,w3.heap.size=q:=⟨_,rfl⟩;rw[hW4] at hX hb34;rw[hq] at hX;have HB4:=Lib.hid (HB3.out.trans (hb34.mono HB3.out.size));have hq4:∀W,Below W4.heap.size W4 W→(W.cell? ⟨q,0,none⟩=some (.string cn)∧W.cell? ⟨q,1,none⟩=some (.slice A1 m1 k1)∧W.cell? ⟨q,2,none⟩=some (.slice A2 m2 k2)∧W.cell? ⟨q,3,none⟩=some (.slice A3 m3 k3)∧W.cell? ⟨q,4,none⟩=some (.slice A4 m4 k4)∧W.cell? ⟨q,5,none⟩=some (.slice A5 m5 k5))∧W.cell? ⟨p,2,none⟩=some (.string name)∧Below W0.heap.size W0 W∧ChAt W W.heap.size (.agg #[.string cn,.slice A1 m1 k1,.slice A2 m2 k2,.slice A3 m3 k3,.slice A4 m4 k4,.slice A5 m5 k5]) (chapM s1 a1 name):=fun W hW=>by
     have h:=hX.below hW hX.lt;have g0:=h.cell 0;have g1:=h.cell 1;have g2:=h.cell 2;have g3:=h.cell 3;have g4:=h.cell 4;have g5:=h.cell 5;simp at g0 g1 g2 g3 g4 g5;have hb:=HB4.out.trans (hW.mono HB4.out.size);have hb3W:=hb34.trans (hW.mono hb34.size);exact⟨⟨g0,g1,g2,g3,g4,g5⟩,(HH.out.1 W hb).1.2.2,hb,Hch.out.up hb3W (Nat.le_refl _) hb3W.size⟩
    have H4:=hidH3 hq4 hW4 hq;obtain⟨⟨g0,g1,g2,g3,g4,g5⟩,-⟩:=hq4 W4 (Below.refl _ _);obtain⟨⟨j0,j1,j2⟩,-⟩:=HH.out.1 W4 HB4.out;rw[←hW4,←hq] at g0 g1 g2 g3 g4 g5;rw[←hW4] at j0 j1 j2;obtain⟨⟨f0,f1,f2⟩,-⟩:=HH.out.1 w3 HB3.out;clear hb3 hW4 hq hX hb34 hq4
    go_wp2_with fail
    rw[H4.out.2.1,H4.out.2.2];clear g0 g1 g2 g3 g4 g5 j0 j1 j2 f0 f1 f2;refine (HH.out.2.2.2.2.2.2 Hf1.out Hf2.out W4 HB4.out _ (H4.out.1 W4 (Below.refl _ _)).2.2.2).mono ?_;rintro e w5 ⟨rfl,hb5⟩;have HB5:=Lib.hid hb5;clear hb5;have hK:∀W,Below W4.heap.size W4 W→(W.cell? ⟨q,0,none⟩=some (.string cn)∧W.cell? ⟨q,1,none⟩=some (.slice A1 m1 k1)∧W.cell? ⟨q,2,none⟩=some (.slice A2 m2 k2)∧W.cell? ⟨q,3,none⟩=some (.slice A3 m3 k3)∧W.cell? ⟨q,4,none⟩=some (.slice A4 m4 k4)∧W.cell? ⟨q,5,none⟩=some (.slice A5 m5 k5))∧W.cell? ⟨p,2,none⟩=some (.string name):=fun W hW=>⟨(H4.out.1 W hW).1,(H4.out.1 W hW).2.1⟩
    have K5:=hK w5 HB5.out;have HK:=Lib.hid hK;clear hK;cases ob:sameM (chapM s1 a1 name) s1 s2 (firstA a2).attrs
    ·clear ob
     go_wp2_with fail
     refine (HH.out.2.2.2.1 w5 (H4.out.1 w5 HB5.out).2.2.1).mono ?_;rintro e w6 ⟨rfl,hb6⟩
     go_wp2_with fail
     go_ret
     exact⟨rfl,(HH.out.1 w6 ((H4.out.1 w5 HB5.out).2.2.1.trans (hb6.mono (H4.out.1 w5 HB5.out).2.2.1.size))).2.1⟩
    ·have Ob:=Lib.hid (alike_plain ob);clear ob
     go_wp2_with fail
     refine wp_region_held_drew (S:=(fun w'=>(w'.cell? ⟨q,0,none⟩=some (.string cn)∧w'.cell? ⟨q,1,none⟩=some (.slice A1 m1 k1)∧w'.cell? ⟨q,2,none⟩=some (.slice A2 m2 k2)∧w'.cell? ⟨q,3,none⟩=some (.slice A3 m3 k3)∧w'.cell? ⟨q,4,none⟩=some (.slice A4 m4 k4)∧w'.cell? ⟨q,5,none⟩=some (.slice A5 m5 k5))∧w'.cell? ⟨p,2,none⟩=some (.string name))) (by kernel_rfl) ?_ (fun hHeld0=>?_)
     ·(try dsimp only)
      first|exact K5|exact K6|exact K7|exact K8
     refine tkH 0 40 ?_;refine tkH 1 41 ?_;refine tkH 2 42 ?_;refine tkH 3 43 ?_;refine tkH 4 44 ?_;refine rdyH [5] ?_;refine AllReadyH.cons (o:=⟨some 45,_,_,_,_,_⟩) rfl (fun K hK=>?_) AllReadyH.nil;go_simp;refine (HH.out.2.2.2.2.2.1 Hf2.out Hz.out _ ((H4.out.1 w5 HB5.out).2.2.1.drew)).mono ?_;rintro e w6 ⟨cv2,rfl,hch2,hb6⟩;rw[Ob.out] at hch2;have HB6:=Lib.hid (HB5.out.drew.trans (hb6.mono HB5.out.size));have K6:=HK.out w6 HB6.out;have Hch2:=Lib.hid hch2;clear hb6 hch2;refine hK.out _ _ ?_ (fun hHeld1=>?_)
     ·(try dsimp only)
      first|exact K5|exact K6|exact K7|exact K8
     clear hK K hHeld0
     (try go_frame)
     refine rdyH [6] ?_;refine AllReadyH.cons (o:=⟨some 46,_,_,_,_,_⟩) rfl (fun K hK=>?_) AllReadyH.nil;go_simp;refine (chapters_alike (chap_bounds Hf1.out name).1 (by have h:=chap_bounds Hf1.out name;exact⟨h.2.1,h.2.2.1,Nat.le_trans h.2.2.2.1 (by decide),h.2.2.2.2.1,h.2.2.2.2.2⟩) (H4.out.1 w6 HB6.out).2.2.2 Hch2.out (Nat.le_refl _)).mono ?_;rintro e w7 ⟨rfl,hb7⟩;have HB7:=Lib.hid (HB6.out.trans (hb7.mono HB6.out.size));have K7:=HK.out w7 HB7.out;clear hb7;refine hK.out _ _ ?_ (fun hHeld2=>?_)
     ·(try dsimp only)
      first|exact K5|exact K6|exact K7|exact K8
     clear hK K hHeld1
     (try go_frame)
     refine tkH 7 47 ?_;refine rdyH [8] ?_;refine AllReadyH.cons (o:=⟨some 48,_,_,_,_,_⟩) rfl (fun K hK=>?_) AllReadyH.nil;go_simp;refine (HH.out.2.2.2.1 w7 (H4.out.1 w7 HB7.out).2.2.1).mono ?_;rintro e w8 ⟨rfl,hb8⟩;have HB8:=Lib.hid (HB7.out.trans (hb8.mono HB7.out.size));have K8:=HK.out w8 HB8.out;clear hb8;refine hK.out _ _ ?_ (fun hHeld3=>?_)
     ·(try dsimp only)
      first|exact K5|exact K6|exact K7|exact K8
     clear hK K hHeld2
     (try go_frame)
     refine tkH 9 49 ?_;refine tkH 10 6 ?_;refine wpAnyH_done (by kernel_rfl) ?_ _
     go_wp2_with fail
     go_ret
     exact⟨rfl,(HH.out.1 w8 (H4.out.1 w8 HB8.out).2.2.1).2.1⟩
  ·clear hgb2 hb2
   go_wp2_with fail
   refine (HH.out.2.2.2.1 w2 HB2.out).mono ?_;rintro e w3 ⟨rfl,hb3⟩
   go_wp2_with fail
   go_ret
   exact⟨rfl,(HH.out.1 w3 (HB2.out.trans (hb3.mono HB2.out.size))).2.1⟩
 ·clear hgb hb1
  go_wp2_with fail
  refine (HH.out.2.2.2.1 w1 HB1.out).mono ?_;rintro e w2 ⟨rfl,hb2⟩
  go_wp2_with fail
  go_ret
  exact⟨rfl,(HH.out.1 w2 (HB1.out.trans (hb2.mono HB1.out.size))).2.1⟩
end Go.Proofs.YtkkebmciiiajeaaGreatDoor
namespace Go.Proofs.YtkkebmciiiajeaaGreatDoor
open Go.RowKit Go.WideShapes Go.ChangeShapes
section
variable {H:Type} {enc:TypeId×Value→H} {P:Program}
theorem post_kept {f:Func}{s:ChangeSpec}{apart fresh handsOn again:Bool}{W W':World}{args:Array Value}{v:Value}{ds gs:List (DataW H)}{before pa pv:List MemPlace}
  (hW:DataW.Whole enc P f.params.toList s.vars apart W args.toList ds gs before) (hb:Below W.heap.size W W')
  (hres:∀(b:Nat) (sp:Nat→Bool) (hd:Bool),DataW.TrodAll enc P W' b sp hd f.resultTypes.toList (v.resultList f.resultTypes.size) (s.fn H (ds++gs)).results [])
  (hargs:∀sp:Nat→Bool,(∀p∈before,sp p.block=true)→DataW.TrodAll enc P W' 0 sp true f.params.toList args.toList (s.fn H (ds++gs)).args pa)
  (hvars:∀sp:Nat→Bool,(∀p∈before,sp p.block=true)→DataW.TrodVars enc P W' sp s.vars (s.fn H (ds++gs)).vars pv)
  (hps:before=pa++pv)
  (hok:∀(j:Nat) (t:TypeId) (r:Value),f.resultTypes[j]? = some t→(v.resultList f.resultTypes.size)[j]? = some r→Value.okWide P W' .any 0 t r) :
  s.post enc P f apart fresh handsOn again W args v W':=by
 have old:∀p∈before,p.block<W.heap.size:=fun p hp=>hW.lt p hp
 have here:∀p∈before,(fun b=>decide (b<W.heap.size)) p.block=true:=fun p hp=>by simpa using old p hp
 refine⟨ds,gs,before,[],pa,pv,hW,hres _ _ _,hargs _ here,hvars _ here,World.keptBut_mono (fun p hp=>⟨hp,?_⟩) (hb.frame (·∈before)),fun _=>?_⟩
 ·rw[hps,List.mem_append] at hp;exact Or.inr hp
 ·obtain⟨_,_,_,_,_,hz,hn⟩:=hW;refine⟨hok,_,_,([]++pa)++pv,⟨[]++pa,pv,trodAll_append (hargs _ (fun _ _=>rfl)) (hres _ _ _),hvars _ (fun _ _=>rfl),rfl,fun b off hp=>?_,fun ha=>?_⟩,fun p hp _=>?_⟩
  ·have hin:MemPlace.cell b off∈before:=by rw[hps];simpa using hp
   rw[hb.frozen (old _ hin)];exact hz b off hin
  ·have:=hn ha
   rw[hps] at this;simpa using this
  ·rw[hps];simpa using hp
end
section
variable {H:Type} {enc:TypeId×Value→H} {P:Program}
theorem trodAll_later (hl:laidOutB P=true){W W':World}{sp:Nat→Bool} (hb:Below W.heap.size W W'):∀{ts:List TypeId}{vs:List Value}{ds:List (DataW H)}{p:List MemPlace},
  (∀t∈ts,P.readableRec t=true∧t<P.types.size)→DataW.TrodAll enc P W 0 (fun _=>true) true ts vs ds p→(∀x∈p,x.block<W.heap.size)→(∀x∈p,sp x.block=true) →
  DataW.TrodAll enc P W' 0 sp true ts vs ds p:=by
 intro ts
 induction ts with
 | nil =>
  intro vs ds p _ h _ _;obtain⟨rfl,rfl,rfl⟩:=trodAll_nil h;exact trodAll_mk0
 | cons t ts ih =>
  intro vs ds p hr h hlt hs;obtain⟨v,vs',d,ds',q,q',rfl,rfl,rfl,h0,r⟩:=trodAll_cons h;have ht:=hr t (List.mem_cons_self ..);exact trodAll_cons_mk (WideElems.Trod_stays hl ht.1 ht.2 h0 (fun x hx=>hb.same (hlt x (List.mem_append_left _ hx))) (fun x hx=>hs x (List.mem_append_left _ hx)))
   (ih (fun u hu=>hr u (List.mem_cons_of_mem _ hu)) r (fun x hx=>hlt x (List.mem_append_right _ hx)) (fun x hx=>hs x (List.mem_append_right _ hx)))
theorem law_post {f:Func}{s:ChangeSpec}{apart fresh handsOn again:Bool}{W W':World}{args:Array Value}{ds gs:List (DataW H)}{before:List MemPlace}{b:TypeId}
  (hW:DataW.Whole enc P f.params.toList s.vars apart W args.toList ds gs before) (hb:Below W.heap.size W W') (hl:laidOutB P=true)
  (hr:∀t∈f.params.toList,P.readableRec t=true∧t<P.types.size) (hv:s.vars=[])
  (hfn:s.fn H (ds++[])={ results:=[.lit (.bool true)],args:=ds }) (hres:f.resultTypes=#[b]) (hbool:P.underlying b=some .bool) :
  ∃v,Ending.returned (.bool true)=.returned v∧s.post enc P f apart fresh handsOn again W args v W':=by
 have hW':=hW;obtain⟨p,q,hA,hV,hpq,_,_⟩:=hW;rw[hv] at hV;obtain⟨rfl,rfl⟩:=trodVars_none hV;rw[List.append_nil] at hpq;subst hpq;have hlt:∀x∈before,x.block<W.heap.size:=fun x hx=>hW'.lt x hx
 refine⟨_,rfl,post_kept (pa:=before) (pv:=[]) hW' hb (fun _ _ _=>?_) (fun sp hs=>?_) (fun _ _=>?_) (by simp) (ok_one hres rfl (okWide_bool_mk hbool _))⟩
 ·rw[hfn,hres];exact trodAll_cons_mk (shut_bool hbool _) trodAll_mk0
 ·rw[hfn];exact trodAll_later hl hb hr hA hlt hs
 ·rw[hfn,hv];rfl
end
theorem laidOut:laidOutB Tryz.prog=true:=by kernel_rfl
theorem own:ownKnob Tryz.prog.godebug=none:=by kernel_rfl
theorem maxLen_cell (W:World) (h:W.ShapedOpen Tryz.prog):∃m,W.cell? ⟨0,0,none⟩=some (.int .i64 m) :=
 cell_of_shapedOpen_int (zero:=#[.int .i64 0]) (t:=3) h (of_decide_eq_true (by kernel_rfl)) (by kernel_rfl) rfl (by kernel_rfl) (by kernel_rfl) Tryz.underlying3
def acceptCells:Array Value:=#[.int .u8 128,.int .u8 191,.int .u8 160,.int .u8 191,.int .u8 128,.int .u8 159,.int .u8 144,.int .u8 191,.int .u8 128,.int .u8 143,
 .int .u8 0,.int .u8 0,.int .u8 0,.int .u8 0,.int .u8 0,.int .u8 0,.int .u8 0,.int .u8 0,.int .u8 0,.int .u8 0,.int .u8 0,.int .u8 0,.int .u8 0,.int .u8 0,.int .u8 0,.int .u8 0,.int .u8 0,.int .u8 0,.int .u8 0,.int .u8 0,.int .u8 0,.int .u8 0]
def putCells (h:Array Obj) (g:Nat) (cs:Array Value):Array Obj:=h.modify g fun
 | .cells _ t frozen=>.cells cs t frozen
 | o=>o
noncomputable def laidWorld (os:Os):World :=
 { World.holding Tryz.prog os ⟨#[],#[],[]⟩ with heap:=putCells (putCells (World.holding Tryz.prog os ⟨#[],#[],[]⟩).heap 1 (Go.Pinned.utf8FirstZ.map fun (n:Nat)=>Value.int .u8 (n:Int)).toArray) 2 acceptCells }
theorem data_first:Rows.laid_unicode_utf8_first=Lib.firstData:=by kernel_rfl
theorem data_accept:(Rows.laid_unicode_utf8_acceptRanges:DataW Unit)=Lib.acceptData:=by kernel_rfl
theorem tabs_of {W:World}{r:List (String×DataW Unit)} (h:laidMet Tryz.prog (("unicode/utf8.acceptRanges",Rows.laid_unicode_utf8_acceptRanges)::("unicode/utf8.first",Rows.laid_unicode_utf8_first)::r) W):Lib.Utf8Tabs 1 2 W:=by
 rw[data_first,data_accept] at h;exact utf8Tabs_of_readsT (ρ:=Tryz.lays260_ren) (U8Types.of260 Tryz.lays260) ⟨by kernel_rfl,by kernel_rfl,by kernel_rfl,by kernel_rfl,by kernel_rfl,by kernel_rfl,by kernel_rfl⟩ (Lib.laidMet.reads h (.tail _ (.head _))) (Lib.laidMet.reads h (.head _))
end Go.Proofs.YtkkebmciiiajeaaGreatDoor
namespace Go.Bd
open Go.ChangeShapes Go.WideShapes
section
variable {H:Type} {enc:TypeId×Value→H} {P:Program} {w:World} {base:Nat} {sp:Nat→Bool} {held:Bool}
theorem take_drop_one {cs:List Value}{i:Nat} (h:i<cs.length):(cs.drop i).take 1=[cs[i]]:=by
 rw[List.drop_eq_getElem_cons h];rfl
theorem open_fields {e:TypeId}{fs:Array Field}{a:Addr}{cs:List Value}{fuel:Nat}{x:DataW H×List MemPlace} (he:P.underlying e=some (.struct fs)) (hc:P.cellsOf e=fs.size)
  (ho:∀(i:Nat) f,fs[i]? = some f→f.offset=i∧P.cellsOf f.type=1) (h1:w.cells? base a (P.cellsOf e)=some cs) (h2:DataW.trod enc P w base sp held fuel e cs=some x) :
  ∃(m:Nat) (V:Nat→Value) (D:Nat→DataW H×List MemPlace),x.1=.agg ((List.range fs.size).map fun i=>(D i).1)∧∀(i:Nat) f,fs[i]? = some f→w.cell? (a.add i)=some (V i)∧DataW.trod enc P w base sp held m f.type [V i]=some (D i):=by
 obtain⟨_,hlen,hcell⟩:=World.cells?_some h1;obtain⟨xs,k,hk,hxy,hcl,hxl,hf⟩:=DataW.trod_struct he h2;refine⟨k,fun i=>cs.getD i (.int .i64 0),fun i=>xs.getD i (.nil,[]),?_,fun i f hif=>?_⟩
 ·rw[hxy]
  show DataW.agg _=_
  congr 1
  rw[Deep.map_by_index xs (.nil,[]) (·.1),hxl]
 ·obtain⟨o,c⟩:=ho i f hif;have hi:i<fs.size:=(Array.getElem?_eq_some_iff.1 hif).1;have hic:i<cs.length:=by omega
  have hix:i<xs.length:=by omega
  have g:=hf i f hif;rw[o,c,take_drop_one hic,List.getElem?_eq_getElem hix] at g;have hce:=hcell i (by omega);refine⟨?_,?_⟩
  ·rw[hce];simp[List.getD,List.getElem?_eq_getElem hic]
  ·simp only[List.getD,List.getElem?_eq_getElem hic,List.getElem?_eq_getElem hix,Option.getD_some];exact g
theorem open_addr {w:World}{a:Addr}{v:Value} (h:w.cell? (a.add 0)=some v):∃b off,a=⟨b,off,none⟩∧b<w.heap.size:=by
 obtain⟨b,off,spot⟩:=a;have e:(⟨b,off,spot⟩:Addr).add 0=⟨b,off,spot⟩:=by simp[Addr.add]
 rw[e] at h;refine⟨b,off,?_,World.block_lt_of_cell? w _ h⟩;cases spot with
 | none=>rfl
 | some s =>
  exfalso;simp only[World.cell?] at h;split at h<;>simp at h
end
end Go.Bd
namespace Go.Proofs.YtkkebmciiiajeaaGreatDoor
open Go.ChangeShapes Go.WideShapes Go.RowKit Go.Bd
theorem bulk_sum {H:Type}{α:Type}{s:α→Nat}{D:α→DataW H}:∀{r:List α},(∀i∈r,s i≤Rows.uptoBulk (D i))→(r.map s).sum≤Rows.uptoBulkAll (r.map D)
 | [],_=>Nat.le_refl _
 | i::r,h=>by
  have h1:=h i (List.mem_cons_self ..);have h2:=bulk_sum (r:=r) fun j hj=>h j (List.mem_cons_of_mem _ hj)
  simp only[List.map_cons,List.sum_cons,Rows.uptoBulkAll];omega
theorem sum_len {α:Type} (f:α→Nat):∀l:List α,(l.map fun x=>1+f x).sum=l.length+(l.map f).sum
 | []=>rfl
 | a::l=>by
  have:=sum_len f l
  simp only[List.map_cons,List.sum_cons,List.length_cons];omega
section
variable {H:Type} {enc:TypeId×Value→H} {w:World} {sp:Nat→Bool} {held:Bool}
theorem open_src_cells {fuel:Nat}{cs:List Value}{x:DataW H×List MemPlace} (h:DataW.trod enc Tryz.prog w 0 sp held fuel 22 cs=some x) :
  ∃v l,cs=[v]∧ScS w (fun k=>k<w.heap.size) v l∧twoZ (l.map scP)+1≤Rows.uptoBulk x.1:=by
 rcases Deep.open_slice (e:=43) Tryz.underlying22 h with ⟨rfl,rfl⟩|⟨a,len,cap,m,n,D,Pl,rfl,_,hl,_,hmm,rfl,hx⟩
 ·exact⟨_,[],rfl,TwoS.nil _ _,by simp[twoZ,Rows.uptoBulk]⟩
 ·have hlm:len≤m:=by rw[hmm];split<;>omega
  have hc2:Tryz.prog.cellsOf 43=2:=by kernel_rfl
  have each:∀i,i<len→∃q:ByteArray×ByteArray,w.cell? (a.add (i*2))=some (.string q.1)∧w.cell? (a.add (i*2+1))=some (.string q.2)∧1+(q.1.size+q.2.size)≤Rows.uptoBulk (D i):=by
   intro i hi;obtain⟨cs',h1,h2⟩:=hx i (by omega);rw[hc2] at h1;obtain⟨k,V,DD,hag,hf⟩:=open_fields Tryz.underlying43 (by rw[hc2];rfl) (fun i f hif=>by
    have hi':i<2:=(Array.getElem?_eq_some_iff.1 hif).1
    match i,hi' with
    | 0,_=>obtain rfl:=Option.some.inj hif;exact⟨rfl,by kernel_rfl⟩
    | 1,_=>obtain rfl:=Option.some.inj hif;exact⟨rfl,by kernel_rfl⟩) (by rw[hc2];exact h1) h2
   obtain⟨c0,g0⟩:=hf 0 _ rfl;obtain⟨c1,g1⟩:=hf 1 _ rfl;obtain⟨s0,e0,d0,_⟩:=DataW.trod_string Tryz.underlying9 g0;obtain⟨s1,e1,d1,_⟩:=DataW.trod_string Tryz.underlying9 g1;simp only[List.cons.injEq,and_true] at e0 e1;have hsum:Rows.uptoBulk (D i)=1+(Rows.uptoBulk (DD 0).1+Rows.uptoBulk (DD 1).1):=by
    have hag':D i=.agg [(DD 0).1,(DD 1).1]:=hag;rw[hag'];simp only[Rows.uptoBulk,Rows.uptoBulkAll];omega
   rw[d0,d1] at hsum;simp only[Rows.uptoBulk] at hsum;have hn0:s0.data.toList.length=s0.size:=Array.length_toList;have hn1:s1.data.toList.length=s1.size:=Array.length_toList;refine⟨(s0,s1),?_,?_,by simp only;omega⟩
   ·rw[e0,Deep.add_add,Nat.add_zero] at c0;exact c0
   ·rw[e1,Deep.add_add] at c1;exact c1
  haveI:Inhabited (ByteArray×ByteArray):=⟨(⟨#[]⟩,⟨#[]⟩)⟩
  obtain⟨S,hS⟩:=Deep.choose_lt each;have hpp:((List.range len).map fun i=>(⟨(S i).1,(S i).2⟩:Sc)).map scP=(List.range len).map S:=by
   rw[List.map_map];rfl
  refine⟨_,(List.range len).map fun i=>⟨(S i).1,(S i).2⟩,rfl,?_,?_⟩
  ·unfold ScS;rw[hpp];refine⟨some a,cap,by simp,by simpa using hl,fun j s hj=>?_⟩;have hjl:j<len:=by have:=(List.getElem?_eq_some_iff.1 hj).1;simpa using this
   rw[List.getElem?_map,List.getElem?_range hjl] at hj;simp only[Option.map_some,Option.some.injEq] at hj;subst hj;obtain⟨b,off,rfl,hb⟩:=open_addr (v:=.string (S 0).1) (by have:=(hS 0 (by omega)).1;rwa [Nat.zero_mul] at this);have hc:=(hS j hjl).1;have hd:=(hS j hjl).2.1;rw[Addr.add_lit] at hc hd;exact⟨b,off,rfl,hb,hc,hd⟩
  ·have h1:=bulk_sum (s:=fun i=>1+((S i).1.size+(S i).2.size)) (D:=D) (r:=List.range len) fun i hi=>(hS i (List.mem_range.1 hi)).2.2
   simp only[Rows.uptoBulk];rw[sum_len] at h1;rw[hpp];unfold twoZ;rw[List.map_map,List.length_map]
   show _+(List.map (fun i=>(S i).1.size+(S i).2.size) (List.range len)).sum+1≤_
   omega
theorem open_attrs_cells {fuel:Nat}{cs:List Value}{x:DataW H×List MemPlace} (h:DataW.trod enc Tryz.prog w 0 sp held fuel 23 cs=some x) :
  ∃v l,cs=[v]∧AtS w (fun k=>k<w.heap.size) v l∧twoZ (l.map atP)+1≤Rows.uptoBulk x.1:=by
 rcases Deep.open_slice (e:=47) Tryz.underlying23 h with ⟨rfl,rfl⟩|⟨a,len,cap,m,n,D,Pl,rfl,_,hl,_,hmm,rfl,hx⟩
 ·exact⟨_,[],rfl,TwoS.nil _ _,by simp[twoZ,Rows.uptoBulk]⟩
 ·have hlm:len≤m:=by rw[hmm];split<;>omega
  have hc2:Tryz.prog.cellsOf 47=2:=by kernel_rfl
  have each:∀i,i<len→∃q:ByteArray×ByteArray,w.cell? (a.add (i*2))=some (.string q.1)∧w.cell? (a.add (i*2+1))=some (.string q.2)∧1+(q.1.size+q.2.size)≤Rows.uptoBulk (D i):=by
   intro i hi;obtain⟨cs',h1,h2⟩:=hx i (by omega);rw[hc2] at h1;obtain⟨k,V,DD,hag,hf⟩:=open_fields Tryz.underlying47 (by rw[hc2];rfl) (fun i f hif=>by
    have hi':i<2:=(Array.getElem?_eq_some_iff.1 hif).1
    match i,hi' with
    | 0,_=>obtain rfl:=Option.some.inj hif;exact⟨rfl,by kernel_rfl⟩
    | 1,_=>obtain rfl:=Option.some.inj hif;exact⟨rfl,by kernel_rfl⟩) (by rw[hc2];exact h1) h2
   obtain⟨c0,g0⟩:=hf 0 _ rfl;obtain⟨c1,g1⟩:=hf 1 _ rfl;obtain⟨s0,e0,d0,_⟩:=DataW.trod_string Tryz.underlying9 g0;obtain⟨s1,e1,d1,_⟩:=DataW.trod_string Tryz.underlying9 g1;simp only[List.cons.injEq,and_true] at e0 e1;have hsum:Rows.uptoBulk (D i)=1+(Rows.uptoBulk (DD 0).1+Rows.uptoBulk (DD 1).1):=by
    have hag':D i=.agg [(DD 0).1,(DD 1).1]:=hag;rw[hag'];simp only[Rows.uptoBulk,Rows.uptoBulkAll];omega
   rw[d0,d1] at hsum;simp only[Rows.uptoBulk] at hsum;have hn0:s0.data.toList.length=s0.size:=Array.length_toList;have hn1:s1.data.toList.length=s1.size:=Array.length_toList;refine⟨(s0,s1),?_,?_,by simp only;omega⟩
   ·rw[e0,Deep.add_add,Nat.add_zero] at c0;exact c0
   ·rw[e1,Deep.add_add] at c1;exact c1
  haveI:Inhabited (ByteArray×ByteArray):=⟨(⟨#[]⟩,⟨#[]⟩)⟩
  obtain⟨S,hS⟩:=Deep.choose_lt each;have hpp:((List.range len).map fun i=>(⟨(S i).1,(S i).2⟩:At)).map atP=(List.range len).map S:=by
   rw[List.map_map];rfl
  refine⟨_,(List.range len).map fun i=>⟨(S i).1,(S i).2⟩,rfl,?_,?_⟩
  ·unfold AtS;rw[hpp];refine⟨some a,cap,by simp,by simpa using hl,fun j s hj=>?_⟩;have hjl:j<len:=by have:=(List.getElem?_eq_some_iff.1 hj).1;simpa using this
   rw[List.getElem?_map,List.getElem?_range hjl] at hj;simp only[Option.map_some,Option.some.injEq] at hj;subst hj;obtain⟨b,off,rfl,hb⟩:=open_addr (v:=.string (S 0).1) (by have:=(hS 0 (by omega)).1;rwa [Nat.zero_mul] at this);have hc:=(hS j hjl).1;have hd:=(hS j hjl).2.1;rw[Addr.add_lit] at hc hd;exact⟨b,off,rfl,hb,hc,hd⟩
  ·have h1:=bulk_sum (s:=fun i=>1+((S i).1.size+(S i).2.size)) (D:=D) (r:=List.range len) fun i hi=>(hS i (List.mem_range.1 hi)).2.2
   simp only[Rows.uptoBulk];rw[sum_len] at h1;rw[hpp];unfold twoZ;rw[List.map_map,List.length_map]
   show _+(List.map (fun i=>(S i).1.size+(S i).2.size) (List.range len)).sum+1≤_
   omega
end
theorem open_src {H:Type}{enc:TypeId×Value→H}{W:World}{base:Nat}{sp:Nat→Bool}{hd:Bool}{v:Value}{d:DataW H}{p:List MemPlace}
  (hv:Value.okWide Tryz.prog W .any base 22 v) (h:DataW.Trod enc Tryz.prog W 0 sp hd 22 v d p) :
  ∃l,ScS W (fun k=>k<W.heap.size) v l∧twoZ (l.map scP)+1≤Rows.uptoBulk d:=by
 obtain⟨fuel,hf⟩:=h;obtain⟨v',l,e,hs,hz⟩:=open_src_cells hf;obtain⟨a,n,c,rfl⟩:=okWide_slice Tryz.underlying22 hv;simp[Value.cells] at e;subst e;exact⟨l,hs,hz⟩
theorem open_attrs {H:Type}{enc:TypeId×Value→H}{W:World}{base:Nat}{sp:Nat→Bool}{hd:Bool}{v:Value}{d:DataW H}{p:List MemPlace}
  (hv:Value.okWide Tryz.prog W .any base 23 v) (h:DataW.Trod enc Tryz.prog W 0 sp hd 23 v d p) :
  ∃l,AtS W (fun k=>k<W.heap.size) v l∧twoZ (l.map atP)+1≤Rows.uptoBulk d:=by
 obtain⟨fuel,hf⟩:=h;obtain⟨v',l,e,hs,hz⟩:=open_attrs_cells hf;obtain⟨a,n,c,rfl⟩:=okWide_slice Tryz.underlying23 hv;simp[Value.cells] at e;subst e;exact⟨l,hs,hz⟩
theorem open_in {H:Type}{enc:TypeId×Value→H}{W:World}{base:Nat}{sp:Nat→Bool}{hd:Bool}{v:Value}{d:DataW H}{p:List MemPlace}
  (hv:Value.okWide Tryz.prog W .any base 25 v) (h:DataW.Trod enc Tryz.prog W 0 sp hd 25 v d p) :
  ∃sv av l a,∃s:ByteArray,v=.agg #[sv,av,.string s]∧ScS W (fun k=>k<W.heap.size) sv l∧AtS W (fun k=>k<W.heap.size) av a∧twoZ (l.map scP)+twoZ (a.map atP)+s.size+1≤Rows.uptoBulk d:=by
 obtain⟨cs,rfl,hsz⟩:=okWide_struct Tryz.underlying25 hv;have hc3:Tryz.prog.cellsOf 25=3:=by kernel_rfl
 have hcA:Tryz.prog.cellsOf 22=1:=by kernel_rfl
 have hcB:Tryz.prog.cellsOf 23=1:=by kernel_rfl
 have hcU:Tryz.prog.cellsOf 9=1:=by kernel_rfl
 rw[hc3] at hsz;obtain⟨fuel,hf⟩:=h;obtain⟨xs,k,_,hxy,_,hxl,hi⟩:=DataW.trod_struct Tryz.underlying25 hf;obtain⟨l,rfl⟩:∃l:List Value,cs=l.toArray:=⟨cs.toList,by simp⟩
 match l,hsz with
 | [c0,c1,c2],_ =>
  match xs,hxl with
  | [x0,x1,x2],_ =>
   have i0:DataW.trod enc Tryz.prog W 0 sp hd k 22 (([c0,c1,c2].drop 0).take (Tryz.prog.cellsOf 22))=some x0:=hi 0 _ rfl;have i1:DataW.trod enc Tryz.prog W 0 sp hd k 23 (([c0,c1,c2].drop 1).take (Tryz.prog.cellsOf 23))=some x1:=hi 1 _ rfl;have i2:DataW.trod enc Tryz.prog W 0 sp hd k 9 (([c0,c1,c2].drop 2).take (Tryz.prog.cellsOf 9))=some x2:=hi 2 _ rfl;rw[hcA] at i0;rw[hcB] at i1;rw[hcU] at i2;obtain⟨sv,l,e0,hA,hb⟩:=open_src_cells i0;obtain⟨av,a,e1,hB,hb2⟩:=open_attrs_cells i1;obtain⟨s,e2,y2,_⟩:=DataW.trod_string Tryz.underlying9 i2;simp[Value.cells] at e0 e1 e2;subst e0 e1 e2;have hn:s.data.toList.length=s.size:=Array.length_toList;refine⟨c0,c1,l,a,s,rfl,hA,hB,?_⟩;have hd':d=.agg [x0.1,x1.1,x2.1]:=congrArg Prod.fst hxy;rw[hd',y2];simp only[Rows.uptoBulk,Rows.uptoBulkAll];omega
end Go.Proofs.YtkkebmciiiajeaaGreatDoor
