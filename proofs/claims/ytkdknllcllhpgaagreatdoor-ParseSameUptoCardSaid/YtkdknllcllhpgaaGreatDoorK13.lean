/- part 13 -/
import Derived.OrdersHeld
import Derived.Deep.RegionHeld
import Derived.Test.YtkdknllcllhpgaaGreatDoorK0
import Derived.Test.YtkdknllcllhpgaaGreatDoorK2
import Derived.Test.YtkdknllcllhpgaaGreatDoorK6
import Derived.Test.YtkdknllcllhpgaaGreatDoorK10
import Derived.Test.YtkdknllcllhpgaaGreatDoorK11
import Derived.Test.YtkdknllcllhpgaaGreatDoorK12
set_option linter.unusedSimpArgs false
set_option linter.unusedVariables false
set_option maxHeartbeats 16000000
set_option maxRecDepth 100000
namespace Go.Proofs.YtkdknllcllhpgaaGreatDoor
open Go.RowKit Go.Bd
theorem BlocksX.up {w W:World}{B B':Nat}{v:Value}{l:List Bx} (h:BlocksX w B v l) (hb:Below w.heap.size w W) (hB:B≤w.heap.size) (hB':B≤B'):BlocksX W B' v l:=by
 obtain⟨A,c,kvs,h1,h2,h3,h4,h5⟩:=h;refine⟨A,c,kvs,h1,h2,h3,fun hne=>?_,fun j x kv hx hk=>?_⟩
 ·obtain⟨b,off,e,hbB,hc⟩:=h4 hne;exact⟨b,off,e,by omega,fun j x kv hx hk i u hu=>(hb.cell (p:=⟨b,off+j*9+i,none⟩) (by show b<_;omega)).trans (hc j x kv hx hk i u hu)⟩
 ·obtain⟨hf,hr⟩:=h5 j x kv hx hk;exact⟨hf.chg (Chg.below hb (fun _=>False)) (fun k hk=>Nat.lt_of_lt_of_le hk hB') (fun _ _ h=>h),RowsF.stays.go hr (Chg.below hb (fun _=>False)) (fun k hk=>Nat.lt_of_lt_of_le hk hB') (fun _ _ h=>h)⟩
theorem ChIn.below {w W:World}{nm bv dv fv av uv:Value}{c:Cx} (h:ChIn w nm bv dv fv av uv c) (hb:Below w.heap.size w W):ChIn W nm bv dv fv av uv c :=
 ⟨h.1,BlocksX.up h.2.1 hb (Nat.le_refl _) hb.size,h.2.2.1.below hb,h.2.2.2.1.below hb,h.2.2.2.2.1.below hb,h.2.2.2.2.2.below hb⟩
def ChMk (w:World) (B:Nat) (bv dv fv av uv:Value) (c:Cx):Prop :=
 BlM w (· < B) bv c.blocks∧(∃b,FlatM dxCells 4 55 markD b w dv c.diags)∧(∃b,FlatM txC 1 9 markT b w fv c.files)∧(∃b,FlatM twC 2 47 markA b w av (c.attrs.map atP))∧∃b,FlatM txC 1 9 markT b w uv c.unset
theorem ChMk.below {w W:World}{B B':Nat}{bv dv fv av uv:Value}{c:Cx} (h:ChMk w B bv dv fv av uv c) (hb:Below w.heap.size w W) (hB:B≤w.heap.size) (hB':B≤B'):ChMk W B' bv dv fv av uv c:=by
 obtain⟨h1,⟨b2,h2⟩,⟨b3,h3⟩,⟨b4,h4⟩,⟨b5,h5⟩⟩:=h;exact⟨BlM.go h1 (Chg.below hb (fun _=>False)) (fun k hk=>Nat.lt_of_lt_of_le hk hB') (fun _ _ h=>h),⟨b2,h2.below hb⟩,⟨b3,h3.below hb⟩,⟨b4,h4.below hb⟩,⟨b5,h5.below hb⟩⟩
theorem ChMk.reads {w:World}{B:Nat}{nm:ByteArray}{bv dv fv av uv:Value}{c:Cx} (h:ChMk w B bv dv fv av uv c) (hn:nm=c.name):CxAt w w.heap.size (.agg #[.string nm,bv,dv,fv,av,uv]) c:=by
 subst hn;obtain⟨h1,⟨b2,h2⟩,⟨b3,h3⟩,⟨b4,h4⟩,⟨b5,h5⟩⟩:=h;exact⟨bv,dv,fv,av,uv,rfl,trivial,(FlatM.flat (f:=dxCells) (k:=4) (fun _=>rfl) h2).diags,(FlatM.flat (f:=txC) (k:=1) (fun _=>rfl) h3).texts (fun _=>rfl),(FlatM.flat (f:=twC) (k:=2) (fun _=>rfl) h4).two (fun _=>rfl),(FlatM.flat (f:=txC) (k:=1) (fun _=>rfl) h5).texts (fun _=>rfl)⟩
theorem ChIn.reads {w:World}{nm:ByteArray}{bv dv fv av uv:Value}{c:Cx} (h:ChIn w (.string nm) bv dv fv av uv c):CxAt w w.heap.size (.agg #[.string nm,bv,dv,fv,av,uv]) c:=by
 obtain⟨h0,h1,h2,h3,h4,h5⟩:=h;rw[h0];exact⟨bv,dv,fv,av,uv,rfl,trivial,h2.diags,h3.texts (fun _=>rfl),h4.two (fun _=>rfl),h5.texts (fun _=>rfl)⟩
theorem twoZ_len (l:List (ByteArray×ByteArray)):l.length≤twoZ l:=by unfold twoZ;omega
theorem szCx_parts {c:Cx} (h:szCx c≤1048576):szX szBl c.blocks≤1048576∧twoZ (c.diags.map fun d=>(d.file,d.text))≤1048576∧twoZ (c.files.map fun d=>(d,(⟨#[]⟩:ByteArray)))≤1048576∧twoZ (c.attrs.map atP)≤1048576∧twoZ (c.unset.map fun d=>(d,(⟨#[]⟩:ByteArray)))≤1048576∧c.diags.length≤1048576∧c.files.length≤1048576∧(c.attrs.map atP).length≤1048576∧c.unset.length≤1048576:=by
 unfold szCx at h;have h1:=twoZ_len (c.diags.map fun d=>(d.file,d.text));have h2:=twoZ_len (c.files.map fun d=>(d,(⟨#[]⟩:ByteArray)));have h3:=twoZ_len (c.attrs.map atP);have h4:=twoZ_len (c.unset.map fun d=>(d,(⟨#[]⟩:ByteArray)));rw[List.length_map] at h1 h2 h4;refine⟨by omega,by omega,by omega,by omega,by omega,by omega,by omega,by omega,by omega⟩
theorem ChIn.form {w:World}{nm bv dv fv av uv:Value}{c:Cx} (h:ChIn w nm bv dv fv av uv c):∃A1 n1 k1 A2 n2 k2 A3 n3 k3 A4 n4 k4 A5 n5 k5,bv=.slice A1 n1 k1∧dv=.slice A2 n2 k2∧fv=.slice A3 n3 k3∧av=.slice A4 n4 k4∧uv=.slice A5 n5 k5:=by
 obtain⟨h0,h1,⟨A2,c2,h2,-⟩,⟨A3,c3,h3,-⟩,⟨A4,c4,h4,-⟩,⟨A5,c5,h5,-⟩⟩:=h;obtain⟨A1,c1,h1,-⟩:=BlocksX.form h1;exact⟨_,_,_,_,_,_,_,_,_,_,_,_,_,_,_,h1,h2,h3,h4,h5⟩
theorem ChMk.form {w:World}{B:Nat}{bv dv fv av uv:Value}{c:Cx} (h:ChMk w B bv dv fv av uv c):∃A1 n1 k1 A2 n2 k2 A3 n3 k3 A4 n4 k4 A5 n5 k5,bv=.slice A1 n1 k1∧dv=.slice A2 n2 k2∧fv=.slice A3 n3 k3∧av=.slice A4 n4 k4∧uv=.slice A5 n5 k5:=by
 obtain⟨h1,⟨_,A2,c2,h2,-⟩,⟨_,A3,c3,h3,-⟩,⟨_,A4,c4,h4,-⟩,⟨_,A5,c5,h5,-⟩⟩:=h;obtain⟨A1,c1,h1,-⟩:=BlM.form h1;exact⟨_,_,_,_,_,_,_,_,_,_,_,_,_,_,_,h1,h2,h3,h4,h5⟩
theorem chapterSize_any {w:World}{bv dv fv av uv:Value}{c:Cx} (h:ChIn w (.string c.name) bv dv fv av uv c) (hz:szCx c≤1048576) :
  Calls Tryz.prog 5 #[.agg #[.string c.name,bv,dv,fv,av,uv]] w fun e w'=>e=.returned (.int .i64 (szCx c:Int))∧Below w.heap.size w w':=by
 obtain⟨A1,n1,k1,A2,n2,k2,A3,n3,k3,A4,n4,k4,A5,n5,k5,rfl,rfl,rfl,rfl,rfl⟩:=h.form;have hp:=szCx_parts hz;have hb0:=(Below.refl w.heap.size w).alloc (Nat.le_refl _) (.cells #[.string c.name,.slice A1 n1 k1,.slice A2 n2 k2,.slice A3 n3 k3,.slice A4 n4 k4,.slice A5 n5 k5] 27);have hX:=Holds.new w 27 #[.string c.name,.slice A1 n1 k1,.slice A2 n2 k2,.slice A3 n3 k3,.slice A4 n4 k4,.slice A5 n5 k5];obtain⟨w1,hw1⟩:∃w1,w.alloc (.cells #[.string c.name,.slice A1 n1 k1,.slice A2 n2 k2,.slice A3 n3 k3,.slice A4 n4 k4,.slice A5 n5 k5] 27)=w1:=⟨_,rfl⟩;obtain⟨p,hpw⟩:∃p,w.heap.size=p:=⟨_,rfl⟩;rw[hw1] at hb0 hX;rw[hpw] at hX;have hall:∀W,Below w1.heap.size w1 W→Below w.heap.size w W∧W.cell? ⟨p,0,none⟩=some (.string c.name)∧W.cell? ⟨p,1,none⟩=some (.slice A1 n1 k1)∧W.cell? ⟨p,2,none⟩=some (.slice A2 n2 k2)∧W.cell? ⟨p,3,none⟩=some (.slice A3 n3 k3)∧W.cell? ⟨p,4,none⟩=some (.slice A4 n4 k4)∧W.cell? ⟨p,5,none⟩=some (.slice A5 n5 k5):=fun W hW=>by
  have h:=hX.below hW hX.lt;have c0:=h.cell 0;have c1:=h.cell 1;have c2:=h.cell 2;have c3:=h.cell 3;have c4:=h.cell 4;have c5:=h.cell 5;simp at c0 c1 c2 c3 c4 c5;exact⟨hb0.trans (hW.mono hb0.size),c0,c1,c2,c3,c4,c5⟩
 have q1:=fun W (hW:Below w1.heap.size w1 W)=>size_Blocks c.blocks hp.1 _ W W.heap.size (h.below (hall W hW).1).2.1 (Nat.le_refl _)
 have q2:=fun W (hW:Below w1.heap.size w1 W)=>diagsSize_any rfl (h.below (hall W hW).1).2.2.1 hp.2.1
 have q3:=fun W (hW:Below w1.heap.size w1 W)=>textsSize_any rfl (h.below (hall W hW).1).2.2.2.1 hp.2.2.1
 have q4:=fun W (hW:Below w1.heap.size w1 W)=>attrsSize_any ((h.below (hall W hW).1).2.2.2.2.1.two (fun _=>rfl)) (fun _ h=>h) hp.2.2.2.1
 have q5:=fun W (hW:Below w1.heap.size w1 W)=>textsSize_any rfl (h.below (hall W hW).1).2.2.2.2.2 hp.2.2.2.2.1
 have hsum:szCx c=1+c.name.size+szX szBl c.blocks+twoZ (c.diags.map fun d=>(d.file,d.text))+twoZ (c.files.map fun d=>(d,(⟨#[]⟩:ByteArray)))+twoZ (c.attrs.map atP)+twoZ (c.unset.map fun d=>(d,(⟨#[]⟩:ByteArray))):=rfl;obtain⟨nm,hnm⟩:∃x,c.name=x:=⟨_,rfl⟩;obtain⟨zn,hzn⟩:∃x,nm.size=x:=⟨_,rfl⟩;obtain⟨z1,hz1⟩:∃x,szX szBl c.blocks=x:=⟨_,rfl⟩;obtain⟨z2,hz2⟩:∃x,twoZ (c.diags.map fun d=>(d.file,d.text))=x:=⟨_,rfl⟩;obtain⟨z3,hz3⟩:∃x,twoZ (c.files.map fun d=>(d,(⟨#[]⟩:ByteArray)))=x:=⟨_,rfl⟩;obtain⟨z4,hz4⟩:∃x,twoZ (c.attrs.map atP)=x:=⟨_,rfl⟩;obtain⟨z5,hz5⟩:∃x,twoZ (c.unset.map fun d=>(d,(⟨#[]⟩:ByteArray)))=x:=⟨_,rfl⟩;simp only[hnm,hzn,hz1,hz2,hz3,hz4,hz5] at hall q1 q2 q3 q4 q5 hsum hw1 ⊢;rw[hsum] at hz ⊢;have HH:=hidH6 hall q1 q2 q3 q4 q5;have HN:=Lib.hid hzn;obtain⟨-,c0,c1,-⟩:=hall w1 (Below.refl _ _);have HW:=hidH2 hw1 hpw;clear h hp hb0 hX hall q1 q2 q3 q4 q5 hsum hnm hz1 hz2 hz3 hz4 hz5
 go_enter Tryz.func5,Tryz.ntmps5
 go_wp2_with fail
 (try rw[HW.out.1])
 (try rw[HW.out.2])
 (try rw[HN.out])
 clear hw1 hpw c0 c1;refine (HH.out.2.1 w1 (Below.refl _ _)).mono ?_;rintro e w2 ⟨rfl,hb2⟩;have c2:=(HH.out.1 w2 hb2).2.2.2.1;have HB2:=Lib.hid hb2;clear hb2
 go_wp2_with fail
 (try rw[HN.out])
 refine (HH.out.2.2.1 w2 HB2.out).mono ?_;clear c2;rintro e w3 ⟨rfl,hb3⟩;have hb3':=HB2.out.trans (hb3.mono HB2.out.size);have c3:=(HH.out.1 w3 hb3').2.2.2.2.1;have HB3:=Lib.hid hb3';clear hb3 hb3'
 go_wp2_with fail
 (try rw[HN.out])
 refine (HH.out.2.2.2.1 w3 HB3.out).mono ?_;clear c3;rintro e w4 ⟨rfl,hb4⟩;have hb4':=HB3.out.trans (hb4.mono HB3.out.size);have c4:=(HH.out.1 w4 hb4').2.2.2.2.2.1;have HB4:=Lib.hid hb4';clear hb4 hb4'
 go_wp2_with fail
 (try rw[HN.out])
 refine (HH.out.2.2.2.2.1 w4 HB4.out).mono ?_;clear c4;rintro e w5 ⟨rfl,hb5⟩;have hb5':=HB4.out.trans (hb5.mono HB4.out.size);have c5:=(HH.out.1 w5 hb5').2.2.2.2.2.2;have HB5:=Lib.hid hb5';clear hb5 hb5'
 go_wp2_with fail
 (try rw[HN.out])
 refine (HH.out.2.2.2.2.2 w5 HB5.out).mono ?_;clear c5;rintro e w6 ⟨rfl,hb6⟩;have HB6:=Lib.hid (HB5.out.trans (hb6.mono HB5.out.size));clear hb6
 go_wp2_with fail
 (try rw[HN.out])
 go_ret
 exact⟨by first|rfl|go_num|(push_cast;omega)|(congr 2;push_cast;omega),(HH.out.1 w6 HB6.out).1⟩
theorem leftChapter_any {w:World}{tb td tf ta tu bv dv fv av uv:Value}{c:Cx} (ht:ChMk w w.heap.size tb td tf ta tu c) (h:ChIn w (.string c.name) bv dv fv av uv c) (hz:szCx c≤1048576) :
  Calls Tryz.prog 12 #[.agg #[.string c.name,tb,td,tf,ta,tu],.agg #[.string c.name,bv,dv,fv,av,uv]] w fun e w'=>e=.returned (.bool true)∧Below w.heap.size w w':=by
 obtain⟨A1,n1,k1,A2,n2,k2,A3,n3,k3,A4,n4,k4,A5,n5,k5,rfl,rfl,rfl,rfl,rfl⟩:=h.form;obtain⟨T1,m1,j1,T2,m2,j2,T3,m3,j3,T4,m4,j4,T5,m5,j5,rfl,rfl,rfl,rfl,rfl⟩:=ht.form;have hp:=szCx_parts hz;obtain⟨w1,hw1⟩:∃w1,(w.alloc (.cells #[.string c.name,.slice T1 m1 j1,.slice T2 m2 j2,.slice T3 m3 j3,.slice T4 m4 j4,.slice T5 m5 j5] 27)).alloc (.cells #[.string c.name,.slice A1 n1 k1,.slice A2 n2 k2,.slice A3 n3 k3,.slice A4 n4 k4,.slice A5 n5 k5] 27)=w1:=⟨_,rfl⟩;have hb0:Below w.heap.size w w1:=by rw[←hw1];exact ((Below.refl _ _).alloc (Nat.le_refl _) _).alloc (by simp) _
 obtain⟨p,hpw⟩:∃p,w.heap.size=p:=⟨_,rfl⟩;have hX:Holds w1 p 27 #[.string c.name,.slice T1 m1 j1,.slice T2 m2 j2,.slice T3 m3 j3,.slice T4 m4 j4,.slice T5 m5 j5]:=by rw[←hw1,←hpw];exact (Holds.new w _ _).alloc _
 have hY:Holds w1 (p+1) 27 #[.string c.name,.slice A1 n1 k1,.slice A2 n2 k2,.slice A3 n3 k3,.slice A4 n4 k4,.slice A5 n5 k5]:=by
  rw[←hw1,←hpw];have h:=Holds.new (w.alloc (.cells #[.string c.name,.slice T1 m1 j1,.slice T2 m2 j2,.slice T3 m3 j3,.slice T4 m4 j4,.slice T5 m5 j5] 27)) 27 #[.string c.name,.slice A1 n1 k1,.slice A2 n2 k2,.slice A3 n3 k3,.slice A4 n4 k4,.slice A5 n5 k5];rw[World.size_alloc] at h;exact h
 obtain⟨nm,hnm⟩:∃x,c.name=x:=⟨_,rfl⟩;rw[hnm] at hX hY hw1;have hall:∀W,Below w1.heap.size w1 W→Below w.heap.size w W∧(W.cell? ⟨p,0,none⟩=some (.string nm)∧W.cell? ⟨p+1,0,none⟩=some (.string nm))∧(W.cell? ⟨p,1,none⟩=some (.slice T1 m1 j1)∧W.cell? ⟨p+1,1,none⟩=some (.slice A1 n1 k1))∧(W.cell? ⟨p,2,none⟩=some (.slice T2 m2 j2)∧W.cell? ⟨p+1,2,none⟩=some (.slice A2 n2 k2))∧(W.cell? ⟨p,3,none⟩=some (.slice T3 m3 j3)∧W.cell? ⟨p+1,3,none⟩=some (.slice A3 n3 k3))∧(W.cell? ⟨p,4,none⟩=some (.slice T4 m4 j4)∧W.cell? ⟨p+1,4,none⟩=some (.slice A4 n4 k4))∧(W.cell? ⟨p,5,none⟩=some (.slice T5 m5 j5)∧W.cell? ⟨p+1,5,none⟩=some (.slice A5 n5 k5)):=fun W hW=>by
  have h:=hX.below hW hX.lt;have c0:=h.cell 0;have c1:=h.cell 1;have c2:=h.cell 2;have c3:=h.cell 3;have c4:=h.cell 4;have c5:=h.cell 5;simp at c0 c1 c2 c3 c4 c5;have h':=hY.below hW hY.lt;have d0:=h'.cell 0;have d1:=h'.cell 1;have d2:=h'.cell 2;have d3:=h'.cell 3;have d4:=h'.cell 4;have d5:=h'.cell 5;simp at d0 d1 d2 d3 d4 d5;exact⟨hb0.trans (hW.mono hb0.size),⟨c0,d0⟩,⟨c1,d1⟩,⟨c2,d2⟩,⟨c3,d3⟩,⟨c4,d4⟩,⟨c5,d5⟩⟩
 have hT:=fun W (hW:Below w1.heap.size w1 W)=>ht.below (hall W hW).1 (Nat.le_refl _) (hall W hW).1.size
 have q1:=fun W (hW:Below w1.heap.size w1 W)=>left_Blocks c.blocks hp.1 _ _ W W.heap.size (hT W hW).1 (h.below (hall W hW).1).2.1 (Nat.le_refl _)
 have q2:=fun W (hW:Below w1.heap.size w1 W)=>leftDiags_any (hT W hW).2.1.choose_spec (h.below (hall W hW).1).2.2.1 hp.2.2.2.2.2.1
 have q3:=fun W (hW:Below w1.heap.size w1 W)=>leftTexts_any (hT W hW).2.2.1.choose_spec (h.below (hall W hW).1).2.2.2.1 hp.2.2.2.2.2.2.1
 have q4:=fun W (hW:Below w1.heap.size w1 W)=>leftAttrs_any (hT W hW).2.2.2.1.choose_spec (h.below (hall W hW).1).2.2.2.2.1 hp.2.2.2.2.2.2.2.1
 have q5:=fun W (hW:Below w1.heap.size w1 W)=>leftTexts_any (hT W hW).2.2.2.2.choose_spec (h.below (hall W hW).1).2.2.2.2.2 hp.2.2.2.2.2.2.2.2
 have HH:=hidH6 hall q1 q2 q3 q4 q5;obtain⟨-,⟨c0,d0⟩,⟨c1,d1⟩,-⟩:=hall w1 (Below.refl _ _);have HW:=hidH2 hw1 hpw;rw[hnm];clear h ht hp hb0 hX hY hall hT q1 q2 q3 q4 q5 hnm hz
 go_enter Tryz.func12,Tryz.ntmps12
 go_wp2_with fail
 (try rw[HW.out.1])
 (try rw[HW.out.2])
 clear hw1 hpw c0 c1 d0 d1;refine (HH.out.2.1 w1 (Below.refl _ _)).mono ?_;rintro e w2 ⟨rfl,hb2⟩;obtain⟨c2,d2⟩:=(HH.out.1 w2 hb2).2.2.2.1;have HB2:=Lib.hid hb2;clear hb2
 go_wp2_with fail
 refine (HH.out.2.2.1 w2 HB2.out).mono ?_;clear c2 d2;rintro e w3 ⟨rfl,hb3⟩;have hb3':=HB2.out.trans (hb3.mono HB2.out.size);obtain⟨c3,d3⟩:=(HH.out.1 w3 hb3').2.2.2.2.1;have HB3:=Lib.hid hb3';clear hb3 hb3'
 go_wp2_with fail
 refine (HH.out.2.2.2.1 w3 HB3.out).mono ?_;clear c3 d3;rintro e w4 ⟨rfl,hb4⟩;have hb4':=HB3.out.trans (hb4.mono HB3.out.size);obtain⟨c4,d4⟩:=(HH.out.1 w4 hb4').2.2.2.2.2.1;have HB4:=Lib.hid hb4';clear hb4 hb4'
 go_wp2_with fail
 refine (HH.out.2.2.2.2.1 w4 HB4.out).mono ?_;clear c4 d4;rintro e w5 ⟨rfl,hb5⟩;have hb5':=HB4.out.trans (hb5.mono HB4.out.size);obtain⟨c5,d5⟩:=(HH.out.1 w5 hb5').2.2.2.2.2.2;have HB5:=Lib.hid hb5';clear hb5 hb5'
 go_wp2_with fail
 refine (HH.out.2.2.2.2.2 w5 HB5.out).mono ?_;clear c5 d5;rintro e w6 ⟨rfl,hb6⟩;have HB6:=Lib.hid (HB5.out.trans (hb6.mono HB5.out.size));clear hb6
 go_wp2_with fail
 go_ret
 exact⟨rfl,(HH.out.1 w6 HB6.out).1⟩
theorem twin_Blocks (l:List Bx) (hz:szX szBl l≤1048576) (v:Value) (w:World) (B:Nat) (hF:BlocksX w B v l) (hB:B≤w.heap.size) :
  Calls Tryz.prog 22 #[v] w fun e w'=>∃v',e=.returned v'∧BlM w' (fun b=>w.heap.size≤b∧b<w'.heap.size) v' l∧Below w.heap.size w w':=by
 obtain⟨A,c,rfl,hc⟩:=BlocksX.form hF;have hlm:=szX_len szBl l;have HF:=Lib.hid hF;clear hF;obtain⟨n,hn⟩:∃n,l.length=n:=⟨_,rfl⟩;have HN:=Lib.hid hn;simp only[hn] at hc hlm HF ⊢;clear hn;have mf:=make_Block (n+1) w (by omega);have hmz:=madeCells_size #[.int .u8 0,.int .i64 0,.bool false,.string ⟨#[]⟩,.string ⟨#[]⟩,.slice none 0 0,.slice none 0 0,.string ⟨#[]⟩,.int .i64 0] ((n+1)*9);generalize madeCells #[.int .u8 0,.int .i64 0,.bool false,.string ⟨#[]⟩,.string ⟨#[]⟩,.slice none 0 0,.slice none 0 0,.string ⟨#[]⟩,.int .i64 0] ((n+1)*9)=zc at mf hmz;have HZ:=Lib.hid hmz;rw[show (((n+1:Nat):Int))=(n:Int)+1 by push_cast;rfl] at mf;clear hmz;obtain⟨i0,hi0,hz0,hz1,hz2⟩:=info_parts Block_info
 go_enter Tryz.func22,Tryz.ntmps22
 go_wp2;clear mf
 go_loopg [3,4] n (fun q vt vi wr=>∃k g cap:Nat,k+q=n∧vi=.int .i64 (k:Int)∧vt=.slice (some ⟨g,0,none⟩) k cap∧Hid (∃kvs,TwB w wr g cap k kvs l))
 case atStart =>
  refine⟨0,w.heap.size,n+1,by omega,rfl,rfl,[],rfl,⟨rfl,.inr ⟨w.heap.size,n+1,zc,rfl,Nat.le_refl _,heap_alloc_new w _,Nat.zero_le _,by unfold maxLen;omega,HZ.out,rfl⟩⟩,fun j x kv h=>by simp at h,⟨Nat.le_refl _,by simp⟩,(Below.refl _ _).alloc (Nat.le_refl _) _⟩
 case round =>
  obtain⟨k,g,cap,hk,rfl,rfl,HR⟩:=hrel;obtain⟨kvs,hst⟩:=HR.out;have hkc:=fl_cap hst.ho;have hrb:=hst.hb.size;obtain⟨hg1,hg2⟩:=hst.hg
  by_cases hlt:k<n
  ·obtain⟨x,hx⟩:∃x,l[k]? = some x:=⟨_,List.getElem?_eq_getElem (by rw[HN.out];exact hlt)⟩;obtain⟨b1,off,sA,sc,rA,rc,rfl,hb1,hkF,hkR,p0,p1,p2,p3,p4,p5,p6,p7,p8⟩:=HF.out.at hx;have hbl:=hst.hb.mono hB
   replace p0:=(hbl.cell (p:=⟨b1,off+k*9,none⟩) hb1).trans p0
   replace p1:=(hbl.cell (p:=⟨b1,off+k*9+1,none⟩) hb1).trans p1
   replace p2:=(hbl.cell (p:=⟨b1,off+k*9+2,none⟩) hb1).trans p2
   replace p3:=(hbl.cell (p:=⟨b1,off+k*9+3,none⟩) hb1).trans p3
   replace p4:=(hbl.cell (p:=⟨b1,off+k*9+4,none⟩) hb1).trans p4
   replace p5:=(hbl.cell (p:=⟨b1,off+k*9+5,none⟩) hb1).trans p5
   replace p6:=(hbl.cell (p:=⟨b1,off+k*9+6,none⟩) hb1).trans p6
   replace p7:=(hbl.cell (p:=⟨b1,off+k*9+7,none⟩) hb1).trans p7
   replace p8:=(hbl.cell (p:=⟨b1,off+k*9+8,none⟩) hb1).trans p8
   have hgt:=szX_get (s:=szBl) hx;have ci:=twin1_Block x (by omega) _ _ wr B (Forest.stays.under hkF hbl (fun _ h=>h)) (RowsF.stays.under hkR hbl (fun _ h=>h)) (by omega);have HST:=Lib.hid hst;have HX:=Lib.hid hx;clear hx hkF hkR hbl hst HR hgt
   go_wp2_with fail
   refine ci.mono ?_;clear ci;rintro e w2 ⟨⟨k1,k2⟩,rfl,⟨ht2,hu2⟩,hb2⟩;have hs2:=hb2.size;have hown2:=(Chg.below hb2 (fun _=>False)).owns HST.out.ho (fun _ _ h=>h);have HT2:=hidH2 ht2 hu2;have HB2:=Lib.hid hb2;obtain⟨tg,tc,rfl⟩:=Marked.shape ht2;obtain⟨ug,uc,rfl⟩:=RowsM.form hu2;clear ht2 hu2 hb2
   go_wp2_with (at_builtin;refine wpList_append_lies _ rfl _ _ 22 rfl w.heap.size 72 i0 _ 9 128 Tryz.underlying22 hi0 hz0 hz1 hz2 rfl (by omega) (.slice (some ⟨g,0,none⟩) k cap) k (rowBx (l.take k) kvs) (by rfl) (hown2.alloc _) ⟨w2.heap.size,0,none⟩ 1 1 [.int .u8 (x.kind:Int),.int .i64 x.level,.bool x.ordered,.string x.label,.string x.text,.slice (some ⟨tg,0,none⟩) x.spans.length tc,.slice (some ⟨ug,0,none⟩) x.rows.length uc,.string x.file,.int .i64 x.line] (by rfl) (by rfl) (World.news_of_block (cs:=#[.int .u8 (x.kind:Int),.int .i64 x.level,.bool x.ordered,.string x.label,.string x.text,.slice (some ⟨tg,0,none⟩) x.spans.length tc,.slice (some ⟨ug,0,none⟩) x.rows.length uc,.string x.file,.int .i64 x.line]) (t:=72) (fr:=(0,0)) (heap_alloc_new w2 _)) (by simp[Value.oneCell']) (by omega) (by unfold maxLen;omega) (by omega) (by simp;omega) (w2.heap.size+1) (by simp) ?_;intro g1 cap1 w3 hown3 hgrow hat hlt3)
   have HN3:=Lib.hid (twB_next (kv:=(.slice (some ⟨tg,0,none⟩) x.spans.length tc,.slice (some ⟨ug,0,none⟩) x.rows.length uc)) HST.out HX.out HB2.out HT2.out hown3 hgrow hat hlt3);clear hown3 hgrow hat hlt3 hown2
   go_roundg (gk-1)
   case measure=>omega
   case rel=>exact⟨k+1,g1,cap1,by omega,by go_num,rfl,_,HN3.out⟩
  ·obtain rfl:k=n:=by omega
   have HST:=Lib.hid hst;have hown:=hst.ho;clear hst HR
   go_wp2_with (at_builtin;refine wpList_append_lies _ rfl _ _ 22 rfl w.heap.size 72 i0 _ 9 128 Tryz.underlying22 hi0 hz0 hz1 hz2 rfl (by omega) (.slice (some ⟨g,0,none⟩) k cap) k (rowBx (l.take k) kvs) (by rfl) (hown.alloc _) ⟨wr.heap.size,0,none⟩ 1 1 markB (by rfl) (by rfl) (World.news_of_block (cs:=#[.int .u8 0,.int .i64 0,.bool false,.string ⟨#[]⟩,.string ⟨#[115,112,97,114,101]⟩,.slice none 0 0,.slice none 0 0,.string ⟨#[]⟩,.int .i64 0]) (t:=72) (fr:=(0,0)) (heap_alloc_new wr _)) (by simp[markB,Value.oneCell']) (by omega) (by unfold maxLen;omega) (by omega) (by simp;omega) (wr.heap.size+1) (by simp) ?_;intro g1 cap1 w3 hown3 hgrow hat hlt3;have hcap3:=fl_cap hown3)
   have HM3:=Lib.hid (twB_last HST.out (by rw[HN.out]) hown3 hgrow hat hlt3)
   go_ret
   exact⟨_,rfl,by have h:=HM3.out.1;rw[HN.out] at h;exact h,HM3.out.2⟩
theorem FlatM.chg {α:Type}{f:α→List Value}{k b:Nat}{t:TypeId}{mk:List Value}{w w':World}{v:Value}{l:List α}{S:Nat→Prop} (h:FlatM f k t mk b w v l) (hc:Chg w w' S) (hS:∀j,b≤j→¬S j):FlatM f k t mk b w' v l:=by
 obtain⟨g,cap,h1,h2⟩:=h;exact⟨g,cap,h1,hc.owns h2 (fun j hj=>hS j (own_lt h2 hj).1)⟩
theorem Chapter_size:(Tryz.prog.info? 27).map (·.size)=some 6:=by kernel_rfl
theorem cells6 {w:World}{g:Nat}{t:TypeId}{z0 z1 z2 z3 z4 z5:Value} (h:Holds w g t #[z0,z1,z2,z3,z4,z5]) :
  w.cell? ⟨g,0,none⟩=some z0∧w.cell? ⟨g,1,none⟩=some z1∧w.cell? ⟨g,2,none⟩=some z2∧w.cell? ⟨g,3,none⟩=some z3∧w.cell? ⟨g,4,none⟩=some z4∧w.cell? ⟨g,5,none⟩=some z5 :=
 ⟨h.cell 0,h.cell 1,h.cell 2,h.cell 3,h.cell 4,h.cell 5⟩
theorem holds_six {w:World}{g:Nat}{t:TypeId}{z0 z1 z2 z3 z4 z5 a b c d e f:Value} (h:Holds w g t #[z0,z1,z2,z3,z4,z5]) :
  Holds ((((((w.setCell ⟨g,0,none⟩ a).setCell ⟨g,1,none⟩ b).setCell ⟨g,2,none⟩ c).setCell ⟨g,3,none⟩ d).setCell ⟨g,4,none⟩ e).setCell ⟨g,5,none⟩ f) g t #[a,b,c,d,e,f]:=by
 have h1:Holds (w.setCell ⟨g,0,none⟩ a) g t #[a,z1,z2,z3,z4,z5]:=h.set 0 _;have h2:Holds ((w.setCell ⟨g,0,none⟩ a).setCell ⟨g,1,none⟩ b) g t #[a,b,z2,z3,z4,z5]:=h1.set 1 _;have h3:Holds (((w.setCell ⟨g,0,none⟩ a).setCell ⟨g,1,none⟩ b).setCell ⟨g,2,none⟩ c) g t #[a,b,c,z3,z4,z5]:=h2.set 2 _;have h4:Holds ((((w.setCell ⟨g,0,none⟩ a).setCell ⟨g,1,none⟩ b).setCell ⟨g,2,none⟩ c).setCell ⟨g,3,none⟩ d) g t #[a,b,c,d,z4,z5]:=h3.set 3 _;have h5:Holds (((((w.setCell ⟨g,0,none⟩ a).setCell ⟨g,1,none⟩ b).setCell ⟨g,2,none⟩ c).setCell ⟨g,3,none⟩ d).setCell ⟨g,4,none⟩ e) g t #[a,b,c,d,e,z5]:=h4.set 4 _;have h6:Holds ((((((w.setCell ⟨g,0,none⟩ a).setCell ⟨g,1,none⟩ b).setCell ⟨g,2,none⟩ c).setCell ⟨g,3,none⟩ d).setCell ⟨g,4,none⟩ e).setCell ⟨g,5,none⟩ f) g t #[a,b,c,d,e,f]:=h5.set 5 _;exact h6
theorem twinChapter_any {w:World}{bv dv fv av uv:Value}{c:Cx} (h:ChIn w (.string c.name) bv dv fv av uv c) (hz:szCx c≤1048576) :
  Calls Tryz.prog 7 #[.agg #[.string c.name,bv,dv,fv,av,uv]] w fun e w'=>∃tb td tf ta tu,e=.returned (.agg #[.string c.name,tb,td,tf,ta,tu])∧ChMk w' w'.heap.size tb td tf ta tu c∧Below w.heap.size w w':=by
 obtain⟨A1,n1,k1,A2,n2,k2,A3,n3,k3,A4,n4,k4,A5,n5,k5,rfl,rfl,rfl,rfl,rfl⟩:=h.form;have hp:=szCx_parts hz;obtain⟨nm,hnm⟩:∃x,c.name=x:=⟨_,rfl⟩;rw[hnm];obtain⟨w0,hw0⟩:∃w0,(w.alloc (.cells #[.string nm,.slice A1 n1 k1,.slice A2 n2 k2,.slice A3 n3 k3,.slice A4 n4 k4,.slice A5 n5 k5] 27)).alloc (.cells #[.string ⟨#[]⟩,.slice none 0 0,.slice none 0 0,.slice none 0 0,.slice none 0 0,.slice none 0 0] 27)=w0:=⟨_,rfl⟩;have hb0:Below w.heap.size w w0:=by rw[←hw0];exact ((Below.refl _ _).alloc (Nat.le_refl _) _).alloc (by simp) _
 have hX:Holds w0 w.heap.size 27 #[.string nm,.slice A1 n1 k1,.slice A2 n2 k2,.slice A3 n3 k3,.slice A4 n4 k4,.slice A5 n5 k5]:=by rw[←hw0];exact (Holds.new w _ _).alloc _
 have hY:Holds w0 (w.heap.size+1) 27 #[.string ⟨#[]⟩,.slice none 0 0,.slice none 0 0,.slice none 0 0,.slice none 0 0,.slice none 0 0]:=by
  rw[←hw0];have h:=Holds.new (w.alloc (.cells #[.string nm,.slice A1 n1 k1,.slice A2 n2 k2,.slice A3 n3 k3,.slice A4 n4 k4,.slice A5 n5 k5] 27)) 27 #[.string ⟨#[]⟩,.slice none 0 0,.slice none 0 0,.slice none 0 0,.slice none 0 0,.slice none 0 0];rw[World.size_alloc] at h;exact h
 have hs0:w0.heap.size=w.heap.size+2:=by rw[←hw0];simp
 have hin:=fun W (hW:Below w0.heap.size w0 W)=>h.below (hb0.trans (hW.mono hb0.size))
 have q1:=fun W (hW:Below w0.heap.size w0 W)=>twin_Blocks c.blocks hp.1 _ W W.heap.size (hin W hW).2.1 (Nat.le_refl _)
 have q2:=fun W (hW:Below w0.heap.size w0 W)=>twinDiags_any (hin W hW).2.2.1 hp.2.2.2.2.2.1
 have q3:=fun W (hW:Below w0.heap.size w0 W)=>twinTexts_any (hin W hW).2.2.2.1 hp.2.2.2.2.2.2.1
 have q4:=fun W (hW:Below w0.heap.size w0 W)=>twinAttrs_any (hin W hW).2.2.2.2.1 hp.2.2.2.2.2.2.2.1
 have q5:=fun W (hW:Below w0.heap.size w0 W)=>twinTexts_any (hin W hW).2.2.2.2.2 hp.2.2.2.2.2.2.2.2
 have HB0:=Lib.hid hb0;have HH:=hidH5 q1 q2 q3 q4 q5;clear h hz hp hnm hin q1 q2 q3 q4 q5
 go_enter Tryz.func7,Tryz.ntmps7
 go_wp2;clear hw0 hb0;refine wp_region_held_drew (S:=(fun w'=>w'.cell? ⟨w.heap.size,0,none⟩=some (.string nm)∧w'.cell? ⟨w.heap.size,1,none⟩=some (.slice A1 n1 k1)∧w'.cell? ⟨w.heap.size,2,none⟩=some (.slice A2 n2 k2)∧w'.cell? ⟨w.heap.size,3,none⟩=some (.slice A3 n3 k3)∧w'.cell? ⟨w.heap.size,4,none⟩=some (.slice A4 n4 k4)∧w'.cell? ⟨w.heap.size,5,none⟩=some (.slice A5 n5 k5))) (by kernel_rfl) ?_ (fun hHeld0=>?_)
 ·(try dsimp only)
  refine cells6 (t:=27) ?_
  repeat (first|with_reducible exact hX|with_reducible refine Holds.far ?_ hrx _|with_reducible refine Holds.alloc ?_ _|with_reducible refine Holds.drew ?_)
 refine tkH 0 3 ?_;refine tkH 1 4 ?_;refine tkH 2 5 ?_;refine tkH 3 6 ?_;refine tkH 5 8 ?_;refine tkH 6 9 ?_;refine tkH 8 11 ?_;refine tkH 9 12 ?_;refine tkH 11 14 ?_;refine tkH 12 15 ?_;refine tkH 14 17 ?_;refine tkH 15 18 ?_;refine rdyH [4] ?_;refine AllReadyH.cons (o:=⟨some 7,_,_,_,_,_⟩) rfl (fun K hK=>?_) AllReadyH.nil
 (try go_simp)
 have hbd:Below w0.heap.size w0 w0.drew:=(Below.refl _ _).drew;refine (HH.out.1 _ (by first|exact hbd|exact Below.refl _ _)).mono ?_;rintro e w1 ⟨v1,rfl,ht,hb⟩;have hbn:Below w0.heap.size w0 w1:=by first|exact hbd.trans hb|exact hb
 have hX2:=holdsUnder (Holds.drew hX) hb;have hY2:=holdsUnder (Holds.drew hY) hb;have hrx:w.heap.size≠w.heap.size+1:=by omega
 obtain⟨g1,m1,rfl,-⟩:=BlM.form ht;have HT1':=Lib.hid ht;have HS1:=Lib.hid hb.size;have HB1:=Lib.hid hbn;clear hX hY hbn ht hb hbd;have hX:=hX2;have hY:=hY2;have HT1:=HT1';clear hX2 hY2 HT1'
 go_wp2_with fail
 refine hK.out _ _ ?_ (fun hHeld1=>?_)
 ·(try dsimp only)
  refine cells6 (t:=27) ?_
  repeat (first|with_reducible exact hX|with_reducible refine Holds.far ?_ hrx _|with_reducible refine Holds.alloc ?_ _|with_reducible refine Holds.drew ?_)
 clear hK K hHeld0
 (try go_frame)
 refine rdyH [7] ?_;refine AllReadyH.cons (o:=⟨some 10,_,_,_,_,_⟩) rfl (fun K hK=>?_) AllReadyH.nil
 (try go_simp)
 refine (HH.out.2.1 _ HB1.out).mono ?_;rintro e w2 ⟨v2,rfl,ht,hb⟩;have hbn:Below w0.heap.size w0 w2:=HB1.out.trans (hb.mono HB1.out.size);have hX2:=holdsUnder hX hb;have hY2:=holdsUnder hY hb;have HT1':=Lib.hid (BlM.under HT1.out hb (fun k hk=>by have h1:k<w1.heap.size:=hk.2;omega));obtain⟨g2,m2,e2,-⟩:=id ht;subst e2;have HT2':=Lib.hid ht;have HS2:=Lib.hid hb.size;have HB2:=Lib.hid hbn;clear hX hY hbn ht hb HT1;have hX:=hX2;have hY:=hY2;have HT1:=HT1';have HT2:=HT2';clear hX2 hY2 HT1' HT2'
 go_wp2_with fail
 refine hK.out _ _ ?_ (fun hHeld2=>?_)
 ·(try dsimp only)
  refine cells6 (t:=27) ?_
  repeat (first|with_reducible exact hX|with_reducible refine Holds.far ?_ hrx _|with_reducible refine Holds.alloc ?_ _|with_reducible refine Holds.drew ?_)
 clear hK K hHeld1
 (try go_frame)
 refine rdyH [10] ?_;refine AllReadyH.cons (o:=⟨some 13,_,_,_,_,_⟩) rfl (fun K hK=>?_) AllReadyH.nil
 (try go_simp)
 refine (HH.out.2.2.1 _ HB2.out).mono ?_;rintro e w3 ⟨v3,rfl,ht,hb⟩;have hbn:Below w0.heap.size w0 w3:=HB2.out.trans (hb.mono HB2.out.size);have hX2:=holdsUnder hX hb;have hY2:=holdsUnder hY hb;have HT1':=Lib.hid (BlM.under HT1.out hb (fun k hk=>by have h1:k<w1.heap.size:=hk.2;have:=HS2.out;omega));have HT2':=Lib.hid (HT2.out.below hb);obtain⟨g3,m3,e3,-⟩:=id ht;subst e3;have HT3':=Lib.hid ht;have HS3:=Lib.hid hb.size;have HB3:=Lib.hid hbn;clear hX hY hbn ht hb HT1 HT2;have hX:=hX2;have hY:=hY2;have HT1:=HT1';have HT2:=HT2';have HT3:=HT3';clear hX2 hY2 HT1' HT2' HT3'
 go_wp2_with fail
 refine hK.out _ _ ?_ (fun hHeld3=>?_)
 ·(try dsimp only)
  refine cells6 (t:=27) ?_
  repeat (first|with_reducible exact hX|with_reducible refine Holds.far ?_ hrx _|with_reducible refine Holds.alloc ?_ _|with_reducible refine Holds.drew ?_)
 clear hK K hHeld2
 (try go_frame)
 refine rdyH [13] ?_;refine AllReadyH.cons (o:=⟨some 16,_,_,_,_,_⟩) rfl (fun K hK=>?_) AllReadyH.nil
 (try go_simp)
 refine (HH.out.2.2.2.1 _ HB3.out).mono ?_;rintro e w4 ⟨v4,rfl,ht,hb⟩;have hbn:Below w0.heap.size w0 w4:=HB3.out.trans (hb.mono HB3.out.size);have hX2:=holdsUnder hX hb;have hY2:=holdsUnder hY hb;have HT1':=Lib.hid (BlM.under HT1.out hb (fun k hk=>by have h1:k<w1.heap.size:=hk.2;have:=HS2.out;have:=HS3.out;omega));have HT2':=Lib.hid (HT2.out.below hb);have HT3':=Lib.hid (HT3.out.below hb);obtain⟨g4,m4,e4,-⟩:=id ht;subst e4;rw[List.length_map] at ht;have HT4':=Lib.hid ht;have HS4:=Lib.hid hb.size;have HB4:=Lib.hid hbn;clear hX hY hbn ht hb HT1 HT2 HT3;have hX:=hX2;have hY:=hY2;have HT1:=HT1';have HT2:=HT2';have HT3:=HT3';have HT4:=HT4';clear hX2 hY2 HT1' HT2' HT3' HT4'
 go_wp2_with fail
 refine hK.out _ _ ?_ (fun hHeld4=>?_)
 ·(try dsimp only)
  refine cells6 (t:=27) ?_
  repeat (first|with_reducible exact hX|with_reducible refine Holds.far ?_ hrx _|with_reducible refine Holds.alloc ?_ _|with_reducible refine Holds.drew ?_)
 clear hK K hHeld3
 (try go_frame)
 refine rdyH [16] ?_;refine AllReadyH.cons (o:=⟨some 19,_,_,_,_,_⟩) rfl (fun K hK=>?_) AllReadyH.nil
 (try go_simp)
 refine (HH.out.2.2.2.2 _ HB4.out).mono ?_;rintro e w5 ⟨v5,rfl,ht,hb⟩;have hbn:Below w0.heap.size w0 w5:=HB4.out.trans (hb.mono HB4.out.size);have hX2:=holdsUnder hX hb;have hY2:=holdsUnder hY hb;have HT1':=Lib.hid (BlM.under HT1.out hb (fun k hk=>by have h1:k<w1.heap.size:=hk.2;have:=HS2.out;have:=HS3.out;have:=HS4.out;omega));have HT2':=Lib.hid (HT2.out.below hb);have HT3':=Lib.hid (HT3.out.below hb);have HT4':=Lib.hid (HT4.out.below hb);obtain⟨g5,m5,e5,-⟩:=id ht;subst e5;have HT5':=Lib.hid ht;have HS5:=Lib.hid hb.size;have HB5:=Lib.hid hbn;clear hX hY hbn ht hb HT1 HT2 HT3 HT4;have hX:=hX2;have hY:=hY2;have HT1:=HT1';have HT2:=HT2';have HT3:=HT3';have HT4:=HT4';have HT5:=HT5';clear hX2 hY2 HT1' HT2' HT3' HT4' HT5'
 go_wp2_with fail
 refine hK.out _ _ ?_ (fun hHeld5=>?_)
 ·(try dsimp only)
  refine cells6 (t:=27) ?_
  repeat (first|with_reducible exact hX|with_reducible refine Holds.far ?_ hrx _|with_reducible refine Holds.alloc ?_ _|with_reducible refine Holds.drew ?_)
 clear hK K hHeld4
 (try go_frame)
 refine tkH 17 20 ?_;refine rdyH [18] ?_;refine AllReadyH.cons rfl (fun K hK=>?_) AllReadyH.nil;obtain⟨a0,a1,a2,a3,a4,a5⟩:=cells6 hY;have f0:=hY.free 0;have f1:=hY.free 1;have f2:=hY.free 2;have f3:=hY.free 3;have f4:=hY.free 4;have f5:=hY.free 5;go_simp;refine name_worldB ?_;intro w9 hw9;have hch:Chg w5 w9 (fun k=>k=w.heap.size+1):=by
  rw[hw9]
  repeat (first|with_reducible exact Chg.refl _ _|with_reducible refine Chg.drew ?_|with_reducible refine chg_setB ?_ _ _ ?_|rfl)
 have hY9:Holds w9 (w.heap.size+1) 27 #[.string nm,.slice (some ⟨g1,0,none⟩) c.blocks.length m1,.slice (some ⟨g2,0,none⟩) c.diags.length m2,.slice (some ⟨g3,0,none⟩) c.files.length m3,.slice (some ⟨g4,0,none⟩) c.attrs.length m4,.slice (some ⟨g5,0,none⟩) c.unset.length m5]:=by
  rw[hw9]
  first|with_reducible exact holds_six hY|with_reducible exact (holds_six hY).drew
 have hX9:=hch.holds (g:=w.heap.size) (by omega) hX;have HF9:=hidH3 hch hw9 hs0;have HB9:=Lib.hid ((HB0.out.trans (HB5.out.mono HB0.out.size)).trans (hch.toBelow (B:=w.heap.size) (by have h1:=HB5.out.size;have h2:=HB0.out.size;omega) (fun k e=>by omega)));clear a0 a1 a2 a3 a4 a5 f0 f1 f2 f3 f4 f5 hw9 hch hX hY;have hX:=hX9;have hY:=hY9;clear hX9 hY9;refine hK.out _ _ ?_ (fun hHeld6=>?_)
 ·(try dsimp only)
  refine cells6 (t:=27) ?_
  repeat (first|with_reducible exact hX|with_reducible refine Holds.far ?_ hrx _|with_reducible refine Holds.alloc ?_ _|with_reducible refine Holds.drew ?_)
 clear hK K hHeld5
 (try go_frame)
 refine wpAnyH_done (by kernel_rfl) ?_ _;go_wp2
 (try simp only[Exit.inBlock,Exit.then])
 refine bodyPost_ret (results_row rfl _ _ (w.heap.size+1) _ _ _ _ rfl hY Tryz.underlying27 rfl Chapter_size) rfl ?_;have k1:=HS1.out;have k2:=HS2.out;have k3:=HS3.out;have k4:=HS4.out;have k5:=HS5.out;have k9:=HF9.out.1.size;have k0:=HF9.out.2.2;have k1':w0.heap.size≤w1.heap.size:=k1;refine⟨_,_,_,_,_,rfl,⟨?_,⟨_,FlatM.chg HT2.out HF9.out.1 (fun j hj e=>?_)⟩,⟨_,FlatM.chg HT3.out HF9.out.1 (fun j hj e=>?_)⟩,⟨_,FlatM.chg HT4.out HF9.out.1 (fun j hj e=>?_)⟩,⟨_,FlatM.chg HT5.out HF9.out.1 (fun j hj e=>?_)⟩⟩,HB9.out⟩
 ·refine BlM.go HT1.out HF9.out.1 (fun k hk=>?_) (fun k hk e=>?_)
  ·have h2:=hk.2
   show k<w9.heap.size
   omega
  ·have h1:w0.heap.size≤k:=hk.1;omega
 ·have h1:w1.heap.size≤j:=hj;omega
 ·have h1:w2.heap.size≤j:=hj;omega
 ·have h1:w3.heap.size≤j:=hj;omega
 ·have h1:w4.heap.size≤j:=hj;omega
theorem Find5_any {w:World}{S:Nat→Prop}{v:Value}{l:List Sc} (hl:ScS w S v l) (hS:∀k,S k→k<w.heap.size) (hn:l.length≤1000000000) (n:ByteArray) :
  Calls Tryz.prog 29 #[v,.string n] w fun e w'=>e=.returned (getV (findS l n))∧Below w.heap.size w w':=by
 obtain⟨A,c,rfl,hc,h1⟩:=hl;rw[List.length_map] at hc ⊢;obtain⟨nl,hnl⟩:∃nl,l.length=nl:=⟨_,rfl⟩;rw[hnl] at hc hn ⊢;have HN:=Lib.hid hnl;have H1:=Lib.hid h1;have HS:=Lib.hid hS;clear h1 hS hnl
 go_enter Tryz.func29,Tryz.ntmps29
 go_wp2_with fail
 go_loopg [6] nl (fun q i wr=>∃k:Nat,k+q=nl∧i=.int .i64 k∧Hid (Below w.heap.size w wr∧∀b∈l.take k,b.name≠n))
 case atStart=>exact⟨0,by omega,rfl,Lib.hid ⟨Below.refl _ _,fun b hb=>by simp at hb⟩⟩
 case round =>
  obtain⟨k,hk,rfl,HR⟩:=hrel
  by_cases hlt:k<nl
  ·obtain⟨a,ha⟩:∃a,l[k]? = some a:=⟨_,List.getElem?_eq_getElem (by rw[HN.out];exact hlt)⟩;obtain⟨b,off,rfl,hSb,q0,q1⟩:=H1.out k (scP a) (by rw[List.getElem?_map,ha];rfl);unfold scP at q0 q1;dsimp only at q0 q1;have r0:=(HR.out.1.cell (p:=⟨b,off+k*2,none⟩) (HS.out b hSb)).trans q0;have r1:=(HR.out.1.cell (p:=⟨b,off+k*2+1,none⟩) (HS.out b hSb)).trans q1;have HA:=Lib.hid ha;clear q0 q1 ha hSb;obtain⟨an,han⟩:∃an,a.name=an:=⟨_,rfl⟩;obtain⟨tx,htx⟩:∃tx,a.text=tx:=⟨_,rfl⟩;rw[han] at r0;rw[htx] at r1;have HT:=hidH2 han htx;clear han htx
   by_cases heq:an=n
   ·have hE:(an.toList==n.toList)=true:=by rw[toL_eq,decide_eq_true heq]
    have HQ:=Lib.hid heq;clear heq
    go_wp2_with fail
    go_ret2
    have hf:findS l n=some tx:=by
     unfold findS;have h2:l.find? (fun s=>decide (s.name=n))=some a:=by
      rw[List.find?_eq_some_iff_append];refine⟨by simp[HT.out.1,HQ.out],l.take k,l.drop (k+1),?_,fun b hb=>by simpa using HR.out.2 b hb⟩;obtain⟨hk2,hk3⟩:=List.getElem?_eq_some_iff.1 HA.out;rw[←hk3,List.getElem_cons_drop,List.take_append_drop]
     rw[h2];exact congrArg some HT.out.2
    rw[hf];exact⟨rfl,HR.out.1⟩
   ·have hE:(an.toList==n.toList)=false:=by rw[toL_eq,decide_eq_false heq]
    have HQ:=Lib.hid heq;clear heq
    go_wp2_with fail
    go_roundg (gk-1)
    case measure=>omega
    case rel=>exact⟨k+1,by omega,by go_num,Lib.hid ⟨HR.out.1,fun b hb=>by
     rw[List.take_add_one,HA.out] at hb
     rcases List.mem_append.1 hb with h|h
     ·exact HR.out.2 b h
     ·rw[Option.toList_some,List.mem_singleton] at h;rw[h,HT.out.1];exact HQ.out⟩⟩
  ·obtain rfl:k=nl:=by omega
   go_wp2_with fail
   go_ret2
   have hno:=HR.out.2;rw[List.take_of_length_le (by rw[HN.out];exact Nat.le_refl _)] at hno;have hf:findS l n=none:=by
    unfold findS;rw[Option.map_eq_none_iff,List.find?_eq_none];exact fun b hb=>by simpa using hno b hb
   rw[hf];exact⟨rfl,HR.out.1⟩
theorem Get4_any {w:World}{S:Nat→Prop}{v:Value}{l:List At} (hl:AtS w S v l) (hS:∀k,S k→k<w.heap.size) (hn:l.length≤1000000000) (n:ByteArray) :
  Calls Tryz.prog 30 #[v,.string n] w fun e w'=>e=.returned (getV (getA l n))∧Below w.heap.size w w':=by
 obtain⟨A,c,rfl,hc,h1⟩:=hl;rw[List.length_map] at hc ⊢;obtain⟨nl,hnl⟩:∃nl,l.length=nl:=⟨_,rfl⟩;rw[hnl] at hc hn ⊢;have HN:=Lib.hid hnl;have H1:=Lib.hid h1;have HS:=Lib.hid hS;clear h1 hS hnl
 go_enter Tryz.func30,Tryz.ntmps30
 go_wp2_with fail
 go_loopg [6] nl (fun q i wr=>∃k:Nat,k+q=nl∧i=.int .i64 k∧Hid (Below w.heap.size w wr∧∀b∈l.take k,b.name≠n))
 case atStart=>exact⟨0,by omega,rfl,Lib.hid ⟨Below.refl _ _,fun b hb=>by simp at hb⟩⟩
 case round =>
  obtain⟨k,hk,rfl,HR⟩:=hrel
  by_cases hlt:k<nl
  ·obtain⟨a,ha⟩:∃a,l[k]? = some a:=⟨_,List.getElem?_eq_getElem (by rw[HN.out];exact hlt)⟩;obtain⟨b,off,rfl,hSb,q0,q1⟩:=H1.out k (atP a) (by rw[List.getElem?_map,ha];rfl);unfold atP at q0 q1;dsimp only at q0 q1;have r0:=(HR.out.1.cell (p:=⟨b,off+k*2,none⟩) (HS.out b hSb)).trans q0;have r1:=(HR.out.1.cell (p:=⟨b,off+k*2+1,none⟩) (HS.out b hSb)).trans q1;have HA:=Lib.hid ha;clear q0 q1 ha hSb;obtain⟨an,han⟩:∃an,a.name=an:=⟨_,rfl⟩;obtain⟨tx,htx⟩:∃tx,a.value=tx:=⟨_,rfl⟩;rw[han] at r0;rw[htx] at r1;have HT:=hidH2 han htx;clear han htx
   by_cases heq:an=n
   ·have hE:(an.toList==n.toList)=true:=by rw[toL_eq,decide_eq_true heq]
    have HQ:=Lib.hid heq;clear heq
    go_wp2_with fail
    go_ret2
    have hf:getA l n=some tx:=by
     unfold getA;have h2:l.find? (fun s=>decide (s.name=n))=some a:=by
      rw[List.find?_eq_some_iff_append];refine⟨by simp[HT.out.1,HQ.out],l.take k,l.drop (k+1),?_,fun b hb=>by simpa using HR.out.2 b hb⟩;obtain⟨hk2,hk3⟩:=List.getElem?_eq_some_iff.1 HA.out;rw[←hk3,List.getElem_cons_drop,List.take_append_drop]
     rw[h2];exact congrArg some HT.out.2
    rw[hf];exact⟨rfl,HR.out.1⟩
   ·have hE:(an.toList==n.toList)=false:=by rw[toL_eq,decide_eq_false heq]
    have HQ:=Lib.hid heq;clear heq
    go_wp2_with fail
    go_roundg (gk-1)
    case measure=>omega
    case rel=>exact⟨k+1,by omega,by go_num,Lib.hid ⟨HR.out.1,fun b hb=>by
     rw[List.take_add_one,HA.out] at hb
     rcases List.mem_append.1 hb with h|h
     ·exact HR.out.2 b h
     ·rw[Option.toList_some,List.mem_singleton] at h;rw[h,HT.out.1];exact HQ.out⟩⟩
  ·obtain rfl:k=nl:=by omega
   go_wp2_with fail
   go_ret2
   have hno:=HR.out.2;rw[List.take_of_length_le (by rw[HN.out];exact Nat.le_refl _)] at hno;have hf:getA l n=none:=by
    unfold getA;rw[Option.map_eq_none_iff,List.find?_eq_none];exact fun b hb=>by simpa using hno b hb
   rw[hf];exact⟨rfl,HR.out.1⟩
theorem value4_any (s:ByteArray) (w:World) (hs:s.size≤1000000000000):Calls Tryz.prog 45 #[.string s] w fun e w'=>e=.returned (.bool (validB s.data.toList))∧w=w':=by
 have HB:=Lib.hid (validB_eq s)
 go_enter Tryz.func45,Tryz.ntmps45
 go_wp2_with fail
 go_loopg [3] s.size (fun gk i wr=>wr=w∧∃k:Nat,k+gk=s.size∧i=.int .i64 k∧Hid ((s.data.toList.take k).all okV=true))
 case atStart=>exact⟨rfl,0,by omega,rfl,Lib.hid rfl⟩
 case round =>
  obtain⟨rfl,k,hk,rfl,HA⟩:=hrel
  by_cases hlt:k<s.size
  ·by_cases h1:s[k].toNat<32
   ·have hn:Hid (okV s[k]=false):=Lib.hid (by unfold okV;rw[decide_eq_false (by omega)];rfl)
    go_wp2_with fail
    go_ret
    refine⟨ret_bool ?_,rfl⟩;rw[HB.out,all_not okV s k hlt hn.out,Bool.and_false]
   ·by_cases h2:s[k].toNat=127
    ·have hn:Hid (okV s[k]=false):=Lib.hid (by unfold okV;rw[u8_eq];simp[h2])
     go_wp2_with fail
     go_ret
     refine⟨ret_bool ?_,rfl⟩;rw[HB.out,all_not okV s k hlt hn.out,Bool.and_false]
    ·have h2i:((s[k].toNat:Int)==127)=false:=by rw[beq_eq_false_iff_ne];omega
     have hn:Hid (okV s[k]=true):=Lib.hid (by unfold okV;rw[u8_eq,decide_eq_true (by omega)];simp[h2])
     go_wp2_with fail
     go_roundg (gk-1)
     case measure=>omega
     case rel=>exact⟨rfl,k+1,by omega,by go_num,Lib.hid (by rw[all_take_ok okV s k hlt,HA.out,hn.out];rfl)⟩
  ·obtain rfl:k=s.size:=by omega
   have hall:s.data.toList.all okV=true:=by
    have h:=HA.out
    rwa [List.take_of_length_le (by rw[size_lst];exact Nat.le_refl _)] at h
   have HL:=Lib.hid hall
   by_cases hle:s.size≤1024
   ·have hd:decide ((s.size:Int)≤1024)=true:=decide_eq_true (by omega)
    go_wp2_with fail
    go_ret
    refine⟨ret_bool ?_,rfl⟩;rw[HB.out,HL.out,Bool.and_true,decide_eq_true hle]
   ·have hd:decide ((s.size:Int)≤1024)=false:=decide_eq_false (by omega)
    go_wp2_with fail
    go_ret
    refine⟨ret_bool ?_,rfl⟩;rw[HB.out,HL.out,Bool.and_true,decide_eq_false hle]
theorem rletter_any (c:UInt8) (w:World):Calls Tryz.prog 66 #[byteV c] w fun e w'=>e=.returned (.bool (solid c))∧w=w':=by
 unfold byteV solid;simp only[UInt8.le_iff_toNat_le,show UInt8.toNat 65=65 from rfl,show UInt8.toNat 90=90 from rfl,show UInt8.toNat 97=97 from rfl,show UInt8.toNat 122=122 from rfl,show UInt8.toNat 48=48 from rfl,show UInt8.toNat 57=57 from rfl];generalize c.toNat=n
 go_enter Tryz.func66,Tryz.ntmps66
 go_wp2
 all_goals
  go_ret
  refine⟨ret_bool ?_,rfl⟩;rw[Bool.eq_iff_iff];simp only[Bool.or_eq_true,Bool.and_eq_true,beq_iff_eq,decide_eq_true_eq,reduceCtorEq,iff_true,true_iff,false_iff,Bool.false_eq_true];omega
theorem solid_letter (c:UInt8) (h:solid c=true):letterB c=decide (57<c.toNat):=by
 unfold solid at h;unfold letterB;simp only[UInt8.le_iff_toNat_le,show UInt8.toNat 65=65 from rfl,show UInt8.toNat 90=90 from rfl,show UInt8.toNat 97=97 from rfl,show UInt8.toNat 122=122 from rfl,show UInt8.toNat 48=48 from rfl,show UInt8.toNat 57=57 from rfl] at *;rw[Bool.eq_iff_iff];simp only[Bool.or_eq_true,Bool.and_eq_true,decide_eq_true_eq] at *;omega
theorem letter_solid {c:UInt8} (h:letterB c=true):solid c=true:=by
 unfold letterB at h;unfold solid;simp only[Bool.or_eq_true] at *;exact .inl h
theorem rname08_any (s:ByteArray) (w:World) (hs:s.size≤100000):Calls Tryz.prog 44 #[.string s] w fun e w'=>e=.returned (.bool (nameB s.data.toList))∧w=w':=by
 have cl:=fun c w=>rletter_any c w
 unfold byteV at cl;have hlen:s.data.toList.length=s.size:=by simp
 have HB:Hid (nameB s.data.toList=(decide (1≤s.size)&&decide (s.size≤60)&&letterB (s.data.toList.headD 0)&&s.data.toList.all okB)):=by
  show nameB s.data.toList=_
  unfold nameB;rw[hlen];rfl
 clear hlen
 go_enter Tryz.func44,Tryz.ntmps44
 go_wp2_with (first
  | (go_at_call 66;refine (cl _ _).mono ?_;rintro e w' ⟨rfl,rfl⟩)
  | fail)
 ·go_ret
  refine⟨ret_bool ?_,rfl⟩;rename_i h1 h2 h3 h4 h5;rw[HB.out,headD_get s h3,solid_letter _ h4,decide_eq_false (show ¬57<(s[0]'h3).toNat by omega)];simp
 ·have h3:0<s.size:=‹0<s.size›;have h4:solid (s[0]'h3)=true:=by assumption
  have h5:(1≤(s.size:Int)∧(s.size:Int)≤60)∧57<((s[0]'h3).toNat:Int):=by assumption
  have hl0:letterB (s.data.toList.headD 0)=true:=by rw[headD_get s h3,solid_letter _ h4];exact decide_eq_true (show 57<(s[0]'h3).toNat by omega)
  have HL:=Lib.hid hl0;have HR:=Lib.hid h5.1;clear h4 h5 hl0
  go_loopg [3] s.size (fun gk i wr=>wr=w∧∃k:Nat,k+gk=s.size∧i=.int .i64 k∧(s.data.toList.take k).all okB=true)
  case atStart=>exact⟨rfl,0,by omega,rfl,rfl⟩
  case round =>
   obtain⟨rfl,k,hk,rfl,hall⟩:=hrel;have HA:=Lib.hid hall;clear hall
   go_wp2_with (first
    | (go_at_call 66;refine (cl _ _).mono ?_;rintro e w' ⟨rfl,rfl⟩)
    | fail)
   ·go_roundg (gk-1)
    case measure=>omega
    case rel=>exact⟨rfl,k+1,by omega,by go_num,by rw[all_take_succ s k ‹_›,HA.out];unfold okB;rw[‹solid s[k]=true›];rfl⟩
   ·go_ret
    refine⟨ret_bool ?_,rfl⟩;have hk2:k<s.size:=by assumption
    have h5:¬s[k].toNat=45:=fun e=>by
     have h6:((s[k].toNat:Int) != 45)=true:=by assumption
     rw[e] at h6;simp at h6
    have h7:okB s[k]=false:=by
     unfold okB;rw[Bool.eq_false_iff.2 ‹¬solid s[k]=true›,u8_eq,show UInt8.toNat 45=45 from rfl,decide_eq_false h5];rfl
    have h8:s.data.toList.all okB=false:=by
     rw[Bool.eq_false_iff];intro h;have h9:=all_take_succ s k hk2;rw[h7,Bool.and_false] at h9;rw[Bool.eq_false_iff] at h9;refine h9 (List.all_eq_true.2 fun x hx=>List.all_eq_true.1 h x (List.mem_of_mem_take hx))
    rw[HB.out,h8,Bool.and_false]
   ·go_roundg (gk-1)
    case measure=>omega
    case rel =>
     have h5:s[k].toNat=45:=by
      have h6:((s[k].toNat:Int) != 45)=false:=by assumption
      simp at h6;omega
     exact⟨rfl,k+1,by omega,by go_num,by rw[all_take_succ s k ‹_›,HA.out];unfold okB;rw[u8_eq,show UInt8.toNat 45=45 from rfl,decide_eq_true h5,Bool.or_true];rfl⟩
   ·go_ret
    refine⟨ret_bool ?_,rfl⟩;have hk2:k=s.size:=by omega
    have h8:=HA.out;have h9:=HR.out;rw[List.take_of_length_le (by simp;omega)] at h8;rw[HB.out,h8,HL.out,decide_eq_true (show 1≤s.size by omega),decide_eq_true (show s.size≤60 by omega)];rfl
 ·go_ret
  refine⟨ret_bool ?_,rfl⟩;rename_i h1 h2 h3 h4;have h5:letterB s[0]=false:=by
   cases h6:letterB s[0] with
   | false=>rfl
   | true=>exact absurd (letter_solid h6) h4
  rw[HB.out,headD_get s h3,h5];simp
 ·go_ret
  refine⟨ret_bool ?_,rfl⟩;rw[HB.out,decide_eq_false (by omega:¬s.size≤60)];simp
 ·go_ret
  refine⟨ret_bool ?_,rfl⟩;rw[HB.out,decide_eq_false (by omega:¬1≤s.size)];simp
theorem Check4_any {w:World}{S:Nat→Prop}{v:Value}{l:List At} (hl:AtS w S v l) (hS:∀k,S k→k<w.heap.size) (hn:l.length≤1000000000) (hz:∀a∈l,a.name.size≤100000∧a.value.size≤100000) :
  Calls Tryz.prog 28 #[v] w fun e w'=>e=.returned (.bool (checkB l))∧Below w.heap.size w w':=by
 obtain⟨A,c,rfl,hc,h1⟩:=hl;rw[List.length_map] at hc ⊢;obtain⟨nl,hnl⟩:∃nl,l.length=nl:=⟨_,rfl⟩;rw[hnl] at hc hn ⊢;have HN:=Lib.hid hnl;have H1:=Lib.hid h1;have HS:=Lib.hid hS;have HZ:=Lib.hid hz;clear h1 hS hnl hz
 by_cases hbig:64<nl
 ·have hb2:¬(nl:Int)≤64:=by omega
  have hb3:(64:Int)<nl:=by omega
  go_enter Tryz.func28,Tryz.ntmps28
  go_wp2_with fail
  go_ret
  refine⟨ret_bool ?_,Below.refl _ _⟩;unfold checkB;rw[HN.out,decide_eq_false (by omega)];rfl
 have hb2:¬(64:Int)<nl:=by omega
 go_enter Tryz.func28,Tryz.ntmps28
 go_wp2_with fail
 go_loopg [3] nl (fun q i wr=>∃k:Nat,k+q=nl∧i=.int .i64 k∧Hid (Below w.heap.size w wr∧someB l k=true))
 case atStart=>exact⟨0,by omega,rfl,Lib.hid ⟨Below.refl _ _,rfl⟩⟩
 case round =>
  obtain⟨k,hk,rfl,HR⟩:=hrel
  by_cases hlt:k<nl
  ·obtain⟨a,ha⟩:∃a,l[k]? = some a:=⟨_,List.getElem?_eq_getElem (by rw[HN.out];exact hlt)⟩;obtain⟨b,off,rfl,hSb,q0,q1⟩:=H1.out k (atP a) (by rw[List.getElem?_map,ha];rfl);unfold atP at q0 q1;dsimp only at q0 q1;have r0:=(HR.out.1.cell (p:=⟨b,off+k*2,none⟩) (HS.out b hSb)).trans q0;have r1:=(HR.out.1.cell (p:=⟨b,off+k*2+1,none⟩) (HS.out b hSb)).trans q1;have hza:=HZ.out a (List.mem_of_getElem? ha);have hbw:b<wr.heap.size:=Nat.lt_of_lt_of_le (HS.out b hSb) HR.out.1.size;have cn:=fun W=>rname08_any a.name W (by have:=hza.1;omega)
   have cv:=fun W=>value4_any a.value W (by omega)
   have hat:atB a=(nameB a.name.data.toList&&validB a.value.data.toList):=rfl;obtain⟨an,han⟩:∃an,a.name=an:=⟨_,rfl⟩;obtain⟨tx,htx⟩:∃tx,a.value=tx:=⟨_,rfl⟩;rw[han] at r0 cn hat;rw[htx] at r1 cv hat;obtain⟨bn,hbn⟩:∃bn,nameB an.data.toList=bn:=⟨_,rfl⟩;obtain⟨bv,hbv⟩:∃bv,validB tx.data.toList=bv:=⟨_,rfl⟩;rw[hbn] at cn hat;rw[hbv] at cv hat;have HA:=hidH4 ha han htx hat;have HC:=hidH2 cn cv;clear q0 q1 ha hSb han htx hbn hbv hza hat cn cv;cases bn with
   | false =>
    go_wp2_with fail
    refine wp_region_held_drew (S:=(fun w'=>w'.cell? ⟨b,off+k*2,none⟩=some (.string an)∧w'.cell? ⟨b,off+k*2+1,none⟩=some (.string tx))) (by kernel_rfl) ?_ (fun hHeld0=>?_)
    ·(try dsimp only)
     all_goals exact⟨r0,r1⟩
    refine tkH 0 13 ?_;refine tkH 1 14 ?_;refine tkH 2 15 ?_;refine tkH 3 16 ?_;refine tkH 4 17 ?_;refine rdyH [5] ?_;refine AllReadyH.cons (o:=⟨some 18,_,_,_,_,_⟩) rfl (fun K hK=>?_) AllReadyH.nil;go_simp;refine (HC.out.1 _).mono ?_;rintro e w2 ⟨rfl,rfl⟩
    go_wp2_with fail
    refine hK.out _ _ ?_ (fun hHeld1=>?_)
    ·(try dsimp only)
     all_goals exact⟨r0,r1⟩
    clear hK K hHeld0
    (try go_frame)
    refine tkH 6 19 ?_;refine tkH 7 20 ?_;refine wpAnyH_take (i:=8) (oi:=⟨some 21,_,_,_,_,_⟩) (v:=undef) rfl (by kernel_rfl) (by kernel_rfl) (by kernel_rfl) (fun _ _ _ h=>h) (Or.inr ⟨by kernel_rfl,rfl⟩) (by assumption) ?_
    (try go_frame)
    refine wpAnyH_take (i:=9) (oi:=⟨some 22,_,_,_,_,_⟩) (v:=undef) rfl (by kernel_rfl) (by kernel_rfl) (by kernel_rfl) (fun _ _ _ h=>h) (Or.inr ⟨by kernel_rfl,rfl⟩) (by assumption) ?_
    (try go_frame)
    refine wpAnyH_take (i:=10) (oi:=⟨some 23,_,_,_,_,_⟩) (v:=undef) rfl (by kernel_rfl) (by kernel_rfl) (by kernel_rfl) (fun _ _ _ h=>h) (Or.inr ⟨by kernel_rfl,rfl⟩) (by assumption) ?_
    (try go_frame)
    refine wpAnyH_take (i:=11) (oi:=⟨some 24,_,_,_,_,_⟩) (v:=undef) rfl (by kernel_rfl) (by kernel_rfl) (by kernel_rfl) (fun _ _ _ h=>h) (Or.inr ⟨by kernel_rfl,rfl⟩) (by assumption) ?_
    (try go_frame)
    refine wpAnyH_take (i:=12) (oi:=⟨some 25,_,_,_,_,_⟩) (v:=undef) rfl (by kernel_rfl) (by kernel_rfl) (by kernel_rfl) (fun _ _ _ h=>h) (Or.inr ⟨by kernel_rfl,rfl⟩) (by assumption) ?_
    (try go_frame)
    refine wpAnyH_take (i:=13) (oi:=⟨some 26,_,_,_,_,_⟩) (v:=undef) rfl (by kernel_rfl) (by kernel_rfl) (by kernel_rfl) (fun _ _ _ h=>h) (Or.inr ⟨by kernel_rfl,rfl⟩) (by assumption) ?_
    (try go_frame)
    refine wpAnyH_take (i:=14) (oi:=⟨some 27,_,_,_,_,_⟩) (v:=undef) rfl (by kernel_rfl) (by kernel_rfl) (by kernel_rfl) (fun _ _ _ h=>h) (Or.inr ⟨by kernel_rfl,rfl⟩) (by assumption) ?_
    (try go_frame)
    refine tkH 15 28 ?_;refine tkH 16 29 ?_;refine wpAnyH_take (i:=17) (oi:=⟨some 30,_,_,_,_,_⟩) (v:=undef) rfl (by kernel_rfl) (by kernel_rfl) (by kernel_rfl) (fun _ _ _ h=>h) (Or.inr ⟨by kernel_rfl,rfl⟩) (by assumption) ?_
    (try go_frame)
    refine wpAnyH_take (i:=18) (oi:=⟨some 31,_,_,_,_,_⟩) (v:=undef) rfl (by kernel_rfl) (by kernel_rfl) (by kernel_rfl) (fun _ _ _ h=>h) (Or.inr ⟨by kernel_rfl,rfl⟩) (by assumption) ?_
    (try go_frame)
    refine wpAnyH_take (i:=19) (oi:=⟨some 32,_,_,_,_,_⟩) (v:=undef) rfl (by kernel_rfl) (by kernel_rfl) (by kernel_rfl) (fun _ _ _ h=>h) (Or.inr ⟨by kernel_rfl,rfl⟩) (by assumption) ?_
    (try go_frame)
    refine wpAnyH_take (i:=20) (oi:=⟨some 33,_,_,_,_,_⟩) (v:=undef) rfl (by kernel_rfl) (by kernel_rfl) (by kernel_rfl) (fun _ _ _ h=>h) (Or.inr ⟨by kernel_rfl,rfl⟩) (by assumption) ?_
    (try go_frame)
    refine wpAnyH_take (i:=21) (oi:=⟨some 34,_,_,_,_,_⟩) (v:=undef) rfl (by kernel_rfl) (by kernel_rfl) (by kernel_rfl) (fun _ _ _ h=>h) (Or.inr ⟨by kernel_rfl,rfl⟩) (by assumption) ?_
    (try go_frame)
    refine wpAnyH_take (i:=22) (oi:=⟨some 35,_,_,_,_,_⟩) (v:=undef) rfl (by kernel_rfl) (by kernel_rfl) (by kernel_rfl) (fun _ _ _ h=>h) (Or.inr ⟨by kernel_rfl,rfl⟩) (by assumption) ?_
    (try go_frame)
    refine wpAnyH_take (i:=23) (oi:=⟨some 36,_,_,_,_,_⟩) (v:=undef) rfl (by kernel_rfl) (by kernel_rfl) (by kernel_rfl) (fun _ _ _ h=>h) (Or.inr ⟨by kernel_rfl,rfl⟩) (by assumption) ?_
    (try go_frame)
    refine wpAnyH_take (i:=24) (oi:=⟨some 37,_,_,_,_,_⟩) (v:=undef) rfl (by kernel_rfl) (by kernel_rfl) (by kernel_rfl) (fun _ _ _ h=>h) (Or.inr ⟨by kernel_rfl,rfl⟩) (by assumption) ?_
    (try go_frame)
    refine wpAnyH_take (i:=25) (oi:=⟨some 38,_,_,_,_,_⟩) (v:=undef) rfl (by kernel_rfl) (by kernel_rfl) (by kernel_rfl) (fun _ _ _ h=>h) (Or.inr ⟨by kernel_rfl,rfl⟩) (by assumption) ?_
    (try go_frame)
    refine wpAnyH_take (i:=26) (oi:=⟨some 39,_,_,_,_,_⟩) (v:=undef) rfl (by kernel_rfl) (by kernel_rfl) (by kernel_rfl) (fun _ _ _ h=>h) (Or.inr ⟨by kernel_rfl,rfl⟩) (by assumption) ?_
    (try go_frame)
    refine wpAnyH_take (i:=27) (oi:=⟨some 40,_,_,_,_,_⟩) (v:=undef) rfl (by kernel_rfl) (by kernel_rfl) (by kernel_rfl) (fun _ _ _ h=>h) (Or.inr ⟨by kernel_rfl,rfl⟩) (by assumption) ?_
    (try go_frame)
    refine wpAnyH_take (i:=28) (oi:=⟨some 41,_,_,_,_,_⟩) (v:=undef) rfl (by kernel_rfl) (by kernel_rfl) (by kernel_rfl) (fun _ _ _ h=>h) (Or.inr ⟨by kernel_rfl,rfl⟩) (by assumption) ?_
    (try go_frame)
    refine wpAnyH_take (i:=29) (oi:=⟨some 42,_,_,_,_,_⟩) (v:=undef) rfl (by kernel_rfl) (by kernel_rfl) (by kernel_rfl) (fun _ _ _ h=>h) (Or.inr ⟨by kernel_rfl,rfl⟩) (by assumption) ?_
    (try go_frame)
    refine wpAnyH_take (i:=30) (oi:=⟨some 43,_,_,_,_,_⟩) (v:=undef) rfl (by kernel_rfl) (by kernel_rfl) (by kernel_rfl) (fun _ _ _ h=>h) (Or.inr ⟨by kernel_rfl,rfl⟩) (by assumption) ?_
    (try go_frame)
    refine wpAnyH_take (i:=31) (oi:=⟨some 44,_,_,_,_,_⟩) (v:=undef) rfl (by kernel_rfl) (by kernel_rfl) (by kernel_rfl) (fun _ _ _ h=>h) (Or.inr ⟨by kernel_rfl,rfl⟩) (by assumption) ?_
    (try go_frame)
    refine wpAnyH_take (i:=32) (oi:=⟨some 45,_,_,_,_,_⟩) (v:=undef) rfl (by kernel_rfl) (by kernel_rfl) (by kernel_rfl) (fun _ _ _ h=>h) (Or.inr ⟨by kernel_rfl,rfl⟩) (by assumption) ?_
    (try go_frame)
    refine tkH 33 46 ?_;refine wpAnyH_done (by kernel_rfl) ?_ _;go_wp2
    go_ret
    exact⟨ret_bool (check_all (some_bad HA.out.1 HA.out.2.2.2)).symm,by first|exact HR.out.1|exact Below.drewA HR.out.1 1|exact Below.drewA HR.out.1 _|exact HR.out.1.drew⟩
   | true =>
    cases bv with
    | false =>
     go_wp2_with fail
     refine wp_region_held_drew (S:=(fun w'=>w'.cell? ⟨b,off+k*2,none⟩=some (.string an)∧w'.cell? ⟨b,off+k*2+1,none⟩=some (.string tx))) (by kernel_rfl) ?_ (fun hHeld0=>?_)
     ·(try dsimp only)
      all_goals exact⟨r0,r1⟩
     refine tkH 0 13 ?_;refine tkH 1 14 ?_;refine tkH 2 15 ?_;refine tkH 3 16 ?_;refine tkH 4 17 ?_;refine rdyH [5] ?_;refine AllReadyH.cons (o:=⟨some 18,_,_,_,_,_⟩) rfl (fun K hK=>?_) AllReadyH.nil;go_simp;refine (HC.out.1 _).mono ?_;rintro e w2 ⟨rfl,rfl⟩
     go_wp2_with fail
     refine hK.out _ _ ?_ (fun hHeld1=>?_)
     ·(try dsimp only)
      all_goals exact⟨r0,r1⟩
     clear hK K hHeld0
     (try go_frame)
     refine tkH 6 19 ?_;refine tkH 7 20 ?_;refine tkH 8 21 ?_;refine tkH 9 22 ?_;refine tkH 10 23 ?_;refine tkH 11 24 ?_;refine tkH 12 25 ?_;refine rdyH [13] ?_;refine AllReadyH.cons (o:=⟨some 26,_,_,_,_,_⟩) rfl (fun K hK=>?_) AllReadyH.nil
     (try go_simp)
     refine (HC.out.2 _).mono ?_;rintro e w2 ⟨rfl,rfl⟩
     go_wp2_with fail
     refine hK.out _ _ ?_ (fun hHeld2=>?_)
     ·(try dsimp only)
      all_goals exact⟨r0,r1⟩
     clear hK K hHeld1
     (try go_frame)
     refine tkH 14 27 ?_;refine tkH 15 28 ?_;refine tkH 16 29 ?_;refine wpAnyH_take (i:=17) (oi:=⟨some 30,_,_,_,_,_⟩) (v:=undef) rfl (by kernel_rfl) (by kernel_rfl) (by kernel_rfl) (fun _ _ _ h=>h) (Or.inr ⟨by kernel_rfl,rfl⟩) (by assumption) ?_
     (try go_frame)
     refine wpAnyH_take (i:=18) (oi:=⟨some 31,_,_,_,_,_⟩) (v:=undef) rfl (by kernel_rfl) (by kernel_rfl) (by kernel_rfl) (fun _ _ _ h=>h) (Or.inr ⟨by kernel_rfl,rfl⟩) (by assumption) ?_
     (try go_frame)
     refine wpAnyH_take (i:=19) (oi:=⟨some 32,_,_,_,_,_⟩) (v:=undef) rfl (by kernel_rfl) (by kernel_rfl) (by kernel_rfl) (fun _ _ _ h=>h) (Or.inr ⟨by kernel_rfl,rfl⟩) (by assumption) ?_
     (try go_frame)
     refine wpAnyH_take (i:=20) (oi:=⟨some 33,_,_,_,_,_⟩) (v:=undef) rfl (by kernel_rfl) (by kernel_rfl) (by kernel_rfl) (fun _ _ _ h=>h) (Or.inr ⟨by kernel_rfl,rfl⟩) (by assumption) ?_
     (try go_frame)
     refine wpAnyH_take (i:=21) (oi:=⟨some 34,_,_,_,_,_⟩) (v:=undef) rfl (by kernel_rfl) (by kernel_rfl) (by kernel_rfl) (fun _ _ _ h=>h) (Or.inr ⟨by kernel_rfl,rfl⟩) (by assumption) ?_
     (try go_frame)
     refine wpAnyH_take (i:=22) (oi:=⟨some 35,_,_,_,_,_⟩) (v:=undef) rfl (by kernel_rfl) (by kernel_rfl) (by kernel_rfl) (fun _ _ _ h=>h) (Or.inr ⟨by kernel_rfl,rfl⟩) (by assumption) ?_
     (try go_frame)
     refine wpAnyH_take (i:=23) (oi:=⟨some 36,_,_,_,_,_⟩) (v:=undef) rfl (by kernel_rfl) (by kernel_rfl) (by kernel_rfl) (fun _ _ _ h=>h) (Or.inr ⟨by kernel_rfl,rfl⟩) (by assumption) ?_
     (try go_frame)
     refine wpAnyH_take (i:=24) (oi:=⟨some 37,_,_,_,_,_⟩) (v:=undef) rfl (by kernel_rfl) (by kernel_rfl) (by kernel_rfl) (fun _ _ _ h=>h) (Or.inr ⟨by kernel_rfl,rfl⟩) (by assumption) ?_
     (try go_frame)
     refine wpAnyH_take (i:=25) (oi:=⟨some 38,_,_,_,_,_⟩) (v:=undef) rfl (by kernel_rfl) (by kernel_rfl) (by kernel_rfl) (fun _ _ _ h=>h) (Or.inr ⟨by kernel_rfl,rfl⟩) (by assumption) ?_
     (try go_frame)
     refine wpAnyH_take (i:=26) (oi:=⟨some 39,_,_,_,_,_⟩) (v:=undef) rfl (by kernel_rfl) (by kernel_rfl) (by kernel_rfl) (fun _ _ _ h=>h) (Or.inr ⟨by kernel_rfl,rfl⟩) (by assumption) ?_
     (try go_frame)
     refine wpAnyH_take (i:=27) (oi:=⟨some 40,_,_,_,_,_⟩) (v:=undef) rfl (by kernel_rfl) (by kernel_rfl) (by kernel_rfl) (fun _ _ _ h=>h) (Or.inr ⟨by kernel_rfl,rfl⟩) (by assumption) ?_
     (try go_frame)
     refine wpAnyH_take (i:=28) (oi:=⟨some 41,_,_,_,_,_⟩) (v:=undef) rfl (by kernel_rfl) (by kernel_rfl) (by kernel_rfl) (fun _ _ _ h=>h) (Or.inr ⟨by kernel_rfl,rfl⟩) (by assumption) ?_
     (try go_frame)
     refine wpAnyH_take (i:=29) (oi:=⟨some 42,_,_,_,_,_⟩) (v:=undef) rfl (by kernel_rfl) (by kernel_rfl) (by kernel_rfl) (fun _ _ _ h=>h) (Or.inr ⟨by kernel_rfl,rfl⟩) (by assumption) ?_
     (try go_frame)
     refine wpAnyH_take (i:=30) (oi:=⟨some 43,_,_,_,_,_⟩) (v:=undef) rfl (by kernel_rfl) (by kernel_rfl) (by kernel_rfl) (fun _ _ _ h=>h) (Or.inr ⟨by kernel_rfl,rfl⟩) (by assumption) ?_
     (try go_frame)
     refine wpAnyH_take (i:=31) (oi:=⟨some 44,_,_,_,_,_⟩) (v:=undef) rfl (by kernel_rfl) (by kernel_rfl) (by kernel_rfl) (fun _ _ _ h=>h) (Or.inr ⟨by kernel_rfl,rfl⟩) (by assumption) ?_
     (try go_frame)
     refine wpAnyH_take (i:=32) (oi:=⟨some 45,_,_,_,_,_⟩) (v:=undef) rfl (by kernel_rfl) (by kernel_rfl) (by kernel_rfl) (fun _ _ _ h=>h) (Or.inr ⟨by kernel_rfl,rfl⟩) (by assumption) ?_
     (try go_frame)
     refine tkH 33 46 ?_;refine wpAnyH_done (by kernel_rfl) ?_ _;go_wp2
     go_ret
     exact⟨ret_bool (check_all (some_bad HA.out.1 HA.out.2.2.2)).symm,by first|exact HR.out.1|exact Below.drewA HR.out.1 1|exact Below.drewA HR.out.1 _|exact HR.out.1.drew⟩
    | true =>
     cases k with
     | zero =>
      rw[Nat.zero_mul,Nat.add_zero] at r0 r1;rw[show ((0:Nat):Int)=0 from rfl]
      go_wp2_with fail
      refine wp_region_held_drew (S:=(fun w'=>w'.cell? ⟨b,off,none⟩=some (.string an)∧w'.cell? ⟨b,off+1,none⟩=some (.string tx))) (by kernel_rfl) ?_ (fun hHeld0=>?_)
      ·(try dsimp only)
       all_goals exact⟨r0,r1⟩
      refine tkH 0 13 ?_;refine tkH 1 14 ?_;refine tkH 2 15 ?_;refine tkH 3 16 ?_;refine tkH 4 17 ?_;refine rdyH [5] ?_;refine AllReadyH.cons (o:=⟨some 18,_,_,_,_,_⟩) rfl (fun K hK=>?_) AllReadyH.nil;go_simp;refine (HC.out.1 _).mono ?_;rintro e w2 ⟨rfl,rfl⟩
      go_wp2_with fail
      refine hK.out _ _ ?_ (fun hHeld1=>?_)
      ·(try dsimp only)
       all_goals exact⟨r0,r1⟩
      clear hK K hHeld0
      (try go_frame)
      refine tkH 6 19 ?_;refine tkH 7 20 ?_;refine tkH 8 21 ?_;refine tkH 9 22 ?_;refine tkH 10 23 ?_;refine tkH 11 24 ?_;refine tkH 12 25 ?_;refine rdyH [13] ?_;refine AllReadyH.cons (o:=⟨some 26,_,_,_,_,_⟩) rfl (fun K hK=>?_) AllReadyH.nil
      (try go_simp)
      refine (HC.out.2 _).mono ?_;rintro e w2 ⟨rfl,rfl⟩
      go_wp2_with fail
      refine hK.out _ _ ?_ (fun hHeld2=>?_)
      ·(try dsimp only)
       all_goals exact⟨r0,r1⟩
      clear hK K hHeld1
      (try go_frame)
      refine tkH 14 27 ?_;refine tkH 15 28 ?_;refine tkH 16 29 ?_;refine tkH 17 30 ?_;refine tkH 18 31 ?_;refine tkH 19 32 ?_;refine wpAnyH_take (i:=20) (oi:=⟨some 33,_,_,_,_,_⟩) (v:=undef) rfl (by kernel_rfl) (by kernel_rfl) (by kernel_rfl) (fun _ _ _ h=>h) (Or.inr ⟨by kernel_rfl,rfl⟩) (by assumption) ?_
      (try go_frame)
      refine wpAnyH_take (i:=21) (oi:=⟨some 34,_,_,_,_,_⟩) (v:=undef) rfl (by kernel_rfl) (by kernel_rfl) (by kernel_rfl) (fun _ _ _ h=>h) (Or.inr ⟨by kernel_rfl,rfl⟩) (by assumption) ?_
      (try go_frame)
      refine wpAnyH_take (i:=22) (oi:=⟨some 35,_,_,_,_,_⟩) (v:=undef) rfl (by kernel_rfl) (by kernel_rfl) (by kernel_rfl) (fun _ _ _ h=>h) (Or.inr ⟨by kernel_rfl,rfl⟩) (by assumption) ?_
      (try go_frame)
      refine wpAnyH_take (i:=23) (oi:=⟨some 36,_,_,_,_,_⟩) (v:=undef) rfl (by kernel_rfl) (by kernel_rfl) (by kernel_rfl) (fun _ _ _ h=>h) (Or.inr ⟨by kernel_rfl,rfl⟩) (by assumption) ?_
      (try go_frame)
      refine wpAnyH_take (i:=24) (oi:=⟨some 37,_,_,_,_,_⟩) (v:=undef) rfl (by kernel_rfl) (by kernel_rfl) (by kernel_rfl) (fun _ _ _ h=>h) (Or.inr ⟨by kernel_rfl,rfl⟩) (by assumption) ?_
      (try go_frame)
      refine wpAnyH_take (i:=25) (oi:=⟨some 38,_,_,_,_,_⟩) (v:=undef) rfl (by kernel_rfl) (by kernel_rfl) (by kernel_rfl) (fun _ _ _ h=>h) (Or.inr ⟨by kernel_rfl,rfl⟩) (by assumption) ?_
      (try go_frame)
      refine wpAnyH_take (i:=26) (oi:=⟨some 39,_,_,_,_,_⟩) (v:=undef) rfl (by kernel_rfl) (by kernel_rfl) (by kernel_rfl) (fun _ _ _ h=>h) (Or.inr ⟨by kernel_rfl,rfl⟩) (by assumption) ?_
      (try go_frame)
      refine wpAnyH_take (i:=27) (oi:=⟨some 40,_,_,_,_,_⟩) (v:=undef) rfl (by kernel_rfl) (by kernel_rfl) (by kernel_rfl) (fun _ _ _ h=>h) (Or.inr ⟨by kernel_rfl,rfl⟩) (by assumption) ?_
      (try go_frame)
      refine wpAnyH_take (i:=28) (oi:=⟨some 41,_,_,_,_,_⟩) (v:=undef) rfl (by kernel_rfl) (by kernel_rfl) (by kernel_rfl) (fun _ _ _ h=>h) (Or.inr ⟨by kernel_rfl,rfl⟩) (by assumption) ?_
      (try go_frame)
      refine wpAnyH_take (i:=29) (oi:=⟨some 42,_,_,_,_,_⟩) (v:=undef) rfl (by kernel_rfl) (by kernel_rfl) (by kernel_rfl) (fun _ _ _ h=>h) (Or.inr ⟨by kernel_rfl,rfl⟩) (by assumption) ?_
      (try go_frame)
      refine wpAnyH_take (i:=30) (oi:=⟨some 43,_,_,_,_,_⟩) (v:=undef) rfl (by kernel_rfl) (by kernel_rfl) (by kernel_rfl) (fun _ _ _ h=>h) (Or.inr ⟨by kernel_rfl,rfl⟩) (by assumption) ?_
      (try go_frame)
      refine wpAnyH_take (i:=31) (oi:=⟨some 44,_,_,_,_,_⟩) (v:=undef) rfl (by kernel_rfl) (by kernel_rfl) (by kernel_rfl) (fun _ _ _ h=>h) (Or.inr ⟨by kernel_rfl,rfl⟩) (by assumption) ?_
      (try go_frame)
      refine tkH 32 45 ?_;refine tkH 33 46 ?_;refine wpAnyH_done (by kernel_rfl) ?_ _;go_wp2
      go_roundg (gk-1)
      case measure=>omega
      case rel=>exact⟨1,by omega,by go_num,Lib.hid ⟨by first|exact HR.out.1|exact Below.drewA HR.out.1 1|exact Below.drewA HR.out.1 _|exact HR.out.1.drew,(some_one HA.out.1).trans HA.out.2.2.2⟩⟩
     | succ j =>
      obtain⟨p,hp⟩:∃p,l[j]? = some p:=⟨_,List.getElem?_eq_getElem (by rw[HN.out];omega)⟩;obtain⟨b',off',hbb,hSb',p0,p1⟩:=H1.out j (atP p) (by rw[List.getElem?_map,hp];rfl);injection hbb with hbb
      injection hbb with hb1 hb2'
      subst hb1 hb2';unfold atP at p0 p1;dsimp only at p0 p1;have s0:=(HR.out.1.cell (p:=⟨b,off+j*2,none⟩) (HS.out b hSb')).trans p0;obtain⟨pn,hpn⟩:∃pn,p.name=pn:=⟨_,rfl⟩;rw[hpn] at s0;have HP:=hidH2 hp hpn;clear p0 p1 hp hpn hSb';have e1:IntKind.i64.wrap ((j:Int)+1-1)=(j:Int):=by rw[show (j:Int)+1-1=j by omega];exact IntWalk.i64_in _ (by omega)
      have e2:((j:Int)+1-1)=(j:Int):=by omega
      have e3:IntKind.i64.wrap (j:Int)=(j:Int):=IntWalk.i64_in _ (by omega);have e4:¬((nl:Int)≤(j:Int)):=by omega
      have e5:(0:Int)<(j:Int)+1:=by omega
      have e6:(j:Int)<(nl:Int):=by omega
      have hlt2:=ltL pn an;obtain⟨bl,hbl⟩:∃bl,decide (pn.data.toList<an.data.toList)=bl:=⟨_,rfl⟩;rw[hbl] at hlt2;have HL:=Lib.hid hbl;clear hbl;have f0:(0:Int)≤(j:Int)+1:=by omega
      have f1:(j:Int)+1<(nl:Int):=by omega
      have f2:(0:Int)≤(j:Int):=by omega
      cases bl with
      | false =>
       go_wp2_with fail
       refine wp_region_held_drew (S:=(fun w'=>w'.cell? ⟨b,off+(j+1)*2,none⟩=some (.string an)∧w'.cell? ⟨b,off+(j+1)*2+1,none⟩=some (.string tx)∧w'.cell? ⟨b,off+j*2,none⟩=some (.string pn))) (by kernel_rfl) ?_ (fun hHeld0=>?_)
       ·(try dsimp only)
        all_goals exact⟨r0,r1,s0⟩
       refine tkH 0 13 ?_;refine tkH 1 14 ?_;refine tkH 2 15 ?_;refine tkH 3 16 ?_;refine tkH 4 17 ?_;refine rdyH [5] ?_;refine AllReadyH.cons (o:=⟨some 18,_,_,_,_,_⟩) rfl (fun K hK=>?_) AllReadyH.nil;go_simp;refine (HC.out.1 _).mono ?_;rintro e w2 ⟨rfl,rfl⟩
       go_wp2_with fail
       refine hK.out _ _ ?_ (fun hHeld1=>?_)
       ·(try dsimp only)
        all_goals exact⟨r0,r1,s0⟩
       clear hK K hHeld0
       (try go_frame)
       refine tkH 6 19 ?_;refine tkH 7 20 ?_;refine tkH 8 21 ?_;refine tkH 9 22 ?_;refine tkH 10 23 ?_;refine tkH 11 24 ?_;refine tkH 12 25 ?_;refine rdyH [13] ?_;refine AllReadyH.cons (o:=⟨some 26,_,_,_,_,_⟩) rfl (fun K hK=>?_) AllReadyH.nil
       (try go_simp)
       refine (HC.out.2 _).mono ?_;rintro e w2 ⟨rfl,rfl⟩
       go_wp2_with fail
       refine hK.out _ _ ?_ (fun hHeld2=>?_)
       ·(try dsimp only)
        all_goals exact⟨r0,r1,s0⟩
       clear hK K hHeld1
       (try go_frame)
       refine tkH 14 27 ?_;refine tkH 15 28 ?_;refine tkH 16 29 ?_;refine tkH 17 30 ?_;refine tkH 18 31 ?_;refine tkH 19 32 ?_;refine tkH 20 33 ?_;refine tkH 21 34 ?_;refine tkH 22 35 ?_;refine tkH 23 36 ?_;refine tkH 24 37 ?_;refine tkH 25 38 ?_;refine tkH 26 39 ?_;refine tkH 27 40 ?_;refine tkH 28 41 ?_;refine tkH 29 42 ?_;refine tkH 30 43 ?_;refine tkH 31 44 ?_;refine tkH 32 45 ?_;refine tkH 33 46 ?_;refine wpAnyH_done (by kernel_rfl) ?_ _;go_wp2
       go_ret
       refine⟨ret_bool (check_all (k:=j+2) ?_).symm,by first|exact HR.out.1|exact Below.drewA HR.out.1 1|exact Below.drewA HR.out.1 _|exact HR.out.1.drew⟩;rw[some_next HP.out.1 HA.out.1 HR.out.2,HP.out.2,HA.out.2.1,HL.out,Bool.and_false]
      | true =>
       go_wp2_with fail
       refine wp_region_held_drew (S:=(fun w'=>w'.cell? ⟨b,off+(j+1)*2,none⟩=some (.string an)∧w'.cell? ⟨b,off+(j+1)*2+1,none⟩=some (.string tx)∧w'.cell? ⟨b,off+j*2,none⟩=some (.string pn))) (by kernel_rfl) ?_ (fun hHeld0=>?_)
       ·(try dsimp only)
        all_goals exact⟨r0,r1,s0⟩
       refine tkH 0 13 ?_;refine tkH 1 14 ?_;refine tkH 2 15 ?_;refine tkH 3 16 ?_;refine tkH 4 17 ?_;refine rdyH [5] ?_;refine AllReadyH.cons (o:=⟨some 18,_,_,_,_,_⟩) rfl (fun K hK=>?_) AllReadyH.nil;go_simp;refine (HC.out.1 _).mono ?_;rintro e w2 ⟨rfl,rfl⟩
       go_wp2_with fail
       refine hK.out _ _ ?_ (fun hHeld1=>?_)
       ·(try dsimp only)
        all_goals exact⟨r0,r1,s0⟩
       clear hK K hHeld0
       (try go_frame)
       refine tkH 6 19 ?_;refine tkH 7 20 ?_;refine tkH 8 21 ?_;refine tkH 9 22 ?_;refine tkH 10 23 ?_;refine tkH 11 24 ?_;refine tkH 12 25 ?_;refine rdyH [13] ?_;refine AllReadyH.cons (o:=⟨some 26,_,_,_,_,_⟩) rfl (fun K hK=>?_) AllReadyH.nil
       (try go_simp)
       refine (HC.out.2 _).mono ?_;rintro e w2 ⟨rfl,rfl⟩
       go_wp2_with fail
       refine hK.out _ _ ?_ (fun hHeld2=>?_)
       ·(try dsimp only)
        all_goals exact⟨r0,r1,s0⟩
       clear hK K hHeld1
       (try go_frame)
       refine tkH 14 27 ?_;refine tkH 15 28 ?_;refine tkH 16 29 ?_;refine tkH 17 30 ?_;refine tkH 18 31 ?_;refine tkH 19 32 ?_;refine tkH 20 33 ?_;refine tkH 21 34 ?_;refine tkH 22 35 ?_;refine tkH 23 36 ?_;refine tkH 24 37 ?_;refine tkH 25 38 ?_;refine tkH 26 39 ?_;refine tkH 27 40 ?_;refine tkH 28 41 ?_;refine tkH 29 42 ?_;refine tkH 30 43 ?_;refine tkH 31 44 ?_;refine tkH 32 45 ?_;refine tkH 33 46 ?_;refine wpAnyH_done (by kernel_rfl) ?_ _;go_wp2
       go_roundg (gk-1)
       case measure=>omega
       case rel=>exact⟨j+2,by omega,by go_num,Lib.hid ⟨by first|exact HR.out.1|exact Below.drewA HR.out.1 1|exact Below.drewA HR.out.1 _|exact HR.out.1.drew,by rw[some_next HP.out.1 HA.out.1 HR.out.2,HP.out.2,HA.out.2.1,HL.out,Bool.and_true];exact HA.out.2.2.2⟩⟩
  ·obtain rfl:k=nl:=by omega
   go_wp2_with fail
   go_ret
   refine⟨ret_bool ?_,HR.out.1⟩;have h:=HR.out.2;unfold someB at h;rw[List.take_of_length_le (by rw[HN.out];exact Nat.le_refl _)] at h;unfold checkB;rw[HN.out,decide_eq_true (by omega),Bool.true_and,h]
end Go.Proofs.YtkdknllcllhpgaaGreatDoor
namespace Go.Bd
open Go.RowKit Go.Proofs.YtkdknllcllhpgaaGreatDoor
theorem getV_eq (o:Option ByteArray):getV o=.tuple #[.string (o.getD ⟨#[]⟩),.bool o.isSome]:=by cases o<;>rfl
theorem sameF_eq (was l:List Sc) (f:ByteArray):sameF was l f=((findS was f).isSome&&((findS l f).isSome&&decide ((findS was f).getD ⟨#[]⟩=(findS l f).getD ⟨#[]⟩))):=by
 unfold sameF;cases findS was f<;>cases findS l f<;>rfl
theorem sameDx_eq (l:List Sc) (d:Dx):sameDx l d=!(decide (d.fault=1)&&(findS l d.text).isSome):=by
 unfold sameDx;cases decide (d.fault=1)<;>cases findS l d.text<;>rfl
theorem sameA_eq (a:List At) (x:At):sameA a x=((getA a x.name).isSome&&decide ((getA a x.name).getD ⟨#[]⟩=x.value)):=by
 unfold sameA;cases getA a x.name<;>rfl
theorem sameU_eq (a:List At) (n:ByteArray):sameU a n=!(getA a n).isSome:=by
 unfold sameU;cases getA a n<;>rfl
end Go.Bd
namespace Go.Proofs.YtkdknllcllhpgaaGreatDoor
open Go.RowKit Go.Bd
theorem same_rx {w:World}{B:Nat}{S1 S2 T:Nat→Prop}{cv sv1 sv2 av:Value}{c:Cx}{was l:List Sc}{attrs:List At} (hc:CxAt w B cv c) (hB:B≤w.heap.size) (hs1:ScS w S1 sv1 was) (hs2:ScS w S2 sv2 l) (hat:AtS w T av attrs) (hS1:∀k,S1 k→k<w.heap.size) (hS2:∀k,S2 k→k<w.heap.size) (hT:∀k,T k→k<w.heap.size)
  (hn1:was.length≤1000000000) (hn2:l.length≤1000000000) (hn3:attrs.length≤1000000000) (haz:∀a∈attrs,a.name.size≤100000∧a.value.size≤100000) (hlen:c.files.length≤1000000000∧c.diags.length≤1000000000∧c.attrs.length≤2000000000∧c.unset.length≤2000000000) :
  Calls Tryz.prog 11 #[cv,sv1,sv2,av] w fun e w'=>e=.returned (.bool (sameX c was l (firstA attrs).attrs))∧Below w.heap.size w w':=by
 obtain⟨bv,dv,fv,av',uv,rfl,_,hdg,hfl,hca,hcu⟩:=hc;obtain⟨Af,cf,hfv,hfc,hff⟩:=hfl;obtain⟨Ad,cd,hdv,hdc⟩:=hdg.form;obtain⟨Aa,ca,hav,hac,haf⟩:=hca;obtain⟨Au,cu,huv,huc,huf⟩:=hcu;subst hfv hdv hav huv;rw[List.length_map] at hac ⊢;have hB0:=(Below.refl w.heap.size w).alloc (Nat.le_refl _) (.cells #[.string c.name,bv,.slice Ad c.diags.length cd,.slice Af c.files.length cf,.slice Aa c.attrs.length ca,.slice Au c.unset.length cu] 27);have hX0:=Holds.new w 27 #[.string c.name,bv,.slice Ad c.diags.length cd,.slice Af c.files.length cf,.slice Aa c.attrs.length ca,.slice Au c.unset.length cu];obtain⟨n1,hn1'⟩:∃n1,c.files.length=n1:=⟨_,rfl⟩;obtain⟨n2,hn2'⟩:∃n2,c.diags.length=n2:=⟨_,rfl⟩;obtain⟨n3,hn3'⟩:∃n3,c.attrs.length=n3:=⟨_,rfl⟩;obtain⟨n4,hn4'⟩:∃n4,c.unset.length=n4:=⟨_,rfl⟩;rw[hn1',hn2',hn3',hn4'] at hB0 hX0;rw[hn1',hn2',hn3',hn4'] at hlen;rw[hn1'] at hfc;rw[hn2'] at hdc hdg;rw[hn3'] at hac;rw[hn4'] at huc;rw[hn1',hn2',hn3',hn4'];obtain⟨W0,hW0⟩:∃W0,w.alloc (.cells #[.string c.name,bv,.slice Ad n2 cd,.slice Af n1 cf,.slice Aa n3 ca,.slice Au n4 cu] 27)=W0:=⟨_,rfl⟩;obtain⟨p,hp⟩:∃p,w.heap.size=p:=⟨_,rfl⟩;rw[hW0] at hB0 hX0;rw[hp] at hX0;have hfind1:=fun W (hW:Below w.heap.size w W) n=>Find5_any (TwoS.below hs1 hW) (fun k hk=>Nat.lt_of_lt_of_le (hS1 k hk) hW.size) hn1 n
 have hfind2:=fun W (hW:Below w.heap.size w W) n=>Find5_any (TwoS.below hs2 hW) (fun k hk=>Nat.lt_of_lt_of_le (hS2 k hk) hW.size) hn2 n
 have hck:=Check4_any (TwoS.below hat hB0) (fun k hk=>Nat.lt_of_lt_of_le (hT k hk) hB0.size) hn3 haz;obtain⟨a2,ha2⟩:∃a2,(firstA attrs).attrs=a2:=⟨_,rfl⟩;obtain⟨At',ct,hat',-⟩:=id hat;have hget:∀W,Below w.heap.size w W→∀n,Calls Tryz.prog 30 #[if checkB attrs then av else .slice none 0 0,.string n] W fun e w'=>e=.returned (getV (getA a2 n))∧Below W.heap.size W w':=fun W hW n=>by
  refine Get4_any (S:=T) ?_ (fun k hk=>Nat.lt_of_lt_of_le (hT k hk) hW.size) ?_ n
  ·rw[←ha2];unfold firstA;dsimp only;split
   ·exact TwoS.below hat hW
   ·exact TwoS.nil _ _
  ·rw[←ha2];unfold firstA;dsimp only;split
   ·exact hn3
   ·exact Nat.zero_le _
 have hbx:∀W,Below W0.heap.size W0 W→W.cell? ⟨p,2,none⟩=some (.slice Ad n2 cd)∧W.cell? ⟨p,3,none⟩=some (.slice Af n1 cf)∧W.cell? ⟨p,4,none⟩=some (.slice Aa n3 ca)∧W.cell? ⟨p,5,none⟩=some (.slice Au n4 cu)∧Below w.heap.size w W:=fun W hW=>by
  have h:=hX0.below hW hX0.lt;have a2:=h.cell 2;have a3:=h.cell 3;have a4:=h.cell 4;have a5:=h.cell 5;simp at a2 a3 a4 a5;exact⟨a2,a3,a4,a5,hB0.trans (hW.mono hB0.size)⟩
 have HL:=hidH5 ha2 hn1' hn2' hn3' hn4';obtain⟨ck,hckb⟩:∃ck,checkB attrs=ck:=⟨_,rfl⟩;rw[hckb] at hck hget;rw[hat'] at hck hget ⊢;have HW:=hidH2 hW0 hp;rw[ha2] at HL ⊢;clear hs1 hs2 hat hS1 hS2 hT haz hX0 hB0 hat' hckb ha2 hn1' hn2' hn3' hn4';obtain⟨tl,htl⟩:∃tl,(attrs.map atP).length=tl:=⟨_,rfl⟩;rw[htl] at hck hget ⊢;clear htl;have HB:=Lib.hid hB;have HF:=Lib.hid hff;have HD:=Lib.hid hdg;have HA:=Lib.hid haf;have HU:=Lib.hid huf;have HBX:=Lib.hid hbx;have HF1:=Lib.hid hfind1;have HF2:=Lib.hid hfind2;have HCK:=Lib.hid hck;clear hB hff hdg haf huf hfind1 hfind2 hck;cases ck
 all_goals
  simp only[Bool.false_eq_true,if_false,if_true] at hget;have HG:=Lib.hid hget;clear hget
  go_enter Tryz.func11,Tryz.ntmps11
  go_wp2_with fail
  (try rw[HW.out.1])
  (try rw[HW.out.2])
  refine HCK.out.mono ?_;rintro e w1 ⟨rfl,hb1⟩;obtain⟨_,c3,_,_,hbw1⟩:=HBX.out w1 hb1;have HB1:=Lib.hid hb1;clear hb1 hW0 hp hbx hbw1
  go_wp2_with fail
  go_loopg [9] n1 (fun q i wr=>∃k:Nat,k+q=n1∧i=.int .i64 (k:Int)∧Hid (Below W0.heap.size W0 wr∧(c.files.take k).all (sameF was l)=true))
  case atStart=>exact⟨0,by omega,rfl,Lib.hid ⟨HB1.out,rfl⟩⟩
  case round =>
   clear c3;obtain⟨k,hk,rfl,HR⟩:=hrel;obtain⟨_,c3,_,_,hbw⟩:=HBX.out wr HR.out.1
   by_cases hlt:k<n1
   ·obtain⟨f,hf⟩:∃f,c.files[k]? = some f:=⟨_,List.getElem?_eq_getElem (by have:=HL.out.2.1;omega)⟩;obtain⟨b,off,rfl,hbB,q0⟩:=HF.out k f hf;have hbl:=Nat.lt_of_lt_of_le hbB HB.out;have r0:=(hbw.cell (p:=⟨b,off+k,none⟩) hbl).trans q0;have h1:=HF1.out wr hbw f;have h2:=HF2.out;rw[getV_eq] at h1;have hfe:=sameF_eq was l f;obtain⟨x,hx⟩:∃x,(findS was f).getD ⟨#[]⟩=x:=⟨_,rfl⟩;obtain⟨y,hy⟩:∃y,(findS l f).getD ⟨#[]⟩=y:=⟨_,rfl⟩;obtain⟨b1,hb1⟩:∃b1,(findS was f).isSome=b1:=⟨_,rfl⟩;obtain⟨b2,hb2⟩:∃b2,(findS l f).isSome=b2:=⟨_,rfl⟩;have hE:=toL_eq x y;obtain⟨d,hd⟩:∃d,decide (x=y)=d:=⟨_,rfl⟩;rw[hx,hb1] at h1;rw[hx,hy,hb1,hb2,hd] at hfe;rw[hd] at hE;have HP:=hidH8 hf hbw h1 hfe hy hb2 hbl q0;clear hf hbw q0 hbB hbl h1 h2 hfe hx hy hb1 hb2 hd
    go_wp2_with fail
    refine HP.out.2.2.1.mono ?_;rintro e w2 ⟨rfl,hb2⟩;have hR2:=HR.out.1.trans (hb2.mono HR.out.1.size);obtain⟨_,c3',_,_,hbw2⟩:=HBX.out w2 hR2;have r0':=(hbw2.cell (p:=⟨b,off+k,none⟩) HP.out.2.2.2.2.2.2.1).trans HP.out.2.2.2.2.2.2.2;have h2:=HF2.out w2 hbw2 f;rw[getV_eq,HP.out.2.2.2.2.1,HP.out.2.2.2.2.2.1] at h2;have H2:=hidH2 h2 hR2;clear h2 hR2 hb2 hbw2 c3 r0
    go_wp2_with fail
    refine H2.out.1.mono ?_;rintro e w3 ⟨rfl,hb3⟩;have HR3:=Lib.hid (H2.out.2.trans (hb3.mono H2.out.2.size));clear hb3 c3' r0';cases b1 with
    | false =>
     go_wp2_with fail
     go_ret
     have hP:sameF was l f=false:=by rw[HP.out.2.2.2.1];rfl
     refine⟨ret_bool ?_,(HBX.out _ HR3.out).2.2.2.2⟩;unfold sameX;rw[all_fail HP.out.1 hP,Bool.false_and]
    | true =>
     cases b2 with
     | false =>
      go_wp2_with fail
      go_ret
      have hP:sameF was l f=false:=by rw[HP.out.2.2.2.1];rfl
      refine⟨ret_bool ?_,(HBX.out _ HR3.out).2.2.2.2⟩;unfold sameX;rw[all_fail HP.out.1 hP,Bool.false_and]
     | true =>
      cases d with
      | false =>
       go_wp2_with fail
       go_ret
       have hP:sameF was l f=false:=by rw[HP.out.2.2.2.1];rfl
       refine⟨ret_bool ?_,(HBX.out _ HR3.out).2.2.2.2⟩;unfold sameX;rw[all_fail HP.out.1 hP,Bool.false_and]
      | true =>
       go_wp2_with fail
       have hP:sameF was l f=true:=by rw[HP.out.2.2.2.1];rfl
       go_roundg (gk-1)
       case measure=>omega
       case rel=>exact⟨k+1,by omega,by go_num,Lib.hid ⟨HR3.out,all_step HP.out.1 HR.out.2 hP⟩⟩
   ·obtain rfl:k=n1:=by omega
    have h1:=all_end HL.out.2.1 HR.out.2;have HA1:=Lib.hid h1;obtain⟨wA,hwA⟩:∃x,x=wr:=⟨_,rfl⟩;subst hwA;obtain⟨c2,_,_,_,_⟩:=HBX.out wA HR.out.1;clear h1 hbw hk hlt
    go_wp2_with fail
    go_loopg [14] n2 (fun q i wr=>∃k:Nat,k+q=n2∧i=.int .i64 (k:Int)∧Hid (Below W0.heap.size W0 wr∧(c.diags.take k).all (sameDx l)=true))
    case atStart=>exact⟨0,by omega,rfl,Lib.hid ⟨HR.out.1,rfl⟩⟩
    case round =>
     clear c2 c3;obtain⟨k2,hk,rfl,HR2⟩:=hrel;obtain⟨c2,_,_,_,hbw⟩:=HBX.out wr HR2.out.1
     by_cases hlt:k2<n2
     ·obtain⟨dg,hf⟩:∃dg,c.diags[k2]? = some dg:=⟨_,List.getElem?_eq_getElem (by have:=HL.out.2.2.1;omega)⟩;obtain⟨b,off,rfl,hbB,q0,q1,q2,q3⟩:=HD.out.at hf;have hbl:=Nat.lt_of_lt_of_le hbB HB.out;have r3:=(hbw.cell (p:=⟨b,off+k2*4+3,none⟩) hbl).trans q3;have h1:=HF2.out wr hbw dg.text;rw[getV_eq] at h1;have hfe:=sameDx_eq l dg;obtain⟨tx,htx⟩:∃x,dg.text=x:=⟨_,rfl⟩;obtain⟨fa,hfa⟩:∃x,dg.fault=x:=⟨_,rfl⟩;rw[htx] at r3 h1 hfe;rw[hfa] at q2 hfe;obtain⟨x,hx⟩:∃x,(findS l tx).getD ⟨#[]⟩=x:=⟨_,rfl⟩;obtain⟨b1,hb1⟩:∃b1,(findS l tx).isSome=b1:=⟨_,rfl⟩;rw[hx,hb1] at h1;rw[hb1] at hfe;have HP:=hidH6 hf hbw h1 hfe hbl q2;clear hf hbw q0 q1 q2 q3 hbB hbl h1 hfe htx hfa hx hb1
      go_wp2_with fail
      refine HP.out.2.2.1.mono ?_;rintro e w2 ⟨rfl,hb2⟩;have hR2:=HR2.out.1.trans (hb2.mono HR2.out.1.size);obtain⟨c2',_,_,_,hbw2⟩:=HBX.out w2 hR2;have r2:=(hbw2.cell (p:=⟨b,off+k2*4+2,none⟩) HP.out.2.2.2.2.1).trans HP.out.2.2.2.2.2;have HR3:=Lib.hid hR2;clear hb2 hR2 hbw2 c2 r3
      by_cases hfi:fa=1
      ·cases b1 with
       | true =>
        have Hf:=Lib.hid hfi
        go_wp2_with fail
        go_ret
        have hP:sameDx l dg=false:=by rw[HP.out.2.2.2.1,decide_eq_true Hf.out];rfl
        refine⟨ret_bool ?_,(HBX.out _ HR3.out).2.2.2.2⟩;unfold sameX;rw[HA1.out,Bool.true_and,all_fail HP.out.1 hP,Bool.false_and]
       | false =>
        go_wp2_with fail
        have hP:sameDx l dg=true:=by rw[HP.out.2.2.2.1,Bool.and_false];rfl
        go_roundg (gk-1)
        case measure=>omega
        case rel=>exact⟨k2+1,by omega,by go_num,Lib.hid ⟨HR3.out,all_step HP.out.1 HR2.out.2 hP⟩⟩
      ·have Hf:=Lib.hid hfi
       go_wp2_with fail
       have hP:sameDx l dg=true:=by rw[HP.out.2.2.2.1,decide_eq_false Hf.out];rfl
       go_roundg (gk-1)
       case measure=>omega
       case rel=>exact⟨k2+1,by omega,by go_num,Lib.hid ⟨HR3.out,all_step HP.out.1 HR2.out.2 hP⟩⟩
     ·obtain rfl:k2=n2:=by omega
      have h1:=all_end HL.out.2.2.1 HR2.out.2;have HA2:=Lib.hid h1;obtain⟨wA,hwA⟩:∃x,x=wr:=⟨_,rfl⟩;subst hwA;obtain⟨_,_,c4,_,_⟩:=HBX.out wA HR2.out.1;clear h1 hbw hk hlt
      go_wp2_with fail
      go_loopg [17] n3 (fun q i wr=>∃k:Nat,k+q=n3∧i=.int .i64 (k:Int)∧Hid (Below W0.heap.size W0 wr∧(c.attrs.take k).all (sameA a2)=true))
      case atStart=>exact⟨0,by omega,rfl,Lib.hid ⟨HR2.out.1,rfl⟩⟩
      case round =>
       clear c4 c2;obtain⟨k3,hk,rfl,HR3⟩:=hrel;obtain⟨_,_,c4,_,hbw⟩:=HBX.out wr HR3.out.1
       by_cases hlt:k3<n3
       ·obtain⟨at',hf⟩:∃at',c.attrs[k3]? = some at':=⟨_,List.getElem?_eq_getElem (by have:=HL.out.2.2.2.1;omega)⟩;obtain⟨b,off,rfl,hbB,q0,q1⟩:=HA.out k3 (atP at') (by rw[List.getElem?_map,hf];rfl);unfold atP at q0 q1;dsimp only at q0 q1;have hbl:=Nat.lt_of_lt_of_le hbB HB.out;have r0:=(hbw.cell (p:=⟨b,off+k3*2,none⟩) hbl).trans q0;have h1:=HG.out wr hbw at'.name;rw[getV_eq] at h1;have hfe:=sameA_eq a2 at';obtain⟨an,han⟩:∃x,at'.name=x:=⟨_,rfl⟩;obtain⟨vv,hvv⟩:∃x,at'.value=x:=⟨_,rfl⟩;rw[han] at r0 h1 hfe;rw[hvv] at q1 hfe;obtain⟨x,hx⟩:∃x,(getA a2 an).getD ⟨#[]⟩=x:=⟨_,rfl⟩;obtain⟨b1,hb1⟩:∃b1,(getA a2 an).isSome=b1:=⟨_,rfl⟩;have hE:=toL_eq x vv;obtain⟨d,hd⟩:∃d,decide (x=vv)=d:=⟨_,rfl⟩;rw[hx,hb1] at h1;rw[hx,hb1,hd] at hfe;rw[hd] at hE;have HP:=hidH6 hf hbw h1 hfe hbl q1;clear hf hbw q0 q1 hbB hbl h1 hfe han hvv hx hb1 hd
        go_wp2_with fail
        refine HP.out.2.2.1.mono ?_;rintro e w2 ⟨rfl,hb2⟩;have hR2:=HR3.out.1.trans (hb2.mono HR3.out.1.size);obtain⟨_,_,c4',_,hbw2⟩:=HBX.out w2 hR2;have r1:=(hbw2.cell (p:=⟨b,off+k3*2+1,none⟩) HP.out.2.2.2.2.1).trans HP.out.2.2.2.2.2;have HR4:=Lib.hid hR2;clear hb2 hR2 hbw2 c4 r0;cases b1 with
        | false =>
         go_wp2_with fail
         go_ret
         have hP:sameA a2 at'=false:=by rw[HP.out.2.2.2.1];rfl
         refine⟨ret_bool ?_,(HBX.out _ HR4.out).2.2.2.2⟩;unfold sameX;rw[HA1.out,HA2.out,Bool.true_and,Bool.true_and,all_fail HP.out.1 hP,Bool.false_and]
        | true =>
         cases d with
         | false =>
          go_wp2_with fail
          go_ret
          have hP:sameA a2 at'=false:=by rw[HP.out.2.2.2.1];rfl
          refine⟨ret_bool ?_,(HBX.out _ HR4.out).2.2.2.2⟩;unfold sameX;rw[HA1.out,HA2.out,Bool.true_and,Bool.true_and,all_fail HP.out.1 hP,Bool.false_and]
         | true =>
          go_wp2_with fail
          have hP:sameA a2 at'=true:=by rw[HP.out.2.2.2.1];rfl
          go_roundg (gk-1)
          case measure=>omega
          case rel=>exact⟨k3+1,by omega,by go_num,Lib.hid ⟨HR4.out,all_step HP.out.1 HR3.out.2 hP⟩⟩
       ·obtain rfl:k3=n3:=by omega
        have h1:=all_end HL.out.2.2.2.1 HR3.out.2;have HA3:=Lib.hid h1;obtain⟨wA,hwA⟩:∃x,x=wr:=⟨_,rfl⟩;subst hwA;obtain⟨_,_,_,c5,_⟩:=HBX.out wA HR3.out.1;clear h1 hbw hk hlt
        go_wp2_with fail
        go_loopg [20] n4 (fun q i wr=>∃k:Nat,k+q=n4∧i=.int .i64 (k:Int)∧Hid (Below W0.heap.size W0 wr∧(c.unset.take k).all (sameU a2)=true))
        case atStart=>exact⟨0,by omega,rfl,Lib.hid ⟨HR3.out.1,rfl⟩⟩
        case round =>
         clear c5 c4;obtain⟨k4,hk,rfl,HR5⟩:=hrel;obtain⟨_,_,_,c5,hbw⟩:=HBX.out wr HR5.out.1
         by_cases hlt:k4<n4
         ·obtain⟨un,hf⟩:∃un,c.unset[k4]? = some un:=⟨_,List.getElem?_eq_getElem (by have:=HL.out.2.2.2.2;omega)⟩;obtain⟨b,off,rfl,hbB,q0⟩:=HU.out k4 un hf;have r0:=(hbw.cell (p:=⟨b,off+k4,none⟩) (Nat.lt_of_lt_of_le hbB HB.out)).trans q0;have h1:=HG.out wr hbw un;rw[getV_eq] at h1;have hfe:=sameU_eq a2 un;obtain⟨x,hx⟩:∃x,(getA a2 un).getD ⟨#[]⟩=x:=⟨_,rfl⟩;obtain⟨b1,hb1⟩:∃b1,(getA a2 un).isSome=b1:=⟨_,rfl⟩;rw[hx,hb1] at h1;rw[hb1] at hfe;have HP:=hidH4 hf hbw h1 hfe;clear hf hbw q0 hbB h1 hfe hx hb1
          go_wp2_with fail
          refine HP.out.2.2.1.mono ?_;rintro e w2 ⟨rfl,hb2⟩;have HR6:=Lib.hid (HR5.out.1.trans (hb2.mono HR5.out.1.size));clear hb2;cases b1 with
          | true =>
           go_wp2_with fail
           go_ret
           have hP:sameU a2 un=false:=by rw[HP.out.2.2.2];rfl
           refine⟨ret_bool ?_,(HBX.out _ HR6.out).2.2.2.2⟩;unfold sameX;rw[HA1.out,HA2.out,HA3.out,Bool.true_and,Bool.true_and,Bool.true_and,all_fail HP.out.1 hP]
          | false =>
           go_wp2_with fail
           have hP:sameU a2 un=true:=by rw[HP.out.2.2.2];rfl
           go_roundg (gk-1)
           case measure=>omega
           case rel=>exact⟨k4+1,by omega,by go_num,Lib.hid ⟨HR6.out,all_step HP.out.1 HR5.out.2 hP⟩⟩
         ·obtain rfl:k4=n4:=by omega
          have h1:=all_end HL.out.2.2.2.2 HR5.out.2;have HA4:=Lib.hid h1;clear h1 hbw
          go_wp2_with fail
          go_ret
          refine⟨ret_bool ?_,(HBX.out wr HR5.out.1).2.2.2.2⟩;unfold sameX;rw[HA1.out,HA2.out,HA3.out,HA4.out];rfl
end Go.Proofs.YtkdknllcllhpgaaGreatDoor
