/-
  What the chapter's laws share, part 6: plain facts, memory, and walks of functions. Its conditions: those that each theorem names.
-/
import Derived.Shelf.Unicode.DecodeLast
import Derived.Test.YtkkebmciiiajeaaGreatDoorK0
import Derived.Test.YtkkebmciiiajeaaGreatDoorK3
import Derived.Test.YtkkebmciiiajeaaGreatDoorK5
set_option linter.unusedSimpArgs false
set_option linter.unusedVariables false
set_option maxHeartbeats 16000000
set_option maxRecDepth 100000
namespace Go.Proofs.YtkkebmciiiajeaaGreatDoor
open Go.RowKit Go.Bd
theorem indexRune_valid2 (g:ByteArray) (r:Int) (w:World) (hg:∀b∈g.data.toList,b.toNat<128) (h4:(Utf8.encode r).size≤g.size) (h5:g.size≤200) (h1:128≤r) (h2:¬r=65533) (hv:Utf8.valid r=true) :
  Calls Tryz.prog 114 #[.string g,.int .i32 r] w fun e w'=>e=.returned (.int .i64 (-1))∧Below w.heap.size w w':=by
 have HG:=Lib.hid hg;clear hg;obtain⟨f1,f2,f3⟩:=encode_facts r hv h1;have hv':validRune r=true:=by rw[←validRune_eq];exact hv
 have Hv:=Lib.hid hv;clear hv;have hne:(r==65533)=false:=by simpa using h2
 generalize he:Utf8.encode r=e at f1 f2 f3 h4;have hce:=fun (w:World)=>run_convert_int_string (P:=Tryz.prog) w 21 9 .i32 r (by rw[Tryz.underlying21];rfl) Tryz.underlying9
 rw[he] at hce;have He:=Lib.hid he;clear he;obtain⟨n,hn⟩:∃n,e.size=n+1:=⟨e.size-1,by omega⟩;have hng:n<g.size:=by omega
 have hne':n<e.size:=by omega
 have f4:128≤(e[n]'hne').toNat:=by
  have h:=f3 (by omega);have e1:e.size-1=n:=by omega
  simpa only[e1] using h
 clear f3;have hx:=ascii_at HG.out hng;have hneq:((g[n]'hng).toNat:Int)≠(e[n]'hne').toNat:=by omega
 have hb:(((g[n]'hng).toNat:Int) != (e[n]'hne').toNat)=true:=by simpa using hneq
 have hb':(((g[n]'hng).toNat:Int)==(e[n]'hne').toNat)=false:=by simpa using hneq
 clear hneq
 go_enter Tryz.func114,Tryz.ntmps114
 go_wp2_with (go_at_call 172;refine (Tryz.utf8_ValidRune _ _).mono ?_;rintro e w' ⟨rfl,hw⟩;subst hw)
 ·go_ret
  exact⟨rfl,Below.refl _ _⟩
 ·go_step3
  go_wp2;refine wp_loop_rounds 1 ?_;rw[rounds_succ];go_wp2
  go_step3
  go_wp2;have Hn:=Lib.hid hn;clear hn
  go_quiet (fail)
  go_wp2;have hbq:Below w'.heap.size w' (w'.drewN nq):=Go.below_drewN (Below.refl _ _) _;generalize w'.drewN nq=w2 at hbq ⊢;have q1:IntKind.i64.wrap ((n:Int)+1)=(n:Int)+1:=IntWalk.i64_in _ (by omega);have q2:0≤(n:Int)+1:=by omega
  have q3:((n:Int)+1).toNat=n+1:=by omega
  have q4:(n:Int)+1≤(g.size:Int):=by omega
  have e41:Lib.indexByte (List.take (g.size-(n+1)) (List.drop (n+1) g.data.toList)) (e[n]'hne')<0:=by
   rw[indexByte_high _ (fun b hb=>HG.out b (List.mem_of_mem_drop (List.mem_of_mem_take hb))) _ f4];decide
  go_quiet ((go_at_call 171;exact Calls.quiet_of_same (Tryz.strings_IndexByte _ _ _)))
  clear q1 q2 q3 q4;go_wp2;rw[Exit.noGoto_ret];simp only[Exit.inBlock,Exit.then];rw[Exit.noGoto_ret];simp only[Exit.inBlock]
  go_ret
  exact⟨rfl,Go.below_drewN hbq _⟩
theorem indexRune_valid3 (g:ByteArray) (r:Int) (w:World) (h4:g.size<(Utf8.encode r).size) (h3:2≤g.size) (h1:128≤r) (h2:¬r=65533) (hv:Utf8.valid r=true) :
  Calls Tryz.prog 114 #[.string g,.int .i32 r] w fun e w'=>e=.returned (.int .i64 (-1))∧Below w.heap.size w w':=by
 obtain⟨f1,f2,f3⟩:=encode_facts r hv h1;clear f3;have hv':validRune r=true:=by rw[←validRune_eq];exact hv
 have Hv:=Lib.hid hv;clear hv;have hne:(r==65533)=false:=by simpa using h2
 generalize he:Utf8.encode r=e at f1 f2 h4;have hce:=fun (w:World)=>run_convert_int_string (P:=Tryz.prog) w 21 9 .i32 r (by rw[Tryz.underlying21];rfl) Tryz.underlying9
 rw[he] at hce;clear he;obtain⟨n,hn⟩:∃n,e.size=n+1:=⟨e.size-1,by omega⟩;have hng:¬n<g.size:=by omega
 go_enter Tryz.func114,Tryz.ntmps114
 go_wp2_with (go_at_call 172;refine (Tryz.utf8_ValidRune _ _).mono ?_;rintro e w' ⟨rfl,hw⟩;subst hw)
 ·go_ret
  exact⟨rfl,Below.refl _ _⟩
 ·go_step3
  go_wp2;refine wp_loop_rounds 1 ?_;rw[rounds_succ];go_wp2;rw[Exit.noGoto_ret];simp only[Exit.inBlock,Exit.then]
  (try rw[Exit.noGoto_ret])
  (try simp only[Exit.inBlock])
  go_ret
  exact⟨rfl,Below.refl _ _⟩
theorem indexRune_high2 (g:ByteArray) (r:Int) (w:World) (hg:∀b∈g.data.toList,b.toNat<128) (h4:2≤g.size) (h5:g.size≤200) (h1:128≤r) :
  Calls Tryz.prog 114 #[.string g,.int .i32 r] w fun e w'=>e=.returned (.int .i64 (-1))∧Below w.heap.size w w':=by
 by_cases h2:r=65533
 ·subst h2;exact indexRune_bad g w hg
 ·by_cases hv:Utf8.valid r=true
  ·rcases Nat.lt_or_ge g.size (Utf8.encode r).size with h|h
   ·exact indexRune_valid3 g r w h h4 h1 h2 hv
   ·exact indexRune_valid2 g r w hg h h5 h1 h2 hv
  ·exact indexRune_none g r w h1 h2 (by rw[validRune_eq] at hv;simpa using hv)
theorem indexAny_here {chars:Bs}:∀{l:Bs}{p:Nat}{b:UInt8},l[p]? = some b→chars.contains b=true→(∀j,j<p→∀c,l[j]? = some c→chars.contains c=false)→Lib.indexAny l chars=(p:Int)
 | [],p,b,h,_,_=>by simp at h
 | c::l,0,b,h,hb,_=>by
  obtain rfl:c=b:=by simpa using h
  rw[Lib.indexAny,if_pos hb];rfl
 | c::l,p+1,b,h,hb,hn=>by
  have h0:=hn 0 (by omega) c rfl;have ih:=indexAny_here (l:=l) (p:=p) (by simpa using h) hb (fun j hj d hd=>hn (j+1) (by omega) d (by simpa using hd));rw[Lib.indexAny,h0,ih];have e:((p:Int) == -1)=false:=beq_eq_false_iff_ne.2 (by omega);simp[e]
theorem indexAny_no {chars:Bs}:∀{l:Bs},(∀c∈l,chars.contains c=false)→Lib.indexAny l chars=-1
 | [],_=>rfl
 | c::l,h=>by
  have ih:=indexAny_no (l:=l) (fun d hd=>h d (List.mem_cons_of_mem _ hd));rw[Lib.indexAny,h c (List.mem_cons_self ..),ih];rfl
theorem NoSign.at_end {s:ByteArray}{g:Bs} (h:NoSign s g s.size):Lib.indexAny s.data.toList g=-1 :=
 indexAny_no fun c hc=>by
  obtain⟨j,hj,rfl⟩:=List.mem_iff_getElem.1 hc;exact h.2 j (by simpa using hj) (by simpa using hj)
theorem NoSign.at_hit {s:ByteArray}{g:Bs}{p:Nat} (h:NoSign s g p) (hp:p<s.size) (hc:g.contains s[p]=true):Lib.indexAny s.data.toList g=(p:Int):=by
 have hl:p<s.data.toList.length:=by simpa using hp
 refine indexAny_here (b:=s[p]) (List.getElem?_eq_getElem hl) hc (fun j hj c hjc=>?_);obtain⟨hjl,rfl⟩:=List.getElem?_eq_some_iff.1 hjc;exact h.2 j (by simpa using hjl) hj
theorem indexAnyX_short (s g:ByteArray) (w:World) (hg:∀b∈g.data.toList,b.toNat<128) (h4:2≤g.size) (h5:g.size≤200) (h8:s.size≤8) :
  Calls Tryz.prog 71 #[.string s,.string g] w fun e w'=>e=.returned (.int .i64 (Lib.indexAny s.data.toList g.data.toList))∧Below w.heap.size w w':=by
 have HG:=Lib.hid hg;clear hg;have hemp:g.toList.isEmpty=false:=by
  rw[ByteArray.toList_eq];cases h:g.data.toList with
  | nil=>have:=size_list g;rw[h,List.length_nil] at this;omega
  | cons _ _=>rfl
 have hn1:((g.size:Int)==1)=false:=beq_eq_false_iff_ne.2 (by omega);have h8z:decide ((8:Int)<(s.size:Int))=false:=decide_eq_false (by omega)
 go_enter Tryz.func71,Tryz.ntmps71
 go_wp2_with (go_at_call 115;refine (Tryz.strings_shouldUseASCIISet _ _).mono ?_;rintro e w' ⟨rfl,hw⟩;rw[hw,h8z])
 go_loopg [9,10] s.size (fun n _ _ wx=>∃p:Nat,p+n=s.size∧wx.heap[w.heap.size]? = some (.stringIter s p)∧Hid (NoSign s g.data.toList p)∧Below w.heap.size w wx)
 case atStart=>exact⟨0,by omega,World.iter_heap _ _ _,⟨by omega,fun _ _ h=>absurd h (by omega)⟩,(Below.refl _ _).alloc (Nat.le_refl _) _⟩
 case round =>
  obtain⟨p,hpn,hit,HN,hb⟩:=hrel;cases gk with
  | zero =>
   obtain rfl:p=s.size:=by omega
   have hnx:=fun ty=>Lib.run_next_end_at (P:=Tryz.prog) wr w.heap.size s s.size ty hit (by omega)
   go_wp2
   go_ret
   exact⟨by rw[HN.out.at_end];rfl,hb⟩
  | succ n =>
   have hp:p<s.size:=by omega
   by_cases hx:(s[p]'hp).toNat<128
   ·have hnx:=fun ty=>Lib.run_next_ascii_at (P:=Tryz.prog) wr w.heap.size s p ty hit hp hx
    have hcon:=Lib.contains_iff_indexByte g.data.toList (s[p]'hp);have hback:(((s[p]'hp).toNat:Int)).toNat.toUInt8=s[p]'hp:=by simp
    cases hin:g.data.toList.contains (s[p]'hp)
    ·rw[hin] at hcon;have hlt:Lib.indexByte g.data.toList (s[p]'hp)<0:=by have:=of_decide_eq_false hcon.symm;omega
     clear hcon;have HI:=Lib.hid hin;clear hin
     go_wp2_with (go_at_call 114;refine (Tryz.strings_IndexRune_ascii _ _ _ (by omega) (by omega)).mono ?_;rintro e w' ⟨rfl,hw⟩;rw[hw,hback])
     go_roundg n
     case measure=>omega
     case rel=>exact⟨p+1,by omega,Lib.iterAt_heap _ _ _ _ _ hit,HN.out.step hp HI.out,Lib.below_iterAt hb (Nat.le_refl _) _ _⟩
    ·rw[hin] at hcon;have hge:0≤Lib.indexByte g.data.toList (s[p]'hp):=of_decide_eq_true hcon.symm;clear hcon;have HI:=Lib.hid hin;clear hin
     go_wp2_with (go_at_call 114;refine (Tryz.strings_IndexRune_ascii _ _ _ (by omega) (by omega)).mono ?_;rintro e w' ⟨rfl,hw⟩;rw[hw,hback])
     go_ret
     exact⟨by rw[HN.out.at_hit hp HI.out];simp,Lib.below_iterAt hb (Nat.le_refl _) _ _⟩
   ·obtain⟨d1,d2⟩:=decode_high s p hp (by omega);obtain⟨d3,d4⟩:=decode_bytes s p hp (by omega);have D4:=Lib.hid d4;clear d4;have hnx:=fun ty=>Lib.run_next_any_at (P:=Tryz.prog) wr w.heap.size s p ty hit hp
    generalize hc:(Utf8.decode s p).1=c at d1 hnx;generalize hd:(Utf8.decode s p).2=d at d2 d3 D4 hnx;clear hc hd
    go_wp2_with (go_at_call 114;refine (indexRune_high2 _ _ _ HG.out h4 h5 (by omega)).mono ?_;rintro e w2 ⟨rfl,hb2⟩)
    go_roundg (s.size-(p+d))
    case measure=>omega
    case rel=>exact⟨p+d,by omega,(hb2.block _ (by rw[Lib.iterAt_size];exact (Array.getElem?_eq_some_iff.1 hit).1)).trans (Lib.iterAt_heap _ _ _ _ _ hit),HN.out.jump d3 D4.out HG.out,(Lib.below_iterAt hb (Nat.le_refl _) _ _).trans (hb2.mono (by rw[Lib.iterAt_size];exact hb.size))⟩
theorem indexAnyX_any (s g:ByteArray) (w:World) (hg:∀b∈g.data.toList,b.toNat<128) (h4:2≤g.size) (h5:g.size≤200) (hs:s.size<4294967281) :
  Calls Tryz.prog 71 #[.string s,.string g] w fun e w'=>e=.returned (.int .i64 (Lib.indexAny s.data.toList g.data.toList))∧Below w.heap.size w w':=by
 rcases Nat.lt_or_ge 8 s.size with h|h
 ·refine (Tryz.strings_IndexAny_long (fun w=>by kernel_rfl) s g w h4 h hs (by omega) (fun j b hb=>hg b (List.mem_of_getElem? hb))).mono ?_;rintro e w' ⟨rfl,rfl⟩;exact⟨rfl,((Below.refl _ w).alloc (Nat.le_refl _) _).alloc (by simp) _⟩
 ·exact indexAnyX_short s g w hg h4 h5 h
end Go.Proofs.YtkkebmciiiajeaaGreatDoor
namespace Go.Bd
def lastAny:Bs→Bs→Int
 | [],_=>-1
 | b::l,g=>if 0≤lastAny l g then lastAny l g+1 else if g.contains b then 0 else -1
theorem lastAny_no {g:Bs}:∀{l:Bs},(∀c∈l,g.contains c=false)→lastAny l g=-1
 | [],_=>rfl
 | c::l,h=>by
  have ih:=lastAny_no (l:=l) (fun d hd=>h d (List.mem_cons_of_mem _ hd));rw[lastAny,ih,h c (List.mem_cons_self ..)];rfl
theorem lastAny_here {g:Bs}:∀{l:Bs}{p:Nat}{b:UInt8},l[p]? = some b→g.contains b=true→(∀j,p<j→∀c,l[j]? = some c→g.contains c=false)→lastAny l g=(p:Int)
 | [],p,b,h,_,_=>by simp at h
 | c::l,0,b,h,hb,hn=>by
  obtain rfl:c=b:=by simpa using h
  have ih:=lastAny_no (g:=g) (l:=l) (fun d hd=>by
   obtain⟨j,hj,rfl⟩:=List.mem_iff_getElem.1 hd;exact hn (j+1) (by omega) _ (by rw[List.getElem?_cons_succ,List.getElem?_eq_getElem hj]))
  rw[lastAny,ih,hb];rfl
 | c::l,p+1,b,h,hb,hn=>by
  have ih:=lastAny_here (l:=l) (p:=p) (by simpa using h) hb (fun j hj d hd=>hn (j+1) (by omega) d (by simpa using hd));rw[lastAny,ih,if_pos (by omega)];rfl
def NoFrom (s:ByteArray) (g:Bs) (p:Nat):Prop:=p≤s.size∧∀j (h:j<s.size),p≤j→g.contains s[j]=false
theorem NoFrom.at_end {s:ByteArray}{g:Bs} (h:NoFrom s g 0):lastAny s.data.toList g=-1 :=
 lastAny_no fun c hc=>by
  obtain⟨j,hj,rfl⟩:=List.mem_iff_getElem.1 hc;exact h.2 j (by simpa using hj) (Nat.zero_le _)
theorem NoFrom.at_hit {s:ByteArray}{g:Bs}{p:Nat} (h:NoFrom s g (p+1)) (hp:p<s.size) (hc:g.contains s[p]=true):lastAny s.data.toList g=(p:Int):=by
 have hl:p<s.data.toList.length:=by simpa using hp
 refine lastAny_here (b:=s[p]) (List.getElem?_eq_getElem hl) hc (fun j hj c hjc=>?_);obtain⟨hjl,rfl⟩:=List.getElem?_eq_some_iff.1 hjc;exact h.2 j (by simpa using hjl) hj
theorem NoFrom.back {s:ByteArray}{g:Bs}{p:Nat} (h:NoFrom s g (p+1)) (hp:p<s.size) (hc:g.contains s[p]=false):NoFrom s g p:=by
 refine⟨by omega,fun j hj hjp=>?_⟩
 by_cases e:j=p
 ·subst e;exact hc
 ·exact h.2 j hj (by omega)
theorem NoFrom.jump {s:ByteArray}{g:Bs}{p d:Nat} (h:NoFrom s g (p+d)) (h1:∀j (hj:p+j<s.size),j<d→128≤(s[p+j]'hj).toNat) (hg:∀b∈g,b.toNat<128):NoFrom s g p:=by
 refine⟨by have:=h.1;omega,fun j hj hjp=>?_⟩
 by_cases e:p+d≤j
 ·exact h.2 j hj e
 ·rw[Bool.eq_false_iff];intro hc;have h2:=hg _ (by simpa using hc);obtain⟨k,rfl⟩:∃k,j=p+k:=⟨j-p,by omega⟩;have:=h1 k hj (by omega)
  omega
end Go.Bd
namespace Go.Proofs.YtkkebmciiiajeaaGreatDoor
open Go.RowKit Go.Bd
theorem lastIndexAny_one (s g:ByteArray) (w:World) (hg:∀b∈g.data.toList,b.toNat<128) (h4:2≤g.size) (h5:g.size≤200) (h1:s.size=1) :
  Calls Tryz.prog 175 #[.string s,.string g] w fun e w'=>e=.returned (.int .i64 (lastAny s.data.toList g.data.toList))∧Below w.heap.size w w':=by
 have HG:=Lib.hid hg;clear hg;have hemp:g.toList.isEmpty=false:=by
  rw[ByteArray.toList_eq];cases h:g.data.toList with
  | nil=>have:=size_list g;rw[h,List.length_nil] at this;omega
  | cons _ _=>rfl
 have hne:(g.toList==[]:Bool)=false:=by
  rw[ByteArray.toList_eq];cases h:g.data.toList with
  | nil=>have:=size_list g;rw[h,List.length_nil] at this;omega
  | cons _ _=>rfl
 have hp:0<s.size:=by omega
 have hN1:NoFrom s g.data.toList (0+1):=⟨by omega,fun j hj h=>by omega⟩;have h255:(s[0]'hp).toNat<256:=(s[0]'hp).toNat_lt;have hw32:wrap32 ((s[0]'hp).toNat:Int)=((s[0]'hp).toNat:Int):=IntWalk.wrap32_in _ (by omega)
 by_cases hx:(s[0]'hp).toNat<128
 ·have hcon:=Lib.contains_iff_indexByte g.data.toList (s[0]'hp);have hback:(((s[0]'hp).toNat:Int)).toNat.toUInt8=s[0]'hp:=by simp
  cases hin:g.data.toList.contains (s[0]'hp)
  focus
   rw[hin] at hcon;have hlt:Lib.indexByte g.data.toList (s[0]'hp)<0:=by have:=of_decide_eq_false hcon.symm;omega
   have hres:=(hN1.back hp hin).at_end
  rotate_left
  focus
   rw[hin] at hcon;have hge:0≤Lib.indexByte g.data.toList (s[0]'hp):=of_decide_eq_true hcon.symm;have hres:=hN1.at_hit hp hin
  rotate_left
  all_goals
   have HR:=Lib.hid hres;clear hcon hin hN1 hres
   go_enter Tryz.func175,Tryz.ntmps175
   go_wp2_with (go_at_call 114;refine (Tryz.strings_IndexRune_ascii _ _ _ (by omega) (by omega)).mono ?_;rintro e w' ⟨rfl,hw⟩;rw[hw,hback])
   go_ret
   exact⟨by rw[HR.out];rfl,Below.refl _ _⟩
 ·have hin:g.data.toList.contains (s[0]'hp)=false:=by
   rw[Bool.eq_false_iff];intro hc;have:=HG.out _ (by simpa using hc)
   omega
  have hres:=(hN1.back hp hin).at_end;have HR:=Lib.hid hres;clear hin hN1 hres
  go_enter Tryz.func175,Tryz.ntmps175
  have hB:=indexRune_bad g w HG.out
  go_wp2_with (go_at_call 114;refine hB.mono ?_;rintro e w2 ⟨rfl,hb2⟩)
  go_ret
  exact⟨by rw[HR.out];rfl,hb2⟩
theorem lastIndexAny_long (s g:ByteArray) (w:World) (hg:∀b∈g.data.toList,b.toNat<128) (h4:2≤g.size) (h5:g.size≤200) (h8:8<s.size) (hs:s.size<4294967281) :
  Calls Tryz.prog 175 #[.string s,.string g] w fun e w'=>e=.returned (.int .i64 (lastAny s.data.toList g.data.toList))∧Below w.heap.size w w':=by
 have hM:=Tryz.strings_makeASCIISet (fun w=>by kernel_rfl) g w (by omega) (fun j b hb=>hg b (List.mem_of_getElem? hb));have HG:=Lib.hid hg;clear hg;have hemp:g.toList.isEmpty=false:=by
  rw[ByteArray.toList_eq];cases h:g.data.toList with
  | nil=>have:=size_list g;rw[h,List.length_nil] at this;omega
  | cons _ _=>rfl
 have hne:(g.toList==[]:Bool)=false:=by
  rw[ByteArray.toList_eq];cases h:g.data.toList with
  | nil=>have:=size_list g;rw[h,List.length_nil] at this;omega
  | cons _ _=>rfl
 have hn1:((g.size:Int)==1)=false:=beq_eq_false_iff_ne.2 (by omega);have hs1:((s.size:Int)==1)=false:=beq_eq_false_iff_ne.2 (by omega);have h8z:decide ((8:Int)<(s.size:Int))=true:=decide_eq_true (by omega);have hi116:(Tryz.prog.info? 148).map (·.size)=some 256:=by kernel_rfl
 have hsc:(storeCells ⟨w.heap.size+1,0,none⟩ (Lib.setCells g.data.toList).toList 0).run Tryz.prog ((w.alloc (.cells (Lib.setCells g.data.toList) 148)).alloc (.cells (Array.replicate 256 (.bool false)) 148))=.ok () ((w.alloc (.cells (Lib.setCells g.data.toList) 148)).alloc (.cells (Lib.setCells g.data.toList) 148)):=by
  have:=run_storeCells_new (P:=Tryz.prog) (w.alloc (.cells (Lib.setCells g.data.toList) 148)) 148 (Array.replicate 256 (.bool false)) (Lib.setCells g.data.toList) (by rw[Lib.setCells_size];exact hi116) (by rw[Lib.setCells_size,Array.size_replicate]) (Lib.setCells_one _)
  simpa using this
 have hsz:=Lib.setCells_size g.data.toList;have hcellAt:∀x:UInt8,((w.alloc (.cells (Lib.setCells g.data.toList) 148)).alloc (.cells (Lib.setCells g.data.toList) 148)).cell? ⟨w.heap.size+1,x.toNat,none⟩=some (.bool (g.data.toList.contains x)):=fun x=>by
  rw[World.cell?_alloc_at _ _ _ _ (by simp),Lib.setCells_at]
 have HC:=Lib.hid hcellAt;clear hcellAt
 go_enter Tryz.func175,Tryz.ntmps175
 go_wp2_with (first
  | (go_at_call 115;refine (Tryz.strings_shouldUseASCIISet _ _).mono ?_;rintro e w' ⟨rfl,hw⟩;rw[hw,h8z])
  | (go_at_call 87;refine hM.mono ?_;rintro e w' ⟨rfl,hw⟩;rw[hw]))
 have hz116:∀w,(zeroValue 148).run Tryz.prog w=.ok (.agg (Array.replicate 256 (.bool false))) w:=fun w=>by kernel_rfl
 have hzc:Tryz.zeroCells148=Array.replicate 256 (.bool false):=by kernel_rfl
 simp only[hz116,Result.andThen,↓reduceIte,hzc,hsc];rw[Oper.upon_skip];go_wp2;clear hM hsc
 go_loopg [8] s.size (fun n s8 wx=>∃i:Nat,i=n∧i≤s.size∧s8=.int .i64 ((i:Int)-1)∧wx=((w.alloc (.cells (Lib.setCells g.data.toList) 148)).alloc (.cells (Lib.setCells g.data.toList) 148))∧Hid (NoFrom s g.data.toList i))
 case atStart=>exact⟨s.size,rfl,Nat.le_refl _,by simp,rfl,⟨Nat.le_refl _,fun j hj h=>by omega⟩⟩
 case round =>
  obtain⟨i,hin,his,rfl,rfl,HN⟩:=hrel;cases gk with
  | zero =>
   obtain rfl:i=0:=hin;go_wp2
   go_ret
   exact⟨by rw[HN.out.at_end];rfl,((Below.refl _ w).alloc (Nat.le_refl _) _).alloc (by simp) _⟩
  | succ n =>
   obtain rfl:i=n+1:=hin;have hi:n<s.size:=by omega
   have hiz:((n+1:Nat):Int)-1=(n:Int):=by omega
   simp only[hiz];obtain⟨x,hx⟩:∃x:UInt8,s[n]'hi=x:=⟨_,rfl⟩;have Hx:=Lib.hid hx;have hcx:=HC.out x;cases hin:g.data.toList.contains x<;>rw[hin] at hcx
   ·have hni:g.data.toList.contains (s[n]'hi)=false:=by rw[hx];exact hin
    have HB:=Lib.hid (HN.out.back hi hni);clear hin hni
    go_wp2_with (go_at_call 116;refine (Tryz.asciiSet_contains _ x _ _ hcx).mono ?_;rintro e w' ⟨rfl,hw⟩;rw[hw])
    go_roundg n
    case measure=>omega
    case rel=>exact⟨n,rfl,by omega,by go_num,rfl,HB.out⟩
   ·have hni:g.data.toList.contains (s[n]'hi)=true:=by rw[hx];exact hin
    have HB:=Lib.hid (HN.out.at_hit hi hni);clear hin hni
    go_wp2_with (go_at_call 116;refine (Tryz.asciiSet_contains _ x _ _ hcx).mono ?_;rintro e w' ⟨rfl,hw⟩;rw[hw])
    go_ret
    exact⟨by rw[HB.out];rfl,((Below.refl _ w).alloc (Nat.le_refl _) _).alloc (by simp) _⟩
end Go.Proofs.YtkkebmciiiajeaaGreatDoor
namespace Go.Proofs.YtkkebmciiiajeaaGreatDoor
open Go.RowKit Go.Bd
theorem get_cong (s:ByteArray){i j:Nat} (h:i=j) (hi:i<s.size):s[i]'hi=s[j]'(h ▸ hi):=by subst h;rfl
theorem ext_get (s:ByteArray) (a j:Nat) (h:a+j<s.size) (hj:j<(s.extract a s.size).size):(s.extract a s.size)[j]'hj=s[a+j]'h:=by
 rw[ByteArray.getElem_extract]
theorem last_high (s:ByteArray) (h0:0<s.size) (hhi:128≤(s[s.size-1]'(by omega)).toNat) :
  128≤(Lib.decodeLastL s.data.toList).1∧1≤(Lib.decodeLastL s.data.toList).2∧(Lib.decodeLastL s.data.toList).2≤s.size∧∀j (hj:(s.size-(Lib.decodeLastL s.data.toList).2)+j<s.size),j<(Lib.decodeLastL s.data.toList).2→128≤(s[(s.size-(Lib.decodeLastL s.data.toList).2)+j]'hj).toNat:=by
 have hne:s.data.toList≠[]:=fun e=>by
  have:=size_list s
  rw[e,List.length_nil] at this;omega
 have hlt:=Lib.lastStart_lt _ hne;rw[←size_list] at hlt;have hg:(s.get! (s.size-1)).toNat=(s[s.size-1]'(by omega)).toNat:=by
  have:s.get! (s.size-1)=s[s.size-1]'(by omega):=by
   have hk:s.size-1<s.size:=by omega
   simp[ByteArray.get!,getElem!_pos,hk];rfl
  rw[this]
 rw[Lib.decodeLastL_eq s h0 (by omega)];generalize hst:Lib.lastStart s.data.toList=st at hlt;have hts:(s.extract st s.size).size=s.size-st:=by rw[ByteArray.size_extract];omega
 have hgo:Lib.decodeGo (s.extract st s.size)=Utf8.decode (s.extract st s.size) 0:=by unfold Lib.decodeGo;rw[if_neg (by omega)]
 have ht0:0<(s.extract st s.size).size:=by omega
 unfold Lib.lastOf;rw[hgo]
 by_cases hc:st+(Utf8.decode (s.extract st s.size) 0).2=s.size
 ·rw[if_pos hc]
  by_cases hx:((s.extract st s.size)[0]'ht0).toNat<128
  ·exfalso;have hd:(Utf8.decode (s.extract st s.size) 0).2=1:=by simp only[Utf8.decode,get_at _ 0 ht0,hx,if_true]
   rw[hd] at hc;rw[ext_get s st 0 (by omega)] at hx;have e:=get_cong s (show st+0=s.size-1 by omega) (by omega);rw[e] at hx;omega
  ·obtain⟨d1,d2⟩:=decode_high (s.extract st s.size) 0 ht0 (by omega);obtain⟨d3,d4⟩:=decode_bytes (s.extract st s.size) 0 ht0 (by omega);refine⟨d1,d2,by omega,fun j hj hl=>?_⟩;have hl':j<(Utf8.decode (s.extract st s.size) 0).2:=hl;have h5:=d4 j (by omega) hl';rw[ext_get s st (0+j) (by omega) (by omega)] at h5;have e2:=get_cong s (show (s.size-(Utf8.decode (s.extract st s.size) 0).2)+j=st+(0+j) by omega) hj
   show 128≤(s[(s.size-(Utf8.decode (s.extract st s.size) 0).2)+j]'hj).toNat
   rw[e2];exact h5
 ·rw[if_neg hc];refine⟨by decide,Nat.le_refl _,by omega,fun j hj hl=>?_⟩;have hl':j<1:=hl;obtain rfl:j=0:=by omega
  show 128≤(s[(s.size-1)+0]'hj).toNat
  exact hhi
theorem last_low (s:ByteArray) (h0:0<s.size) (hlo:(s[s.size-1]'(by omega)).toNat<128):Lib.decodeLastL s.data.toList=((s[s.size-1]'(by omega)).toNat,1):=by
 have hne:s.data.toList≠[]:=fun e=>by
  have:=size_list s
  rw[e,List.length_nil] at this;omega
 have hl:s.data.toList.length=s.size:=(size_list s).symm;have hd:s.data.toList.getD (s.data.toList.length-1) 0=s[s.size-1]'(by omega):=by
  rw[hl,getD_get (by omega)]
 unfold Lib.decodeLastL;rw[if_neg hne,hd,if_pos hlo]
theorem lastIndexAny_short (s g:ByteArray) (w:World) (hg:∀b∈g.data.toList,b.toNat<128) (h4:2≤g.size) (h5:g.size≤200) (h8:s.size≤8) (h1:s.size≠1) (hT:Lib.Utf8Tabs 1 2 w) :
  Calls Tryz.prog 175 #[.string s,.string g] w fun e w'=>e=.returned (.int .i64 (lastAny s.data.toList g.data.toList))∧Below w.heap.size w w':=by
 have HG:=Lib.hid hg;have HT:=Lib.hid hT;clear hg hT;have hemp:g.toList.isEmpty=false:=by
  rw[ByteArray.toList_eq];cases h:g.data.toList with
  | nil=>have:=size_list g;rw[h,List.length_nil] at this;omega
  | cons _ _=>rfl
 have hne:(g.toList==[]:Bool)=false:=by
  rw[ByteArray.toList_eq];cases h:g.data.toList with
  | nil=>have:=size_list g;rw[h,List.length_nil] at this;omega
  | cons _ _=>rfl
 have hn1:((g.size:Int)==1)=false:=beq_eq_false_iff_ne.2 (by omega);have hs1:((s.size:Int)==1)=false:=beq_eq_false_iff_ne.2 (by omega);have h8z:decide ((8:Int)<(s.size:Int))=false:=decide_eq_false (by omega)
 go_enter Tryz.func175,Tryz.ntmps175
 go_wp2_with (go_at_call 115;refine (Tryz.strings_shouldUseASCIISet _ _).mono ?_;rintro e w' ⟨rfl,hw⟩;rw[hw,h8z])
 go_loopg [13,14,15] s.size (fun n s10 _ _ wx=>∃i:Nat,i=n∧i≤s.size∧s10=.int .i64 (i:Int)∧Below w.heap.size w wx∧Hid (NoFrom s g.data.toList i))
 case atStart=>exact⟨s.size,rfl,Nat.le_refl _,rfl,Below.refl _ _,⟨Nat.le_refl _,fun j hj h=>by omega⟩⟩
 case round =>
  obtain⟨i,rfl,his,rfl,hb,HN⟩:=hrel
  by_cases hi0:i=0
  ·subst hi0;go_wp2
   go_ret
   exact⟨by rw[HN.out.at_end];rfl,hb⟩
  ·have hi:0<i:=by omega
   have hts:(s.extract 0 i).size=i:=by rw[ByteArray.size_extract];omega
   have hT1:Lib.Utf8Tabs 1 2 wr:=Utf8Tabs_below HT.out hb;have cd:=Tryz.utf8_DecodeLastRuneInString (s.extract 0 i) wr (by omega) hT1;have hlast:∀j (hj:j<(s.extract 0 i).size),(s.extract 0 i)[j]'hj=s[j]'(by omega):=fun j hj=>by
    rw[ByteArray.getElem_extract];exact get_cong s (by omega) _
   by_cases hx:(s[i-1]'(by omega)).toNat<128
   ·have hlow:=last_low (s.extract 0 i) (by omega) (by rw[hlast];have e:=get_cong s (show (s.extract 0 i).size-1=i-1 by omega) (by omega);rw[e];exact hx);have hlv:(s.extract 0 i)[(s.extract 0 i).size-1]'(by omega)=s[i-1]'(by omega):=by
     rw[hlast];exact get_cong s (show (s.extract 0 i).size-1=i-1 by omega) _
    rw[hlv] at hlow;rw[hlow] at cd;have hcon:=Lib.contains_iff_indexByte g.data.toList (s[i-1]'(by omega));have hback:(((s[i-1]'(by omega)).toNat:Int)).toNat.toUInt8=s[i-1]'(by omega):=by simp
    have hii:i-1+1=i:=by omega
    have HN1:NoFrom s g.data.toList (i-1+1):=by rw[hii];exact HN.out
    cases hin:g.data.toList.contains (s[i-1]'(by omega))
    ·rw[hin] at hcon;have hlt:Lib.indexByte g.data.toList (s[i-1]'(by omega))<0:=by have:=of_decide_eq_false hcon.symm;omega
     have HJ:=Lib.hid (HN1.back (by omega) hin);clear hcon hin HN1 HN hlast hlow hlv
     go_wp2_with (first
      | (go_at_call 134;refine cd.mono ?_;rintro e w2 ⟨rfl,hb2⟩)
      | (go_at_call 114;refine (Tryz.strings_IndexRune_ascii _ _ _ (by omega) (by omega)).mono ?_;rintro e w3 ⟨rfl,hw⟩;rw[hw,hback]))
     go_roundg (i-1)
     case measure=>omega
     case rel=>exact⟨i-1,rfl,by omega,by go_num,hb.trans (hb2.mono hb.size),HJ.out⟩
    ·rw[hin] at hcon;have hge:0≤Lib.indexByte g.data.toList (s[i-1]'(by omega)):=of_decide_eq_true hcon.symm;have HJ:=Lib.hid (HN1.at_hit (by omega) hin);clear hcon hin HN1 HN hlast hlow hlv
     go_wp2_with (first
      | (go_at_call 134;refine cd.mono ?_;rintro e w2 ⟨rfl,hb2⟩)
      | (go_at_call 114;refine (Tryz.strings_IndexRune_ascii _ _ _ (by omega) (by omega)).mono ?_;rintro e w3 ⟨rfl,hw⟩;rw[hw,hback]))
     go_ret
     refine⟨?_,hb.trans (hb2.mono hb.size)⟩;have e1:((i-1:Nat):Int)=(i:Int)-1:=by omega
     rw[HJ.out,e1];rfl
   ·obtain⟨d1,d2,d3,d4⟩:=last_high (s.extract 0 i) (by omega) (by rw[hlast];have e:=get_cong s (show (s.extract 0 i).size-1=i-1 by omega) (by omega);rw[e];omega);rw[hts] at d3;have hjump:NoFrom s g.data.toList (i-(Lib.decodeLastL (s.extract 0 i).data.toList).2):=by
     refine NoFrom.jump (d:=(Lib.decodeLastL (s.extract 0 i).data.toList).2) (by rw[Nat.sub_add_cancel d3];exact HN.out) (fun j hj hl=>?_) HG.out;have h6:=d4 j (by omega) hl;rw[hlast] at h6;have e:=get_cong s (show (s.extract 0 i).size-(Lib.decodeLastL (s.extract 0 i).data.toList).2+j=i-(Lib.decodeLastL (s.extract 0 i).data.toList).2+j by omega) (by omega);rw[e] at h6;exact h6
    generalize Lib.decodeLastL (s.extract 0 i).data.toList=dd at cd d1 d2 d3 hjump;clear d4 hlast hx;have HJ:=Lib.hid hjump;clear hjump HN
    go_wp2_with (first
     | (go_at_call 134;refine cd.mono ?_;rintro e w2 ⟨rfl,hb2⟩)
     | (go_at_call 114;refine (indexRune_high2 _ _ _ HG.out h4 h5 (by omega)).mono ?_;rintro e w3 ⟨rfl,hb3⟩))
    go_roundg (i-dd.2)
    case measure=>omega
    case rel=>exact⟨i-dd.2,rfl,by omega,by go_num,(hb.trans (hb2.mono hb.size)).trans (hb3.mono (Nat.le_trans hb.size hb2.size)),HJ.out⟩
theorem lastIndexAny_any (s g:ByteArray) (w:World) (hg:∀b∈g.data.toList,b.toNat<128) (h4:2≤g.size) (h5:g.size≤200) (hs:s.size<4294967281) (hT:Lib.Utf8Tabs 1 2 w) :
  Calls Tryz.prog 175 #[.string s,.string g] w fun e w'=>e=.returned (.int .i64 (lastAny s.data.toList g.data.toList))∧Below w.heap.size w w':=by
 by_cases h1:s.size=1
 ·exact lastIndexAny_one s g w hg h4 h5 h1
 ·rcases Nat.lt_or_ge 8 s.size with h|h
  ·exact lastIndexAny_long s g w hg h4 h5 h hs
  ·exact lastIndexAny_short s g w hg h4 h5 h h1 hT
end Go.Proofs.YtkkebmciiiajeaaGreatDoor
namespace Go.Bd
def runOf (l:Bs) (c:UInt8):Nat:=(l.takeWhile (· == c)).length
def leadB (l:Bs) (c:UInt8):Nat×Bs:=if runOf l c<1∨3<runOf l c∨l[runOf l c]?≠some 32 then (0,[]) else (runOf l c,dropL (l.drop (runOf l c)))
def commandB (l:Bs):Option (Bs×Bs) :=
 if l.length<2∨l.getD 0 0≠33∨(l.getD 1 0 ||| 32).toNat<97∨122<(l.getD 1 0 ||| 32).toNat then none
 else if 0≤Lib.indexAny (l.drop 1) [32,9] then some ((l.drop 1).take (Lib.indexAny (l.drop 1) [32,9]).toNat,dropL ((l.drop 1).drop (Lib.indexAny (l.drop 1) [32,9]).toNat)) else some (l.drop 1,[])
def titleB (l:Bs):Bs×Bs×Bs :=
 if lastAny l [32,9]<0∨(l.drop ((lastAny l [32,9]).toNat+1)).getD 0 0≠35 then (l,[],[])
 else if nameB ((l.drop ((lastAny l [32,9]).toNat+1)).drop 1)=true then (dropR (l.take (lastAny l [32,9]).toNat),(l.drop ((lastAny l [32,9]).toNat+1)).drop 1,[]) else (l,[],l.drop ((lastAny l [32,9]).toNat+1))
def itemB (l:Bs):Nat×Bool×Bs:=if 0<(leadB (trim l) 42).1 then ((leadB (trim l) 42).1,false,(leadB (trim l) 42).2) else if 0<(leadB (trim l) 46).1 then ((leadB (trim l) 46).1,true,(leadB (trim l) 46).2) else (0,false,[])
def fenceL:Bs:=[45,45,45,45]
def barsL:Bs:=[124,61,61,61]
def plainL (l:Bs):Bool:=!(decide (l=[]) || decide (l=fenceL) || Lib.hasPrefix l barsL)&&(commandB l).isNone&&decide ((leadB l 61).1=0)&&decide ((itemB l).1=0)
theorem runOf_at {l:Bs}{c:UInt8}:∀{k:Nat},k≤l.length→(∀j,j<k→l[j]? = some c)→(∀b,l[k]? = some b→b≠c)→runOf l c=k:=by
 induction l with
 | nil=>intro k hk _ _;simp at hk;subst hk;rfl
 | cons a l ih =>
  intro k hk h1 h2;cases k with
  | zero =>
   have:a≠c:=h2 a rfl
   unfold runOf;rw[List.takeWhile_cons,if_neg (by simpa using this)];rfl
  | succ k =>
   obtain rfl:a=c:=by simpa using h1 0 (by omega)
   have:=ih (k:=k) (by simpa using hk) (fun j hj=>by simpa using h1 (j+1) (by omega)) (fun b hb=>h2 b (by simpa using hb))
   unfold runOf at this ⊢;rw[List.takeWhile_cons,if_pos (by simp),List.length_cons,this]
theorem dropL_le (l:Bs):(dropL l).length≤l.length:=by
 unfold dropL
 induction l with
 | nil=>simp
 | cons a l ih =>
  rw[List.dropWhile_cons];split
  ·simp only[List.length_cons];omega
  ·simp
theorem lead_le (l:Bs) (c:UInt8):(leadB l c).2.length≤l.length:=by
 unfold leadB;split
 ·simp
 ·have:=dropL_le (l.drop (runOf l c))
  rw[List.length_drop] at this;simp only;omega
end Go.Bd
namespace Go.Proofs.YtkkebmciiiajeaaGreatDoor
open Go.RowKit Go.Bd
theorem strV_of {s:ByteArray}{l:Bs} (h:s.data.toList=l):Value.string s=strV l:=by
 subst h;simp[strV]
theorem get_list (s:ByteArray){k:Nat} (h:k<s.size):s.data.toList[k]? = some (s[k]'h):=by
 rw[List.getElem?_eq_getElem (by simpa using h)];rfl
theorem leading_any (s:ByteArray) (c:UInt8) (w:World) (hs:s.size≤100000000) :
  Calls Tryz.prog 74 #[.string s,.int .u8 (c.toNat:Int)] w fun e w'=>e=.returned (.tuple #[.int .i64 ((leadB s.data.toList c).1:Int),strV (leadB s.data.toList c).2])∧Below w.heap.size w w':=by
 have hlen:s.data.toList.length=s.size:=by simp
 obtain⟨L,hL⟩:∃L,leadB s.data.toList c=L:=⟨_,rfl⟩;rw[hL];have HL:=Lib.hid hL;clear hL
 go_enter Tryz.func74,Tryz.ntmps74
 go_wp2
 go_loopg [6] (s.size) (fun q v wr=>∃k:Nat,k+q=s.size∧v=.int .i64 (k:Int)∧wr=w∧Hid (∀j,j<k→s.data.toList[j]? = some c))
 case atStart=>exact⟨0,by omega,rfl,rfl,fun j hj=>by omega⟩
 case round =>
  obtain⟨k,hk,rfl,rfl,HJ⟩:=hrel
  by_cases hlt:k<s.size
  ·by_cases hc:s[k]=c
   ·have HK:Hid (∀j,j<k+1→s.data.toList[j]? = some c):=fun j hj=>by
     by_cases e:j=k
     ·subst e;rw[get_list s hlt,hc]
     ·exact HJ.out j (by omega)
    have hcn:((s[k]).toNat:Int)=(c.toNat:Int):=by rw[hc]
    clear HJ;go_wp2
    go_roundg (gk-1)
    case measure=>omega
    case rel=>exact⟨k+1,by omega,by go_num,rfl,HK.out⟩
   ·have hrun:runOf s.data.toList c=k:=runOf_at (by omega) HJ.out (fun b hb=>by rw[get_list s hlt] at hb;injection hb with hb;subst hb;exact hc);have hcn:¬((s[k]).toNat:Int)=(c.toNat:Int):=fun e=>hc (UInt8.toNat_inj.1 (by omega))
    have hcb:(((s[k]).toNat:Int)==(c.toNat:Int))=false:=beq_eq_false_iff_ne.2 hcn
    by_cases hbad:k<1∨3<k∨¬(s[k]).toNat=32
    ·have hres:leadB s.data.toList c=(0,[]):=by
      unfold leadB;rw[hrun,if_pos]
      rcases hbad with h|h|h
      ·exact .inl h
      ·exact .inr (.inl h)
      ·refine .inr (.inr fun e=>h ?_);rw[get_list s hlt] at e;injection e with e
       rw[e];rfl
     obtain rfl:L=(0,[]):=HL.out.symm.trans hres;clear HJ hlen hrun hc hres
     by_cases h1:k<1
     ·go_wp2
      go_ret2
      exact⟨rfl,Below.refl _ _⟩
     ·by_cases h2:3<k
      ·go_wp2
       go_ret2
       exact⟨rfl,Below.refl _ _⟩
      ·have h3:¬((s[k]).toNat:Int)=32:=by
        rcases hbad with h|h|h
        ·exact absurd h h1
        ·exact absurd h h2
        ·omega
       have h4:¬k=s.size:=by omega
       have h3b:(((s[k]).toNat:Int) != 32)=true:=by simpa using h3
       have h4b:((k:Int)==(s.size:Int))=false:=beq_eq_false_iff_ne.2 (by omega);go_wp2
       go_ret2
       exact⟨rfl,Below.refl _ _⟩
    ·have h1:¬k<1:=fun h=>hbad (.inl h)
     have h2:¬3<k:=fun h=>hbad (.inr (.inl h))
     have h3:(s[k]).toNat=32:=Classical.byContradiction fun h=>hbad (.inr (.inr h))
     have h3':((s[k]).toNat:Int)=32:=by omega
     have h4:¬k=s.size:=by omega
     have h3b:(((s[k]).toNat:Int) != 32)=false:=by simpa using h3'
     have h4b:((k:Int)==(s.size:Int))=false:=beq_eq_false_iff_ne.2 (by omega);have hres:leadB s.data.toList c=(k,dropL (s.data.toList.drop k)):=by
      unfold leadB;rw[hrun,if_neg];rintro (h|h|h)
      ·exact h1 h
      ·exact h2 h
      ·refine h ?_;rw[get_list s hlt]
       congr 1
       exact UInt8.toNat_inj.1 h3
     obtain rfl:L=(k,dropL (s.data.toList.drop k)):=HL.out.symm.trans hres;have htl:=strTrimL_any (s.extract k s.size) wr (by rw[ByteArray.size_extract];omega);rw[extract_list,List.take_of_length_le (by rw[List.length_drop,hlen];omega)] at htl;clear HJ hlen hrun hc hbad hres
     go_wp2_with (go_at_call 72;refine htl.mono ?_;rintro e w2 ⟨rfl,hb2⟩)
     go_ret2
     exact⟨rfl,hb2⟩
  ·obtain rfl:k=s.size:=by omega
   have hrun:runOf s.data.toList c=s.size:=runOf_at (by omega) HJ.out (fun b hb=>by rw[List.getElem?_eq_none (by omega)] at hb;cases hb);have hres:leadB s.data.toList c=(0,[]):=by
    unfold leadB;rw[hrun,if_pos];exact .inr (.inr (by rw[List.getElem?_eq_none (by omega)];simp))
   obtain rfl:L=(0,[]):=HL.out.symm.trans hres;clear HJ hlen hrun hres
   by_cases h1:s.size<1
   ·go_wp2
    go_ret2
    exact⟨rfl,Below.refl _ _⟩
   ·by_cases h2:3<s.size
    ·go_wp2
     go_ret2
     exact⟨rfl,Below.refl _ _⟩
    ·go_wp2
     go_ret2
     exact⟨rfl,Below.refl _ _⟩
theorem strV_data (l:Bs):(⟨l.toArray⟩:ByteArray).data.toList=l:=by simp
theorem trim_size (s:ByteArray):(trim s.data.toList).length≤s.size:=by have:=trim_le s.data.toList;rw[←size_list] at this;exact this
theorem item_any (s:ByteArray) (w:World) (hs:s.size≤100000000) :
  Calls Tryz.prog 75 #[.string s] w fun e w'=>e=.returned (.tuple #[.int .i64 ((itemB s.data.toList).1:Int),.bool (itemB s.data.toList).2.1,strV (itemB s.data.toList).2.2])∧Below w.heap.size w w':=by
 have htr:=strTrim_any s w (by omega);have hts:=trim_size s;have hl1:=fun w'=>leading_any ⟨(trim s.data.toList).toArray⟩ 42 w' (by rw[size_mk];omega)
 have hl2:=fun w'=>leading_any ⟨(trim s.data.toList).toArray⟩ 46 w' (by rw[size_mk];omega)
 rw[strV_data] at hl1 hl2;obtain⟨L,hL⟩:∃L,itemB s.data.toList=L:=⟨_,rfl⟩;rw[hL];have HL:=Lib.hid hL;unfold itemB at hL;unfold strV at htr;generalize hA:leadB (trim s.data.toList) 42=A at hl1 hL;generalize hC:leadB (trim s.data.toList) 46=C at hl2 hL;generalize (trim s.data.toList)=t at htr hl1 hl2 hts;clear hA hC HL;have HL:=Lib.hid hL;clear hL;obtain⟨a1,a2⟩:=A;obtain⟨c1,c2⟩:=C;simp only at hl1 hl2;have e42:(((42:UInt8).toNat:Nat):Int)=42:=rfl;have e46:(((46:UInt8).toNat:Nat):Int)=46:=rfl;rw[e42] at hl1;rw[e46] at hl2;clear e42 e46;unfold strV at hl1 hl2
 by_cases h1:0<a1
 ·obtain rfl:L=(a1,false,a2):=by rw[←HL.out];simp[h1]
  go_enter Tryz.func75,Tryz.ntmps75
  go_wp2_with (first
   | (go_at_call 50;refine htr.mono ?_;rintro e w1 ⟨rfl,hb1⟩)
   | (go_at_call 74;refine (hl1 _).mono ?_;rintro e w2 ⟨rfl,hb2⟩))
  (try simp only[Exit.inBlock,Exit.then]);refine bodyPost_ret (results_tmp3 rfl _ _ _) rfl ?_
  exact⟨rfl,hb1.trans (hb2.mono hb1.size)⟩
 ·by_cases h2:0<c1
  focus
   obtain rfl:L=(c1,true,c2):=by rw[←HL.out];simp[h1,h2]
  rotate_left
  focus
   obtain rfl:L=(0,false,[]):=by rw[←HL.out];simp[h1,h2]
  rotate_left
  all_goals
   go_enter Tryz.func75,Tryz.ntmps75
   go_wp2_with (first
    | (go_at_call 50;refine htr.mono ?_;rintro e w1 ⟨rfl,hb1⟩)
    | (go_at_call 74;refine (hl1 _).mono ?_;clear hl1;rintro e w2 ⟨rfl,hb2⟩)
    | (go_at_call 74;refine (hl2 _).mono ?_;rintro e w3 ⟨rfl,hb3⟩))
   (try simp only[Exit.inBlock,Exit.then]);refine bodyPost_ret (results_tmp3 rfl _ _ _) rfl ?_
   have e1:=hb1.trans (hb2.mono hb1.size);exact⟨rfl,e1.trans (hb3.mono e1.size)⟩
theorem counted_any (f t:ByteArray) (no:Int) (w:World) (hs:t.size≤100000000) :
  Calls Tryz.prog 38 #[.agg #[.string f,.int .i64 no,.string t]] w fun e w'=>e=.returned (strV (trim t.data.toList))∧Below w.heap.size w w':=by
 have htr:=fun w=>strTrim_any t w (by omega)
 go_enter Tryz.func38,Tryz.ntmps38
 go_wp2_with (go_at_call 50;refine (htr _).mono ?_;rintro e w1 ⟨rfl,hb1⟩)
 go_ret
 exact⟨rfl,((Below.refl _ w).alloc (Nat.le_refl _) _).trans (hb1.mono (by simp))⟩
end Go.Proofs.YtkkebmciiiajeaaGreatDoor
namespace Go.Bd
theorem lastAny_lt {g:Bs}:∀{l:Bs},lastAny l g<(l.length:Int)
 | []=>by simp[lastAny]
 | b::l=>by
  have ih:=lastAny_lt (g:=g) (l:=l);rw[lastAny,List.length_cons];split
  ·omega
  ·split<;>omega
theorem hasPrefix_one (l:Bs) (c:UInt8) (h0:c≠0):Lib.hasPrefix l [c]=decide (l.getD 0 0=c):=by
 cases l with
 | nil=>simp[Lib.hasPrefix,List.isPrefixOf,Ne.symm h0]
 | cons a l =>
  simp only[Lib.hasPrefix,List.isPrefixOf,Bool.and_true,List.getD_cons_zero];rw[Bool.eq_iff_iff,beq_iff_eq,decide_eq_true_iff];exact eq_comm
end Go.Bd
namespace Go.Proofs.YtkkebmciiiajeaaGreatDoor
open Go.RowKit Go.Bd
theorem blanks_ascii:∀b∈(⟨#[32,9]⟩:ByteArray).data.toList,b.toNat<128:=by decide
theorem title_any (s:ByteArray) (w:World) (hs:s.size≤100000000) (hT:Lib.Utf8Tabs 1 2 w) :
  Calls Tryz.prog 117 #[.string s] w fun e w'=>e=.returned (.tuple #[strV (titleB s.data.toList).1,strV (titleB s.data.toList).2.1,strV (titleB s.data.toList).2.2])∧Below w.heap.size w w':=by
 have cl:=lastIndexAny_any s ⟨#[32,9]⟩ w blanks_ascii (by decide) (by decide) (by omega) hT;have e9:(⟨#[32,9]⟩:ByteArray).data.toList=[32,9]:=rfl;rw[e9] at cl;have hlt:=lastAny_lt (g:=[32,9]) (l:=s.data.toList);have hlen:s.data.toList.length=s.size:=by simp
 obtain⟨L,hL⟩:∃L,titleB s.data.toList=L:=⟨_,rfl⟩;rw[hL];unfold titleB at hL;have hsv:strV s.data.toList=.string s:=(strV_of rfl).symm;clear e9 hT;generalize lastAny s.data.toList [32,9]=i at cl hlt hL
 by_cases hi:i<0
 ·rw[if_pos (.inl hi)] at hL;subst hL;simp only[hsv]
  go_enter Tryz.func117,Tryz.ntmps117
  go_wp2_with (go_at_call 175;refine cl.mono ?_;rintro e w1 ⟨rfl,hb1⟩)
  (try simp only[Exit.inBlock,Exit.then])
  refine bodyPost_ret (results_tmp3 rfl _ _ _) rfl ?_;exact⟨rfl,hb1⟩
 ·obtain⟨k,rfl⟩:∃k:Nat,i=k:=⟨i.toNat,by omega⟩;rw[hlen] at hlt;simp only[Int.toNat_natCast] at hL;have hks:k+1≤s.size:=by omega
  have hcp:=fun w=>Tryz.strings_HasPrefix (s.extract (k+1) s.size) ⟨#[35]⟩ w
  have hwd:(s.extract (k+1) s.size).data.toList=s.data.toList.drop (k+1):=by
   rw[extract_list,List.take_of_length_le (by rw[List.length_drop,hlen];omega)]
  have hws:(s.extract (k+1) s.size).size=s.size-(k+1):=by rw[ByteArray.size_extract];omega
  have e35:(⟨#[35]⟩:ByteArray).data.toList=[35]:=rfl;rw[e35,hwd] at hcp;simp only[hasPrefix_one _ 35 (by decide)] at hcp
  by_cases hp:(s.data.toList.drop (k+1)).getD 0 0=35
  ·simp only[hp,decide_true] at hcp;have hw1:1≤(s.extract (k+1) s.size).size:=by
    rw[hws]
    rcases Nat.lt_or_ge (k+1) s.size with h|h
    ·omega
    ·rw[List.drop_eq_nil_of_le (by omega)] at hp;exact absurd hp (by decide)
   have hcn:=fun w=>name_any ((s.extract (k+1) s.size).extract 1 (s.size-(k+1))) w (by rw[ByteArray.size_extract];omega)
   have hnd:((s.extract (k+1) s.size).extract 1 (s.size-(k+1))).data.toList=(s.data.toList.drop (k+1)).drop 1:=by
    rw[extract_list,hwd,List.take_of_length_le (by rw[List.length_drop,List.length_drop,hlen];omega)]
   rw[hnd] at hcn;rw[if_neg (by rintro (h|h);exact absurd h (by omega);exact h hp)] at hL;have hwv:Value.string (s.extract (k+1) s.size)=strV (s.data.toList.drop (k+1)):=strV_of hwd;have hnv:Value.string ((s.extract (k+1) s.size).extract 1 (s.size-(k+1)))=strV ((s.data.toList.drop (k+1)).drop 1):=strV_of hnd;have HV:=hidH3 hwv hnv hsv;clear hwv hnv hsv
   by_cases hn:nameB ((s.data.toList.drop (k+1)).drop 1)=true
   ·rw[hn] at hcn;rw[if_pos hn] at hL;have htr:=fun w=>strTrimR_any (s.extract 0 k) w (by rw[ByteArray.size_extract];omega)
    rw[extract_list,List.drop_zero,Nat.sub_zero] at htr;subst hL;clear hwd hnd hn hp
    go_enter Tryz.func117,Tryz.ntmps117
    go_wp2_with (first
     | (go_at_call 175;refine cl.mono ?_;rintro e w1 ⟨rfl,hb1⟩)
     | (go_at_call 77;refine (hcp _).mono ?_;rintro e w2 ⟨rfl,rfl⟩)
     | (go_at_call 52;refine (hcn _).mono ?_;rintro e w3 ⟨rfl,rfl⟩))
    go_region_with (go_at_call 176;refine (htr _).mono ?_;rintro e w4 ⟨rfl,hb4⟩)
    all_goals go_wp2
    all_goals ((try simp only[Exit.inBlock,Exit.then]);refine bodyPost_ret (results_tmp3 rfl _ _ _) rfl ?_)
    all_goals exact⟨by rw[←HV.out.2.1];rfl,hb1.drew.trans (hb4.mono hb1.size)⟩
   ·have hn':nameB ((s.data.toList.drop (k+1)).drop 1)=false:=by simpa using hn
    rw[hn'] at hcn;rw[if_neg hn] at hL;subst hL;clear hwd hnd hn hn' hp
    go_enter Tryz.func117,Tryz.ntmps117
    go_wp2_with (first
     | (go_at_call 175;refine cl.mono ?_;rintro e w1 ⟨rfl,hb1⟩)
     | (go_at_call 77;refine (hcp _).mono ?_;rintro e w2 ⟨rfl,rfl⟩)
     | (go_at_call 52;refine (hcn _).mono ?_;rintro e w3 ⟨rfl,rfl⟩))
    (try simp only[Exit.inBlock,Exit.then])
    refine bodyPost_ret (results_tmp3 rfl _ _ _) rfl ?_;exact⟨by rw[←HV.out.1,HV.out.2.2];rfl,hb1⟩
  ·simp only[hp,decide_false] at hcp;rw[if_pos (.inr hp)] at hL;subst hL;simp only[hsv];clear hwd
   go_enter Tryz.func117,Tryz.ntmps117
   go_wp2_with (first
    | (go_at_call 175;refine cl.mono ?_;rintro e w1 ⟨rfl,hb1⟩)
    | (go_at_call 77;refine (hcp _).mono ?_;rintro e w2 ⟨rfl,rfl⟩))
   (try simp only[Exit.inBlock,Exit.then])
   refine bodyPost_ret (results_tmp3 rfl _ _ _) rfl ?_;exact⟨rfl,hb1⟩
end Go.Proofs.YtkkebmciiiajeaaGreatDoor
namespace Go.Bd
theorem indexAny_lt {g:Bs}:∀{l:Bs},Lib.indexAny l g<(l.length:Int)
 | []=>by simp[Lib.indexAny]
 | b::l=>by
  have ih:=indexAny_lt (g:=g) (l:=l);rw[Lib.indexAny,List.length_cons];split
  ·omega
  ·split<;>omega
end Go.Bd
namespace Go.Proofs.YtkkebmciiiajeaaGreatDoor
open Go.RowKit Go.Bd
def commandV (l:Bs):Value:=match commandB l with|none=>.tuple #[strV [],strV [],.bool false]|some (a,b)=>.tuple #[strV a,strV b,.bool true]
theorem getD_get2 {s:ByteArray}{m:Nat} (h:m<s.size):s.data.toList.getD m 0=s[m]:=getD_get h
theorem bits_or (c:UInt8):bits BinOp.or IntKind.u8 (c.toNat:Int) 32=((c ||| 32).toNat:Int):=by
 have h:∀n:Fin 256,bits BinOp.or IntKind.u8 (n.1:Int) 32=((UInt8.ofNat n.1 ||| 32).toNat:Int):=by decide +kernel
 have h2:=h ⟨c.toNat,c.toNat_lt⟩;simp only[UInt8.ofNat_toNat] at h2;exact h2
theorem command_any (s:ByteArray) (w:World) (hs:s.size≤100000000) :
  Calls Tryz.prog 39 #[.string s] w fun e w'=>e=.returned (commandV s.data.toList)∧Below w.heap.size w w':=by
 have hlen:s.data.toList.length=s.size:=by simp
 obtain⟨L,hL⟩:∃L,commandV s.data.toList=L:=⟨_,rfl⟩;rw[hL];unfold commandV at hL
 by_cases h2:s.size<2
 ·have e:commandB s.data.toList=none:=by unfold commandB;rw[if_pos (.inl (by omega))]
  rw[e] at hL;subst hL
  go_enter Tryz.func39,Tryz.ntmps39
  go_wp2
  (try simp only[Exit.inBlock,Exit.then])
  refine bodyPost_ret (results_tmp3 rfl _ _ _) rfl ?_;exact⟨rfl,Below.refl _ _⟩
 ·by_cases h33:¬(s[0]'(by omega)).toNat=33
  ·have e:commandB s.data.toList=none:=by
    unfold commandB;rw[if_pos (.inr (.inl (by rw[getD_get2 (by omega)];exact fun h=>h33 (by rw[h];rfl))))]
   rw[e] at hL;subst hL;have hb:(((s[0]'(by omega)).toNat:Int) != 33)=true:=by simpa using (show ¬((s[0]'(by omega)).toNat:Int)=33 by omega)
   go_enter Tryz.func39,Tryz.ntmps39
   go_wp2
   (try simp only[Exit.inBlock,Exit.then])
   refine bodyPost_ret (results_tmp3 rfl _ _ _) rfl ?_;exact⟨rfl,Below.refl _ _⟩
  ·have h33':(s[0]'(by omega)).toNat=33:=Classical.byContradiction h33;have hb:(((s[0]'(by omega)).toNat:Int) != 33)=false:=by simpa using (show ((s[0]'(by omega)).toNat:Int)=33 by omega)
   have hbo:=bits_or (s[1]'(by omega));have hg1:s.data.toList.getD 1 0=s[1]'(by omega):=getD_get2 (by omega);have hg0:s.data.toList.getD 0 0=33:=by
    rw[getD_get2 (by omega)];exact UInt8.toNat_inj.1 h33'
   by_cases hl:(s.data.toList.getD 1 0 ||| 32).toNat<97∨122<(s.data.toList.getD 1 0 ||| 32).toNat
   ·have e:commandB s.data.toList=none:=by unfold commandB;rw[if_pos (.inr (.inr hl))]
    rw[e] at hL;subst hL;rw[hg1] at hl;generalize (s[1]'(by omega) ||| 32).toNat=d at hbo hl;clear hg1 hg0
    by_cases h97:d<97
    rotate_left
    focus
     have h122:122<d:=by omega
    rotate_left
    all_goals
     go_enter Tryz.func39,Tryz.ntmps39
     go_wp2
     (try simp only[Exit.inBlock,Exit.then])
     refine bodyPost_ret (results_tmp3 rfl _ _ _) rfl ?_;exact⟨rfl,Below.refl _ _⟩
   ·have hci:¬(s.data.toList.length<2∨s.data.toList.getD 0 0≠33∨(s.data.toList.getD 1 0 ||| 32).toNat<97∨122<(s.data.toList.getD 1 0 ||| 32).toNat):=by
     rintro (h|h|h)
     ·omega
     ·exact h hg0
     ·exact hl h
    have hx:=indexAnyX_any (s.extract 1 s.size) ⟨#[32,9]⟩ w blanks_ascii (by decide) (by decide) (by rw[ByteArray.size_extract];omega);have e9:(⟨#[32,9]⟩:ByteArray).data.toList=[32,9]:=rfl;have hwd:(s.extract 1 s.size).data.toList=s.data.toList.drop 1:=by
     rw[extract_list,List.take_of_length_le (by rw[List.length_drop,hlen];omega)]
    rw[e9,hwd] at hx;unfold commandB at hL;rw[if_neg hci] at hL;rw[hg1] at hl;have hs1:(s.extract 1 s.size).size=s.size-1:=by rw[ByteArray.size_extract];omega
    have hilt:Lib.indexAny (s.data.toList.drop 1) [32,9]<(s.size:Int)-1+0∨Lib.indexAny (s.data.toList.drop 1) [32,9]<0:=by
     have:=indexAny_lt (g:=[32,9]) (l:=s.data.toList.drop 1)
     rw[List.length_drop,hlen] at this;omega
    have hwv:Value.string (s.extract 1 s.size)=strV (s.data.toList.drop 1):=strV_of hwd;have HV:=Lib.hid hwv;generalize (s[1]'(by omega) ||| 32).toNat=d at hbo hl;have hl97:97≤d:=by omega
    have hl122:d≤122:=by omega
    clear hg1 hg0 hci e9 hl hwv
    by_cases hi:0≤Lib.indexAny (s.data.toList.drop 1) [32,9]
    ·rw[if_pos hi] at hL;obtain⟨k,hk⟩:∃k:Nat,Lib.indexAny (s.data.toList.drop 1) [32,9]=k:=⟨_,(Int.toNat_of_nonneg hi).symm⟩;rw[hk] at hx hL hilt;simp only[Int.toNat_natCast] at hL;have hks:k<s.size-1:=by omega
     have htl:=fun w=>strTrimL_any ((s.extract 1 s.size).extract k (s.size-1)) w (by rw[ByteArray.size_extract];omega)
     have hed:((s.extract 1 s.size).extract k (s.size-1)).data.toList=(s.data.toList.drop 1).drop k:=by
      rw[extract_list,hwd,List.take_of_length_le (by rw[List.length_drop,List.length_drop,hlen];omega)]
     have hfd:Value.string ((s.extract 1 s.size).extract 0 k)=strV ((s.data.toList.drop 1).take k):=strV_of (by rw[extract_list,hwd,List.drop_zero,Nat.sub_zero]);have HFD:=Lib.hid hfd;rw[hed] at htl;subst hL;clear hwd hed hk hi hilt hfd
     go_enter Tryz.func39,Tryz.ntmps39
     go_wp2_with (go_at_call 71;refine hx.mono ?_;rintro e w1 ⟨rfl,hb1⟩)
     go_region_with (go_at_call 72;refine (htl _).mono ?_;rintro e w4 ⟨rfl,hb4⟩)
     all_goals go_wp2
     all_goals ((try simp only[Exit.inBlock,Exit.then]);refine bodyPost_ret (results_tmp3 rfl _ _ _) rfl ?_)
     all_goals exact⟨by rw[←HFD.out,List.drop_drop,Nat.add_comm 1 k];rfl,hb1.drew.trans (hb4.mono hb1.size)⟩
    ·have hin:Lib.indexAny (s.data.toList.drop 1) [32,9]<0:=by omega
     rw[if_neg hi] at hL;generalize Lib.indexAny (s.data.toList.drop 1) [32,9]=i at hx hin;subst hL;clear hwd hi hilt
     go_enter Tryz.func39,Tryz.ntmps39
     go_wp2_with (go_at_call 71;refine hx.mono ?_;rintro e w1 ⟨rfl,hb1⟩)
     (try simp only[Exit.inBlock,Exit.then])
     refine bodyPost_ret (results_tmp3 rfl _ _ _) rfl ?_;exact⟨by rw[←HV.out];rfl,hb1⟩
theorem plain_any (s:ByteArray) (w:World) (hs:s.size≤100000000) :
  Calls Tryz.prog 126 #[.string s] w fun e w'=>e=.returned (.bool (plainL s.data.toList))∧Below w.heap.size w w':=by
 have hcp:=Tryz.strings_HasPrefix s ⟨#[124,61,61,61]⟩ w;have hco:=fun w=>command_any s w hs
 have hl1:=fun w=>leading_any s 61 w hs
 have hit:=fun w=>item_any s w hs
 have eb:(⟨#[124,61,61,61]⟩:ByteArray).data.toList=barsL:=rfl;rw[eb] at hcp;have e61:(((61:UInt8).toNat:Nat):Int)=61:=rfl;have h0e:(s=⟨#[]⟩)=(s.data.toList=[]):=by
  rw[eq_iff_iff];constructor
  ·rintro rfl;rfl
  ·intro h;cases s;simp_all
 have h4e:(s=⟨#[45,45,45,45]⟩)=(s.data.toList=fenceL):=by
  rw[eq_iff_iff];constructor
  ·rintro rfl;rfl
  ·intro h;cases s with
   | mk d=>exact congrArg ByteArray.mk (Array.toList_inj.1 h)
 obtain⟨L,hL⟩:∃L,plainL s.data.toList=L:=⟨_,rfl⟩;rw[hL];unfold plainL at hL;rw[e61] at hl1;unfold commandV at hco;generalize Lib.hasPrefix s.data.toList barsL=hp at hcp hL;generalize commandB s.data.toList=cm at hco hL;generalize leadB s.data.toList 61=A at hl1 hL;generalize itemB s.data.toList=I at hit hL;have E0:=Lib.hid h0e;have E4:=Lib.hid h4e;have HL:=Lib.hid hL;clear h0e h4e hL eb e61
 by_cases c0:s=⟨#[]⟩
 ·have c0':s.data.toList=[]:=E0.out ▸ c0;obtain rfl:L=false:=by rw[←HL.out,decide_eq_true c0'];simp
  go_enter Tryz.func126,Tryz.ntmps126
  go_wp2_with (go_at_call 77;refine hcp.mono ?_;rintro e w1 ⟨rfl,rfl⟩)
  go_ret
  exact⟨rfl,Below.refl _ _⟩
 ·have c0':¬s.data.toList=[]:=fun h=>c0 (E0.out.symm ▸ h)
  by_cases c4:s=⟨#[45,45,45,45]⟩
  ·have c4':s.data.toList=fenceL:=E4.out ▸ c4;obtain rfl:L=false:=by rw[←HL.out,decide_eq_true c4'];simp
   go_enter Tryz.func126,Tryz.ntmps126
   go_wp2_with (go_at_call 77;refine hcp.mono ?_;rintro e w1 ⟨rfl,rfl⟩)
   go_ret
   exact⟨rfl,Below.refl _ _⟩
  ·have c4':¬s.data.toList=fenceL:=fun h=>c4 (E4.out.symm ▸ h)
   have HL2:=HL.out;rw[decide_eq_false c0',decide_eq_false c4'] at HL2;have n0:(s.toList==([]:Bs))=false:=by rw[ByteArray.toList_eq];exact beq_eq_false_iff_ne.2 c0'
   have n4:(s.toList==([45,45,45,45]:Bs))=false:=by rw[ByteArray.toList_eq];exact beq_eq_false_iff_ne.2 c4'
   clear c0' c4' HL E0 E4;cases hp with
   | true =>
    obtain rfl:L=false:=by rw[←HL2];simp
    go_enter Tryz.func126,Tryz.ntmps126
    go_wp2_with (go_at_call 77;refine hcp.mono ?_;rintro e w1 ⟨rfl,rfl⟩)
    go_ret
    exact⟨rfl,Below.refl _ _⟩
   | false =>
    cases cm with
    | some ab =>
     obtain rfl:L=false:=by rw[←HL2];simp
     go_enter Tryz.func126,Tryz.ntmps126
     go_wp2_with (first
      | (go_at_call 77;refine hcp.mono ?_;rintro e w1 ⟨rfl,rfl⟩)
      | (go_at_call 39;refine (hco _).mono ?_;rintro e w2 ⟨rfl,hb2⟩))
     go_ret
     exact⟨rfl,hb2⟩
    | none =>
     obtain rfl:L=(decide (A.1=0)&&decide (I.1=0)):=by rw[←HL2];simp
     by_cases hA:A.1=0
     ·have hz:decide (A.1=0)=true:=decide_eq_true hA;rw[hz,Bool.true_and];rw[hA] at hl1
      by_cases hI:I.1=0
      ·rw[hI] at hit ⊢
       go_enter Tryz.func126,Tryz.ntmps126
       go_wp2_with (first
        | (go_at_call 77;refine hcp.mono ?_;rintro e w1 ⟨rfl,rfl⟩)
        | (go_at_call 39;refine (hco _).mono ?_;rintro e w2 ⟨rfl,hb2⟩)
        | (go_at_call 74;refine (hl1 _).mono ?_;rintro e w3 ⟨rfl,hb3⟩)
        | (go_at_call 75;refine (hit _).mono ?_;rintro e w4 ⟨rfl,hb4⟩))
       go_ret
       have e1:=hb2.trans (hb3.mono hb2.size);exact⟨rfl,e1.trans (hb4.mono e1.size)⟩
      ·rw[decide_eq_false hI];have hI':¬(I.1:Int)=0:=by omega
       go_enter Tryz.func126,Tryz.ntmps126
       go_wp2_with (first
        | (go_at_call 77;refine hcp.mono ?_;rintro e w1 ⟨rfl,rfl⟩)
        | (go_at_call 39;refine (hco _).mono ?_;rintro e w2 ⟨rfl,hb2⟩)
        | (go_at_call 74;refine (hl1 _).mono ?_;rintro e w3 ⟨rfl,hb3⟩)
        | (go_at_call 75;refine (hit _).mono ?_;rintro e w4 ⟨rfl,hb4⟩))
       go_ret
       have e1:=hb2.trans (hb3.mono hb2.size);exact⟨by simp[hI],e1.trans (hb4.mono e1.size)⟩
     ·have hz:decide (A.1=0)=false:=decide_eq_false hA;rw[hz,Bool.false_and];have hA':¬(A.1:Int)=0:=by omega
      go_enter Tryz.func126,Tryz.ntmps126
      go_wp2_with (first
       | (go_at_call 77;refine hcp.mono ?_;rintro e w1 ⟨rfl,rfl⟩)
       | (go_at_call 39;refine (hco _).mono ?_;rintro e w2 ⟨rfl,hb2⟩)
       | (go_at_call 74;refine (hl1 _).mono ?_;rintro e w3 ⟨rfl,hb3⟩)
       | (go_at_call 75;refine (hit _).mono ?_;rintro e w4 ⟨rfl,hb4⟩))
      go_ret
      have e1:=hb2.trans (hb3.mono hb2.size);exact⟨by simp[hA],e1.trans (hb4.mono e1.size)⟩
end Go.Proofs.YtkkebmciiiajeaaGreatDoor
namespace Go.Bd
open Go.RowKit
structure Ln where
 file:ByteArray
 no:Int
 text:ByteArray
structure Dg where
 file:ByteArray
 line:Int
 fault:Nat
 text:ByteArray
structure Bl where
 kind:Nat
 level:Nat
 ordered:Bool
 label:ByteArray
 text:ByteArray
 spans:List Sp
 rows:List (List (List Sp))
 file:ByteArray
 line:Int
def lnCells (x:Ln):List Value:=[.string x.file,.int .i64 x.no,.string x.text]
def dgCells (d:Dg):List Value:=[.string d.file,.int .i64 d.line,.int .i64 (d.fault:Int),.string d.text]
def blCells (x:Bl) (kv:Value×Value):List Value:=[.int .u8 (x.kind:Int),.int .i64 (x.level:Int),.bool x.ordered,.string x.label,.string x.text,kv.1,kv.2,.string x.file,.int .i64 x.line]
def rowD:List Dg→List Value
 | []=>[]
 | d::l=>dgCells d++rowD l
def rowBl:List Bl→List (Value×Value)→List Value
 | x::l,kv::kvs=>blCells x kv++rowBl l kvs
 | _,_=>[]
theorem rowD_length:∀l:List Dg,(rowD l).length=l.length*4
 | []=>rfl
 | d::l=>by rw[rowD,List.length_append,rowD_length l,List.length_cons];simp[dgCells];omega
theorem rowD_append:∀a b:List Dg,rowD (a++b)=rowD a++rowD b
 | [],_=>rfl
 | d::a,b=>by simp only[List.cons_append,rowD,rowD_append a b,List.append_assoc]
theorem rowBl_snoc:∀{l:List Bl}{kvs:List (Value×Value)} (x:Bl) (kv:Value×Value),kvs.length=l.length→rowBl (l++[x]) (kvs++[kv])=rowBl l kvs++blCells x kv
 | [],[],x,kv,_=>by simp[rowBl]
 | [],_::_,_,_,h=>by simp at h
 | y::l,[],_,_,h=>by simp at h
 | y::l,ku::kvs,x,kv,h=>by
  simp only[List.cons_append,rowBl,List.append_assoc];rw[rowBl_snoc x kv (by simpa using h)]
def LinesAt (w:World) (L:Nat→Prop) (v:Value) (ls:List Ln):Prop :=
 ∃A c,v=.slice A ls.length c∧ls.length≤c∧(ls≠[]→∃b off,A=some ⟨b,off,none⟩∧L b∧∀(j:Nat) x,ls[j]? = some x→∀(i:Nat) u,(lnCells x)[i]? = some u→w.cell? ⟨b,off+j*3+i,none⟩=some u)
theorem LinesAt.chg {w w':World}{L S:Nat→Prop}{v:Value}{ls:List Ln} (h:LinesAt w L v ls) (hc:Chg w w' S) (hS:∀k,L k→¬S k):LinesAt w' L v ls:=by
 obtain⟨A,c,h1,h2,h3⟩:=h;refine⟨A,c,h1,h2,fun hn=>?_⟩;obtain⟨b,off,h4,h5,h6⟩:=h3 hn;exact⟨b,off,h4,h5,fun j x hj i u hu=>hc.cell (p:=⟨b,off+j*3+i,none⟩) (hS b h5) (h6 j x hj i u hu)⟩
def tR:TypeId:=94
def tBl:TypeId:=62
def tDg:TypeId:=51
structure Rdr (w:World) (O F:Nat→Prop) (rb:Nat) (lv:Value) (pos:Nat) (bv:Value) (bs:List Bl) (dv:Value) (ds:List Dg):Prop where
 hold:Holds w rb tR #[lv,.int .i64 (pos:Int),bv,dv]
 bl:∃kvs:List (Value×Value),kvs.length=bs.length∧w.ownsRow 0 tBl 9 bv bs.length (rowBl bs kvs)∧∀(j:Nat) x kv,bs[j]? = some x→kvs[j]? = some kv→Forest w F kv.1 x.spans∧RowsF w F kv.2 x.rows
 dg:w.ownsRow 0 tDg 4 dv ds.length (rowD ds)
 oR:O rb
 oB:∀k,bv.ownBlock=some k→O k∧k≠rb
 oD:∀k,dv.ownBlock=some k→O k∧k≠rb∧bv.ownBlock≠some k
 off:∀k,F k→¬O k
 ltO:∀k,O k→k<w.heap.size
 ltF:∀k,F k→k<w.heap.size
structure Turn (w w':World) (O F O' F':Nat→Prop):Prop where
 chg:Chg w w' O
 inO:∀k,O' k→O k∨w.heap.size≤k
 inF:∀k,F' k→F k∨w.heap.size≤k
 moF:∀k,F k→F' k
theorem Turn.refl (w:World) (O F:Nat→Prop):Turn w w O F O F:=⟨Chg.refl _ _,fun _ h=>.inl h,fun _ h=>.inl h,fun _ h=>h⟩
theorem Turn.trans {w w1 w2:World}{O F O1 F1 O2 F2:Nat→Prop} (h:Turn w w1 O F O1 F1) (k:Turn w1 w2 O1 F1 O2 F2):Turn w w2 O F O2 F2:=by
 have hs:=h.chg.size;refine⟨h.chg.trans k.chg (fun b hb hO=>?_),fun b hb=>?_,fun b hb=>?_,fun b hb=>k.moF b (h.moF b hb)⟩
 ·rcases h.inO b hO with h1|h1
  ·exact h1
  ·omega
 ·rcases k.inO b hb with h1|h1
  ·exact h.inO b h1
  ·exact .inr (by omega)
 ·rcases k.inF b hb with h1|h1
  ·exact h.inF b h1
  ·exact .inr (by omega)
section
variable {w w':World} {O F O' F' S:Nat→Prop} {rb:Nat} {lv:Value} {pos:Nat} {bv:Value} {bs:List Bl} {dv:Value} {ds:List Dg}
theorem Rdr.chg (h:Rdr w O F rb lv pos bv bs dv ds) (hc:Chg w w' S) (hO:∀k,O k→¬S k) (hF:∀k,F k→¬S k):Rdr w' O F rb lv pos bv bs dv ds:=by
 obtain⟨kvs,h1,h2,h3⟩:=h.bl;exact⟨hc.holds (hO _ h.oR) h.hold,⟨kvs,h1,hc.owns h2 (fun k hk=>hO k (h.oB k hk).1),fun j x kv hx hk=>⟨(h3 j x kv hx hk).1.chg hc (fun _ h=>h) hF,RowsF.stays.go (h3 j x kv hx hk).2 hc (fun _ h=>h) hF⟩⟩,
  hc.owns h.dg (fun k hk=>hO k (h.oD k hk).1),h.oR,h.oB,h.oD,h.off,fun k hk=>Nat.lt_of_lt_of_le (h.ltO k hk) hc.size,fun k hk=>Nat.lt_of_lt_of_le (h.ltF k hk) hc.size⟩
theorem Rdr.below (h:Rdr w O F rb lv pos bv bs dv ds) (hb:Below w.heap.size w w'):Rdr w' O F rb lv pos bv bs dv ds:=h.chg (Chg.below hb (fun _=>False)) (fun _ _ h=>h) (fun _ _ h=>h)
theorem Rdr.more (h:Rdr w O F rb lv pos bv bs dv ds) (hF:∀k,F k→F' k) (ho:∀k,F' k→¬O k) (hl:∀k,F' k→k<w.heap.size):Rdr w O F' rb lv pos bv bs dv ds:=by
 obtain⟨kvs,h1,h2,h3⟩:=h.bl;exact⟨h.hold,⟨kvs,h1,h2,fun j x kv hx hk=>⟨(h3 j x kv hx hk).1.chg (Chg.refl w (fun _=>False)) hF (fun _ _ h=>h),RowsF.stays.go (h3 j x kv hx hk).2 (Chg.refl w (fun _=>False)) hF (fun _ _ h=>h)⟩⟩,h.dg,h.oR,h.oB,h.oD,ho,h.ltO,hl⟩
theorem Rdr.told (h:Rdr w O F rb lv pos bv bs dv ds){dv':Value}{d:Dg} (hc:Chg w w' (fun k=>k=rb∨dv.ownBlock=some k)) (hh:Holds w' rb tR #[lv,.int .i64 (pos:Int),bv,dv']) (ho:w'.ownsRow 0 tDg 4 dv' (ds.length+1) (rowD ds++dgCells d))
  (hn:∀k,dv'.ownBlock=some k→(dv.ownBlock=some k∨w.heap.size≤k)∧k<w'.heap.size):Rdr w' (fun k=>O k∨dv'.ownBlock=some k) F rb lv pos bv bs dv' (ds++[d])∧Turn w w' O F (fun k=>O k∨dv'.ownBlock=some k) F:=by
 obtain⟨kvs,h1,h2,h3⟩:=h.bl;have hS:∀k,(k=rb∨dv.ownBlock=some k)→O k:=fun k hk=>by
  rcases hk with rfl|hk
  ·exact h.oR
  ·exact (h.oD k hk).1
 have hF:∀k,F k→¬(k=rb∨dv.ownBlock=some k):=fun k hk hs=>h.off k hk (hS k hs)
 refine⟨⟨hh,⟨kvs,h1,hc.owns h2 (fun k hk hs=>?_),fun j x kv hx hk=>⟨(h3 j x kv hx hk).1.chg hc (fun _ h=>h) hF,RowsF.stays.go (h3 j x kv hx hk).2 hc (fun _ h=>h) hF⟩⟩,?_,.inl h.oR,fun k hk=>⟨.inl (h.oB k hk).1,(h.oB k hk).2⟩,fun k hk=>⟨.inr hk,?_,?_⟩,fun k hk hs=>?_,fun k hk=>?_,fun k hk=>Nat.lt_of_lt_of_le (h.ltF k hk) hc.size⟩,
  ⟨hc.mono (fun k _ hk=>hS k hk),fun k hk=>?_,fun k hk=>.inl hk,fun k hk=>hk⟩⟩
 ·rcases hs with hs|hs
  ·exact (h.oB k hk).2 hs
  ·exact (h.oD k hs).2.2 hk
 ·rw[List.length_append,rowD_append];simpa [rowD] using ho
 ·rcases (hn k hk).1 with h4|h4
  ·exact (h.oD k h4).2.1
  ·intro e;have:=h.ltO rb h.oR;omega
 ·rcases (hn k hk).1 with h4|h4
  ·exact (h.oD k h4).2.2
  ·intro e;have:=h.ltO k (h.oB k e).1;omega
 ·rcases hs with hs|hs
  ·exact h.off k hk hs
  ·rcases (hn k hs).1 with h4|h4
   ·exact h.off k hk (h.oD k h4).1
   ·have:=h.ltF k hk;omega
 ·rcases hk with hk|hk
  ·exact Nat.lt_of_lt_of_le (h.ltO k hk) hc.size
  ·exact (hn k hk).2
 ·rcases hk with hk|hk
  ·exact .inl hk
  ·rcases (hn k hk).1 with h4|h4
   ·exact .inl (h.oD k h4).1
   ·exact .inr h4
theorem Rdr.added (h:Rdr w O F rb lv pos bv bs dv ds){bv':Value}{x:Bl}{kv:Value×Value} (hx:Forest w F kv.1 x.spans∧RowsF w F kv.2 x.rows) (hc:Chg w w' (fun k=>k=rb∨bv.ownBlock=some k)) (hh:Holds w' rb tR #[lv,.int .i64 (pos:Int),bv',dv])
  (kvs:List (Value×Value)) (h1:kvs.length=bs.length) (h3:∀(j:Nat) x kv,bs[j]? = some x→kvs[j]? = some kv→Forest w F kv.1 x.spans∧RowsF w F kv.2 x.rows) (ho2:w'.ownsRow 0 tBl 9 bv' (bs.length+1) (rowBl bs kvs++blCells x kv))
  (hn:∀k,bv'.ownBlock=some k→(bv.ownBlock=some k∨w.heap.size≤k)∧k<w'.heap.size):Rdr w' (fun k=>O k∨bv'.ownBlock=some k) F rb lv pos bv' (bs++[x]) dv ds∧Turn w w' O F (fun k=>O k∨bv'.ownBlock=some k) F:=by
 have hS:∀k,(k=rb∨bv.ownBlock=some k)→O k:=fun k hk=>by
  rcases hk with rfl|hk
  ·exact h.oR
  ·exact (h.oB k hk).1
 have hF:∀k,F k→¬(k=rb∨bv.ownBlock=some k):=fun k hk hs=>h.off k hk (hS k hs)
 refine⟨⟨hh,⟨kvs++[kv],by simp[h1],by rw[List.length_append,rowBl_snoc x kv h1];exact ho2,fun j y ku hy hku=>?_⟩,hc.owns h.dg (fun k hk hs=>?_),.inl h.oR,fun k hk=>⟨.inr hk,?_⟩,fun k hk=>⟨.inl (h.oD k hk).1,(h.oD k hk).2.1,fun e=>?_⟩,fun k hk hs=>?_,fun k hk=>?_,fun k hk=>Nat.lt_of_lt_of_le (h.ltF k hk) hc.size⟩,
  ⟨hc.mono (fun k _ hk=>hS k hk),fun k hk=>?_,fun k hk=>.inl hk,fun k hk=>hk⟩⟩
 ·by_cases hj:j<bs.length
  ·rw[List.getElem?_append_left hj] at hy;rw[List.getElem?_append_left (by omega)] at hku;exact⟨(h3 j y ku hy hku).1.chg hc (fun _ h=>h) hF,RowsF.stays.go (h3 j y ku hy hku).2 hc (fun _ h=>h) hF⟩
  ·have hj2:j=bs.length:=by have:=(List.getElem?_eq_some_iff.1 hy).1;simp at this;omega
   subst hj2;rw[List.getElem?_append_right (Nat.le_refl _),Nat.sub_self] at hy;rw[List.getElem?_append_right (by omega),h1,Nat.sub_self] at hku;cases hy;cases hku
   exact⟨hx.1.chg hc (fun _ h=>h) hF,RowsF.stays.go hx.2 hc (fun _ h=>h) hF⟩
 ·rcases hs with hs|hs
  ·exact (h.oD k hk).2.1 hs
  ·exact (h.oD k hk).2.2 hs
 ·rcases (hn k hk).1 with h4|h4
  ·exact (h.oB k h4).2
  ·intro e;have:=h.ltO rb h.oR;omega
 ·rcases (hn k e).1 with h4|h4
  ·exact (h.oD k hk).2.2 h4
  ·have:=h.ltO k (h.oD k hk).1;omega
 ·rcases hs with hs|hs
  ·exact h.off k hk hs
  ·rcases (hn k hs).1 with h4|h4
   ·exact h.off k hk (h.oB k h4).1
   ·have:=h.ltF k hk;omega
 ·rcases hk with hk|hk
  ·exact Nat.lt_of_lt_of_le (h.ltO k hk) hc.size
  ·exact (hn k hk).2
 ·rcases hk with hk|hk
  ·exact .inl hk
  ·rcases (hn k hk).1 with h4|h4
   ·exact .inl (h.oB k h4).1
   ·exact .inr h4
end
end Go.Bd
namespace Go.Proofs.YtkkebmciiiajeaaGreatDoor
open Go.RowKit Go.Bd
theorem diag_info:(Tryz.prog.info? 51).map (fun i=>(i.zero,i.size,i.bytes))=some (some (.agg #[.string ⟨#[]⟩,.int .i64 0,.int .i64 0,.string ⟨#[]⟩]),4,48):=by kernel_rfl
theorem fault_any {w:World}{O F:Nat→Prop}{rb:Nat}{lv:Value}{pos:Nat}{bv:Value}{bs:List Bl}{dv:Value}{ds:List Dg} (h:Rdr w O F rb lv pos bv bs dv ds) (f t:ByteArray) (no:Int) (k:Nat) (txt:ByteArray) (hl:ds.length≤1000000000) :
  Calls Tryz.prog 40 #[.pointer (some ⟨rb,0,none⟩),.agg #[.string f,.int .i64 no,.string t],.int .i64 (k:Int),.string txt] w fun e w'=>e=.returned (.tuple #[])∧∃O' dv',Rdr w' O' F rb lv pos bv bs dv' (ds++[⟨f,no,k,txt⟩])∧Turn w w' O F O' F:=by
 obtain⟨A,c,rfl⟩:∃A c,dv=.slice A ds.length c:=by
  rcases h.dg.2 with ⟨h1,h2⟩|⟨g,cap,cur,h1,_⟩
  ·exact⟨none,0,by rw[h1,h2]⟩
  ·exact⟨_,_,h1⟩
 obtain⟨i0,hi0,hz0,hz1,hz2⟩:=info_parts diag_info;have hrl:=h.hold.lt;have h1:=h.below ((Below.refl _ w).alloc (Nat.le_refl _) (.cells #[.string f,.int .i64 no,.string t] 98));have hX:=Holds.new w 98 #[.string f,.int .i64 no,.string t];have hT0:Turn w (w.alloc (.cells #[.string f,.int .i64 no,.string t] 98)) O F O F:=⟨(Chg.refl _ _).alloc _,fun _ h=>.inl h,fun _ h=>.inl h,fun _ h=>h⟩;have hsz:(w.alloc (.cells #[.string f,.int .i64 no,.string t] 98)).heap.size=w.heap.size+1:=by simp
 obtain⟨n,hn⟩:∃n,w.heap.size=n:=⟨_,rfl⟩;rw[hn] at hX hsz;obtain⟨W1,hW1⟩:∃W1,w.alloc (.cells #[.string f,.int .i64 no,.string t] 98)=W1:=⟨_,rfl⟩;rw[hW1] at h1 hX hT0 hsz;have d0:=hX.cell 0;have d1:=hX.cell 1;have d3:=h1.hold.cell 3;have f3:=h1.hold.free 3;simp at d0 d1 d3;have hb1:rb<W1.heap.size:=h1.hold.lt;have hbx:n<W1.heap.size:=by omega
 have hkr:(Value.slice A ds.length c).ownBlock≠some rb:=fun e=>(h1.oD rb e).2.1 rfl
 have hkn:(Value.slice A ds.length c).ownBlock≠some n:=fun e=>by have:=h.ltO n (h.oD n e).1;omega
 have hrn:rb≠n:=by omega
 have HR:=hidH2 h1 hT0;have HZ:=hidH4 hi0 hz0 hz1 hz2;have HW1:=Lib.hid hW1;have HN:=Lib.hid hn;have HX:=Lib.hid hX;have hnW:w.heap.size≤n:=Nat.le_of_eq hn;have HSZ:=Lib.hid hsz;clear h h1 hT0 hi0 hz0 hz1 hz2 hX hsz;have e0:(W1.alloc (.cells #[.string f,.int .i64 no,.int .i64 (k:Int),.string txt] 51)).cell? ⟨n,0,none⟩=some (.string f):=by rw[World.cell?_alloc_lt _ _ _ hbx];exact d0
 have e1:(W1.alloc (.cells #[.string f,.int .i64 no,.int .i64 (k:Int),.string txt] 51)).cell? ⟨n,1,none⟩=some (.int .i64 no):=by rw[World.cell?_alloc_lt _ _ _ hbx];exact d1
 have e3:(W1.alloc (.cells #[.string f,.int .i64 no,.int .i64 (k:Int),.string txt] 51)).cell? ⟨rb,3,none⟩=some (.slice A ds.length c):=by rw[World.cell?_alloc_lt _ _ _ hb1];exact d3
 go_enter Tryz.func40,Tryz.ntmps40
 go_wp2
 (try rw[hW1])
 (try rw[hn])
 clear hW1 hn;refine wp_region_held_drew (S:=(fun w'=>w'.cell? ⟨n,0,none⟩=some (.string f)∧w'.cell? ⟨n,1,none⟩=some (.int .i64 no))) (by kernel_rfl) ?_ (fun hHeld0=>?_)
 ·(try dsimp only)
  first|exact⟨d0,d1⟩|exact⟨e0,e1⟩|exact⟨g0,g1⟩|exact⟨k0,k1⟩
 refine tkH 0 8 ?_;refine tkH 1 9 ?_;refine tkH 2 10 ?_;refine tkH 3 11 ?_;refine tkH 5 13 ?_;refine tkH 6 14 ?_;refine tkH 7 15 ?_;refine tkH 8 16 ?_;refine tkH 9 17 ?_;refine tkH 10 18 ?_;refine tkH 11 19 ?_;refine rdyH [4,12] ?_;refine AllReadyH.cons (o:=⟨some 12,_,_,_,_,_⟩) rfl (fun K hK=>?_) ?_
 ·skip
  go_simp;refine hK.out _ _ ?_ (fun hHeld1=>?_)
  ·(try dsimp only)
   first|exact⟨d0,d1⟩|exact⟨e0,e1⟩|exact⟨g0,g1⟩|exact⟨k0,k1⟩
  clear hK K hHeld0
  (try go_frame)
  refine rdyH [12] ?_;refine AllReadyH.cons (o:=⟨some 20,_,_,_,_,_⟩) rfl (fun K hK=>?_) AllReadyH.nil;go_simp;refine hK.out _ _ ?_ (fun hHeld2=>?_)
  ·(try dsimp only)
   first|exact⟨d0,d1⟩|exact⟨e0,e1⟩|exact⟨g0,g1⟩|exact⟨k0,k1⟩
  clear hK K hHeld1
  (try go_frame)
  refine rdyH [13] ?_;refine AllReadyH.cons (o:=⟨some 21,_,_,_,_,_⟩) rfl (fun K hK=>?_) AllReadyH.nil;refine step_append_lies _ (by rfl) _ _ _ (by rfl) 0 51 i0 _ 4 48 Tryz.underlying29 HZ.out.1 HZ.out.2.1 HZ.out.2.2.1 HZ.out.2.2.2 rfl (by omega) (.slice A ds.length c) ds.length (rowD ds) (by rfl) ((HR.out.1.dg.alloc _).drew)
   ⟨W1.heap.size,0,none⟩ 1 1 [.string f,.int .i64 no,.int .i64 (k:Int),.string txt] (by rfl) (by rfl) (World.news_of_block (cs:=#[.string f,.int .i64 no,.int .i64 (k:Int),.string txt]) (t:=51) (fr:=(0,0)) (heap_alloc_new W1 _)) (by simp[Value.oneCell'])
   (by omega) (by unfold maxLen;omega) (by omega) (Nat.zero_le _) (W1.heap.size+1) (by simp) ?_
  intro g cap w2 ho2 hg2 hat2 hl2;have hC2:Chg W1 w2 (fun b=>(Value.slice A ds.length c).ownBlock=some b):=(((Chg.refl W1 _).alloc _).drew).trans (Chg.grown hg2) (fun _ _ h=>h.symm);have hgb:g≠rb:=fun e=>by
   rcases hat2 with h|h
   ·exact hkr (by rw[h,e])
   ·omega
  have hgn:g≠n:=fun e=>by
   rcases hat2 with h|h
   ·exact hkn (by rw[h,e])
   ·omega
  have hh2:=hC2.holds hkr HR.out.1.hold;have g0:=hC2.cell (p:=⟨n,0,none⟩) hkn d0;have g1:=hC2.cell (p:=⟨n,1,none⟩) hkn d1;have g3:=hC2.cell (p:=⟨rb,3,none⟩) hkr d3;have q3:=hh2.free 3;have k0:=cell_far (g:=rb) (i:=3) (j:=0) hrn (.slice (some ⟨g,0,none⟩) (ds.length+1) cap) g0;have k1:=cell_far (g:=rb) (i:=3) (j:=1) hrn (.slice (some ⟨g,0,none⟩) (ds.length+1) cap) g1;have HE:=hidH4 hC2 ho2 hat2 hh2;clear hC2 ho2 hat2 hh2 hg2;refine hK.out _ _ ?_ (fun hHeld3=>?_)
  ·(try dsimp only)
   first|exact⟨d0,d1⟩|exact⟨e0,e1⟩|exact⟨g0,g1⟩|exact⟨k0,k1⟩
  clear hK K hHeld2
  (try go_frame)
  refine tkH 14 22 ?_;refine tkH 15 23 ?_;refine rdyH [16] ?_;refine AllReadyH.cons rfl (fun K hK=>?_) AllReadyH.nil;go_simp;refine hK.out _ _ ?_ (fun hHeld4=>?_)
  ·(try dsimp only)
   first|exact⟨d0,d1⟩|exact⟨e0,e1⟩|exact⟨g0,g1⟩|exact⟨k0,k1⟩
  clear hK K hHeld3
  (try go_frame)
  refine wpAnyH_done (by kernel_rfl) ?_ _;go_wp2
  go_end0
  have hC:=Chg.set w2 ⟨rb,3,none⟩ (.slice (some ⟨g,0,none⟩) (ds.length+1) cap);have hall:Chg W1 (w2.setCell ⟨rb,3,none⟩ (.slice (some ⟨g,0,none⟩) (ds.length+1) cap)) (fun b=>b=rb∨(Value.slice A ds.length c).ownBlock=some b) :=
   (HE.out.1.mono (T:=fun b=>b=rb∨(Value.slice A ds.length c).ownBlock=some b) (fun k _ h=>.inr h)).trans hC (fun k _ h=>.inl h)
  obtain⟨hq1,hq2⟩:=HR.out.1.told (d:=⟨f,no,k,txt⟩) hall (HE.out.2.2.2.set 3 _) (hC.owns HE.out.2.1 (fun k hk e=>hgb ((show g=k from (by simpa [Value.ownBlock] using hk)).trans e))) (fun b hb=>by
   have e1:g=b:=by simpa [Value.ownBlock] using hb
   rw[←e1];refine⟨?_,by simpa [World.setCell] using hl2⟩
   rcases HE.out.2.2.1 with h|h
   ·exact .inl h
   ·exact .inr (by omega))
  exact⟨rfl,_,_,hq1,HR.out.2.trans hq2⟩
 refine AllReadyH.cons (o:=⟨some 20,_,_,_,_,_⟩) rfl (fun K hK=>?_) AllReadyH.nil;go_simp;refine hK.out _ _ ?_ (fun hHeld1=>?_)
 ·(try dsimp only)
  first|exact⟨d0,d1⟩|exact⟨e0,e1⟩|exact⟨g0,g1⟩|exact⟨k0,k1⟩
 clear hK K hHeld0
 (try go_frame)
 refine rdyH [4] ?_;refine AllReadyH.cons (o:=⟨some 12,_,_,_,_,_⟩) rfl (fun K hK=>?_) AllReadyH.nil;go_simp;refine hK.out _ _ ?_ (fun hHeld2=>?_)
 ·(try dsimp only)
  first|exact⟨d0,d1⟩|exact⟨e0,e1⟩|exact⟨g0,g1⟩|exact⟨k0,k1⟩
 clear hK K hHeld1
 (try go_frame)
 refine rdyH [13] ?_;refine AllReadyH.cons (o:=⟨some 21,_,_,_,_,_⟩) rfl (fun K hK=>?_) AllReadyH.nil;refine step_append_lies _ (by rfl) _ _ _ (by rfl) 0 51 i0 _ 4 48 Tryz.underlying29 HZ.out.1 HZ.out.2.1 HZ.out.2.2.1 HZ.out.2.2.2 rfl (by omega) (.slice A ds.length c) ds.length (rowD ds) (by rfl) ((HR.out.1.dg.alloc _).drew)
  ⟨W1.heap.size,0,none⟩ 1 1 [.string f,.int .i64 no,.int .i64 (k:Int),.string txt] (by rfl) (by rfl) (World.news_of_block (cs:=#[.string f,.int .i64 no,.int .i64 (k:Int),.string txt]) (t:=51) (fr:=(0,0)) (heap_alloc_new W1 _)) (by simp[Value.oneCell'])
  (by omega) (by unfold maxLen;omega) (by omega) (Nat.zero_le _) (W1.heap.size+1) (by simp) ?_
 intro g cap w2 ho2 hg2 hat2 hl2;have hC2:Chg W1 w2 (fun b=>(Value.slice A ds.length c).ownBlock=some b):=(((Chg.refl W1 _).alloc _).drew).trans (Chg.grown hg2) (fun _ _ h=>h.symm);have hgb:g≠rb:=fun e=>by
  rcases hat2 with h|h
  ·exact hkr (by rw[h,e])
  ·omega
 have hgn:g≠n:=fun e=>by
  rcases hat2 with h|h
  ·exact hkn (by rw[h,e])
  ·omega
 have hh2:=hC2.holds hkr HR.out.1.hold;have g0:=hC2.cell (p:=⟨n,0,none⟩) hkn d0;have g1:=hC2.cell (p:=⟨n,1,none⟩) hkn d1;have g3:=hC2.cell (p:=⟨rb,3,none⟩) hkr d3;have q3:=hh2.free 3;have k0:=cell_far (g:=rb) (i:=3) (j:=0) hrn (.slice (some ⟨g,0,none⟩) (ds.length+1) cap) g0;have k1:=cell_far (g:=rb) (i:=3) (j:=1) hrn (.slice (some ⟨g,0,none⟩) (ds.length+1) cap) g1;have HE:=hidH4 hC2 ho2 hat2 hh2;clear hC2 ho2 hat2 hh2 hg2;refine hK.out _ _ ?_ (fun hHeld3=>?_)
 ·(try dsimp only)
  first|exact⟨d0,d1⟩|exact⟨e0,e1⟩|exact⟨g0,g1⟩|exact⟨k0,k1⟩
 clear hK K hHeld2
 (try go_frame)
 refine tkH 14 22 ?_;refine tkH 15 23 ?_;refine rdyH [16] ?_;refine AllReadyH.cons rfl (fun K hK=>?_) AllReadyH.nil;go_simp;refine hK.out _ _ ?_ (fun hHeld4=>?_)
 ·(try dsimp only)
  first|exact⟨d0,d1⟩|exact⟨e0,e1⟩|exact⟨g0,g1⟩|exact⟨k0,k1⟩
 clear hK K hHeld3
 (try go_frame)
 refine wpAnyH_done (by kernel_rfl) ?_ _;go_wp2
 go_end0
 have hC:=Chg.set w2 ⟨rb,3,none⟩ (.slice (some ⟨g,0,none⟩) (ds.length+1) cap);have hall:Chg W1 (w2.setCell ⟨rb,3,none⟩ (.slice (some ⟨g,0,none⟩) (ds.length+1) cap)) (fun b=>b=rb∨(Value.slice A ds.length c).ownBlock=some b) :=
  (HE.out.1.mono (T:=fun b=>b=rb∨(Value.slice A ds.length c).ownBlock=some b) (fun k _ h=>.inr h)).trans hC (fun k _ h=>.inl h)
 obtain⟨hq1,hq2⟩:=HR.out.1.told (d:=⟨f,no,k,txt⟩) hall (HE.out.2.2.2.set 3 _) (hC.owns HE.out.2.1 (fun k hk e=>hgb ((show g=k from (by simpa [Value.ownBlock] using hk)).trans e))) (fun b hb=>by
  have e1:g=b:=by simpa [Value.ownBlock] using hb
  rw[←e1];refine⟨?_,by simpa [World.setCell] using hl2⟩
  rcases HE.out.2.2.1 with h|h
  ·exact .inl h
  ·exact .inr (by omega))
 exact⟨rfl,_,_,hq1,HR.out.2.trans hq2⟩
end Go.Proofs.YtkkebmciiiajeaaGreatDoor
namespace Go.Bd
open Go.RowKit
theorem cells9 {w:World}{x:Nat}{t:TypeId}{a b c d e f g h i:Value} (hh:Holds w x t #[a,b,c,d,e,f,g,h,i]):w.cell? ⟨x,0,none⟩=some a∧w.cell? ⟨x,1,none⟩=some b∧w.cell? ⟨x,2,none⟩=some c∧w.cell? ⟨x,3,none⟩=some d∧w.cell? ⟨x,4,none⟩=some e∧w.cell? ⟨x,5,none⟩=some f∧w.cell? ⟨x,6,none⟩=some g∧w.cell? ⟨x,7,none⟩=some h∧w.cell? ⟨x,8,none⟩=some i :=
 ⟨hh.cell 0,hh.cell 1,hh.cell 2,hh.cell 3,hh.cell 4,hh.cell 5,hh.cell 6,hh.cell 7,hh.cell 8⟩
theorem two_sets {w:World}{O F:Nat→Prop}{rb:Nat}{lv:Value}{pos:Nat}{bv:Value}{bs:List Bl}{dv:Value}{ds:List Dg}{w0:World} (h:Rdr w O F rb lv pos bv bs dv ds) (hT:Turn w0 w O F O F){x:Nat}{t:TypeId}{a b c d e f g u v u0 v0:Value} (hx0:w0.heap.size≤x) (hxO:¬O x) (hxF:¬F x) (hh:Holds w x t #[a,b,c,d,e,f,g,u0,v0]) :
  (Chg w ((w.setCell ⟨x,7,none⟩ u).setCell ⟨x,8,none⟩ v).drew (fun k=>k=x)∧Rdr ((w.setCell ⟨x,7,none⟩ u).setCell ⟨x,8,none⟩ v).drew O F rb lv pos bv bs dv ds∧Turn w0 ((w.setCell ⟨x,7,none⟩ u).setCell ⟨x,8,none⟩ v).drew O F O F∧Holds ((w.setCell ⟨x,7,none⟩ u).setCell ⟨x,8,none⟩ v).drew x t #[a,b,c,d,e,f,g,u,v]) ∧
  (Chg w ((w.setCell ⟨x,8,none⟩ v).setCell ⟨x,7,none⟩ u).drew (fun k=>k=x)∧Rdr ((w.setCell ⟨x,8,none⟩ v).setCell ⟨x,7,none⟩ u).drew O F rb lv pos bv bs dv ds∧Turn w0 ((w.setCell ⟨x,8,none⟩ v).setCell ⟨x,7,none⟩ u).drew O F O F∧Holds ((w.setCell ⟨x,8,none⟩ v).setCell ⟨x,7,none⟩ u).drew x t #[a,b,c,d,e,f,g,u,v]):=by
 have hc1:Chg w ((w.setCell ⟨x,7,none⟩ u).setCell ⟨x,8,none⟩ v).drew (fun k=>k=x):=((Chg.set w ⟨x,7,none⟩ u).trans (Chg.set _ ⟨x,8,none⟩ v) (fun _ _ h=>h)).drew;have hc2:Chg w ((w.setCell ⟨x,8,none⟩ v).setCell ⟨x,7,none⟩ u).drew (fun k=>k=x):=((Chg.set w ⟨x,8,none⟩ v).trans (Chg.set _ ⟨x,7,none⟩ u) (fun _ _ h=>h)).drew;refine⟨⟨hc1,h.chg hc1 (fun k hk e=>hxO (e ▸ hk)) (fun k hk e=>hxF (e ▸ hk)),⟨hT.chg.trans hc1 (fun k hk e=>by omega),hT.inO,hT.inF,hT.moF⟩,?_⟩,⟨hc2,h.chg hc2 (fun k hk e=>hxO (e ▸ hk)) (fun k hk e=>hxF (e ▸ hk)),⟨hT.chg.trans hc2 (fun k hk e=>by omega),hT.inO,hT.inF,hT.moF⟩,?_⟩⟩
 ·have:=(hh.set 7 u).set 8 v
  simpa using this.drew
 ·have:=(hh.set 8 v).set 7 u
  simpa using this.drew
end Go.Bd
namespace Go.Proofs.YtkkebmciiiajeaaGreatDoor
open Go.RowKit Go.Bd
theorem block_info:(Tryz.prog.info? 62).map (fun i=>(i.zero,i.size,i.bytes))=some (some (.agg #[.int .u8 0,.int .i64 0,.bool false,.string ⟨#[]⟩,.string ⟨#[]⟩,.slice none 0 0,.slice none 0 0,.string ⟨#[]⟩,.int .i64 0]),9,128):=by kernel_rfl
theorem badd_any {w:World}{O F:Nat→Prop}{rb:Nat}{lv:Value}{pos:Nat}{bv:Value}{bs:List Bl}{dv:Value}{ds:List Dg} (h:Rdr w O F rb lv pos bv bs dv ds) (x:Bl) (sv rv:Value) (hx:Forest w F sv x.spans∧RowsF w F rv x.rows) (f t f0:ByteArray) (no n0:Int) (hl:bs.length≤1000000000) (hf:x.file=f) (hno:x.line=no) :
  Calls Tryz.prog 69 #[.pointer (some ⟨rb,0,none⟩),.agg #[.int .u8 (x.kind:Int),.int .i64 (x.level:Int),.bool x.ordered,.string x.label,.string x.text,sv,rv,.string f0,.int .i64 n0],.agg #[.string f,.int .i64 no,.string t]] w fun e w'=>e=.returned (.tuple #[])∧∃O' bv',Rdr w' O' F rb lv pos bv' (bs++[x]) dv ds∧Turn w w' O F O' F:=by
 obtain⟨A,c,rfl⟩:∃A c,bv=.slice A bs.length c:=by
  obtain⟨kvs,_,h2,_⟩:=h.bl
  rcases h2.2 with ⟨h1,h2⟩|⟨g,cap,cur,h1,_⟩
  ·exact⟨none,0,by rw[h1,h2]⟩
  ·exact⟨_,_,h1⟩
 obtain⟨As,cs,rfl,_⟩:=hx.1.form;obtain⟨Ar,cr,rfl,_⟩:=hx.2.len;obtain⟨i0,hi0,hz0,hz1,hz2⟩:=info_parts block_info;have hrl:=h.hold.lt;have hb12:=((Below.refl w.heap.size w).alloc (Nat.le_refl _) (.cells #[.int .u8 (x.kind:Int),.int .i64 (x.level:Int),.bool x.ordered,.string x.label,.string x.text,.slice As x.spans.length cs,.slice Ar x.rows.length cr,.string f0,.int .i64 n0] 62)).alloc (by simp) (.cells #[.string f,.int .i64 no,.string t] 98);have h1:=h.below hb12;have hX:=(Holds.new w 62 #[.int .u8 (x.kind:Int),.int .i64 (x.level:Int),.bool x.ordered,.string x.label,.string x.text,.slice As x.spans.length cs,.slice Ar x.rows.length cr,.string f0,.int .i64 n0]).alloc (.cells #[.string f,.int .i64 no,.string t] 98);have hY:=Holds.new (w.alloc (.cells #[.int .u8 (x.kind:Int),.int .i64 (x.level:Int),.bool x.ordered,.string x.label,.string x.text,.slice As x.spans.length cs,.slice Ar x.rows.length cr,.string f0,.int .i64 n0] 62)) 98 #[.string f,.int .i64 no,.string t];rw[World.size_alloc] at hY;have hx1:Forest _ F (.slice As x.spans.length cs) x.spans∧RowsF _ F (.slice Ar x.rows.length cr) x.rows:=⟨hx.1.chg (Chg.below hb12 (fun _=>False)) (fun _ h=>h) (fun _ _ h=>h),RowsF.stays.go hx.2 (Chg.below hb12 (fun _=>False)) (fun _ h=>h) (fun _ _ h=>h)⟩;have hT0:Turn w _ O F O F:=⟨Chg.below hb12 O,fun _ h=>.inl h,fun _ h=>.inl h,fun _ h=>h⟩;obtain⟨n,hn⟩:∃n,w.heap.size=n:=⟨_,rfl⟩;rw[hn] at hX hY;obtain⟨W1,hW1⟩:∃W1,(w.alloc (.cells #[.int .u8 (x.kind:Int),.int .i64 (x.level:Int),.bool x.ordered,.string x.label,.string x.text,.slice As x.spans.length cs,.slice Ar x.rows.length cr,.string f0,.int .i64 n0] 62)).alloc (.cells #[.string f,.int .i64 no,.string t] 98)=W1:=⟨_,rfl⟩
 rw[hW1] at h1 hX hY hx1 hT0;have d0:=hY.cell 0;have d1:=hY.cell 1;simp at d0 d1;obtain⟨b0,b1,b2,b3,b4,b5,b6,b7,b8⟩:=cells9 hX;have g7:=hX.free 7;have g8:=hX.free 8;have hnn:n≠n+1:=by omega
 have m0:=cell_far (g:=n) (i:=7) (j:=0) hnn (.string f) d0;have m1:=cell_far (g:=n) (i:=7) (j:=1) hnn (.string f) d1;have p0:=cell_far (g:=n) (i:=8) (j:=0) hnn (.int .i64 no) d0;have p1:=cell_far (g:=n) (i:=8) (j:=1) hnn (.int .i64 no) d1;have s0:=cell_far (g:=n) (i:=8) (j:=0) hnn (.int .i64 no) m0;have s1:=cell_far (g:=n) (i:=8) (j:=1) hnn (.int .i64 no) m1;have r0:=cell_far (g:=n) (i:=7) (j:=0) hnn (.string f) p0;have r1:=cell_far (g:=n) (i:=7) (j:=1) hnn (.string f) p1;have m8:=cell_off (i:=7) (j:=8) (by omega) (.string f) b8;have p7:=cell_off (i:=8) (j:=7) (by omega) (.int .i64 no) b7;have hkn:¬O n:=fun e=>by have:=h.ltO n e;omega
 have hkF:¬F n:=fun e=>by have:=h.ltF n e;omega
 have hnW:w.heap.size≤n:=Nat.le_of_eq hn;have HR:=hidH4 h1 hT0 hX hx1;have HZ:=hidH4 hi0 hz0 hz1 hz2;have HN:=Lib.hid hn;have HFN:=hidH2 hf hno;have HW0:=Lib.hid h.ltO;clear h h1 hT0 hi0 hz0 hz1 hz2 hX hY hx hx1 hb12 hf hno
 go_enter Tryz.func69,Tryz.ntmps69
 go_wp2
 (try rw[hW1])
 (try rw[hn])
 clear hW1 hn;refine wp_region_held_drew (S:=(fun w'=>w'.cell? ⟨n+1,0,none⟩=some (.string f)∧w'.cell? ⟨n+1,1,none⟩=some (.int .i64 no))) (by kernel_rfl) ?_ (fun hHeld0=>?_)
 ·(try dsimp only)
  first|exact⟨d0,d1⟩|exact⟨m0,m1⟩|exact⟨p0,p1⟩|exact⟨s0,s1⟩|exact⟨r0,r1⟩
 refine tkH 0 6 ?_;refine tkH 1 7 ?_;refine tkH 2 8 ?_;refine tkH 3 9 ?_;refine tkH 4 10 ?_;refine rdyH [5] ?_;refine AllReadyH.cons rfl (fun K hK=>?_) AllReadyH.nil;go_simp;refine hK.out _ _ ?_ (fun hHeld1=>?_)
 ·(try dsimp only)
  first|exact⟨d0,d1⟩|exact⟨m0,m1⟩|exact⟨p0,p1⟩|exact⟨s0,s1⟩|exact⟨r0,r1⟩
 clear hK K hHeld0
 (try go_frame)
 refine tkH 6 11 ?_;refine rdyH [7] ?_;refine AllReadyH.cons rfl (fun K hK=>?_) AllReadyH.nil;go_simp;refine hK.out _ _ ?_ (fun hHeld2=>?_)
 ·(try dsimp only)
  first|exact⟨d0,d1⟩|exact⟨m0,m1⟩|exact⟨p0,p1⟩|exact⟨s0,s1⟩|exact⟨r0,r1⟩
 clear hK K hHeld1
 (try go_frame)
 refine wpAnyH_done (by kernel_rfl) ?_ _;have HT:=two_sets HR.out.1 HR.out.2.1 hnW hkn hkF HR.out.2.2.1 (u:=.string f) (v:=.int .i64 no)
 try clear hHeld2
 first
  | (have HU:=HT.1
     obtain⟨W2,hW2⟩:∃W2,((W1.setCell ⟨n,7,none⟩ (.string f)).setCell ⟨n,8,none⟩ (.int .i64 no)).drew=W2:=⟨_,rfl⟩;rw[hW2] at HU;rw[hW2])
  | (have HU:=HT.2
     obtain⟨W2,hW2⟩:∃W2,((W1.setCell ⟨n,8,none⟩ (.int .i64 no)).setCell ⟨n,7,none⟩ (.string f)).drew=W2:=⟨_,rfl⟩;rw[hW2] at HU;rw[hW2])
 clear HT hW2;obtain⟨hC2,h2,hT2,hX2⟩:=HU;have hx2:Forest W2 F (.slice As x.spans.length cs) x.spans∧RowsF W2 F (.slice Ar x.rows.length cr) x.rows:=⟨HR.out.2.2.2.1.chg hC2 (fun _ h=>h) (fun k hk e=>hkF (e ▸ hk)),RowsF.stays.go HR.out.2.2.2.2 hC2 (fun _ h=>h) (fun k hk e=>hkF (e ▸ hk))⟩;clear m0 m1 p0 p1 s0 s1 r0 r1 m8 p7 g7 g8 b0 b1 b2 b3 b4 b5 b6 b7 b8 d0 d1;obtain⟨kvs,hk1,hk2,hk3⟩:=h2.bl;have c2:=h2.hold.cell 2;have f2:=h2.hold.free 2;simp at c2;have hb1:rb<W2.heap.size:=h2.hold.lt;have hkr:(Value.slice A bs.length c).ownBlock≠some rb:=fun e=>(h2.oB rb e).2 rfl
 have hknB:(Value.slice A bs.length c).ownBlock≠some n:=fun e=>hkn (h2.oB n e).1
 have hrn:rb≠n:=fun e=>hkn (e ▸ h2.oR)
 have e2:(W2.alloc (.cells #[.int .u8 (x.kind:Int),.int .i64 (x.level:Int),.bool x.ordered,.string x.label,.string x.text,.slice As x.spans.length cs,.slice Ar x.rows.length cr,.string f,.int .i64 no] 62)).cell? ⟨rb,2,none⟩=some (.slice A bs.length c):=by rw[World.cell?_alloc_lt _ _ _ hb1];exact c2
 have hXa:=hX2.alloc (.cells #[.int .u8 (x.kind:Int),.int .i64 (x.level:Int),.bool x.ordered,.string x.label,.string x.text,.slice As x.spans.length cs,.slice Ar x.rows.length cr,.string f,.int .i64 no] 62);have HB:=hidH6 h2 hT2 hx2 hk1 hk2 hk3;have HC2:=Lib.hid hC2;clear h2 hT2 hx2 hk1 hk2 hk3 hC2
 go_wp2_with fail
 refine wp_region_held_drew (S:=(fun w'=>w'.cell? ⟨n,0,none⟩=some (.int .u8 (x.kind:Int))∧w'.cell? ⟨n,1,none⟩=some (.int .i64 (x.level:Int))∧w'.cell? ⟨n,2,none⟩=some (.bool x.ordered)∧w'.cell? ⟨n,3,none⟩=some (.string x.label)∧w'.cell? ⟨n,4,none⟩=some (.string x.text)∧w'.cell? ⟨n,5,none⟩=some (.slice As x.spans.length cs)∧w'.cell? ⟨n,6,none⟩=some (.slice Ar x.rows.length cr)∧w'.cell? ⟨n,7,none⟩=some (.string f)∧w'.cell? ⟨n,8,none⟩=some (.int .i64 no))) (by kernel_rfl) ?_ (fun hHeld0=>?_)
 ·(try dsimp only)
  first|exact cells9 hX2|exact cells9 hXa|exact cells9 hXg|exact cells9 hXs
 refine tkH 0 12 ?_;refine tkH 1 13 ?_;refine tkH 2 14 ?_;refine tkH 3 15 ?_;refine tkH 5 17 ?_;refine rdyH [4,6] ?_;refine AllReadyH.cons (o:=⟨some 16,_,_,_,_,_⟩) rfl (fun K hK=>?_) ?_
 ·skip
  go_simp;refine hK.out _ _ ?_ (fun hHeld1=>?_)
  ·(try dsimp only)
   first|exact cells9 hX2|exact cells9 hXa|exact cells9 hXg|exact cells9 hXs
  clear hK K hHeld0
  (try go_frame)
  refine rdyH [6] ?_;refine AllReadyH.cons (o:=⟨some 18,_,_,_,_,_⟩) rfl (fun K hK=>?_) AllReadyH.nil;go_simp;refine hK.out _ _ ?_ (fun hHeld2=>?_)
  ·(try dsimp only)
   first|exact cells9 hX2|exact cells9 hXa|exact cells9 hXg|exact cells9 hXs
  clear hK K hHeld1
  (try go_frame)
  refine rdyH [7] ?_;refine AllReadyH.cons (o:=⟨some 19,_,_,_,_,_⟩) rfl (fun K hK=>?_) AllReadyH.nil;refine step_append_lies _ (by rfl) _ _ _ (by rfl) 0 62 i0 _ 9 128 Tryz.underlying28 HZ.out.1 HZ.out.2.1 HZ.out.2.2.1 HZ.out.2.2.2 rfl (by omega) (.slice A bs.length c) bs.length (rowBl bs kvs) (by rfl) ((HB.out.2.2.2.2.1.alloc _).drew)
   ⟨W2.heap.size,0,none⟩ 1 1 [.int .u8 (x.kind:Int),.int .i64 (x.level:Int),.bool x.ordered,.string x.label,.string x.text,.slice As x.spans.length cs,.slice Ar x.rows.length cr,.string f,.int .i64 no] (by rfl) (by rfl) (World.news_of_block (cs:=#[.int .u8 (x.kind:Int),.int .i64 (x.level:Int),.bool x.ordered,.string x.label,.string x.text,.slice As x.spans.length cs,.slice Ar x.rows.length cr,.string f,.int .i64 no]) (t:=62) (fr:=(0,0)) (heap_alloc_new W2 _)) (by simp[Value.oneCell'])
   (by omega) (by unfold maxLen;omega) (by omega) (Nat.zero_le _) (W2.heap.size+1) (by simp) ?_
  intro g cap w2 ho2 hg2 hat2 hl2;have hC3:Chg W2 w2 (fun b=>(Value.slice A bs.length c).ownBlock=some b):=(((Chg.refl W2 _).alloc _).drew).trans (Chg.grown hg2) (fun _ _ h=>h.symm);have hgb:g≠rb:=fun e=>by
   rcases hat2 with h|h
   ·exact hkr (by rw[h,e])
   ·omega
  have hgn:g≠n:=fun e=>by
   rcases hat2 with h|h
   ·exact hknB (by rw[h,e])
   ·have:=hX2.lt;omega
  have hh2:=hC3.holds hkr HB.out.1.hold;have hXg:=hC3.holds hknB hX2;have hXs:=hXg.far (p:=⟨rb,2,none⟩) (Ne.symm hrn) (.slice (some ⟨g,0,none⟩) (bs.length+1) cap);have g3:=hC3.cell (p:=⟨rb,2,none⟩) hkr c2;have q3:=hh2.free 2;have HE:=hidH4 hC3 ho2 hat2 hh2;clear hC3 ho2 hat2 hh2 hg2;refine hK.out _ _ ?_ (fun hHeld3=>?_)
  ·(try dsimp only)
   first|exact cells9 hX2|exact cells9 hXa|exact cells9 hXg|exact cells9 hXs
  clear hK K hHeld2
  (try go_frame)
  refine tkH 8 20 ?_;refine tkH 9 21 ?_;refine rdyH [10] ?_;refine AllReadyH.cons rfl (fun K hK=>?_) AllReadyH.nil;go_simp;refine hK.out _ _ ?_ (fun hHeld4=>?_)
  ·(try dsimp only)
   first|exact cells9 hX2|exact cells9 hXa|exact cells9 hXg|exact cells9 hXs
  clear hK K hHeld3
  (try go_frame)
  refine wpAnyH_done (by kernel_rfl) ?_ _;go_wp2
  go_end0
  have hC:=Chg.set w2 ⟨rb,2,none⟩ (.slice (some ⟨g,0,none⟩) (bs.length+1) cap);have hall:Chg W2 (w2.setCell ⟨rb,2,none⟩ (.slice (some ⟨g,0,none⟩) (bs.length+1) cap)) (fun b=>b=rb∨(Value.slice A bs.length c).ownBlock=some b) :=
   (HE.out.1.mono (T:=fun b=>b=rb∨(Value.slice A bs.length c).ownBlock=some b) (fun k _ h=>.inr h)).trans hC (fun k _ h=>.inl h)
  obtain⟨hq1,hq2⟩:=HB.out.1.added (x:=x) (kv:=(.slice As x.spans.length cs,.slice Ar x.rows.length cr)) HB.out.2.2.1 hall (HE.out.2.2.2.set 2 _) kvs HB.out.2.2.2.1 HB.out.2.2.2.2.2 (by
    unfold blCells;rw[HFN.out.1,HFN.out.2];exact hC.owns HE.out.2.1 (fun k hk e=>hgb ((show g=k from (by simpa [Value.ownBlock] using hk)).trans e))) (fun b hb=>by
   have e1:g=b:=by simpa [Value.ownBlock] using hb
   rw[←e1];refine⟨?_,by simpa [World.setCell] using hl2⟩
   rcases HE.out.2.2.1 with h|h
   ·exact .inl h
   ·exact .inr (by omega))
  exact⟨rfl,_,_,hq1,HB.out.2.1.trans hq2⟩
 refine AllReadyH.cons (o:=⟨some 18,_,_,_,_,_⟩) rfl (fun K hK=>?_) AllReadyH.nil;go_simp;refine hK.out _ _ ?_ (fun hHeld1=>?_)
 ·(try dsimp only)
  first|exact cells9 hX2|exact cells9 hXa|exact cells9 hXg|exact cells9 hXs
 clear hK K hHeld0
 (try go_frame)
 refine rdyH [4] ?_;refine AllReadyH.cons (o:=⟨some 16,_,_,_,_,_⟩) rfl (fun K hK=>?_) AllReadyH.nil;go_simp;refine hK.out _ _ ?_ (fun hHeld2=>?_)
 ·(try dsimp only)
  first|exact cells9 hX2|exact cells9 hXa|exact cells9 hXg|exact cells9 hXs
 clear hK K hHeld1
 (try go_frame)
 refine rdyH [7] ?_;refine AllReadyH.cons (o:=⟨some 19,_,_,_,_,_⟩) rfl (fun K hK=>?_) AllReadyH.nil;refine step_append_lies _ (by rfl) _ _ _ (by rfl) 0 62 i0 _ 9 128 Tryz.underlying28 HZ.out.1 HZ.out.2.1 HZ.out.2.2.1 HZ.out.2.2.2 rfl (by omega) (.slice A bs.length c) bs.length (rowBl bs kvs) (by rfl) ((HB.out.2.2.2.2.1.alloc _).drew)
  ⟨W2.heap.size,0,none⟩ 1 1 [.int .u8 (x.kind:Int),.int .i64 (x.level:Int),.bool x.ordered,.string x.label,.string x.text,.slice As x.spans.length cs,.slice Ar x.rows.length cr,.string f,.int .i64 no] (by rfl) (by rfl) (World.news_of_block (cs:=#[.int .u8 (x.kind:Int),.int .i64 (x.level:Int),.bool x.ordered,.string x.label,.string x.text,.slice As x.spans.length cs,.slice Ar x.rows.length cr,.string f,.int .i64 no]) (t:=62) (fr:=(0,0)) (heap_alloc_new W2 _)) (by simp[Value.oneCell'])
  (by omega) (by unfold maxLen;omega) (by omega) (Nat.zero_le _) (W2.heap.size+1) (by simp) ?_
 intro g cap w2 ho2 hg2 hat2 hl2;have hC3:Chg W2 w2 (fun b=>(Value.slice A bs.length c).ownBlock=some b):=(((Chg.refl W2 _).alloc _).drew).trans (Chg.grown hg2) (fun _ _ h=>h.symm);have hgb:g≠rb:=fun e=>by
  rcases hat2 with h|h
  ·exact hkr (by rw[h,e])
  ·omega
 have hgn:g≠n:=fun e=>by
  rcases hat2 with h|h
  ·exact hknB (by rw[h,e])
  ·have:=hX2.lt;omega
 have hh2:=hC3.holds hkr HB.out.1.hold;have hXg:=hC3.holds hknB hX2;have hXs:=hXg.far (p:=⟨rb,2,none⟩) (Ne.symm hrn) (.slice (some ⟨g,0,none⟩) (bs.length+1) cap);have g3:=hC3.cell (p:=⟨rb,2,none⟩) hkr c2;have q3:=hh2.free 2;have HE:=hidH4 hC3 ho2 hat2 hh2;clear hC3 ho2 hat2 hh2 hg2;refine hK.out _ _ ?_ (fun hHeld3=>?_)
 ·(try dsimp only)
  first|exact cells9 hX2|exact cells9 hXa|exact cells9 hXg|exact cells9 hXs
 clear hK K hHeld2
 (try go_frame)
 refine tkH 8 20 ?_;refine tkH 9 21 ?_;refine rdyH [10] ?_;refine AllReadyH.cons rfl (fun K hK=>?_) AllReadyH.nil;go_simp;refine hK.out _ _ ?_ (fun hHeld4=>?_)
 ·(try dsimp only)
  first|exact cells9 hX2|exact cells9 hXa|exact cells9 hXg|exact cells9 hXs
 clear hK K hHeld3
 (try go_frame)
 refine wpAnyH_done (by kernel_rfl) ?_ _;go_wp2
 go_end0
 have hC:=Chg.set w2 ⟨rb,2,none⟩ (.slice (some ⟨g,0,none⟩) (bs.length+1) cap);have hall:Chg W2 (w2.setCell ⟨rb,2,none⟩ (.slice (some ⟨g,0,none⟩) (bs.length+1) cap)) (fun b=>b=rb∨(Value.slice A bs.length c).ownBlock=some b) :=
  (HE.out.1.mono (T:=fun b=>b=rb∨(Value.slice A bs.length c).ownBlock=some b) (fun k _ h=>.inr h)).trans hC (fun k _ h=>.inl h)
 obtain⟨hq1,hq2⟩:=HB.out.1.added (x:=x) (kv:=(.slice As x.spans.length cs,.slice Ar x.rows.length cr)) HB.out.2.2.1 hall (HE.out.2.2.2.set 2 _) kvs HB.out.2.2.2.1 HB.out.2.2.2.2.2 (by
   unfold blCells;rw[HFN.out.1,HFN.out.2];exact hC.owns HE.out.2.1 (fun k hk e=>hgb ((show g=k from (by simpa [Value.ownBlock] using hk)).trans e))) (fun b hb=>by
  have e1:g=b:=by simpa [Value.ownBlock] using hb
  rw[←e1];refine⟨?_,by simpa [World.setCell] using hl2⟩
  rcases HE.out.2.2.1 with h|h
  ·exact .inl h
  ·exact .inr (by omega))
 exact⟨rfl,_,_,hq1,HB.out.2.1.trans hq2⟩
end Go.Proofs.YtkkebmciiiajeaaGreatDoor
namespace Go.Bd
open Go.RowKit
theorem FaultRow.at {w:World}{B:Nat}{v:Value}{l:List Nat} (h:FaultRow w B v l){k x:Nat} (hx:l[k]? = some x):∃g c,v=.slice (some ⟨g,0,none⟩) l.length c∧g<w.heap.size∧w.cell? ⟨g,k,none⟩=some (.int .i64 (x:Int)):=by
 have hlt:=(List.getElem?_eq_some_iff.1 hx).1
 rcases h.2 with ⟨_,h1⟩|⟨g,cap,cur,rfl,h1,h2,h3,h4,h5,h6⟩
 ·omega
 ·refine⟨g,cap,rfl,(Array.getElem?_eq_some_iff.1 h2).1,?_⟩;rw[cell_of_row w g k cur _ (0,0) h2];have h7:(cur.toList.take (l.length*1))[k]? = some (.int .i64 (x:Int)):=by rw[h6];simp[hx]
  rw[List.getElem?_take_of_lt (by omega)] at h7;simpa using h7
theorem FaultRow.form {w:World}{B:Nat}{v:Value}{l:List Nat} (h:FaultRow w B v l):∃A c,v=.slice A l.length c∧∀k,v.ownBlock=some k→B≤k∧k<w.heap.size:=by
 rcases h.2 with ⟨h0,h1⟩|⟨g,cap,cur,h0,h1,h2,_⟩
 ·exact⟨none,0,by rw[h0,h1],by rw[h0];intro k hk;cases hk⟩
 ·refine⟨_,_,h0,?_⟩;rw[h0];intro k hk;have e:g=k:=by simpa [Value.ownBlock] using hk
  exact e ▸ ⟨h1,(Array.getElem?_eq_some_iff.1 h2).1⟩
def Glob (m:Int) (w:World):Prop:=w.cell? ⟨0,0,none⟩=some (.int .i64 m)∧Lib.Utf8Tabs 1 2 w
theorem Glob.chg {m:Int}{w w':World}{S:Nat→Prop} (h:Glob m w) (hc:Chg w w' S) (h3:∀k,S k→3≤k):Glob m w':=by
 have n0:¬S 0:=fun e=>by have:=h3 _ e;omega
 have n1:¬S 1:=fun e=>by have:=h3 _ e;omega
 have n2:¬S 2:=fun e=>by have:=h3 _ e;omega
 exact⟨hc.cell n0 h.1,fun c hcc=>hc.cell n1 (h.2.1 c hcc),fun i hi=>⟨hc.cell n2 (h.2.2 i hi).1,hc.cell n2 (h.2.2 i hi).2⟩⟩
end Go.Bd
namespace Go.Proofs.YtkkebmciiiajeaaGreatDoor
open Go.RowKit Go.Bd
def dgOf (f:ByteArray) (no:Int) (s:ByteArray) (k:Nat):Dg:=⟨f,no,k,s⟩
theorem bspansX_any {w:World}{O F:Nat→Prop}{rb:Nat}{lv:Value}{pos:Nat}{bv:Value}{bs:List Bl}{dv:Value}{ds:List Dg} (h:Rdr w O F rb lv pos bv bs dv ds) (f t:ByteArray) (no:Int) (s:ByteArray) (hs:s.size≤100000000){m:Int} (hm:Glob m w) (hl:ds.length+(faultsOf s.data.toList).length≤1000000000) :
  Calls Tryz.prog 68 #[.pointer (some ⟨rb,0,none⟩),.agg #[.string f,.int .i64 no,.string t],.string s] w fun e w'=>∃sv O' F' dv',e=.returned sv∧Forest w' F' sv (spansOf s.data.toList)∧Rdr w' O' F' rb lv pos bv bs dv' (ds++(faultsOf s.data.toList).map (dgOf f no s))∧Turn w w' O F O' F'∧(faultsOf s.data.toList=[]→dv'=dv):=by
 have h1:=h.below ((Below.refl _ w).alloc (Nat.le_refl _) (.cells #[.string f,.int .i64 no,.string t] 98));have hX:=Holds.new w 98 #[.string f,.int .i64 no,.string t];have hm1:=hm.chg ((Chg.refl w (fun _=>False)).alloc (.cells #[.string f,.int .i64 no,.string t] 98)) (fun _ h=>h.elim);have hB1:Below w.heap.size w (w.alloc (.cells #[.string f,.int .i64 no,.string t] 98)):=(Below.refl _ w).alloc (Nat.le_refl _) _;have hsz:(w.alloc (.cells #[.string f,.int .i64 no,.string t] 98)).heap.size=w.heap.size+1:=by simp
 obtain⟨n,hn⟩:∃n,w.heap.size=n:=⟨_,rfl⟩;rw[hn] at hX hsz;obtain⟨W1,hW1⟩:∃W1,w.alloc (.cells #[.string f,.int .i64 no,.string t] 98)=W1:=⟨_,rfl⟩;rw[hW1] at h1 hX hsz hm1 hB1;have PS:=parseSpans_fresh s W1 hs m hm1.1;obtain⟨l,hle⟩:∃l,faultsOf s.data.toList=l:=⟨_,rfl⟩;obtain⟨sp,hsp⟩:∃sp,spansOf s.data.toList=sp:=⟨_,rfl⟩;rw[hle] at hl ⊢ PS;rw[hsp] at ⊢ PS;have HO:=Lib.hid h.ltO;have HF:=Lib.hid h.ltF;have HSZ:=hidH2 hn hsz;have HX:=hidH3 h1 hX hB1;clear h h1 hX hsz hm hm1 hB1 hle hsp
 go_enter Tryz.func68,Tryz.ntmps68
 go_wp2_with fail
 refine PS.mono ?_;clear PS;rintro e W2 ⟨sv,fv,rfl,hb2,hfo,hfr⟩
 (try rw[hn])
 clear hW1;obtain⟨A,c,rfl,hfb⟩:=hfr.form;have hszz:=hb2.size;have h2:Rdr W2 O (fun b=>F b∨(W1.heap.size≤b∧b<W2.heap.size)) rb lv pos bv bs dv ds:=(HX.out.1.below hb2).more (fun k hk=>.inl hk) (fun k hk=>by
  rcases hk with hk|hk
  ·exact HX.out.1.off k hk
  ·intro hO;have:=HX.out.1.ltO k hO;omega) (fun k hk=>by
  rcases hk with hk|hk
  ·have:=HX.out.1.ltF k hk;omega
  ·exact hk.2)
 have hT2:Turn w W2 O F O (fun b=>F b∨(W1.heap.size≤b∧b<W2.heap.size)):=⟨(Chg.below (by rw[hn];exact hn ▸ HX.out.2.2) O).trans (Chg.below hb2 O) (fun k _ h=>h),fun _ h=>.inl h,fun k hk=>by
  rcases hk with hk|hk
  ·exact .inl hk
  ·have:=HSZ.out.2;have:=HSZ.out.1;exact .inr (by omega),fun k hk=>.inl hk⟩
 have hX2:=HX.out.2.1.below hb2 (HX.out.2.1.lt);have hfo2:Forest W2 (fun b=>F b∨(W1.heap.size≤b∧b<W2.heap.size)) sv sp:=hfo.chg (Chg.refl W2 (fun _=>False)) (fun k hk=>.inr hk) (fun _ _ h=>h);obtain⟨F1,hF1⟩:∃F1,(fun b=>F b∨(W1.heap.size≤b∧b<W2.heap.size))=F1:=⟨_,rfl⟩;have hfF:∀k,(Value.slice A l.length c).ownBlock=some k→F1 k:=fun k hk=>by rw[←hF1];exact .inr (hfb k hk)
 rw[hF1] at h2 hT2 hfo2;have hnO:¬O n:=fun e=>by have:=HO.out n e;have:=HSZ.out.1;omega
 have HP:=hidH5 hT2 hX2 hfo2 hfF hfr;have HQ:=Lib.hid h2;clear hT2 hX2 hfo2 hfo hfF hF1 h2 hfb hb2 hfr hszz;go_wp2
 go_loopg [18] l.length (fun q vi wr=>∃(k:Nat) (O1:Nat→Prop) (dv1:Value),k+q=l.length∧vi=.int .i64 (k:Int)∧Hid (Rdr wr O1 F1 rb lv pos bv bs dv1 (ds++(l.take k).map (dgOf f no s))∧Turn W2 wr O F1 O1 F1∧(k=0→dv1=dv)))
 case atStart=>exact⟨0,O,dv,by omega,rfl,by simpa using HQ.out,Turn.refl _ _ _,fun _=>rfl⟩
 case round =>
  obtain⟨k,O1,dv1,hk,rfl,HR⟩:=hrel
  by_cases hlt:k<l.length
  ·obtain⟨x,hx⟩:∃x,l[k]? = some x:=⟨_,List.getElem?_eq_getElem hlt⟩;have hfrW:FaultRow wr W1.heap.size (.slice A l.length c) l:=HR.out.2.1.chg.owns HP.out.2.2.2.2 (fun k hk=>HQ.out.off k (HP.out.2.2.2.1 k hk));obtain⟨g,c1,hA,hgl,p0⟩:=FaultRow.at hfrW hx;obtain⟨rfl,rfl⟩:A=some ⟨g,0,none⟩∧c=c1:=by cases hA;exact⟨rfl,rfl⟩
   have hXw:=HR.out.2.1.chg.holds hnO HP.out.2.1;have d0:=hXw.cell 0;have d1:=hXw.cell 1;have d2:=hXw.cell 2;simp at d0 d1 d2;have ft:=fault_any HR.out.1 f t no x s (by simp;omega);have HLN:=Lib.hid hlt;clear hfrW hXw hgl hA
   go_wp2_with fail
   refine ft.mono ?_;clear ft;rintro e w2 ⟨rfl,O2,dv2,hr2,ht2⟩;have htk:(l.take (k+1)).map (dgOf f no s)=(l.take k).map (dgOf f no s)++[dgOf f no s x]:=by
    rw[List.take_add_one,hx];simp
   have HR2:Hid (Rdr w2 O2 F1 rb lv pos bv bs dv2 (ds++(l.take (k+1)).map (dgOf f no s))∧Turn W2 w2 O F1 O2 F1):=Lib.hid ⟨by rw[htk,←List.append_assoc];exact hr2,HR.out.2.1.trans ht2⟩;clear hr2 ht2 htk;go_wp2
   go_roundg (gk-1)
   case measure=>omega
   case rel=>exact⟨k+1,O2,dv2,by omega,by go_num,HR2.out.1,HR2.out.2,fun e=>absurd e (by omega)⟩
  ·obtain rfl:k=l.length:=by omega
   have HR2:=HR.out;rw[List.take_length] at HR2;have HR3:=Lib.hid HR2;clear HR2;go_wp2
   go_ret
   refine⟨sv,O1,F1,dv1,rfl,?_,HR3.out.1,HP.out.1.trans HR3.out.2.1,fun e=>HR3.out.2.2 (by rw[e];rfl)⟩;exact HP.out.2.2.1.chg HR3.out.2.1.chg (fun _ h=>h) (fun k hk=>HQ.out.off k hk)
theorem bspans_any {w:World}{O F:Nat→Prop}{rb:Nat}{lv:Value}{pos:Nat}{bv:Value}{bs:List Bl}{dv:Value}{ds:List Dg} (h:Rdr w O F rb lv pos bv bs dv ds) (f t:ByteArray) (no:Int) (s:ByteArray) (hs:s.size≤100000000){m:Int} (hm:Glob m w) (hl:ds.length+(faultsOf s.data.toList).length≤1000000000) :
  Calls Tryz.prog 68 #[.pointer (some ⟨rb,0,none⟩),.agg #[.string f,.int .i64 no,.string t],.string s] w fun e w'=>∃sv O' F' dv',e=.returned sv∧Forest w' F' sv (spansOf s.data.toList)∧Rdr w' O' F' rb lv pos bv bs dv' (ds++(faultsOf s.data.toList).map (dgOf f no s))∧Turn w w' O F O' F':=by
 refine (bspansX_any h f t no s hs hm hl).mono ?_;rintro e w' ⟨sv,O',F',dv',h1,h2,h3,h4,_⟩;exact⟨sv,O',F',dv',h1,h2,h3,h4⟩
end Go.Proofs.YtkkebmciiiajeaaGreatDoor
