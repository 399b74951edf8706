/-
  What the chapter's laws share, part 3: plain facts, memory, and walks of functions. Its conditions: those that each theorem names.
-/
import Derived.Test.YtkdknllcllhpgaaGreatDoorChecked
import Derived.WalkKit
import Derived.WalkSpells
import Derived.WalkLawsBesides
import Derived.Outline
import Derived.Deep.Light
import Derived.Lib.Hide
import Derived.Handy
import Derived.BigQuiet
import Derived.Deep.QuietTactic
import Derived.Deep.LoopGhost
import Derived.WalkMore
import Derived.Laws.RangeAny
import Derived.Laws.Runes
import Derived.IntWalk
import Derived.Lib.OthersKept
import Derived.Shelf.Strings.SlTrimAscii
import Derived.Shelf.Unicode.DecodeLast
import Derived.Test.YtkdknllcllhpgaaGreatDoorK0
import Derived.Test.YtkdknllcllhpgaaGreatDoorK1
import Derived.Test.YtkdknllcllhpgaaGreatDoorK2
set_option linter.unusedSimpArgs false
set_option linter.unusedVariables false
set_option maxHeartbeats 16000000
set_option maxRecDepth 100000
namespace Go.Bd
theorem neB {c d:UInt8}{k:Int} (hk:(d.toNat:Int)=k) (h:c≠d):((c.toNat:Int)==k)=false:=by
 rw[beq_eq_false_iff_ne,←hk];intro e;exact h (UInt8.toNat_inj.1 (by omega))
theorem pre_hasPrefix (s p:Bs):Lib.hasPrefix s p=p.isPrefixOf s:=by first|rfl|simp[Lib.hasPrefix]|(unfold Lib.hasPrefix;rfl)
end Go.Bd
namespace Go.Proofs.YtkdknllcllhpgaaGreatDoor
open Go.RowKit Go.Bd
section
variable {w:World} {B:Nat} {col:Nat→Nat} {pb ob cap len:Nat} {s:ByteArray} {st:Pst} {i:Nat} {fv:Value} {gb:Nat} {cs:Array Value} {gn:List Bs}
theorem cut_list (s:ByteArray) (i j:Nat):(s.extract i j).data.toList=(s.data.toList.drop i).take (j-i):=by
 simp only[ByteArray.data_extract,Array.toList_extract,List.extract_eq_take_drop]
theorem writeLen (st:Pst) (x:Bs):(st.write x).fs.length=st.fs.length:=onTop_length (·.write x) st.fs
theorem rest_list (s:ByteArray) (i:Nat):(s.extract i s.size).data.toList=s.data.toList.drop i:=by
 rw[cut_list,List.take_of_length_le (by simp)]
theorem rest_get {s:ByteArray}{i:Nat} (j:Nat) (h:j<(s.extract i s.size).size):(s.extract i s.size)[j]=s.data.toList.getD (i+j) 0:=by
 have e:(s.extract i s.size)[j]=(s.extract i s.size).data.toList[j]'(by simpa using h):=by first|rfl|simp[ByteArray.getElem_eq_getElem_data]
 rw[e,List.getD_eq_getElem?_getD];simp only[rest_list,List.getElem_drop];rw[List.getElem?_eq_getElem];rfl
theorem step_text (h:PSx Tryz.prog w B col pb ob cap len s st i fv gb cs gn) (hl:len=st.fs.length) (hI:Inv st i) (hi:i<s.size) (hs:s.size≤100000000) (m:Int) (hm:w.cell? ⟨0,0,none⟩=some (.int .i64 m)) (hB:0<B) (n92:s.data.toList.getD i 0≠92) (n96:s.data.toList.getD i 0≠96) (n93:s.data.toList.getD i 0≠93) (n42:s.data.toList.getD i 0≠42) (n95:s.data.toList.getD i 0≠95) (m60:[60,60].isPrefixOf (s.data.toList.drop i)=false) (m40:[40,40].isPrefixOf (s.data.toList.drop i)=false) (m94:[94,91].isPrefixOf (s.data.toList.drop i)=false) :
  Calls Tryz.prog 180 #[.pointer (some ⟨pb,0,none⟩),.int .i64 (i:Int)] w fun e w'=>e=.returned (.int .i64 ((i+1:Nat):Int))∧(∃col' cs',PSx Tryz.prog w' B col' pb ob cap (st.write [s.data.toList.getD i 0]).fs.length s (st.write [s.data.toList.getD i 0]) (i+1) fv gb cs' gn∧Stay B w w' col col'):=by
 have h17:=hI.2.2.2;have h1:=hI.2.2.1;have c0:=h.hp.cell 0;obtain⟨f,r,hfs⟩:∃f r,st.fs=f::r:=by
  match hq:st.fs,hI.2.2.1 with
  | f::r,_=>exact⟨f,r,rfl⟩
  | [],hq2=>simp at hq2
 have hftx:f.row.tx.length≤100000000:=by
  have:=hI.1
  rw[hfs,wtFs_cons] at this;unfold wtF wtR at this;omega
 have hflt:st.faults.length≤10000000000:=by have:=hI.2.1;omega
 have HLR:Hid (len=r.length+1):=by unfold Hid;rw[hl,hfs];rfl
 have hr17:r.length≤17:=by have:=HLR.out;omega
 have rz:(s.extract i s.size).size=s.size-i:=by simp
 have rz1:0<(s.extract i s.size).size:=by omega
 have rz2:(s.extract i s.size).size≤100000000:=by omega
 have G0:Hid ((s.extract i s.size)[0]'rz1=s.data.toList.getD i 0):=rest_get (s:=s) (i:=i) 0 rz1;have RL:=Lib.hid (rest_list s i);have q92:((((s.extract i s.size)[0]'rz1).toNat:Int)==92)=false:=by
  rw[G0.out];exact neB (d:=92) rfl n92
 have q96:((((s.extract i s.size)[0]'rz1).toNat:Int)==96)=false:=by
  rw[G0.out];exact neB (d:=96) rfl n96
 have q93:((((s.extract i s.size)[0]'rz1).toNat:Int)==93)=false:=by
  rw[G0.out];exact neB (d:=93) rfl n93
 have q42:((((s.extract i s.size)[0]'rz1).toNat:Int)==42)=false:=by
  rw[G0.out];exact neB (d:=42) rfl n42
 have q95:((((s.extract i s.size)[0]'rz1).toNat:Int)==95)=false:=by
  rw[G0.out];exact neB (d:=95) rfl n95
 have p60:∀w,Calls Tryz.prog 94 #[.string (s.extract i s.size),.string ⟨#[60,60]⟩] w fun e w'=>e=.returned (.bool false)∧w'=w:=fun w=>by
  have:=Tryz.strings_HasPrefix (s.extract i s.size) ⟨#[60,60]⟩ w
  rw[pre_hasPrefix,RL.out,show (ByteArray.mk #[60,60]).data.toList=[60,60] from rfl,m60] at this;exact this
 have p40:∀w,Calls Tryz.prog 94 #[.string (s.extract i s.size),.string ⟨#[40,40]⟩] w fun e w'=>e=.returned (.bool false)∧w'=w:=fun w=>by
  have:=Tryz.strings_HasPrefix (s.extract i s.size) ⟨#[40,40]⟩ w
  rw[pre_hasPrefix,RL.out,show (ByteArray.mk #[40,40]).data.toList=[40,40] from rfl,m40] at this;exact this
 have p94:∀w,Calls Tryz.prog 94 #[.string (s.extract i s.size),.string ⟨#[94,91]⟩] w fun e w'=>e=.returned (.bool false)∧w'=w:=fun w=>by
  have:=Tryz.strings_HasPrefix (s.extract i s.size) ⟨#[94,91]⟩ w
  rw[pre_hasPrefix,RL.out,show (ByteArray.mk #[94,91]).data.toList=[94,91] from rfl,m94] at this;exact this
 have e1:IntKind.i64.wrap ((i:Int)+1)=((i+1:Nat):Int):=by rw[show (i:Int)+1=((i+1:Nat):Int) by omega];exact IntWalk.i64_in _ (by omega)
 have RX:Hid (((s.extract i s.size).extract 0 1).data.toList=[s.data.toList.getD i 0]):=by
  unfold Hid;rw[cut_list,rest_list,List.drop_drop];have hlt:i<s.data.toList.length:=by simpa using hi
  rw[Nat.add_zero,List.drop_eq_getElem_cons hlt,List.getD_eq_getElem?_getD,List.getElem?_eq_getElem hlt];rfl
 have C0:=Lib.hid c0;have H:=Lib.hid h;have HPD:=Lib.hid (fun k=>PSx.drewN h k);have HFS:=Lib.hid hfs;have HL:=Lib.hid hl;have HI:=Lib.hid hI;have rz4:(1:Int)≤((s.extract i s.size).size:Int):=by omega
 clear n92 n96 n93 n42 n95 m60 m40 m94 hm hI h1 h17 h hl hfs G0 RL;obtain⟨R,hR⟩:∃R,s.extract i s.size=R:=⟨_,rfl⟩;rw[hR] at rz;have RZ:=Lib.hid rz;clear rz;simp only[hR] at rz1 rz2 q92 q96 q93 q42 q95 p60 p40 p94 RX rz4
 go_enter Tryz.func180,Tryz.ntmps180
 go_wp2_with (first
  | (go_at_call 94;(with_reducible refine (p60 _).mono ?_);rintro e w' ⟨rfl,rfl⟩)
  | (go_at_call 94;(with_reducible refine (p40 _).mono ?_);rintro e w' ⟨rfl,rfl⟩)
  | (go_at_call 94;(with_reducible refine (p94 _).mono ?_);rintro e w' ⟨rfl,rfl⟩)
  | fail)
 refine wp_region_held_drew (S:=(fun w'=>w'.cell? ⟨pb,0,none⟩=some (.string s))) (by kernel_rfl) ?_ (fun hHeld0=>?_)
 ·(try dsimp only)
  first|exact C0.out|exact z0
 refine tkHo 0 ?_;refine tkHo 4 ?_;refine tkHo 5 ?_;refine rdyH [1] ?_;refine AllReadyH.cons rfl (fun K hK=>?_) AllReadyH.nil;go_simp;refine (top_any (n:=r.length) (by rw[←HLR.out];exact HPD.out _) (by omega)).mono ?_;rintro e w3 ⟨rfl,kk,rfl⟩
 go_wp2_with fail
 refine hK.out _ _ ?_ (fun hHeld1=>?_)
 ·(try dsimp only)
  first|exact C0.out|exact z0
 clear hK K hHeld0
 (try go_frame)
 refine tkHo 2 ?_;refine tkHo 3 ?_;refine rdyH [6] ?_;refine AllReadyH.cons rfl (fun K hK=>?_) AllReadyH.nil;go_simp;refine (writeTop_any (HPD.out _) HFS.out (R.extract 0 1) (by simp;omega) (by omega)).mono ?_;rintro e w4 ⟨rfl,col4,cs4,h4,st4⟩;have st5:=st4.undrew;have H4:=Lib.hid h4;have ST4:=Lib.hid st5;have z0:=h4.hp.cell 0;clear h4 st4 st5
 go_wp2_with fail
 refine hK.out _ _ ?_ (fun hHeld2=>?_)
 ·(try dsimp only)
  first|exact C0.out|exact z0
 clear hK K hHeld1
 (try go_frame)
 refine wpAnyH_done (by kernel_rfl) ?_ _;go_wp2
 go_ret
 refine⟨rfl,col4,cs4,?_,ST4.out⟩;have e:(R.extract 0 1).data.toList=[s.data.toList.getD i 0]:=RX.out;have H5:=H4.out;rw[e] at H5;rw[writeLen,←HL.out];exact H5.on (by omega)
end
end Go.Proofs.YtkdknllcllhpgaaGreatDoor
namespace Go.Bd
def insF (p:Nat×Nat):List (Nat×Nat)→List (Nat×Nat)
 | []=>[p]
 | q::l=>if p.1≤q.1 then p::q::l else q::insF p l
def sortF:List (Nat×Nat)→List (Nat×Nat)
 | []=>[]
 | p::l=>insF p (sortF l)
theorem insF_perm (p:Nat×Nat):∀l,List.Perm (insF p l) (p::l)
 | []=>List.Perm.refl _
 | q::l=>by
  unfold insF;split
  ·exact List.Perm.refl _
  ·exact ((insF_perm p l).cons q).trans (List.Perm.swap _ _ _)
theorem sortF_perm:∀l,List.Perm (sortF l) l
 | []=>List.Perm.refl _
 | p::l=>(insF_perm p _).trans ((sortF_perm l).cons p)
def faultsOf (s:Bs):List Nat:=(sortF (faultsAt s)).map (·.2)
end Go.Bd
namespace Go.Proofs.YtkdknllcllhpgaaGreatDoor
open Go.RowKit Go.Bd
theorem insert_none (fv:Value) (w:World):Calls Tryz.prog 248 #[.slice none 0 0,.int .i64 0,.int .i64 0,fv] w fun e w'=>e=.returned (.tuple #[])∧w=w':=by
 go_enter Tryz.func248,Tryz.ntmps248
 go_wp2
 go_loop [8] (fun i=>i=.int .i64 1) (fun _=>0)
 case atStart=>rfl
 case round =>
  obtain rfl:=hrel;go_wp2
  go_end0
  exact⟨rfl,rfl⟩
theorem pdq_none (fv:Value) (x:Int) (w:World):Calls Tryz.prog 228 #[.slice none 0 0,.int .i64 0,.int .i64 0,.int .i64 x,fv] w fun e w'=>e=.returned (.tuple #[])∧w=w':=by
 go_enter Tryz.func228,Tryz.ntmps228
 go_wp2
 go_loop [1,2] (fun a b=>a=.int .i64 0∧b=.int .i64 0) (fun _ _=>0)
 case atStart=>exact⟨rfl,rfl⟩
 case round =>
  obtain⟨rfl,rfl⟩:=hrel
  go_wp2_with (go_at_call 248;refine (insert_none _ _).mono ?_;rintro e w' ⟨rfl,rfl⟩)
  (try simp only[Exit.inBlock,Exit.then])
  refine bodyPost_ret (results_none rfl _ _ _) rfl ?_;exact⟨rfl,rfl⟩
theorem sort_none (fv:Value) (w:World):Calls Tryz.prog 184 #[.slice none 0 0,fv] w fun e w'=>e=.returned (.tuple #[])∧w=w':=by
 have cl:=fun w=>Tryz.bits_Len 0 w (by omega) (by omega)
 go_enter Tryz.func184,Tryz.ntmps184
 go_wp2_with (first
  | (go_at_call 124;refine (cl _).mono ?_;rintro e w' ⟨rfl,rfl⟩)
  | (go_at_call 228;refine (pdq_none _ _ _).mono ?_;rintro e w' ⟨rfl,rfl⟩)
  | fail)
 go_end0
 exact⟨rfl,rfl⟩
end Go.Proofs.YtkdknllcllhpgaaGreatDoor
namespace Go.Bd
def R (s:Bs) (i:Nat) (st:Pst):Pst:=runP s s.length i st
theorem R_step {s:Bs}{i:Nat}{st:Pst} (hI:Inv st i) (hi:i<s.length):R s i st=R s (st.step s i).2 (st.step s i).1:=run_step hI hi (by omega)
theorem R_end {s:Bs}{i:Nat}{st:Pst} (h:s.length≤i):R s i st=st:=run_end st h
theorem endP_eq (s:Bs):endP s=(R s 0 Pst.first).drop 0:=rfl
end Go.Bd
namespace Go.Bd
open Go.RowKit
def frame0:Array Value:=#[.slice none 0 0,.slice none 0 0,.int .u8 0,.string ⟨#[]⟩,.int .i64 0]
def colFirst (B:Nat) (b:Nat):Nat:=if b<B then 5 else if b=B then 1 else if b=B+1 then 2 else if b=B+2 then 0 else 9
def firstW (w:World) (s:ByteArray):World:=((w.alloc (.cells frame0 tF)).alloc (.map #[] 0)).alloc (.cells #[.string s,.slice (some ⟨w.heap.size,0,none⟩) 1 1,.slice none 0 0,.map (some (w.heap.size+1))] tP)
theorem psFirst (P:Program) (w:World) (s:ByteArray):PSx P (firstW w s) w.heap.size (colFirst w.heap.size) (w.heap.size+1+1) w.heap.size 1 1 s Pst.first 0 (.slice none 0 0) (w.heap.size+1) frame0 []:=by
 have hz:(firstW w s).heap.size=w.heap.size+3:=by simp[firstW]
 have hp:Holds (firstW w s) (w.heap.size+1+1) tP #[.string s,.slice (some ⟨w.heap.size,0,none⟩) 1 1,.slice none 0 0,.map (some (w.heap.size+1))]:=by
  have:=Holds.new ((w.alloc (.cells frame0 tF)).alloc (.map #[] 0)) tP #[.string s,.slice (some ⟨w.heap.size,0,none⟩) 1 1,.slice none 0 0,.map (some (w.heap.size+1))]
  simpa [firstW] using this
 have ho:Holds (firstW w s) w.heap.size tF frame0:=((Holds.new w tF frame0).alloc _).alloc _;refine⟨by omega,hp,by unfold colFirst;rw[if_neg (by omega),if_neg (by omega),if_neg (by omega),if_pos (by omega)],by omega,ho,by simp[colFirst],rfl,by omega,by simp[Pst.first],by unfold maxLen;omega,?_,World.ownsRow_nil _ _ _ _,(fun b hb=>by cases hb),by omega,?_,by simp[colFirst];try omega,(fun g hg=>by cases hg),by simp,fun b hb=>?_,fun b hb=>?_⟩
 ·intro k f hf;have hk:k=0:=by
   have:=(List.getElem?_eq_some_iff.1 hf).1
   simp[Pst.first] at this;omega
  subst hk;simp only[Pst.first,List.reverse_singleton,List.getElem?_cons_zero,Option.some.injEq] at hf;subst hf;exact⟨.slice none 0 0,.slice none 0 0,⟨rfl,rfl,rfl,rfl,rfl,SpanRow.nil _ _ _ _,World.ownsRow_nil _ _ _ _,(fun b hb=>by cases hb),(fun b hb=>by cases hb)⟩⟩
 ·have h1:=World.ownsMap_made (H:=Unit) (w.alloc (.cells frame0 tF)) P 9 unitElem;have h2:(firstW w s).ownsMap (H:=Unit) P 9 unitElem (w.heap.size+1) 0 (.map []):=by
   have h3:=h1.kept (w':=firstW w s) (row:=none) ⟨rfl,rfl,rfl,by simp[firstW],fun k hk _=>Below.heap_alloc _ _ k hk⟩ (by simp);simpa using h3
  exact h2
 ·rw[hz] at hb;unfold colFirst;rw[if_neg (by omega),if_neg (by omega),if_neg (by omega),if_neg (by omega)]
 ·unfold colFirst;rw[if_pos hb]
def FaultRow (w:World) (B:Nat) (v:Value) (l:List Nat):Prop:=w.ownsRow B 53 1 v l.length (l.map fun (f:Nat)=>Value.int .i64 (f:Int))
end Go.Bd
namespace Go.Proofs.YtkdknllcllhpgaaGreatDoor
open Go.RowKit Go.Bd
theorem make_frame (w:World):(Instr.makeSlice 243 (.int .i64 1) (.int .i64 1)).run Tryz.prog w=.ok (.slice (some ⟨w.heap.size,0,none⟩) 1 1) (w.alloc (.cells frame0 254)):=by
 obtain⟨i0,hi,hz0,hz1,hz2⟩:=info_parts frame_info;have h:=run_make (P:=Tryz.prog) w 243 254 i0 _ Tryz.underlying243 hi hz0 .i64 .i64 1 1 (by omega) (Int.le_refl _) (by rw[hz2];decide) (by decide);rw[hz1] at h;have e:madeCells (Value.agg #[.slice none 0 0,.slice none 0 0,.int .u8 0,.string ⟨#[]⟩,.int .i64 0]).cells (Int.toNat 1*5)=frame0:=by first|rfl|kernel_rfl|decide
 rw[e] at h;exact h
theorem make_map (w:World):(Instr.makeMap 91 none).run Tryz.prog w=.ok (.map (some w.heap.size)) (w.alloc (.map #[] 0)):=by first|rfl|kernel_rfl
def plS (l:Bs):Bool:=l.all fun c=>!escB c
theorem plain_ne {s:Bs} (hpl:s.all (fun c=>!escB c)=true){i:Nat} (hi:i<s.length):s.getD i 0≠92∧s.getD i 0≠96∧s.getD i 0≠93∧s.getD i 0≠42∧s.getD i 0≠95∧[60,60].isPrefixOf (s.drop i)=false∧[40,40].isPrefixOf (s.drop i)=false∧[94,91].isPrefixOf (s.drop i)=false:=by
 have e:s.getD i 0=s[i]:=by rw[List.getD_eq_getElem?_getD,List.getElem?_eq_getElem hi];rfl
 have h:=List.all_eq_true.1 hpl s[i] (List.getElem_mem hi);rw[e,List.drop_eq_getElem_cons hi];generalize s[i]=c at *;unfold escB at h;simp only[Bool.not_eq_true',Bool.or_eq_false_iff,beq_eq_false_iff_ne] at h;obtain⟨⟨⟨⟨⟨⟨⟨h1,h2⟩,h3⟩,h4⟩,h5⟩,h6⟩,h7⟩,h8⟩:=h;refine⟨h7,h8,h6,h1,h2,?_,?_,?_⟩
 ·show ((60==c)&&_)=false
  rw[beq_eq_false_iff_ne.2 (fun e=>h3 e.symm),Bool.false_and]
 ·show ((40==c)&&_)=false
  rw[beq_eq_false_iff_ne.2 (fun e=>h4 e.symm),Bool.false_and]
 ·show ((94==c)&&_)=false
  rw[beq_eq_false_iff_ne.2 (fun e=>h5 e.symm),Bool.false_and]
theorem plain_step (st:Pst){s:Bs} (hpl:s.all (fun c=>!escB c)=true){i:Nat} (hi:i<s.length):st.step s i=(st.write [s.getD i 0],i+1):=by
 obtain⟨h1,h2,h3,h4,h5,h6,h7,h8⟩:=plain_ne hpl hi;unfold Pst.step;rw[if_neg (fun h=>h1 h.1),if_neg h2,h6,h7,h8,if_neg (by decide),if_neg (by decide),if_neg (by decide),if_neg (fun h=>h3 h.1),if_neg h4,if_neg h5]
theorem drop_one {w:World}{B:Nat}{col:Nat→Nat}{pb ob cap:Nat}{s:ByteArray}{st:Pst}{i:Nat}{fv:Value}{gb:Nat}{cs:Array Value}{gn:List Bs} (h:PSx Tryz.prog w B col pb ob cap 1 s st i fv gb cs gn) :
  Calls Tryz.prog 181 #[.pointer (some ⟨pb,0,none⟩),.int .i64 0] w fun e w'=>e=.returned (.tuple #[])∧w'=w:=by
 have c1:=h.hp.cell 1;simp at c1;clear h
 go_enter Tryz.func181,Tryz.ntmps181
 go_wp2;refine wp_scope_label 0 (fun a' wz=>a'=_∧wz=w) (fun _ _=>0) ⟨rfl,rfl⟩ ?_;rintro a' wz ⟨rfl,rfl⟩;go_wp2;simp only[Exit.jump];refine bodyPost_ret (results_none rfl _ _ _) rfl ?_;exact⟨rfl,rfl⟩
theorem parseSpans_fresh (s:ByteArray) (w:World) (hs:s.size≤100000000) (m:Int) (hm:w.cell? ⟨0,0,none⟩=some (.int .i64 m)) (hpl:plS s.data.toList=true) :
  Calls Tryz.prog 125 #[.string s] w fun e w'=>∃sv fv,e=.returned (.tuple #[sv,fv])∧Below w.heap.size w w'∧Forest w' (fun b=>w.heap.size≤b∧b<w'.heap.size) sv (spansOf s.data.toList)∧FaultRow w' w.heap.size fv (faultsOf s.data.toList):=by
 have hB:0<w.heap.size:=World.block_lt_of_cell? w _ hm;have mf:=make_frame w;have HF:=Lib.hid (psFirst Tryz.prog w s);have HM:=Lib.hid hm;have hls:s.data.toList.length=s.size:=by simp
 have HLS:=Lib.hid hls;have HPL:=Lib.hid hpl;clear hm hls hpl
 go_enter Tryz.func125,Tryz.ntmps125
 go_wp2_with fail
 rw[make_map];clear mf;simp only[Result.andThen];rw[Oper.upon_value];go_wp2
 go_loopg [5] (s.size) (fun q v wr=>∃(i:Nat) (st:Pst) (col:Nat→Nat) (cs:Array Value),i+q=s.size∧v=.int .i64 (i:Int)∧Hid (Bd.Inv st i∧R s.data.toList i st=R s.data.toList 0 Pst.first∧PSx Tryz.prog wr w.heap.size col (w.heap.size+1+1) w.heap.size 1 1 s st i (.slice none 0 0) (w.heap.size+1) cs []∧Below w.heap.size w wr∧st.fs.length=1∧st.faults=[]))
 case atStart =>
  refine⟨0,Pst.first,_,_,by omega,rfl,Inv.first,rfl,HF.out,?_,rfl,rfl⟩;exact (((Below.refl _ _).alloc (Nat.le_refl _) _).alloc (by simp) _).alloc (by simp;omega) _
 case round =>
  clear HF;obtain⟨i,st,col,cs,hq,rfl,HR⟩:=hrel;obtain⟨hI,hRR,hP,hb,h1,hf0⟩:=HR.out
  by_cases hlt:i<s.size
  ·have hnl:i<s.data.toList.length:=by rw[HLS.out];exact hlt
   obtain⟨n1,n2,n3,n4,n5,n6,n7,n8⟩:=plain_ne HPL.out hnl;have cst:=step_text hP h1.symm hI hlt hs m ((hb.cell (p:=⟨0,0,none⟩) hB).trans HM.out) hB n1 n2 n3 n4 n5 n6 n7 n8;clear n1 n2 n3 n4 n5 n6 n7 n8;obtain⟨h3,h4,h5⟩:=hI.step (s:=s.data.toList) hnl;have hRS:R s.data.toList (st.step s.data.toList i).2 (st.step s.data.toList i).1=R s.data.toList 0 Pst.first:=by rw[←R_step hI hnl];exact hRR
   rw[plain_step st HPL.out hnl] at h3 h4 h5 hRS;dsimp only at h3 h4 h5 hRS;have hl1:(st.write [s.data.toList.getD i 0]).fs.length=1:=by rw[writeLen];exact h1
   have hf1:(st.write [s.data.toList.getD i 0]).faults=[]:=hf0;have HRS:=hidH4 h3 hRS hl1 hf1;have HB:=Lib.hid hb;rw[hl1] at cst;clear hI hRR hP hb HR h3 hRS hl1 hf1 h1 hf0 hnl h5;generalize st.write [s.data.toList.getD i 0]=st' at cst HRS
   go_wp2_with (go_at_call 180;refine cst.mono ?_;clear cst;rintro e w' ⟨rfl,hpost⟩)
   have HPost:=Lib.hid hpost;clear hpost
   go_roundg (s.size-(i+1))
   case measure=>omega
   case rel =>
    obtain⟨col',cs',h6,h7⟩:=HPost.out;exact⟨i+1,st',col',cs',by omega,rfl,HRS.out.1,HRS.out.2.1,h6,HB.out.trans h7.below,HRS.out.2.2⟩
  ·obtain rfl:i=s.size:=by omega
   have hdr:st.drop 0=st:=by unfold Pst.drop;rw[h1];rfl
   have hst:st=endP s.data.toList:=by
    rw[endP_eq,←hRR,R_end (by rw[HLS.out];exact Nat.le_refl _),hdr]
   have HSO:Hid (spansOf s.data.toList=match (endP s.data.toList).fs with|f::_=>f.row.flush.sp|[]=>[]):=rfl;have HFO:Hid (faultsOf s.data.toList=(sortF (endP s.data.toList).faults).map (·.2)):=rfl;rw[←hst] at HSO HFO;obtain⟨f,hfs⟩:∃f,st.fs=[f]:=by
    match hq:st.fs,h1 with
    | [f],_=>exact⟨f,rfl⟩
   have hwt:wtF f≤s.size:=by
    have:=hI.1
    rw[hfs,wtFs_cons] at this;omega
   have hsl:f.row.sp.length≤100000000∧f.row.tx.length≤100000000:=by
    have:=wtL_len f.row.sp
    unfold wtF wtR at hwt;omega
   obtain⟨hsl1,hsl2⟩:=hsl;have cd:=drop_one hP;have HFS:=Lib.hid hfs;have HB:=Lib.hid hb;have H1:=Lib.hid hP;have HF0:=Lib.hid hf0;clear hI hRR hP hb HR hst hfs hwt hdr h1 hf0
   go_wp2_with fail
   refine cd.mono ?_;clear cd;rintro e w1 ⟨rfl,rfl⟩
   go_wp2_with fail
   refine (top_any (n:=0) H1.out (by omega)).mono ?_;rintro e w2 ⟨rfl,kk,rfl⟩;have cf:=flushTop_any (PSx.drewN H1.out kk) HFS.out (by omega) (by omega)
   go_wp2_with fail
   refine cf.mono ?_;clear cf;rintro e w3 ⟨rfl,col3,cs3,h3,st3⟩;have hfs3:(st.top (·.flush)).fs=[{ f with row:=f.row.flush }]:=by simp[Pst.top,onTop,HFS.out]
   have HFS3:=Lib.hid hfs3;have d2:=h3.hp.cell 2;simp at d2;have H3:=Lib.hid h3;have HB3:=Lib.hid (HB.out.trans st3.undrew.below);clear h3 st3 hfs3
   go_wp2_with fail
   refine (sort_none _ _).mono ?_;rintro e w4 ⟨rfl,rfl⟩;obtain⟨wQ,hQ⟩:∃x,x=w3:=⟨_,rfl⟩;subst hQ;go_wp2
   go_loopg [6,38] 0 (fun q v idx wr=>v=.slice none 0 0∧idx=.int .i64 0∧wr=wQ)
   case atStart=>exact⟨rfl,rfl,rfl⟩
   case round =>
    obtain⟨rfl,rfl,rfl⟩:=hrel;have h5:=H3.out;obtain⟨sv,tv,hfr⟩:=h5.fr 0 { f with row:=f.row.flush } (by rw[HFS3.out];rfl);obtain⟨q0,_,_,_,_⟩:=frame_cells hfr h5.ho;have q0':wr.cell? ⟨w.heap.size,0,none⟩=some sv:=by simpa using q0
    have HFR:Hid (Forest wr (fun b=>w.heap.size≤b∧b<wr.heap.size) sv f.row.flush.sp):=hfr.sp.forest (fun b hb=>⟨h5.ge4 hb,h5.lt4 hb⟩) (fun b hb=>hfr.sp.lt b hb);clear h5 hfr q0
    go_wp2_with fail
    refine (top_any (n:=0) H3.out (by omega)).mono ?_;rintro e w6 ⟨rfl,kk6,rfl⟩;go_wp2
    go_ret2
    have hso:spansOf s.data.toList=f.row.flush.sp:=by rw[HSO.out,HFS.out]
    have hfo:faultsOf s.data.toList=[]:=by rw[HFO.out,HF0.out];rfl
    refine⟨sv,.slice none 0 0,rfl,?_,?_,?_⟩
    ·exact⟨HB3.out.os,HB3.out.tape,HB3.out.output,HB3.out.size,HB3.out.block⟩
    ·rw[hso];exact HFR.out.keep (fun _ h=>h) (fun _ _ _ h=>h)
    ·unfold FaultRow;rw[hfo];exact World.ownsRow_nil _ _ _ _
end Go.Proofs.YtkdknllcllhpgaaGreatDoor
namespace Go.Proofs.YtkdknllcllhpgaaGreatDoor
open Go.RowKit Go.Bd
theorem ascii_at {g:ByteArray} (hg:∀b∈g.data.toList,b.toNat<128){i:Nat} (hi:i<g.size):(g[i]'hi).toNat<128 :=
 hg _ (List.getElem_mem (l:=g.data.toList) (by simpa using hi))
theorem indexRune_bad (g:ByteArray) (w:World) (hg:∀b∈g.data.toList,b.toNat<128) :
  Calls Tryz.prog 126 #[.string g,.int .i32 65533] w fun e w'=>e=.returned (.int .i64 (-1))∧Below w.heap.size w w':=by
 have HG:=Lib.hid hg;clear hg
 go_enter Tryz.func126,Tryz.ntmps126
 go_wp2
 go_loopg [5,6] g.size (fun n _ _ wx=>∃i:Nat,i+n=g.size∧wx=w.iter g i)
 case atStart=>exact⟨0,by omega,rfl⟩
 case round =>
  obtain⟨i,hig,rfl⟩:=hrel;cases gk with
  | zero =>
   obtain rfl:i=g.size:=by omega
   have hnx:=run_next_end (P:=Tryz.prog) w g g.size;go_wp2
   go_ret
   exact⟨rfl,(Below.refl _ _).alloc (Nat.le_refl _) _⟩
  | succ n =>
   have hi:i<g.size:=by omega
   have hx:=ascii_at HG.out hi;have hnx:=fun ty=>run_next_ascii (P:=Tryz.prog) w g i ty hi hx
   go_wp2
   all_goals first|omega|skip
   go_roundg n
   case measure=>omega
   case rel=>exact⟨i+1,by omega,rfl⟩
theorem indexByte_high (l:Bs) (hl:∀b∈l,b.toNat<128) (c:UInt8) (hc:128≤c.toNat):Lib.indexByte l c=-1:=by
 have h:=Lib.contains_iff_indexByte l c;have hn:l.contains c=false:=by
  rw[Bool.eq_false_iff];intro hm;have:=hl c (by simpa using hm)
  omega
 rw[hn] at h;have h1:=of_decide_eq_false h.symm;have h2:=Lib.indexByte_ge l c;omega
theorem indexRune_none (g:ByteArray) (r:Int) (w:World) (h1:128≤r) (h2:¬r=65533) (hv:validRune r=false) :
  Calls Tryz.prog 126 #[.string g,.int .i32 r] w fun e w'=>e=.returned (.int .i64 (-1))∧Below w.heap.size w w':=by
 have hv2:Lib.validRune r=false:=hv;have hne:(r==65533)=false:=by simpa using h2
 go_enter Tryz.func126,Tryz.ntmps126
 go_wp2_with (go_at_call 188;refine (Tryz.utf8_ValidRune _ _).mono ?_;rintro e w' ⟨rfl,hw⟩;subst hw)
 go_ret
 exact⟨rfl,Below.refl _ _⟩
theorem decode_bytes (s:ByteArray) (p:Nat) (h:p<s.size) (ha:128≤(s[p]'h).toNat) :
  p+(Utf8.decode s p).2≤s.size∧∀j (hj:p+j<s.size),j<(Utf8.decode s p).2→128≤(s[p+j]'hj).toNat:=by
 have hn:¬(s[p]'h).toNat<128:=by omega
 have hg:∀k (hk:p+k<s.size),s.get! (p+k)=s[p+k]'hk:=fun k hk=>by
  show s.get! (p+k)=_
  simp[ByteArray.get!,getElem!_pos,hk];rfl
 have key:∀k,(decide (p+k<s.size)&&(s.get! (p+k)).toNat / 64==2)=true→p+k<s.size∧∀hk:p+k<s.size,128≤(s[p+k]'hk).toNat:=by
  intro k hk;simp only[Bool.and_eq_true,decide_eq_true_eq,beq_iff_eq] at hk;refine⟨hk.1,fun hk'=>?_⟩;have:=hk.2
  rw[hg k hk'] at this;omega
 have h0:∀(hj:p+0<s.size),128≤(s[p+0]'hj).toNat:=fun _=>ha
 simp only[Utf8.decode,get_at s p h,hn,if_false];split
 ·rename_i c;simp only[Bool.and_eq_true] at c;have k1:=key 1 (by simpa using c.2);split
  ·refine⟨by omega,fun j hj hl=>?_⟩
   match j,hl with
   | 0,_=>exact h0 hj
   | 1,_=>exact k1.2 hj
  ·exact⟨by omega,fun j hj hl=>by obtain rfl:j=0:=by simpa using hl
                                  exact h0 hj⟩
 ·split
  ·rename_i c;simp only[Bool.and_eq_true] at c;have k1:=key 1 (by simpa using c.1.2);have k2:=key 2 (by simpa using c.2);split
   ·refine⟨by omega,fun j hj hl=>?_⟩
    match j,hl with
    | 0,_=>exact h0 hj
    | 1,_=>exact k1.2 hj
    | 2,_=>exact k2.2 hj
   ·exact⟨by omega,fun j hj hl=>by obtain rfl:j=0:=by simpa using hl
                                   exact h0 hj⟩
  ·split
   ·rename_i c;simp only[Bool.and_eq_true] at c;have k1:=key 1 (by simpa using c.1.1.2);have k2:=key 2 (by simpa using c.1.2);have k3:=key 3 (by simpa using c.2);split
    ·refine⟨by omega,fun j hj hl=>?_⟩
     match j,hl with
     | 0,_=>exact h0 hj
     | 1,_=>exact k1.2 hj
     | 2,_=>exact k2.2 hj
     | 3,_=>exact k3.2 hj
    ·exact⟨by omega,fun j hj hl=>by obtain rfl:j=0:=by simpa using hl
                                    exact h0 hj⟩
   ·exact⟨by simp;omega,fun j hj hl=>by obtain rfl:j=0:=by simpa using hl
                                        exact h0 hj⟩
def NoSign (s:ByteArray) (g:Bs) (p:Nat):Prop:=p≤s.size∧∀j (h:j<s.size),j<p→g.contains s[j]=false
theorem NoSign.step {s:ByteArray}{g:Bs}{p:Nat} (h:NoSign s g p) (hp:p<s.size) (h1:g.contains s[p]=false):NoSign s g (p+1):=by
 refine⟨by omega,fun j hj hjp=>?_⟩
 by_cases e:j=p
 ·subst e;exact h1
 ·exact h.2 j hj (by omega)
theorem NoSign.jump {s:ByteArray}{g:Bs}{p d:Nat} (h:NoSign s g p) (hd:p+d≤s.size) (h1:∀j (hj:p+j<s.size),j<d→128≤(s[p+j]'hj).toNat) (hg:∀b∈g,b.toNat<128):NoSign s g (p+d):=by
 refine⟨hd,fun j hj hjp=>?_⟩
 by_cases e:j<p
 ·exact h.2 j hj e
 ·rw[Bool.eq_false_iff];intro hc;have h2:=hg _ (by simpa using hc);obtain⟨k,rfl⟩:∃k,j=p+k:=⟨j-p,by omega⟩;have:=h1 k hj (by omega)
  omega
theorem set_info:(Tryz.prog.info? 201).map (fun i=>(i.zero,i.size))=some (some (.agg (Array.replicate 256 (.bool false))),256):=by kernel_rfl
theorem trimS_blank (l:Bs):Lib.trimS l [32,9]=trim l:=by
 have e:(fun c=>([32,9]:Bs).contains c)=Go.Bd.blank:=by
  funext c
  rw[Bool.eq_iff_iff,blank_iff];simp only[List.contains_eq_mem,List.mem_cons,List.not_mem_nil,or_false,decide_eq_true_eq,←UInt8.toNat_inj];simp;omega
 rw[←dropLR,Lib.trimS,Lib.trimLeftS,Lib.trimRightS,dropL,dropR,e]
theorem strTrim_any (s:ByteArray) (w:World) (hs:s.size≤9223372036854775807) :
  Calls Tryz.prog 90 #[.string s,.string ⟨#[32,9]⟩] w fun e w'=>e=.returned (strV (trim s.data.toList))∧Below w.heap.size w w':=by
 refine (Any.strings_Trim_laid Tryz.lays160 set_info s ⟨#[32,9]⟩ w hs (by decide) (ascii_of_all (by decide))).mono ?_;rintro e w' ⟨he,hb⟩;refine⟨?_,hb⟩;rw[he];exact congrArg (fun l:Bs=>Ending.returned (strV l)) (trimS_blank _)
theorem blank_fun:(fun c=>([32,9]:Bs).contains c)=Go.Bd.blank:=by
 funext c
 rw[Bool.eq_iff_iff,blank_iff];simp only[List.contains_eq_mem,List.mem_cons,List.not_mem_nil,or_false,decide_eq_true_eq,←UInt8.toNat_inj];simp;omega
theorem strTrimL_any (s:ByteArray) (w:World) (hs:s.size≤9223372036854775807) :
  Calls Tryz.prog 88 #[.string s,.string ⟨#[32,9]⟩] w fun e w'=>e=.returned (strV (dropL s.data.toList))∧Below w.heap.size w w':=by
 refine (Any.strings_TrimLeft_laid Tryz.lays161 set_info s ⟨#[32,9]⟩ w (by decide) (ascii_of_all (by decide))).mono ?_;rintro e w' ⟨he,hb⟩;refine⟨?_,hb⟩;rw[he];exact congrArg (fun l:Bs=>Ending.returned (strV l)) (by rw[Lib.trimLeftS,dropL];show List.dropWhile (fun c=>([32,9]:Bs).contains c) _=_;rw[blank_fun])
theorem strTrimR_any (s:ByteArray) (w:World) (hs:s.size≤9223372036854775807) :
  Calls Tryz.prog 194 #[.string s,.string ⟨#[32,9]⟩] w fun e w'=>e=.returned (strV (dropR s.data.toList))∧Below w.heap.size w w':=by
 refine (Any.strings_TrimRight_laid Tryz.lays162 set_info s ⟨#[32,9]⟩ w hs (by decide) (ascii_of_all (by decide))).mono ?_;rintro e w' ⟨he,hb⟩;refine⟨?_,hb⟩;rw[he];exact congrArg (fun l:Bs=>Ending.returned (strV l)) (by rw[Lib.trimRightS,dropR];show (List.dropWhile (fun c=>([32,9]:Bs).contains c) _).reverse=_;rw[blank_fun])
theorem indexRune_valid2 (g:ByteArray) (r:Int) (w:World) (hg:∀b∈g.data.toList,b.toNat<128) (h4:(Utf8.encode r).size≤g.size) (h5:g.size≤200) (h1:128≤r) (h2:¬r=65533) (hv:Utf8.valid r=true) :
  Calls Tryz.prog 126 #[.string g,.int .i32 r] w fun e w'=>e=.returned (.int .i64 (-1))∧Below w.heap.size w w':=by
 have HG:=Lib.hid hg;clear hg;obtain⟨f1,f2,f3⟩:=encode_facts r hv h1;have hv':validRune r=true:=by rw[←validRune_eq];exact hv
 have Hv:=Lib.hid hv;clear hv;have hne:(r==65533)=false:=by simpa using h2
 generalize he:Utf8.encode r=e at f1 f2 f3 h4;have hce:=fun (w:World)=>run_convert_int_string (P:=Tryz.prog) w 21 9 .i32 r (by rw[Tryz.underlying21];rfl) Tryz.underlying9
 rw[he] at hce;have He:=Lib.hid he;clear he;obtain⟨n,hn⟩:∃n,e.size=n+1:=⟨e.size-1,by omega⟩;have hng:n<g.size:=by omega
 have hne':n<e.size:=by omega
 have f4:128≤(e[n]'hne').toNat:=by
  have h:=f3 (by omega);have e1:e.size-1=n:=by omega
  simpa only[e1] using h
 clear f3;have hx:=ascii_at HG.out hng;have hneq:((g[n]'hng).toNat:Int)≠(e[n]'hne').toNat:=by omega
 have hb:(((g[n]'hng).toNat:Int) != (e[n]'hne').toNat)=true:=by simpa using hneq
 have hb':(((g[n]'hng).toNat:Int)==(e[n]'hne').toNat)=false:=by simpa using hneq
 clear hneq
 go_enter Tryz.func126,Tryz.ntmps126
 go_wp2_with (go_at_call 188;refine (Tryz.utf8_ValidRune _ _).mono ?_;rintro e w' ⟨rfl,hw⟩;subst hw)
 ·go_ret
  exact⟨rfl,Below.refl _ _⟩
 ·go_step3
  go_wp2;refine wp_loop_rounds 1 ?_;rw[rounds_succ];go_wp2
  go_step3
  go_wp2;have Hn:=Lib.hid hn;clear hn
  go_quiet (fail)
  go_wp2;have hbq:Below w'.heap.size w' (w'.drewN nq):=Go.below_drewN (Below.refl _ _) _;generalize w'.drewN nq=w2 at hbq ⊢;have q1:IntKind.i64.wrap ((n:Int)+1)=(n:Int)+1:=IntWalk.i64_in _ (by omega);have q2:0≤(n:Int)+1:=by omega
  have q3:((n:Int)+1).toNat=n+1:=by omega
  have q4:(n:Int)+1≤(g.size:Int):=by omega
  have e41:Lib.indexByte (List.take (g.size-(n+1)) (List.drop (n+1) g.data.toList)) (e[n]'hne')<0:=by
   rw[indexByte_high _ (fun b hb=>HG.out b (List.mem_of_mem_drop (List.mem_of_mem_take hb))) _ f4];decide
  go_quiet ((go_at_call 187;exact Calls.quiet_of_same (Tryz.strings_IndexByte _ _ _)))
  clear q1 q2 q3 q4;go_wp2;rw[Exit.noGoto_ret];simp only[Exit.inBlock,Exit.then];rw[Exit.noGoto_ret];simp only[Exit.inBlock]
  go_ret
  exact⟨rfl,Go.below_drewN hbq _⟩
theorem indexRune_valid3 (g:ByteArray) (r:Int) (w:World) (h4:g.size<(Utf8.encode r).size) (h3:2≤g.size) (h1:128≤r) (h2:¬r=65533) (hv:Utf8.valid r=true) :
  Calls Tryz.prog 126 #[.string g,.int .i32 r] w fun e w'=>e=.returned (.int .i64 (-1))∧Below w.heap.size w w':=by
 obtain⟨f1,f2,f3⟩:=encode_facts r hv h1;clear f3;have hv':validRune r=true:=by rw[←validRune_eq];exact hv
 have Hv:=Lib.hid hv;clear hv;have hne:(r==65533)=false:=by simpa using h2
 generalize he:Utf8.encode r=e at f1 f2 h4;have hce:=fun (w:World)=>run_convert_int_string (P:=Tryz.prog) w 21 9 .i32 r (by rw[Tryz.underlying21];rfl) Tryz.underlying9
 rw[he] at hce;clear he;obtain⟨n,hn⟩:∃n,e.size=n+1:=⟨e.size-1,by omega⟩;have hng:¬n<g.size:=by omega
 go_enter Tryz.func126,Tryz.ntmps126
 go_wp2_with (go_at_call 188;refine (Tryz.utf8_ValidRune _ _).mono ?_;rintro e w' ⟨rfl,hw⟩;subst hw)
 ·go_ret
  exact⟨rfl,Below.refl _ _⟩
 ·go_step3
  go_wp2;refine wp_loop_rounds 1 ?_;rw[rounds_succ];go_wp2;rw[Exit.noGoto_ret];simp only[Exit.inBlock,Exit.then]
  (try rw[Exit.noGoto_ret])
  (try simp only[Exit.inBlock])
  go_ret
  exact⟨rfl,Below.refl _ _⟩
theorem indexRune_high2 (g:ByteArray) (r:Int) (w:World) (hg:∀b∈g.data.toList,b.toNat<128) (h4:2≤g.size) (h5:g.size≤200) (h1:128≤r) :
  Calls Tryz.prog 126 #[.string g,.int .i32 r] w fun e w'=>e=.returned (.int .i64 (-1))∧Below w.heap.size w w':=by
 by_cases h2:r=65533
 ·subst h2;exact indexRune_bad g w hg
 ·by_cases hv:Utf8.valid r=true
  ·rcases Nat.lt_or_ge g.size (Utf8.encode r).size with h|h
   ·exact indexRune_valid3 g r w h h4 h1 h2 hv
   ·exact indexRune_valid2 g r w hg h h5 h1 h2 hv
  ·exact indexRune_none g r w h1 h2 (by rw[validRune_eq] at hv;simpa using hv)
theorem indexAny_here {chars:Bs}:∀{l:Bs}{p:Nat}{b:UInt8},l[p]? = some b→chars.contains b=true→(∀j,j<p→∀c,l[j]? = some c→chars.contains c=false)→Lib.indexAny l chars=(p:Int)
 | [],p,b,h,_,_=>by simp at h
 | c::l,0,b,h,hb,_=>by
  obtain rfl:c=b:=by simpa using h
  rw[Lib.indexAny,if_pos hb];rfl
 | c::l,p+1,b,h,hb,hn=>by
  have h0:=hn 0 (by omega) c rfl;have ih:=indexAny_here (l:=l) (p:=p) (by simpa using h) hb (fun j hj d hd=>hn (j+1) (by omega) d (by simpa using hd));rw[Lib.indexAny,h0,ih];have e:((p:Int) == -1)=false:=beq_eq_false_iff_ne.2 (by omega);simp[e]
theorem indexAny_no {chars:Bs}:∀{l:Bs},(∀c∈l,chars.contains c=false)→Lib.indexAny l chars=-1
 | [],_=>rfl
 | c::l,h=>by
  have ih:=indexAny_no (l:=l) (fun d hd=>h d (List.mem_cons_of_mem _ hd));rw[Lib.indexAny,h c (List.mem_cons_self ..),ih];rfl
theorem NoSign.at_end {s:ByteArray}{g:Bs} (h:NoSign s g s.size):Lib.indexAny s.data.toList g=-1 :=
 indexAny_no fun c hc=>by
  obtain⟨j,hj,rfl⟩:=List.mem_iff_getElem.1 hc;exact h.2 j (by simpa using hj) (by simpa using hj)
theorem NoSign.at_hit {s:ByteArray}{g:Bs}{p:Nat} (h:NoSign s g p) (hp:p<s.size) (hc:g.contains s[p]=true):Lib.indexAny s.data.toList g=(p:Int):=by
 have hl:p<s.data.toList.length:=by simpa using hp
 refine indexAny_here (b:=s[p]) (List.getElem?_eq_getElem hl) hc (fun j hj c hjc=>?_);obtain⟨hjl,rfl⟩:=List.getElem?_eq_some_iff.1 hjc;exact h.2 j (by simpa using hjl) hj
theorem indexAnyX_short (s g:ByteArray) (w:World) (hg:∀b∈g.data.toList,b.toNat<128) (h4:2≤g.size) (h5:g.size≤200) (h8:s.size≤8) :
  Calls Tryz.prog 87 #[.string s,.string g] w fun e w'=>e=.returned (.int .i64 (Lib.indexAny s.data.toList g.data.toList))∧Below w.heap.size w w':=by
 have HG:=Lib.hid hg;clear hg;have hemp:g.toList.isEmpty=false:=by
  rw[ByteArray.toList_eq];cases h:g.data.toList with
  | nil=>have:=size_list g;rw[h,List.length_nil] at this;omega
  | cons _ _=>rfl
 have hn1:((g.size:Int)==1)=false:=beq_eq_false_iff_ne.2 (by omega);have h8z:decide ((8:Int)<(s.size:Int))=false:=decide_eq_false (by omega)
 go_enter Tryz.func87,Tryz.ntmps87
 go_wp2_with (go_at_call 127;refine (Tryz.strings_shouldUseASCIISet _ _).mono ?_;rintro e w' ⟨rfl,hw⟩;rw[hw,h8z])
 go_loopg [9,10] s.size (fun n _ _ wx=>∃p:Nat,p+n=s.size∧wx.heap[w.heap.size]? = some (.stringIter s p)∧Hid (NoSign s g.data.toList p)∧Below w.heap.size w wx)
 case atStart=>exact⟨0,by omega,World.iter_heap _ _ _,⟨by omega,fun _ _ h=>absurd h (by omega)⟩,(Below.refl _ _).alloc (Nat.le_refl _) _⟩
 case round =>
  obtain⟨p,hpn,hit,HN,hb⟩:=hrel;cases gk with
  | zero =>
   obtain rfl:p=s.size:=by omega
   have hnx:=fun ty=>Lib.run_next_end_at (P:=Tryz.prog) wr w.heap.size s s.size ty hit (by omega)
   go_wp2
   go_ret
   exact⟨by rw[HN.out.at_end];rfl,hb⟩
  | succ n =>
   have hp:p<s.size:=by omega
   by_cases hx:(s[p]'hp).toNat<128
   ·have hnx:=fun ty=>Lib.run_next_ascii_at (P:=Tryz.prog) wr w.heap.size s p ty hit hp hx
    have hcon:=Lib.contains_iff_indexByte g.data.toList (s[p]'hp);have hback:(((s[p]'hp).toNat:Int)).toNat.toUInt8=s[p]'hp:=by simp
    cases hin:g.data.toList.contains (s[p]'hp)
    ·rw[hin] at hcon;have hlt:Lib.indexByte g.data.toList (s[p]'hp)<0:=by have:=of_decide_eq_false hcon.symm;omega
     clear hcon;have HI:=Lib.hid hin;clear hin
     go_wp2_with (go_at_call 126;refine (Tryz.strings_IndexRune_ascii _ _ _ (by omega) (by omega)).mono ?_;rintro e w' ⟨rfl,hw⟩;rw[hw,hback])
     go_roundg n
     case measure=>omega
     case rel=>exact⟨p+1,by omega,Lib.iterAt_heap _ _ _ _ _ hit,HN.out.step hp HI.out,Lib.below_iterAt hb (Nat.le_refl _) _ _⟩
    ·rw[hin] at hcon;have hge:0≤Lib.indexByte g.data.toList (s[p]'hp):=of_decide_eq_true hcon.symm;clear hcon;have HI:=Lib.hid hin;clear hin
     go_wp2_with (go_at_call 126;refine (Tryz.strings_IndexRune_ascii _ _ _ (by omega) (by omega)).mono ?_;rintro e w' ⟨rfl,hw⟩;rw[hw,hback])
     go_ret
     exact⟨by rw[HN.out.at_hit hp HI.out];simp,Lib.below_iterAt hb (Nat.le_refl _) _ _⟩
   ·obtain⟨d1,d2⟩:=decode_high s p hp (by omega);obtain⟨d3,d4⟩:=decode_bytes s p hp (by omega);have D4:=Lib.hid d4;clear d4;have hnx:=fun ty=>Lib.run_next_any_at (P:=Tryz.prog) wr w.heap.size s p ty hit hp
    generalize hc:(Utf8.decode s p).1=c at d1 hnx;generalize hd:(Utf8.decode s p).2=d at d2 d3 D4 hnx;clear hc hd
    go_wp2_with (go_at_call 126;refine (indexRune_high2 _ _ _ HG.out h4 h5 (by omega)).mono ?_;rintro e w2 ⟨rfl,hb2⟩)
    go_roundg (s.size-(p+d))
    case measure=>omega
    case rel=>exact⟨p+d,by omega,(hb2.block _ (by rw[Lib.iterAt_size];exact (Array.getElem?_eq_some_iff.1 hit).1)).trans (Lib.iterAt_heap _ _ _ _ _ hit),HN.out.jump d3 D4.out HG.out,(Lib.below_iterAt hb (Nat.le_refl _) _ _).trans (hb2.mono (by rw[Lib.iterAt_size];exact hb.size))⟩
theorem indexAnyX_any (s g:ByteArray) (w:World) (hg:∀b∈g.data.toList,b.toNat<128) (h4:2≤g.size) (h5:g.size≤200) (hs:s.size<4294967281) :
  Calls Tryz.prog 87 #[.string s,.string g] w fun e w'=>e=.returned (.int .i64 (Lib.indexAny s.data.toList g.data.toList))∧Below w.heap.size w w':=by
 rcases Nat.lt_or_ge 8 s.size with h|h
 ·refine (Tryz.strings_IndexAny_long (fun w=>by kernel_rfl) s g w h4 h hs (by omega) (fun j b hb=>hg b (List.mem_of_getElem? hb))).mono ?_;rintro e w' ⟨rfl,rfl⟩;exact⟨rfl,((Below.refl _ w).alloc (Nat.le_refl _) _).alloc (by simp) _⟩
 ·exact indexAnyX_short s g w hg h4 h5 h
end Go.Proofs.YtkdknllcllhpgaaGreatDoor
namespace Go.Bd
def lastAny:Bs→Bs→Int
 | [],_=>-1
 | b::l,g=>if 0≤lastAny l g then lastAny l g+1 else if g.contains b then 0 else -1
theorem lastAny_no {g:Bs}:∀{l:Bs},(∀c∈l,g.contains c=false)→lastAny l g=-1
 | [],_=>rfl
 | c::l,h=>by
  have ih:=lastAny_no (l:=l) (fun d hd=>h d (List.mem_cons_of_mem _ hd));rw[lastAny,ih,h c (List.mem_cons_self ..)];rfl
theorem lastAny_here {g:Bs}:∀{l:Bs}{p:Nat}{b:UInt8},l[p]? = some b→g.contains b=true→(∀j,p<j→∀c,l[j]? = some c→g.contains c=false)→lastAny l g=(p:Int)
 | [],p,b,h,_,_=>by simp at h
 | c::l,0,b,h,hb,hn=>by
  obtain rfl:c=b:=by simpa using h
  have ih:=lastAny_no (g:=g) (l:=l) (fun d hd=>by
   obtain⟨j,hj,rfl⟩:=List.mem_iff_getElem.1 hd;exact hn (j+1) (by omega) _ (by rw[List.getElem?_cons_succ,List.getElem?_eq_getElem hj]))
  rw[lastAny,ih,hb];rfl
 | c::l,p+1,b,h,hb,hn=>by
  have ih:=lastAny_here (l:=l) (p:=p) (by simpa using h) hb (fun j hj d hd=>hn (j+1) (by omega) d (by simpa using hd));rw[lastAny,ih,if_pos (by omega)];rfl
def NoFrom (s:ByteArray) (g:Bs) (p:Nat):Prop:=p≤s.size∧∀j (h:j<s.size),p≤j→g.contains s[j]=false
theorem NoFrom.at_end {s:ByteArray}{g:Bs} (h:NoFrom s g 0):lastAny s.data.toList g=-1 :=
 lastAny_no fun c hc=>by
  obtain⟨j,hj,rfl⟩:=List.mem_iff_getElem.1 hc;exact h.2 j (by simpa using hj) (Nat.zero_le _)
theorem NoFrom.at_hit {s:ByteArray}{g:Bs}{p:Nat} (h:NoFrom s g (p+1)) (hp:p<s.size) (hc:g.contains s[p]=true):lastAny s.data.toList g=(p:Int):=by
 have hl:p<s.data.toList.length:=by simpa using hp
 refine lastAny_here (b:=s[p]) (List.getElem?_eq_getElem hl) hc (fun j hj c hjc=>?_);obtain⟨hjl,rfl⟩:=List.getElem?_eq_some_iff.1 hjc;exact h.2 j (by simpa using hjl) hj
theorem NoFrom.back {s:ByteArray}{g:Bs}{p:Nat} (h:NoFrom s g (p+1)) (hp:p<s.size) (hc:g.contains s[p]=false):NoFrom s g p:=by
 refine⟨by omega,fun j hj hjp=>?_⟩
 by_cases e:j=p
 ·subst e;exact hc
 ·exact h.2 j hj (by omega)
theorem NoFrom.jump {s:ByteArray}{g:Bs}{p d:Nat} (h:NoFrom s g (p+d)) (h1:∀j (hj:p+j<s.size),j<d→128≤(s[p+j]'hj).toNat) (hg:∀b∈g,b.toNat<128):NoFrom s g p:=by
 refine⟨by have:=h.1;omega,fun j hj hjp=>?_⟩
 by_cases e:p+d≤j
 ·exact h.2 j hj e
 ·rw[Bool.eq_false_iff];intro hc;have h2:=hg _ (by simpa using hc);obtain⟨k,rfl⟩:∃k,j=p+k:=⟨j-p,by omega⟩;have:=h1 k hj (by omega)
  omega
end Go.Bd
namespace Go.Proofs.YtkdknllcllhpgaaGreatDoor
open Go.RowKit Go.Bd
theorem lastIndexAny_one (s g:ByteArray) (w:World) (hg:∀b∈g.data.toList,b.toNat<128) (h4:2≤g.size) (h5:g.size≤200) (h1:s.size=1) :
  Calls Tryz.prog 193 #[.string s,.string g] w fun e w'=>e=.returned (.int .i64 (lastAny s.data.toList g.data.toList))∧Below w.heap.size w w':=by
 have HG:=Lib.hid hg;clear hg;have hemp:g.toList.isEmpty=false:=by
  rw[ByteArray.toList_eq];cases h:g.data.toList with
  | nil=>have:=size_list g;rw[h,List.length_nil] at this;omega
  | cons _ _=>rfl
 have hne:(g.toList==[]:Bool)=false:=by
  rw[ByteArray.toList_eq];cases h:g.data.toList with
  | nil=>have:=size_list g;rw[h,List.length_nil] at this;omega
  | cons _ _=>rfl
 have hp:0<s.size:=by omega
 have hN1:NoFrom s g.data.toList (0+1):=⟨by omega,fun j hj h=>by omega⟩;have h255:(s[0]'hp).toNat<256:=(s[0]'hp).toNat_lt;have hw32:wrap32 ((s[0]'hp).toNat:Int)=((s[0]'hp).toNat:Int):=IntWalk.wrap32_in _ (by omega)
 by_cases hx:(s[0]'hp).toNat<128
 ·have hcon:=Lib.contains_iff_indexByte g.data.toList (s[0]'hp);have hback:(((s[0]'hp).toNat:Int)).toNat.toUInt8=s[0]'hp:=by simp
  cases hin:g.data.toList.contains (s[0]'hp)
  focus
   rw[hin] at hcon;have hlt:Lib.indexByte g.data.toList (s[0]'hp)<0:=by have:=of_decide_eq_false hcon.symm;omega
   have hres:=(hN1.back hp hin).at_end
  rotate_left
  focus
   rw[hin] at hcon;have hge:0≤Lib.indexByte g.data.toList (s[0]'hp):=of_decide_eq_true hcon.symm;have hres:=hN1.at_hit hp hin
  rotate_left
  all_goals
   have HR:=Lib.hid hres;clear hcon hin hN1 hres
   go_enter Tryz.func193,Tryz.ntmps193
   go_wp2_with (go_at_call 126;refine (Tryz.strings_IndexRune_ascii _ _ _ (by omega) (by omega)).mono ?_;rintro e w' ⟨rfl,hw⟩;rw[hw,hback])
   go_ret
   exact⟨by rw[HR.out];rfl,Below.refl _ _⟩
 ·have hin:g.data.toList.contains (s[0]'hp)=false:=by
   rw[Bool.eq_false_iff];intro hc;have:=HG.out _ (by simpa using hc)
   omega
  have hres:=(hN1.back hp hin).at_end;have HR:=Lib.hid hres;clear hin hN1 hres
  go_enter Tryz.func193,Tryz.ntmps193
  have hB:=indexRune_bad g w HG.out
  go_wp2_with (go_at_call 126;refine hB.mono ?_;rintro e w2 ⟨rfl,hb2⟩)
  go_ret
  exact⟨by rw[HR.out];rfl,hb2⟩
theorem lastIndexAny_long (s g:ByteArray) (w:World) (hg:∀b∈g.data.toList,b.toNat<128) (h4:2≤g.size) (h5:g.size≤200) (h8:8<s.size) (hs:s.size<4294967281) :
  Calls Tryz.prog 193 #[.string s,.string g] w fun e w'=>e=.returned (.int .i64 (lastAny s.data.toList g.data.toList))∧Below w.heap.size w w':=by
 have hM:=Tryz.strings_makeASCIISet (fun w=>by kernel_rfl) g w (by omega) (fun j b hb=>hg b (List.mem_of_getElem? hb));have HG:=Lib.hid hg;clear hg;have hemp:g.toList.isEmpty=false:=by
  rw[ByteArray.toList_eq];cases h:g.data.toList with
  | nil=>have:=size_list g;rw[h,List.length_nil] at this;omega
  | cons _ _=>rfl
 have hne:(g.toList==[]:Bool)=false:=by
  rw[ByteArray.toList_eq];cases h:g.data.toList with
  | nil=>have:=size_list g;rw[h,List.length_nil] at this;omega
  | cons _ _=>rfl
 have hn1:((g.size:Int)==1)=false:=beq_eq_false_iff_ne.2 (by omega);have hs1:((s.size:Int)==1)=false:=beq_eq_false_iff_ne.2 (by omega);have h8z:decide ((8:Int)<(s.size:Int))=true:=decide_eq_true (by omega);have hi116:(Tryz.prog.info? 201).map (·.size)=some 256:=by kernel_rfl
 have hsc:(storeCells ⟨w.heap.size+1,0,none⟩ (Lib.setCells g.data.toList).toList 0).run Tryz.prog ((w.alloc (.cells (Lib.setCells g.data.toList) 201)).alloc (.cells (Array.replicate 256 (.bool false)) 201))=.ok () ((w.alloc (.cells (Lib.setCells g.data.toList) 201)).alloc (.cells (Lib.setCells g.data.toList) 201)):=by
  have:=run_storeCells_new (P:=Tryz.prog) (w.alloc (.cells (Lib.setCells g.data.toList) 201)) 201 (Array.replicate 256 (.bool false)) (Lib.setCells g.data.toList) (by rw[Lib.setCells_size];exact hi116) (by rw[Lib.setCells_size,Array.size_replicate]) (Lib.setCells_one _)
  simpa using this
 have hsz:=Lib.setCells_size g.data.toList;have hcellAt:∀x:UInt8,((w.alloc (.cells (Lib.setCells g.data.toList) 201)).alloc (.cells (Lib.setCells g.data.toList) 201)).cell? ⟨w.heap.size+1,x.toNat,none⟩=some (.bool (g.data.toList.contains x)):=fun x=>by
  rw[World.cell?_alloc_at _ _ _ _ (by simp),Lib.setCells_at]
 have HC:=Lib.hid hcellAt;clear hcellAt
 go_enter Tryz.func193,Tryz.ntmps193
 go_wp2_with (first
  | (go_at_call 127;refine (Tryz.strings_shouldUseASCIISet _ _).mono ?_;rintro e w' ⟨rfl,hw⟩;rw[hw,h8z])
  | (go_at_call 128;refine hM.mono ?_;rintro e w' ⟨rfl,hw⟩;rw[hw]))
 have hz116:∀w,(zeroValue 201).run Tryz.prog w=.ok (.agg (Array.replicate 256 (.bool false))) w:=fun w=>by kernel_rfl
 have hzc:Tryz.zeroCells201=Array.replicate 256 (.bool false):=by kernel_rfl
 simp only[hz116,Result.andThen,↓reduceIte,hzc,hsc];rw[Oper.upon_skip];go_wp2;clear hM hsc
 go_loopg [8] s.size (fun n s8 wx=>∃i:Nat,i=n∧i≤s.size∧s8=.int .i64 ((i:Int)-1)∧wx=((w.alloc (.cells (Lib.setCells g.data.toList) 201)).alloc (.cells (Lib.setCells g.data.toList) 201))∧Hid (NoFrom s g.data.toList i))
 case atStart=>exact⟨s.size,rfl,Nat.le_refl _,by simp,rfl,⟨Nat.le_refl _,fun j hj h=>by omega⟩⟩
 case round =>
  obtain⟨i,hin,his,rfl,rfl,HN⟩:=hrel;cases gk with
  | zero =>
   obtain rfl:i=0:=hin;go_wp2
   go_ret
   exact⟨by rw[HN.out.at_end];rfl,((Below.refl _ w).alloc (Nat.le_refl _) _).alloc (by simp) _⟩
  | succ n =>
   obtain rfl:i=n+1:=hin;have hi:n<s.size:=by omega
   have hiz:((n+1:Nat):Int)-1=(n:Int):=by omega
   simp only[hiz];obtain⟨x,hx⟩:∃x:UInt8,s[n]'hi=x:=⟨_,rfl⟩;have Hx:=Lib.hid hx;have hcx:=HC.out x;cases hin:g.data.toList.contains x<;>rw[hin] at hcx
   ·have hni:g.data.toList.contains (s[n]'hi)=false:=by rw[hx];exact hin
    have HB:=Lib.hid (HN.out.back hi hni);clear hin hni
    go_wp2_with (go_at_call 129;refine (Tryz.asciiSet_contains _ x _ _ hcx).mono ?_;rintro e w' ⟨rfl,hw⟩;rw[hw])
    go_roundg n
    case measure=>omega
    case rel=>exact⟨n,rfl,by omega,by go_num,rfl,HB.out⟩
   ·have hni:g.data.toList.contains (s[n]'hi)=true:=by rw[hx];exact hin
    have HB:=Lib.hid (HN.out.at_hit hi hni);clear hin hni
    go_wp2_with (go_at_call 129;refine (Tryz.asciiSet_contains _ x _ _ hcx).mono ?_;rintro e w' ⟨rfl,hw⟩;rw[hw])
    go_ret
    exact⟨by rw[HB.out];rfl,((Below.refl _ w).alloc (Nat.le_refl _) _).alloc (by simp) _⟩
end Go.Proofs.YtkdknllcllhpgaaGreatDoor
namespace Go.Proofs.YtkdknllcllhpgaaGreatDoor
open Go.RowKit Go.Bd
theorem get_cong (s:ByteArray){i j:Nat} (h:i=j) (hi:i<s.size):s[i]'hi=s[j]'(h ▸ hi):=by subst h;rfl
theorem ext_get (s:ByteArray) (a j:Nat) (h:a+j<s.size) (hj:j<(s.extract a s.size).size):(s.extract a s.size)[j]'hj=s[a+j]'h:=by
 rw[ByteArray.getElem_extract]
theorem last_high (s:ByteArray) (h0:0<s.size) (hhi:128≤(s[s.size-1]'(by omega)).toNat) :
  128≤(Lib.decodeLastL s.data.toList).1∧1≤(Lib.decodeLastL s.data.toList).2∧(Lib.decodeLastL s.data.toList).2≤s.size∧∀j (hj:(s.size-(Lib.decodeLastL s.data.toList).2)+j<s.size),j<(Lib.decodeLastL s.data.toList).2→128≤(s[(s.size-(Lib.decodeLastL s.data.toList).2)+j]'hj).toNat:=by
 have hne:s.data.toList≠[]:=fun e=>by
  have:=size_list s
  rw[e,List.length_nil] at this;omega
 have hlt:=Lib.lastStart_lt _ hne;rw[←size_list] at hlt;have hg:(s.get! (s.size-1)).toNat=(s[s.size-1]'(by omega)).toNat:=by
  have:s.get! (s.size-1)=s[s.size-1]'(by omega):=by
   have hk:s.size-1<s.size:=by omega
   simp[ByteArray.get!,getElem!_pos,hk];rfl
  rw[this]
 rw[Lib.decodeLastL_eq s h0 (by omega)];generalize hst:Lib.lastStart s.data.toList=st at hlt;have hts:(s.extract st s.size).size=s.size-st:=by rw[ByteArray.size_extract];omega
 have hgo:Lib.decodeGo (s.extract st s.size)=Utf8.decode (s.extract st s.size) 0:=by unfold Lib.decodeGo;rw[if_neg (by omega)]
 have ht0:0<(s.extract st s.size).size:=by omega
 unfold Lib.lastOf;rw[hgo]
 by_cases hc:st+(Utf8.decode (s.extract st s.size) 0).2=s.size
 ·rw[if_pos hc]
  by_cases hx:((s.extract st s.size)[0]'ht0).toNat<128
  ·exfalso;have hd:(Utf8.decode (s.extract st s.size) 0).2=1:=by simp only[Utf8.decode,get_at _ 0 ht0,hx,if_true]
   rw[hd] at hc;rw[ext_get s st 0 (by omega)] at hx;have e:=get_cong s (show st+0=s.size-1 by omega) (by omega);rw[e] at hx;omega
  ·obtain⟨d1,d2⟩:=decode_high (s.extract st s.size) 0 ht0 (by omega);obtain⟨d3,d4⟩:=decode_bytes (s.extract st s.size) 0 ht0 (by omega);refine⟨d1,d2,by omega,fun j hj hl=>?_⟩;have hl':j<(Utf8.decode (s.extract st s.size) 0).2:=hl;have h5:=d4 j (by omega) hl';rw[ext_get s st (0+j) (by omega) (by omega)] at h5;have e2:=get_cong s (show (s.size-(Utf8.decode (s.extract st s.size) 0).2)+j=st+(0+j) by omega) hj
   show 128≤(s[(s.size-(Utf8.decode (s.extract st s.size) 0).2)+j]'hj).toNat
   rw[e2];exact h5
 ·rw[if_neg hc];refine⟨by decide,Nat.le_refl _,by omega,fun j hj hl=>?_⟩;have hl':j<1:=hl;obtain rfl:j=0:=by omega
  show 128≤(s[(s.size-1)+0]'hj).toNat
  exact hhi
theorem last_low (s:ByteArray) (h0:0<s.size) (hlo:(s[s.size-1]'(by omega)).toNat<128):Lib.decodeLastL s.data.toList=((s[s.size-1]'(by omega)).toNat,1):=by
 have hne:s.data.toList≠[]:=fun e=>by
  have:=size_list s
  rw[e,List.length_nil] at this;omega
 have hl:s.data.toList.length=s.size:=(size_list s).symm;have hd:s.data.toList.getD (s.data.toList.length-1) 0=s[s.size-1]'(by omega):=by
  rw[hl,getD_get (by omega)]
 unfold Lib.decodeLastL;rw[if_neg hne,hd,if_pos hlo]
theorem lastIndexAny_short (s g:ByteArray) (w:World) (hg:∀b∈g.data.toList,b.toNat<128) (h4:2≤g.size) (h5:g.size≤200) (h8:s.size≤8) (h1:s.size≠1) (hT:Lib.Utf8Tabs 1 2 w) :
  Calls Tryz.prog 193 #[.string s,.string g] w fun e w'=>e=.returned (.int .i64 (lastAny s.data.toList g.data.toList))∧Below w.heap.size w w':=by
 have HG:=Lib.hid hg;have HT:=Lib.hid hT;clear hg hT;have hemp:g.toList.isEmpty=false:=by
  rw[ByteArray.toList_eq];cases h:g.data.toList with
  | nil=>have:=size_list g;rw[h,List.length_nil] at this;omega
  | cons _ _=>rfl
 have hne:(g.toList==[]:Bool)=false:=by
  rw[ByteArray.toList_eq];cases h:g.data.toList with
  | nil=>have:=size_list g;rw[h,List.length_nil] at this;omega
  | cons _ _=>rfl
 have hn1:((g.size:Int)==1)=false:=beq_eq_false_iff_ne.2 (by omega);have hs1:((s.size:Int)==1)=false:=beq_eq_false_iff_ne.2 (by omega);have h8z:decide ((8:Int)<(s.size:Int))=false:=decide_eq_false (by omega)
 go_enter Tryz.func193,Tryz.ntmps193
 go_wp2_with (go_at_call 127;refine (Tryz.strings_shouldUseASCIISet _ _).mono ?_;rintro e w' ⟨rfl,hw⟩;rw[hw,h8z])
 go_loopg [13,14,15] s.size (fun n s10 _ _ wx=>∃i:Nat,i=n∧i≤s.size∧s10=.int .i64 (i:Int)∧Below w.heap.size w wx∧Hid (NoFrom s g.data.toList i))
 case atStart=>exact⟨s.size,rfl,Nat.le_refl _,rfl,Below.refl _ _,⟨Nat.le_refl _,fun j hj h=>by omega⟩⟩
 case round =>
  obtain⟨i,rfl,his,rfl,hb,HN⟩:=hrel
  by_cases hi0:i=0
  ·subst hi0;go_wp2
   go_ret
   exact⟨by rw[HN.out.at_end];rfl,hb⟩
  ·have hi:0<i:=by omega
   have hts:(s.extract 0 i).size=i:=by rw[ByteArray.size_extract];omega
   have hT1:Lib.Utf8Tabs 1 2 wr:=Utf8Tabs_below HT.out hb;have cd:=Tryz.utf8_DecodeLastRuneInString (s.extract 0 i) wr (by omega) hT1;have hlast:∀j (hj:j<(s.extract 0 i).size),(s.extract 0 i)[j]'hj=s[j]'(by omega):=fun j hj=>by
    rw[ByteArray.getElem_extract];exact get_cong s (by omega) _
   by_cases hx:(s[i-1]'(by omega)).toNat<128
   ·have hlow:=last_low (s.extract 0 i) (by omega) (by rw[hlast];have e:=get_cong s (show (s.extract 0 i).size-1=i-1 by omega) (by omega);rw[e];exact hx);have hlv:(s.extract 0 i)[(s.extract 0 i).size-1]'(by omega)=s[i-1]'(by omega):=by
     rw[hlast];exact get_cong s (show (s.extract 0 i).size-1=i-1 by omega) _
    rw[hlv] at hlow;rw[hlow] at cd;have hcon:=Lib.contains_iff_indexByte g.data.toList (s[i-1]'(by omega));have hback:(((s[i-1]'(by omega)).toNat:Int)).toNat.toUInt8=s[i-1]'(by omega):=by simp
    have hii:i-1+1=i:=by omega
    have HN1:NoFrom s g.data.toList (i-1+1):=by rw[hii];exact HN.out
    cases hin:g.data.toList.contains (s[i-1]'(by omega))
    ·rw[hin] at hcon;have hlt:Lib.indexByte g.data.toList (s[i-1]'(by omega))<0:=by have:=of_decide_eq_false hcon.symm;omega
     have HJ:=Lib.hid (HN1.back (by omega) hin);clear hcon hin HN1 HN hlast hlow hlv
     go_wp2_with (first
      | (go_at_call 195;refine cd.mono ?_;rintro e w2 ⟨rfl,hb2⟩)
      | (go_at_call 126;refine (Tryz.strings_IndexRune_ascii _ _ _ (by omega) (by omega)).mono ?_;rintro e w3 ⟨rfl,hw⟩;rw[hw,hback]))
     go_roundg (i-1)
     case measure=>omega
     case rel=>exact⟨i-1,rfl,by omega,by go_num,hb.trans (hb2.mono hb.size),HJ.out⟩
    ·rw[hin] at hcon;have hge:0≤Lib.indexByte g.data.toList (s[i-1]'(by omega)):=of_decide_eq_true hcon.symm;have HJ:=Lib.hid (HN1.at_hit (by omega) hin);clear hcon hin HN1 HN hlast hlow hlv
     go_wp2_with (first
      | (go_at_call 195;refine cd.mono ?_;rintro e w2 ⟨rfl,hb2⟩)
      | (go_at_call 126;refine (Tryz.strings_IndexRune_ascii _ _ _ (by omega) (by omega)).mono ?_;rintro e w3 ⟨rfl,hw⟩;rw[hw,hback]))
     go_ret
     refine⟨?_,hb.trans (hb2.mono hb.size)⟩;have e1:((i-1:Nat):Int)=(i:Int)-1:=by omega
     rw[HJ.out,e1];rfl
   ·obtain⟨d1,d2,d3,d4⟩:=last_high (s.extract 0 i) (by omega) (by rw[hlast];have e:=get_cong s (show (s.extract 0 i).size-1=i-1 by omega) (by omega);rw[e];omega);rw[hts] at d3;have hjump:NoFrom s g.data.toList (i-(Lib.decodeLastL (s.extract 0 i).data.toList).2):=by
     refine NoFrom.jump (d:=(Lib.decodeLastL (s.extract 0 i).data.toList).2) (by rw[Nat.sub_add_cancel d3];exact HN.out) (fun j hj hl=>?_) HG.out;have h6:=d4 j (by omega) hl;rw[hlast] at h6;have e:=get_cong s (show (s.extract 0 i).size-(Lib.decodeLastL (s.extract 0 i).data.toList).2+j=i-(Lib.decodeLastL (s.extract 0 i).data.toList).2+j by omega) (by omega);rw[e] at h6;exact h6
    generalize Lib.decodeLastL (s.extract 0 i).data.toList=dd at cd d1 d2 d3 hjump;clear d4 hlast hx;have HJ:=Lib.hid hjump;clear hjump HN
    go_wp2_with (first
     | (go_at_call 195;refine cd.mono ?_;rintro e w2 ⟨rfl,hb2⟩)
     | (go_at_call 126;refine (indexRune_high2 _ _ _ HG.out h4 h5 (by omega)).mono ?_;rintro e w3 ⟨rfl,hb3⟩))
    go_roundg (i-dd.2)
    case measure=>omega
    case rel=>exact⟨i-dd.2,rfl,by omega,by go_num,(hb.trans (hb2.mono hb.size)).trans (hb3.mono (Nat.le_trans hb.size hb2.size)),HJ.out⟩
theorem lastIndexAny_any (s g:ByteArray) (w:World) (hg:∀b∈g.data.toList,b.toNat<128) (h4:2≤g.size) (h5:g.size≤200) (hs:s.size<4294967281) (hT:Lib.Utf8Tabs 1 2 w) :
  Calls Tryz.prog 193 #[.string s,.string g] w fun e w'=>e=.returned (.int .i64 (lastAny s.data.toList g.data.toList))∧Below w.heap.size w w':=by
 by_cases h1:s.size=1
 ·exact lastIndexAny_one s g w hg h4 h5 h1
 ·rcases Nat.lt_or_ge 8 s.size with h|h
  ·exact lastIndexAny_long s g w hg h4 h5 h hs
  ·exact lastIndexAny_short s g w hg h4 h5 h h1 hT
end Go.Proofs.YtkdknllcllhpgaaGreatDoor
namespace Go.Bd
def runOf (l:Bs) (c:UInt8):Nat:=(l.takeWhile (· == c)).length
def leadB (l:Bs) (c:UInt8):Nat×Bs:=if runOf l c<1∨3<runOf l c∨l[runOf l c]?≠some 32 then (0,[]) else (runOf l c,dropL (l.drop (runOf l c)))
def commandB (l:Bs):Option (Bs×Bs) :=
 if l.length<2∨l.getD 0 0≠33∨(l.getD 1 0 ||| 32).toNat<97∨122<(l.getD 1 0 ||| 32).toNat then none
 else if 0≤Lib.indexAny (l.drop 1) [32,9] then some ((l.drop 1).take (Lib.indexAny (l.drop 1) [32,9]).toNat,dropL ((l.drop 1).drop (Lib.indexAny (l.drop 1) [32,9]).toNat)) else some (l.drop 1,[])
def titleB (l:Bs):Bs×Bs×Bs :=
 if lastAny l [32,9]<0∨(l.drop ((lastAny l [32,9]).toNat+1)).getD 0 0≠35 then (l,[],[])
 else if nameB ((l.drop ((lastAny l [32,9]).toNat+1)).drop 1)=true then (dropR (l.take (lastAny l [32,9]).toNat),(l.drop ((lastAny l [32,9]).toNat+1)).drop 1,[]) else (l,[],l.drop ((lastAny l [32,9]).toNat+1))
def itemB (l:Bs):Nat×Bool×Bs:=if 0<(leadB (trim l) 42).1 then ((leadB (trim l) 42).1,false,(leadB (trim l) 42).2) else if 0<(leadB (trim l) 46).1 then ((leadB (trim l) 46).1,true,(leadB (trim l) 46).2) else (0,false,[])
def fenceL:Bs:=[45,45,45,45]
def barsL:Bs:=[124,61,61,61]
def plainL (l:Bs):Bool:=!(decide (l=[]) || decide (l=fenceL) || Lib.hasPrefix l barsL)&&(commandB l).isNone&&decide ((leadB l 61).1=0)&&decide ((itemB l).1=0)
theorem runOf_at {l:Bs}{c:UInt8}:∀{k:Nat},k≤l.length→(∀j,j<k→l[j]? = some c)→(∀b,l[k]? = some b→b≠c)→runOf l c=k:=by
 induction l with
 | nil=>intro k hk _ _;simp at hk;subst hk;rfl
 | cons a l ih =>
  intro k hk h1 h2;cases k with
  | zero =>
   have:a≠c:=h2 a rfl
   unfold runOf;rw[List.takeWhile_cons,if_neg (by simpa using this)];rfl
  | succ k =>
   obtain rfl:a=c:=by simpa using h1 0 (by omega)
   have:=ih (k:=k) (by simpa using hk) (fun j hj=>by simpa using h1 (j+1) (by omega)) (fun b hb=>h2 b (by simpa using hb))
   unfold runOf at this ⊢;rw[List.takeWhile_cons,if_pos (by simp),List.length_cons,this]
theorem dropL_le (l:Bs):(dropL l).length≤l.length:=by
 unfold dropL
 induction l with
 | nil=>simp
 | cons a l ih =>
  rw[List.dropWhile_cons];split
  ·simp only[List.length_cons];omega
  ·simp
theorem lead_le (l:Bs) (c:UInt8):(leadB l c).2.length≤l.length:=by
 unfold leadB;split
 ·simp
 ·have:=dropL_le (l.drop (runOf l c))
  rw[List.length_drop] at this;simp only;omega
end Go.Bd
namespace Go.Proofs.YtkdknllcllhpgaaGreatDoor
open Go.RowKit Go.Bd
theorem strV_of {s:ByteArray}{l:Bs} (h:s.data.toList=l):Value.string s=strV l:=by
 subst h;simp[strV]
theorem get_list (s:ByteArray){k:Nat} (h:k<s.size):s.data.toList[k]? = some (s[k]'h):=by
 rw[List.getElem?_eq_getElem (by simpa using h)];rfl
theorem leading_any (s:ByteArray) (c:UInt8) (w:World) (hs:s.size≤100000000) :
  Calls Tryz.prog 91 #[.string s,.int .u8 (c.toNat:Int)] w fun e w'=>e=.returned (.tuple #[.int .i64 ((leadB s.data.toList c).1:Int),strV (leadB s.data.toList c).2])∧Below w.heap.size w w':=by
 have hlen:s.data.toList.length=s.size:=by simp
 obtain⟨L,hL⟩:∃L,leadB s.data.toList c=L:=⟨_,rfl⟩;rw[hL];have HL:=Lib.hid hL;clear hL
 go_enter Tryz.func91,Tryz.ntmps91
 go_wp2
 go_loopg [6] (s.size) (fun q v wr=>∃k:Nat,k+q=s.size∧v=.int .i64 (k:Int)∧wr=w∧Hid (∀j,j<k→s.data.toList[j]? = some c))
 case atStart=>exact⟨0,by omega,rfl,rfl,fun j hj=>by omega⟩
 case round =>
  obtain⟨k,hk,rfl,rfl,HJ⟩:=hrel
  by_cases hlt:k<s.size
  ·by_cases hc:s[k]=c
   ·have HK:Hid (∀j,j<k+1→s.data.toList[j]? = some c):=fun j hj=>by
     by_cases e:j=k
     ·subst e;rw[get_list s hlt,hc]
     ·exact HJ.out j (by omega)
    have hcn:((s[k]).toNat:Int)=(c.toNat:Int):=by rw[hc]
    clear HJ;go_wp2
    go_roundg (gk-1)
    case measure=>omega
    case rel=>exact⟨k+1,by omega,by go_num,rfl,HK.out⟩
   ·have hrun:runOf s.data.toList c=k:=runOf_at (by omega) HJ.out (fun b hb=>by rw[get_list s hlt] at hb;injection hb with hb;subst hb;exact hc);have hcn:¬((s[k]).toNat:Int)=(c.toNat:Int):=fun e=>hc (UInt8.toNat_inj.1 (by omega))
    have hcb:(((s[k]).toNat:Int)==(c.toNat:Int))=false:=beq_eq_false_iff_ne.2 hcn
    by_cases hbad:k<1∨3<k∨¬(s[k]).toNat=32
    ·have hres:leadB s.data.toList c=(0,[]):=by
      unfold leadB;rw[hrun,if_pos]
      rcases hbad with h|h|h
      ·exact .inl h
      ·exact .inr (.inl h)
      ·refine .inr (.inr fun e=>h ?_);rw[get_list s hlt] at e;injection e with e
       rw[e];rfl
     obtain rfl:L=(0,[]):=HL.out.symm.trans hres;clear HJ hlen hrun hc hres
     by_cases h1:k<1
     ·go_wp2
      go_ret2
      exact⟨rfl,Below.refl _ _⟩
     ·by_cases h2:3<k
      ·go_wp2
       go_ret2
       exact⟨rfl,Below.refl _ _⟩
      ·have h3:¬((s[k]).toNat:Int)=32:=by
        rcases hbad with h|h|h
        ·exact absurd h h1
        ·exact absurd h h2
        ·omega
       have h4:¬k=s.size:=by omega
       have h3b:(((s[k]).toNat:Int) != 32)=true:=by simpa using h3
       have h4b:((k:Int)==(s.size:Int))=false:=beq_eq_false_iff_ne.2 (by omega);go_wp2
       go_ret2
       exact⟨rfl,Below.refl _ _⟩
    ·have h1:¬k<1:=fun h=>hbad (.inl h)
     have h2:¬3<k:=fun h=>hbad (.inr (.inl h))
     have h3:(s[k]).toNat=32:=Classical.byContradiction fun h=>hbad (.inr (.inr h))
     have h3':((s[k]).toNat:Int)=32:=by omega
     have h4:¬k=s.size:=by omega
     have h3b:(((s[k]).toNat:Int) != 32)=false:=by simpa using h3'
     have h4b:((k:Int)==(s.size:Int))=false:=beq_eq_false_iff_ne.2 (by omega);have hres:leadB s.data.toList c=(k,dropL (s.data.toList.drop k)):=by
      unfold leadB;rw[hrun,if_neg];rintro (h|h|h)
      ·exact h1 h
      ·exact h2 h
      ·refine h ?_;rw[get_list s hlt]
       congr 1
       exact UInt8.toNat_inj.1 h3
     obtain rfl:L=(k,dropL (s.data.toList.drop k)):=HL.out.symm.trans hres;have htl:=strTrimL_any (s.extract k s.size) wr (by rw[ByteArray.size_extract];omega);rw[extract_list,List.take_of_length_le (by rw[List.length_drop,hlen];omega)] at htl;clear HJ hlen hrun hc hbad hres
     go_wp2_with (go_at_call 88;refine htl.mono ?_;rintro e w2 ⟨rfl,hb2⟩)
     go_ret2
     exact⟨rfl,hb2⟩
  ·obtain rfl:k=s.size:=by omega
   have hrun:runOf s.data.toList c=s.size:=runOf_at (by omega) HJ.out (fun b hb=>by rw[List.getElem?_eq_none (by omega)] at hb;cases hb);have hres:leadB s.data.toList c=(0,[]):=by
    unfold leadB;rw[hrun,if_pos];exact .inr (.inr (by rw[List.getElem?_eq_none (by omega)];simp))
   obtain rfl:L=(0,[]):=HL.out.symm.trans hres;clear HJ hlen hrun hres
   by_cases h1:s.size<1
   ·go_wp2
    go_ret2
    exact⟨rfl,Below.refl _ _⟩
   ·by_cases h2:3<s.size
    ·go_wp2
     go_ret2
     exact⟨rfl,Below.refl _ _⟩
    ·go_wp2
     go_ret2
     exact⟨rfl,Below.refl _ _⟩
theorem strV_data (l:Bs):(⟨l.toArray⟩:ByteArray).data.toList=l:=by simp
theorem trim_size (s:ByteArray):(trim s.data.toList).length≤s.size:=by have:=trim_le s.data.toList;rw[←size_list] at this;exact this
theorem item_any (s:ByteArray) (w:World) (hs:s.size≤100000000) :
  Calls Tryz.prog 92 #[.string s] w fun e w'=>e=.returned (.tuple #[.int .i64 ((itemB s.data.toList).1:Int),.bool (itemB s.data.toList).2.1,strV (itemB s.data.toList).2.2])∧Below w.heap.size w w':=by
 have htr:=strTrim_any s w (by omega);have hts:=trim_size s;have hl1:=fun w'=>leading_any ⟨(trim s.data.toList).toArray⟩ 42 w' (by rw[size_mk];omega)
 have hl2:=fun w'=>leading_any ⟨(trim s.data.toList).toArray⟩ 46 w' (by rw[size_mk];omega)
 rw[strV_data] at hl1 hl2;obtain⟨L,hL⟩:∃L,itemB s.data.toList=L:=⟨_,rfl⟩;rw[hL];have HL:=Lib.hid hL;unfold itemB at hL;unfold strV at htr;generalize hA:leadB (trim s.data.toList) 42=A at hl1 hL;generalize hC:leadB (trim s.data.toList) 46=C at hl2 hL;generalize (trim s.data.toList)=t at htr hl1 hl2 hts;clear hA hC HL;have HL:=Lib.hid hL;clear hL;obtain⟨a1,a2⟩:=A;obtain⟨c1,c2⟩:=C;simp only at hl1 hl2;have e42:(((42:UInt8).toNat:Nat):Int)=42:=rfl;have e46:(((46:UInt8).toNat:Nat):Int)=46:=rfl;rw[e42] at hl1;rw[e46] at hl2;clear e42 e46;unfold strV at hl1 hl2
 by_cases h1:0<a1
 ·obtain rfl:L=(a1,false,a2):=by rw[←HL.out];simp[h1]
  go_enter Tryz.func92,Tryz.ntmps92
  go_wp2_with (first
   | (go_at_call 90;refine htr.mono ?_;rintro e w1 ⟨rfl,hb1⟩)
   | (go_at_call 91;refine (hl1 _).mono ?_;rintro e w2 ⟨rfl,hb2⟩))
  (try simp only[Exit.inBlock,Exit.then]);refine bodyPost_ret (results_tmp3 rfl _ _ _) rfl ?_
  exact⟨rfl,hb1.trans (hb2.mono hb1.size)⟩
 ·by_cases h2:0<c1
  focus
   obtain rfl:L=(c1,true,c2):=by rw[←HL.out];simp[h1,h2]
  rotate_left
  focus
   obtain rfl:L=(0,false,[]):=by rw[←HL.out];simp[h1,h2]
  rotate_left
  all_goals
   go_enter Tryz.func92,Tryz.ntmps92
   go_wp2_with (first
    | (go_at_call 90;refine htr.mono ?_;rintro e w1 ⟨rfl,hb1⟩)
    | (go_at_call 91;refine (hl1 _).mono ?_;clear hl1;rintro e w2 ⟨rfl,hb2⟩)
    | (go_at_call 91;refine (hl2 _).mono ?_;rintro e w3 ⟨rfl,hb3⟩))
   (try simp only[Exit.inBlock,Exit.then]);refine bodyPost_ret (results_tmp3 rfl _ _ _) rfl ?_
   have e1:=hb1.trans (hb2.mono hb1.size);exact⟨rfl,e1.trans (hb3.mono e1.size)⟩
theorem counted_any (f t:ByteArray) (no:Int) (w:World) (hs:t.size≤100000000) :
  Calls Tryz.prog 55 #[.agg #[.string f,.int .i64 no,.string t]] w fun e w'=>e=.returned (strV (trim t.data.toList))∧Below w.heap.size w w':=by
 have htr:=fun w=>strTrim_any t w (by omega)
 go_enter Tryz.func55,Tryz.ntmps55
 go_wp2_with (go_at_call 90;refine (htr _).mono ?_;rintro e w1 ⟨rfl,hb1⟩)
 go_ret
 exact⟨rfl,((Below.refl _ w).alloc (Nat.le_refl _) _).trans (hb1.mono (by simp))⟩
end Go.Proofs.YtkdknllcllhpgaaGreatDoor
namespace Go.Bd
theorem lastAny_lt {g:Bs}:∀{l:Bs},lastAny l g<(l.length:Int)
 | []=>by simp[lastAny]
 | b::l=>by
  have ih:=lastAny_lt (g:=g) (l:=l);rw[lastAny,List.length_cons];split
  ·omega
  ·split<;>omega
theorem hasPrefix_one (l:Bs) (c:UInt8) (h0:c≠0):Lib.hasPrefix l [c]=decide (l.getD 0 0=c):=by
 cases l with
 | nil=>simp[Lib.hasPrefix,List.isPrefixOf,Ne.symm h0]
 | cons a l =>
  simp only[Lib.hasPrefix,List.isPrefixOf,Bool.and_true,List.getD_cons_zero];rw[Bool.eq_iff_iff,beq_iff_eq,decide_eq_true_iff];exact eq_comm
end Go.Bd
namespace Go.Proofs.YtkdknllcllhpgaaGreatDoor
open Go.RowKit Go.Bd
theorem blanks_ascii:∀b∈(⟨#[32,9]⟩:ByteArray).data.toList,b.toNat<128:=by decide
theorem title_any (s:ByteArray) (w:World) (hs:s.size≤100000000) (hT:Lib.Utf8Tabs 1 2 w) :
  Calls Tryz.prog 133 #[.string s] w fun e w'=>e=.returned (.tuple #[strV (titleB s.data.toList).1,strV (titleB s.data.toList).2.1,strV (titleB s.data.toList).2.2])∧Below w.heap.size w w':=by
 have cl:=lastIndexAny_any s ⟨#[32,9]⟩ w blanks_ascii (by decide) (by decide) (by omega) hT;have e9:(⟨#[32,9]⟩:ByteArray).data.toList=[32,9]:=rfl;rw[e9] at cl;have hlt:=lastAny_lt (g:=[32,9]) (l:=s.data.toList);have hlen:s.data.toList.length=s.size:=by simp
 obtain⟨L,hL⟩:∃L,titleB s.data.toList=L:=⟨_,rfl⟩;rw[hL];unfold titleB at hL;have hsv:strV s.data.toList=.string s:=(strV_of rfl).symm;clear e9 hT;generalize lastAny s.data.toList [32,9]=i at cl hlt hL
 by_cases hi:i<0
 ·rw[if_pos (.inl hi)] at hL;subst hL;simp only[hsv]
  go_enter Tryz.func133,Tryz.ntmps133
  go_wp2_with (go_at_call 193;refine cl.mono ?_;rintro e w1 ⟨rfl,hb1⟩)
  (try simp only[Exit.inBlock,Exit.then])
  refine bodyPost_ret (results_tmp3 rfl _ _ _) rfl ?_;exact⟨rfl,hb1⟩
 ·obtain⟨k,rfl⟩:∃k:Nat,i=k:=⟨i.toNat,by omega⟩;rw[hlen] at hlt;simp only[Int.toNat_natCast] at hL;have hks:k+1≤s.size:=by omega
  have hcp:=fun w=>Tryz.strings_HasPrefix (s.extract (k+1) s.size) ⟨#[35]⟩ w
  have hwd:(s.extract (k+1) s.size).data.toList=s.data.toList.drop (k+1):=by
   rw[extract_list,List.take_of_length_le (by rw[List.length_drop,hlen];omega)]
  have hws:(s.extract (k+1) s.size).size=s.size-(k+1):=by rw[ByteArray.size_extract];omega
  have e35:(⟨#[35]⟩:ByteArray).data.toList=[35]:=rfl;rw[e35,hwd] at hcp;simp only[hasPrefix_one _ 35 (by decide)] at hcp
  by_cases hp:(s.data.toList.drop (k+1)).getD 0 0=35
  ·simp only[hp,decide_true] at hcp;have hw1:1≤(s.extract (k+1) s.size).size:=by
    rw[hws]
    rcases Nat.lt_or_ge (k+1) s.size with h|h
    ·omega
    ·rw[List.drop_eq_nil_of_le (by omega)] at hp;exact absurd hp (by decide)
   have hcn:=fun w=>name_any ((s.extract (k+1) s.size).extract 1 (s.size-(k+1))) w (by rw[ByteArray.size_extract];omega)
   have hnd:((s.extract (k+1) s.size).extract 1 (s.size-(k+1))).data.toList=(s.data.toList.drop (k+1)).drop 1:=by
    rw[extract_list,hwd,List.take_of_length_le (by rw[List.length_drop,List.length_drop,hlen];omega)]
   rw[hnd] at hcn;rw[if_neg (by rintro (h|h);exact absurd h (by omega);exact h hp)] at hL;have hwv:Value.string (s.extract (k+1) s.size)=strV (s.data.toList.drop (k+1)):=strV_of hwd;have hnv:Value.string ((s.extract (k+1) s.size).extract 1 (s.size-(k+1)))=strV ((s.data.toList.drop (k+1)).drop 1):=strV_of hnd;have HV:=hidH3 hwv hnv hsv;clear hwv hnv hsv
   by_cases hn:nameB ((s.data.toList.drop (k+1)).drop 1)=true
   ·rw[hn] at hcn;rw[if_pos hn] at hL;have htr:=fun w=>strTrimR_any (s.extract 0 k) w (by rw[ByteArray.size_extract];omega)
    rw[extract_list,List.drop_zero,Nat.sub_zero] at htr;subst hL;clear hwd hnd hn hp
    go_enter Tryz.func133,Tryz.ntmps133
    go_wp2_with (first
     | (go_at_call 193;refine cl.mono ?_;rintro e w1 ⟨rfl,hb1⟩)
     | (go_at_call 94;refine (hcp _).mono ?_;rintro e w2 ⟨rfl,rfl⟩)
     | (go_at_call 63;refine (hcn _).mono ?_;rintro e w3 ⟨rfl,rfl⟩))
    go_region_with (go_at_call 194;refine (htr _).mono ?_;rintro e w4 ⟨rfl,hb4⟩)
    all_goals go_wp2
    all_goals ((try simp only[Exit.inBlock,Exit.then]);refine bodyPost_ret (results_tmp3 rfl _ _ _) rfl ?_)
    all_goals exact⟨by rw[←HV.out.2.1];rfl,hb1.drew.trans (hb4.mono hb1.size)⟩
   ·have hn':nameB ((s.data.toList.drop (k+1)).drop 1)=false:=by simpa using hn
    rw[hn'] at hcn;rw[if_neg hn] at hL;subst hL;clear hwd hnd hn hn' hp
    go_enter Tryz.func133,Tryz.ntmps133
    go_wp2_with (first
     | (go_at_call 193;refine cl.mono ?_;rintro e w1 ⟨rfl,hb1⟩)
     | (go_at_call 94;refine (hcp _).mono ?_;rintro e w2 ⟨rfl,rfl⟩)
     | (go_at_call 63;refine (hcn _).mono ?_;rintro e w3 ⟨rfl,rfl⟩))
    (try simp only[Exit.inBlock,Exit.then])
    refine bodyPost_ret (results_tmp3 rfl _ _ _) rfl ?_;exact⟨by rw[←HV.out.1,HV.out.2.2];rfl,hb1⟩
  ·simp only[hp,decide_false] at hcp;rw[if_pos (.inr hp)] at hL;subst hL;simp only[hsv];clear hwd
   go_enter Tryz.func133,Tryz.ntmps133
   go_wp2_with (first
    | (go_at_call 193;refine cl.mono ?_;rintro e w1 ⟨rfl,hb1⟩)
    | (go_at_call 94;refine (hcp _).mono ?_;rintro e w2 ⟨rfl,rfl⟩))
   (try simp only[Exit.inBlock,Exit.then])
   refine bodyPost_ret (results_tmp3 rfl _ _ _) rfl ?_;exact⟨rfl,hb1⟩
end Go.Proofs.YtkdknllcllhpgaaGreatDoor
namespace Go.Bd
theorem indexAny_lt {g:Bs}:∀{l:Bs},Lib.indexAny l g<(l.length:Int)
 | []=>by simp[Lib.indexAny]
 | b::l=>by
  have ih:=indexAny_lt (g:=g) (l:=l);rw[Lib.indexAny,List.length_cons];split
  ·omega
  ·split<;>omega
end Go.Bd
namespace Go.Proofs.YtkdknllcllhpgaaGreatDoor
open Go.RowKit Go.Bd
def commandV (l:Bs):Value:=match commandB l with|none=>.tuple #[strV [],strV [],.bool false]|some (a,b)=>.tuple #[strV a,strV b,.bool true]
theorem getD_get2 {s:ByteArray}{m:Nat} (h:m<s.size):s.data.toList.getD m 0=s[m]:=getD_get h
theorem bits_or (c:UInt8):bits BinOp.or IntKind.u8 (c.toNat:Int) 32=((c ||| 32).toNat:Int):=by
 have h:∀n:Fin 256,bits BinOp.or IntKind.u8 (n.1:Int) 32=((UInt8.ofNat n.1 ||| 32).toNat:Int):=by decide +kernel
 have h2:=h ⟨c.toNat,c.toNat_lt⟩;simp only[UInt8.ofNat_toNat] at h2;exact h2
theorem command_any (s:ByteArray) (w:World) (hs:s.size≤100000000) :
  Calls Tryz.prog 56 #[.string s] w fun e w'=>e=.returned (commandV s.data.toList)∧Below w.heap.size w w':=by
 have hlen:s.data.toList.length=s.size:=by simp
 obtain⟨L,hL⟩:∃L,commandV s.data.toList=L:=⟨_,rfl⟩;rw[hL];unfold commandV at hL
 by_cases h2:s.size<2
 ·have e:commandB s.data.toList=none:=by unfold commandB;rw[if_pos (.inl (by omega))]
  rw[e] at hL;subst hL
  go_enter Tryz.func56,Tryz.ntmps56
  go_wp2
  (try simp only[Exit.inBlock,Exit.then])
  refine bodyPost_ret (results_tmp3 rfl _ _ _) rfl ?_;exact⟨rfl,Below.refl _ _⟩
 ·by_cases h33:¬(s[0]'(by omega)).toNat=33
  ·have e:commandB s.data.toList=none:=by
    unfold commandB;rw[if_pos (.inr (.inl (by rw[getD_get2 (by omega)];exact fun h=>h33 (by rw[h];rfl))))]
   rw[e] at hL;subst hL;have hb:(((s[0]'(by omega)).toNat:Int) != 33)=true:=by simpa using (show ¬((s[0]'(by omega)).toNat:Int)=33 by omega)
   go_enter Tryz.func56,Tryz.ntmps56
   go_wp2
   (try simp only[Exit.inBlock,Exit.then])
   refine bodyPost_ret (results_tmp3 rfl _ _ _) rfl ?_;exact⟨rfl,Below.refl _ _⟩
  ·have h33':(s[0]'(by omega)).toNat=33:=Classical.byContradiction h33;have hb:(((s[0]'(by omega)).toNat:Int) != 33)=false:=by simpa using (show ((s[0]'(by omega)).toNat:Int)=33 by omega)
   have hbo:=bits_or (s[1]'(by omega));have hg1:s.data.toList.getD 1 0=s[1]'(by omega):=getD_get2 (by omega);have hg0:s.data.toList.getD 0 0=33:=by
    rw[getD_get2 (by omega)];exact UInt8.toNat_inj.1 h33'
   by_cases hl:(s.data.toList.getD 1 0 ||| 32).toNat<97∨122<(s.data.toList.getD 1 0 ||| 32).toNat
   ·have e:commandB s.data.toList=none:=by unfold commandB;rw[if_pos (.inr (.inr hl))]
    rw[e] at hL;subst hL;rw[hg1] at hl;generalize (s[1]'(by omega) ||| 32).toNat=d at hbo hl;clear hg1 hg0
    by_cases h97:d<97
    rotate_left
    focus
     have h122:122<d:=by omega
    rotate_left
    all_goals
     go_enter Tryz.func56,Tryz.ntmps56
     go_wp2
     (try simp only[Exit.inBlock,Exit.then])
     refine bodyPost_ret (results_tmp3 rfl _ _ _) rfl ?_;exact⟨rfl,Below.refl _ _⟩
   ·have hci:¬(s.data.toList.length<2∨s.data.toList.getD 0 0≠33∨(s.data.toList.getD 1 0 ||| 32).toNat<97∨122<(s.data.toList.getD 1 0 ||| 32).toNat):=by
     rintro (h|h|h)
     ·omega
     ·exact h hg0
     ·exact hl h
    have hx:=indexAnyX_any (s.extract 1 s.size) ⟨#[32,9]⟩ w blanks_ascii (by decide) (by decide) (by rw[ByteArray.size_extract];omega);have e9:(⟨#[32,9]⟩:ByteArray).data.toList=[32,9]:=rfl;have hwd:(s.extract 1 s.size).data.toList=s.data.toList.drop 1:=by
     rw[extract_list,List.take_of_length_le (by rw[List.length_drop,hlen];omega)]
    rw[e9,hwd] at hx;unfold commandB at hL;rw[if_neg hci] at hL;rw[hg1] at hl;have hs1:(s.extract 1 s.size).size=s.size-1:=by rw[ByteArray.size_extract];omega
    have hilt:Lib.indexAny (s.data.toList.drop 1) [32,9]<(s.size:Int)-1+0∨Lib.indexAny (s.data.toList.drop 1) [32,9]<0:=by
     have:=indexAny_lt (g:=[32,9]) (l:=s.data.toList.drop 1)
     rw[List.length_drop,hlen] at this;omega
    have hwv:Value.string (s.extract 1 s.size)=strV (s.data.toList.drop 1):=strV_of hwd;have HV:=Lib.hid hwv;generalize (s[1]'(by omega) ||| 32).toNat=d at hbo hl;have hl97:97≤d:=by omega
    have hl122:d≤122:=by omega
    clear hg1 hg0 hci e9 hl hwv
    by_cases hi:0≤Lib.indexAny (s.data.toList.drop 1) [32,9]
    ·rw[if_pos hi] at hL;obtain⟨k,hk⟩:∃k:Nat,Lib.indexAny (s.data.toList.drop 1) [32,9]=k:=⟨_,(Int.toNat_of_nonneg hi).symm⟩;rw[hk] at hx hL hilt;simp only[Int.toNat_natCast] at hL;have hks:k<s.size-1:=by omega
     have htl:=fun w=>strTrimL_any ((s.extract 1 s.size).extract k (s.size-1)) w (by rw[ByteArray.size_extract];omega)
     have hed:((s.extract 1 s.size).extract k (s.size-1)).data.toList=(s.data.toList.drop 1).drop k:=by
      rw[extract_list,hwd,List.take_of_length_le (by rw[List.length_drop,List.length_drop,hlen];omega)]
     have hfd:Value.string ((s.extract 1 s.size).extract 0 k)=strV ((s.data.toList.drop 1).take k):=strV_of (by rw[extract_list,hwd,List.drop_zero,Nat.sub_zero]);have HFD:=Lib.hid hfd;rw[hed] at htl;subst hL;clear hwd hed hk hi hilt hfd
     go_enter Tryz.func56,Tryz.ntmps56
     go_wp2_with (go_at_call 87;refine hx.mono ?_;rintro e w1 ⟨rfl,hb1⟩)
     go_region_with (go_at_call 88;refine (htl _).mono ?_;rintro e w4 ⟨rfl,hb4⟩)
     all_goals go_wp2
     all_goals ((try simp only[Exit.inBlock,Exit.then]);refine bodyPost_ret (results_tmp3 rfl _ _ _) rfl ?_)
     all_goals exact⟨by rw[←HFD.out,List.drop_drop,Nat.add_comm 1 k];rfl,hb1.drew.trans (hb4.mono hb1.size)⟩
    ·have hin:Lib.indexAny (s.data.toList.drop 1) [32,9]<0:=by omega
     rw[if_neg hi] at hL;generalize Lib.indexAny (s.data.toList.drop 1) [32,9]=i at hx hin;subst hL;clear hwd hi hilt
     go_enter Tryz.func56,Tryz.ntmps56
     go_wp2_with (go_at_call 87;refine hx.mono ?_;rintro e w1 ⟨rfl,hb1⟩)
     (try simp only[Exit.inBlock,Exit.then])
     refine bodyPost_ret (results_tmp3 rfl _ _ _) rfl ?_;exact⟨by rw[←HV.out];rfl,hb1⟩
theorem plain_any (s:ByteArray) (w:World) (hs:s.size≤100000000) :
  Calls Tryz.prog 145 #[.string s] w fun e w'=>e=.returned (.bool (plainL s.data.toList))∧Below w.heap.size w w':=by
 have hcp:=Tryz.strings_HasPrefix s ⟨#[124,61,61,61]⟩ w;have hco:=fun w=>command_any s w hs
 have hl1:=fun w=>leading_any s 61 w hs
 have hit:=fun w=>item_any s w hs
 have eb:(⟨#[124,61,61,61]⟩:ByteArray).data.toList=barsL:=rfl;rw[eb] at hcp;have e61:(((61:UInt8).toNat:Nat):Int)=61:=rfl;have h0e:(s=⟨#[]⟩)=(s.data.toList=[]):=by
  rw[eq_iff_iff];constructor
  ·rintro rfl;rfl
  ·intro h;cases s;simp_all
 have h4e:(s=⟨#[45,45,45,45]⟩)=(s.data.toList=fenceL):=by
  rw[eq_iff_iff];constructor
  ·rintro rfl;rfl
  ·intro h;cases s with
   | mk d=>exact congrArg ByteArray.mk (Array.toList_inj.1 h)
 obtain⟨L,hL⟩:∃L,plainL s.data.toList=L:=⟨_,rfl⟩;rw[hL];unfold plainL at hL;rw[e61] at hl1;unfold commandV at hco;generalize Lib.hasPrefix s.data.toList barsL=hp at hcp hL;generalize commandB s.data.toList=cm at hco hL;generalize leadB s.data.toList 61=A at hl1 hL;generalize itemB s.data.toList=I at hit hL;have E0:=Lib.hid h0e;have E4:=Lib.hid h4e;have HL:=Lib.hid hL;clear h0e h4e hL eb e61
 by_cases c0:s=⟨#[]⟩
 ·have c0':s.data.toList=[]:=E0.out ▸ c0;obtain rfl:L=false:=by rw[←HL.out,decide_eq_true c0'];simp
  go_enter Tryz.func145,Tryz.ntmps145
  go_wp2_with (go_at_call 94;refine hcp.mono ?_;rintro e w1 ⟨rfl,rfl⟩)
  go_ret
  exact⟨rfl,Below.refl _ _⟩
 ·have c0':¬s.data.toList=[]:=fun h=>c0 (E0.out.symm ▸ h)
  by_cases c4:s=⟨#[45,45,45,45]⟩
  ·have c4':s.data.toList=fenceL:=E4.out ▸ c4;obtain rfl:L=false:=by rw[←HL.out,decide_eq_true c4'];simp
   go_enter Tryz.func145,Tryz.ntmps145
   go_wp2_with (go_at_call 94;refine hcp.mono ?_;rintro e w1 ⟨rfl,rfl⟩)
   go_ret
   exact⟨rfl,Below.refl _ _⟩
  ·have c4':¬s.data.toList=fenceL:=fun h=>c4 (E4.out.symm ▸ h)
   have HL2:=HL.out;rw[decide_eq_false c0',decide_eq_false c4'] at HL2;have n0:(s.toList==([]:Bs))=false:=by rw[ByteArray.toList_eq];exact beq_eq_false_iff_ne.2 c0'
   have n4:(s.toList==([45,45,45,45]:Bs))=false:=by rw[ByteArray.toList_eq];exact beq_eq_false_iff_ne.2 c4'
   clear c0' c4' HL E0 E4;cases hp with
   | true =>
    obtain rfl:L=false:=by rw[←HL2];simp
    go_enter Tryz.func145,Tryz.ntmps145
    go_wp2_with (go_at_call 94;refine hcp.mono ?_;rintro e w1 ⟨rfl,rfl⟩)
    go_ret
    exact⟨rfl,Below.refl _ _⟩
   | false =>
    cases cm with
    | some ab =>
     obtain rfl:L=false:=by rw[←HL2];simp
     go_enter Tryz.func145,Tryz.ntmps145
     go_wp2_with (first
      | (go_at_call 94;refine hcp.mono ?_;rintro e w1 ⟨rfl,rfl⟩)
      | (go_at_call 56;refine (hco _).mono ?_;rintro e w2 ⟨rfl,hb2⟩))
     go_ret
     exact⟨rfl,hb2⟩
    | none =>
     obtain rfl:L=(decide (A.1=0)&&decide (I.1=0)):=by rw[←HL2];simp
     by_cases hA:A.1=0
     ·have hz:decide (A.1=0)=true:=decide_eq_true hA;rw[hz,Bool.true_and];rw[hA] at hl1
      by_cases hI:I.1=0
      ·rw[hI] at hit ⊢
       go_enter Tryz.func145,Tryz.ntmps145
       go_wp2_with (first
        | (go_at_call 94;refine hcp.mono ?_;rintro e w1 ⟨rfl,rfl⟩)
        | (go_at_call 56;refine (hco _).mono ?_;rintro e w2 ⟨rfl,hb2⟩)
        | (go_at_call 91;refine (hl1 _).mono ?_;rintro e w3 ⟨rfl,hb3⟩)
        | (go_at_call 92;refine (hit _).mono ?_;rintro e w4 ⟨rfl,hb4⟩))
       go_ret
       have e1:=hb2.trans (hb3.mono hb2.size);exact⟨rfl,e1.trans (hb4.mono e1.size)⟩
      ·rw[decide_eq_false hI];have hI':¬(I.1:Int)=0:=by omega
       go_enter Tryz.func145,Tryz.ntmps145
       go_wp2_with (first
        | (go_at_call 94;refine hcp.mono ?_;rintro e w1 ⟨rfl,rfl⟩)
        | (go_at_call 56;refine (hco _).mono ?_;rintro e w2 ⟨rfl,hb2⟩)
        | (go_at_call 91;refine (hl1 _).mono ?_;rintro e w3 ⟨rfl,hb3⟩)
        | (go_at_call 92;refine (hit _).mono ?_;rintro e w4 ⟨rfl,hb4⟩))
       go_ret
       have e1:=hb2.trans (hb3.mono hb2.size);exact⟨by simp[hI],e1.trans (hb4.mono e1.size)⟩
     ·have hz:decide (A.1=0)=false:=decide_eq_false hA;rw[hz,Bool.false_and];have hA':¬(A.1:Int)=0:=by omega
      go_enter Tryz.func145,Tryz.ntmps145
      go_wp2_with (first
       | (go_at_call 94;refine hcp.mono ?_;rintro e w1 ⟨rfl,rfl⟩)
       | (go_at_call 56;refine (hco _).mono ?_;rintro e w2 ⟨rfl,hb2⟩)
       | (go_at_call 91;refine (hl1 _).mono ?_;rintro e w3 ⟨rfl,hb3⟩)
       | (go_at_call 92;refine (hit _).mono ?_;rintro e w4 ⟨rfl,hb4⟩))
      go_ret
      have e1:=hb2.trans (hb3.mono hb2.size);exact⟨by simp[hA],e1.trans (hb4.mono e1.size)⟩
end Go.Proofs.YtkdknllcllhpgaaGreatDoor
namespace Go.Bd
open Go.RowKit
structure Ln where
 file:ByteArray
 no:Int
 text:ByteArray
structure Dg where
 file:ByteArray
 line:Int
 fault:Nat
 text:ByteArray
structure Bl where
 kind:Nat
 level:Nat
 ordered:Bool
 label:ByteArray
 text:ByteArray
 spans:List Sp
 rows:List (List (List Sp))
 file:ByteArray
 line:Int
def lnCells (x:Ln):List Value:=[.string x.file,.int .i64 x.no,.string x.text]
def dgCells (d:Dg):List Value:=[.string d.file,.int .i64 d.line,.int .i64 (d.fault:Int),.string d.text]
def blCells (x:Bl) (kv:Value×Value):List Value:=[.int .u8 (x.kind:Int),.int .i64 (x.level:Int),.bool x.ordered,.string x.label,.string x.text,kv.1,kv.2,.string x.file,.int .i64 x.line]
def rowD:List Dg→List Value
 | []=>[]
 | d::l=>dgCells d++rowD l
def rowBl:List Bl→List (Value×Value)→List Value
 | x::l,kv::kvs=>blCells x kv++rowBl l kvs
 | _,_=>[]
theorem rowD_length:∀l:List Dg,(rowD l).length=l.length*4
 | []=>rfl
 | d::l=>by rw[rowD,List.length_append,rowD_length l,List.length_cons];simp[dgCells];omega
theorem rowD_append:∀a b:List Dg,rowD (a++b)=rowD a++rowD b
 | [],_=>rfl
 | d::a,b=>by simp only[List.cons_append,rowD,rowD_append a b,List.append_assoc]
theorem rowBl_snoc:∀{l:List Bl}{kvs:List (Value×Value)} (x:Bl) (kv:Value×Value),kvs.length=l.length→rowBl (l++[x]) (kvs++[kv])=rowBl l kvs++blCells x kv
 | [],[],x,kv,_=>by simp[rowBl]
 | [],_::_,_,_,h=>by simp at h
 | y::l,[],_,_,h=>by simp at h
 | y::l,ku::kvs,x,kv,h=>by
  simp only[List.cons_append,rowBl,List.append_assoc];rw[rowBl_snoc x kv (by simpa using h)]
def LinesAt (w:World) (L:Nat→Prop) (v:Value) (ls:List Ln):Prop :=
 ∃A c,v=.slice A ls.length c∧ls.length≤c∧(ls≠[]→∃b off,A=some ⟨b,off,none⟩∧L b∧∀(j:Nat) x,ls[j]? = some x→∀(i:Nat) u,(lnCells x)[i]? = some u→w.cell? ⟨b,off+j*3+i,none⟩=some u)
theorem LinesAt.chg {w w':World}{L S:Nat→Prop}{v:Value}{ls:List Ln} (h:LinesAt w L v ls) (hc:Chg w w' S) (hS:∀k,L k→¬S k):LinesAt w' L v ls:=by
 obtain⟨A,c,h1,h2,h3⟩:=h;refine⟨A,c,h1,h2,fun hn=>?_⟩;obtain⟨b,off,h4,h5,h6⟩:=h3 hn;exact⟨b,off,h4,h5,fun j x hj i u hu=>hc.cell (p:=⟨b,off+j*3+i,none⟩) (hS b h5) (h6 j x hj i u hu)⟩
def tR:TypeId:=103
def tBl:TypeId:=72
def tDg:TypeId:=55
structure Rdr (w:World) (O F:Nat→Prop) (rb:Nat) (lv:Value) (pos:Nat) (bv:Value) (bs:List Bl) (dv:Value) (ds:List Dg):Prop where
 hold:Holds w rb tR #[lv,.int .i64 (pos:Int),bv,dv]
 bl:∃kvs:List (Value×Value),kvs.length=bs.length∧w.ownsRow 0 tBl 9 bv bs.length (rowBl bs kvs)∧∀(j:Nat) x kv,bs[j]? = some x→kvs[j]? = some kv→Forest w F kv.1 x.spans∧RowsF w F kv.2 x.rows
 dg:w.ownsRow 0 tDg 4 dv ds.length (rowD ds)
 oR:O rb
 oB:∀k,bv.ownBlock=some k→O k∧k≠rb
 oD:∀k,dv.ownBlock=some k→O k∧k≠rb∧bv.ownBlock≠some k
 off:∀k,F k→¬O k
 ltO:∀k,O k→k<w.heap.size
 ltF:∀k,F k→k<w.heap.size
structure Turn (w w':World) (O F O' F':Nat→Prop):Prop where
 chg:Chg w w' O
 inO:∀k,O' k→O k∨w.heap.size≤k
 inF:∀k,F' k→F k∨w.heap.size≤k
 moF:∀k,F k→F' k
theorem Turn.refl (w:World) (O F:Nat→Prop):Turn w w O F O F:=⟨Chg.refl _ _,fun _ h=>.inl h,fun _ h=>.inl h,fun _ h=>h⟩
theorem Turn.trans {w w1 w2:World}{O F O1 F1 O2 F2:Nat→Prop} (h:Turn w w1 O F O1 F1) (k:Turn w1 w2 O1 F1 O2 F2):Turn w w2 O F O2 F2:=by
 have hs:=h.chg.size;refine⟨h.chg.trans k.chg (fun b hb hO=>?_),fun b hb=>?_,fun b hb=>?_,fun b hb=>k.moF b (h.moF b hb)⟩
 ·rcases h.inO b hO with h1|h1
  ·exact h1
  ·omega
 ·rcases k.inO b hb with h1|h1
  ·exact h.inO b h1
  ·exact .inr (by omega)
 ·rcases k.inF b hb with h1|h1
  ·exact h.inF b h1
  ·exact .inr (by omega)
section
variable {w w':World} {O F O' F' S:Nat→Prop} {rb:Nat} {lv:Value} {pos:Nat} {bv:Value} {bs:List Bl} {dv:Value} {ds:List Dg}
theorem Rdr.chg (h:Rdr w O F rb lv pos bv bs dv ds) (hc:Chg w w' S) (hO:∀k,O k→¬S k) (hF:∀k,F k→¬S k):Rdr w' O F rb lv pos bv bs dv ds:=by
 obtain⟨kvs,h1,h2,h3⟩:=h.bl;exact⟨hc.holds (hO _ h.oR) h.hold,⟨kvs,h1,hc.owns h2 (fun k hk=>hO k (h.oB k hk).1),fun j x kv hx hk=>⟨(h3 j x kv hx hk).1.chg hc (fun _ h=>h) hF,RowsF.stays.go (h3 j x kv hx hk).2 hc (fun _ h=>h) hF⟩⟩,
  hc.owns h.dg (fun k hk=>hO k (h.oD k hk).1),h.oR,h.oB,h.oD,h.off,fun k hk=>Nat.lt_of_lt_of_le (h.ltO k hk) hc.size,fun k hk=>Nat.lt_of_lt_of_le (h.ltF k hk) hc.size⟩
theorem Rdr.below (h:Rdr w O F rb lv pos bv bs dv ds) (hb:Below w.heap.size w w'):Rdr w' O F rb lv pos bv bs dv ds:=h.chg (Chg.below hb (fun _=>False)) (fun _ _ h=>h) (fun _ _ h=>h)
theorem Rdr.more (h:Rdr w O F rb lv pos bv bs dv ds) (hF:∀k,F k→F' k) (ho:∀k,F' k→¬O k) (hl:∀k,F' k→k<w.heap.size):Rdr w O F' rb lv pos bv bs dv ds:=by
 obtain⟨kvs,h1,h2,h3⟩:=h.bl;exact⟨h.hold,⟨kvs,h1,h2,fun j x kv hx hk=>⟨(h3 j x kv hx hk).1.chg (Chg.refl w (fun _=>False)) hF (fun _ _ h=>h),RowsF.stays.go (h3 j x kv hx hk).2 (Chg.refl w (fun _=>False)) hF (fun _ _ h=>h)⟩⟩,h.dg,h.oR,h.oB,h.oD,ho,h.ltO,hl⟩
theorem Rdr.told (h:Rdr w O F rb lv pos bv bs dv ds){dv':Value}{d:Dg} (hc:Chg w w' (fun k=>k=rb∨dv.ownBlock=some k)) (hh:Holds w' rb tR #[lv,.int .i64 (pos:Int),bv,dv']) (ho:w'.ownsRow 0 tDg 4 dv' (ds.length+1) (rowD ds++dgCells d))
  (hn:∀k,dv'.ownBlock=some k→(dv.ownBlock=some k∨w.heap.size≤k)∧k<w'.heap.size):Rdr w' (fun k=>O k∨dv'.ownBlock=some k) F rb lv pos bv bs dv' (ds++[d])∧Turn w w' O F (fun k=>O k∨dv'.ownBlock=some k) F:=by
 obtain⟨kvs,h1,h2,h3⟩:=h.bl;have hS:∀k,(k=rb∨dv.ownBlock=some k)→O k:=fun k hk=>by
  rcases hk with rfl|hk
  ·exact h.oR
  ·exact (h.oD k hk).1
 have hF:∀k,F k→¬(k=rb∨dv.ownBlock=some k):=fun k hk hs=>h.off k hk (hS k hs)
 refine⟨⟨hh,⟨kvs,h1,hc.owns h2 (fun k hk hs=>?_),fun j x kv hx hk=>⟨(h3 j x kv hx hk).1.chg hc (fun _ h=>h) hF,RowsF.stays.go (h3 j x kv hx hk).2 hc (fun _ h=>h) hF⟩⟩,?_,.inl h.oR,fun k hk=>⟨.inl (h.oB k hk).1,(h.oB k hk).2⟩,fun k hk=>⟨.inr hk,?_,?_⟩,fun k hk hs=>?_,fun k hk=>?_,fun k hk=>Nat.lt_of_lt_of_le (h.ltF k hk) hc.size⟩,
  ⟨hc.mono (fun k _ hk=>hS k hk),fun k hk=>?_,fun k hk=>.inl hk,fun k hk=>hk⟩⟩
 ·rcases hs with hs|hs
  ·exact (h.oB k hk).2 hs
  ·exact (h.oD k hs).2.2 hk
 ·rw[List.length_append,rowD_append];simpa [rowD] using ho
 ·rcases (hn k hk).1 with h4|h4
  ·exact (h.oD k h4).2.1
  ·intro e;have:=h.ltO rb h.oR;omega
 ·rcases (hn k hk).1 with h4|h4
  ·exact (h.oD k h4).2.2
  ·intro e;have:=h.ltO k (h.oB k e).1;omega
 ·rcases hs with hs|hs
  ·exact h.off k hk hs
  ·rcases (hn k hs).1 with h4|h4
   ·exact h.off k hk (h.oD k h4).1
   ·have:=h.ltF k hk;omega
 ·rcases hk with hk|hk
  ·exact Nat.lt_of_lt_of_le (h.ltO k hk) hc.size
  ·exact (hn k hk).2
 ·rcases hk with hk|hk
  ·exact .inl hk
  ·rcases (hn k hk).1 with h4|h4
   ·exact .inl (h.oD k h4).1
   ·exact .inr h4
theorem Rdr.added (h:Rdr w O F rb lv pos bv bs dv ds){bv':Value}{x:Bl}{kv:Value×Value} (hx:Forest w F kv.1 x.spans∧RowsF w F kv.2 x.rows) (hc:Chg w w' (fun k=>k=rb∨bv.ownBlock=some k)) (hh:Holds w' rb tR #[lv,.int .i64 (pos:Int),bv',dv])
  (kvs:List (Value×Value)) (h1:kvs.length=bs.length) (h3:∀(j:Nat) x kv,bs[j]? = some x→kvs[j]? = some kv→Forest w F kv.1 x.spans∧RowsF w F kv.2 x.rows) (ho2:w'.ownsRow 0 tBl 9 bv' (bs.length+1) (rowBl bs kvs++blCells x kv))
  (hn:∀k,bv'.ownBlock=some k→(bv.ownBlock=some k∨w.heap.size≤k)∧k<w'.heap.size):Rdr w' (fun k=>O k∨bv'.ownBlock=some k) F rb lv pos bv' (bs++[x]) dv ds∧Turn w w' O F (fun k=>O k∨bv'.ownBlock=some k) F:=by
 have hS:∀k,(k=rb∨bv.ownBlock=some k)→O k:=fun k hk=>by
  rcases hk with rfl|hk
  ·exact h.oR
  ·exact (h.oB k hk).1
 have hF:∀k,F k→¬(k=rb∨bv.ownBlock=some k):=fun k hk hs=>h.off k hk (hS k hs)
 refine⟨⟨hh,⟨kvs++[kv],by simp[h1],by rw[List.length_append,rowBl_snoc x kv h1];exact ho2,fun j y ku hy hku=>?_⟩,hc.owns h.dg (fun k hk hs=>?_),.inl h.oR,fun k hk=>⟨.inr hk,?_⟩,fun k hk=>⟨.inl (h.oD k hk).1,(h.oD k hk).2.1,fun e=>?_⟩,fun k hk hs=>?_,fun k hk=>?_,fun k hk=>Nat.lt_of_lt_of_le (h.ltF k hk) hc.size⟩,
  ⟨hc.mono (fun k _ hk=>hS k hk),fun k hk=>?_,fun k hk=>.inl hk,fun k hk=>hk⟩⟩
 ·by_cases hj:j<bs.length
  ·rw[List.getElem?_append_left hj] at hy;rw[List.getElem?_append_left (by omega)] at hku;exact⟨(h3 j y ku hy hku).1.chg hc (fun _ h=>h) hF,RowsF.stays.go (h3 j y ku hy hku).2 hc (fun _ h=>h) hF⟩
  ·have hj2:j=bs.length:=by have:=(List.getElem?_eq_some_iff.1 hy).1;simp at this;omega
   subst hj2;rw[List.getElem?_append_right (Nat.le_refl _),Nat.sub_self] at hy;rw[List.getElem?_append_right (by omega),h1,Nat.sub_self] at hku;cases hy;cases hku
   exact⟨hx.1.chg hc (fun _ h=>h) hF,RowsF.stays.go hx.2 hc (fun _ h=>h) hF⟩
 ·rcases hs with hs|hs
  ·exact (h.oD k hk).2.1 hs
  ·exact (h.oD k hk).2.2 hs
 ·rcases (hn k hk).1 with h4|h4
  ·exact (h.oB k h4).2
  ·intro e;have:=h.ltO rb h.oR;omega
 ·rcases (hn k e).1 with h4|h4
  ·exact (h.oD k hk).2.2 h4
  ·have:=h.ltO k (h.oD k hk).1;omega
 ·rcases hs with hs|hs
  ·exact h.off k hk hs
  ·rcases (hn k hs).1 with h4|h4
   ·exact h.off k hk (h.oB k h4).1
   ·have:=h.ltF k hk;omega
 ·rcases hk with hk|hk
  ·exact Nat.lt_of_lt_of_le (h.ltO k hk) hc.size
  ·exact (hn k hk).2
 ·rcases hk with hk|hk
  ·exact .inl hk
  ·rcases (hn k hk).1 with h4|h4
   ·exact .inl (h.oB k h4).1
   ·exact .inr h4
end
end Go.Bd
namespace Go.Proofs.YtkdknllcllhpgaaGreatDoor
open Go.RowKit Go.Bd
theorem diag_info:(Tryz.prog.info? 55).map (fun i=>(i.zero,i.size,i.bytes))=some (some (.agg #[.string ⟨#[]⟩,.int .i64 0,.int .i64 0,.string ⟨#[]⟩]),4,48):=by kernel_rfl
theorem fault_any {w:World}{O F:Nat→Prop}{rb:Nat}{lv:Value}{pos:Nat}{bv:Value}{bs:List Bl}{dv:Value}{ds:List Dg} (h:Rdr w O F rb lv pos bv bs dv ds) (f t:ByteArray) (no:Int) (k:Nat) (txt:ByteArray) (hl:ds.length≤1000000000) :
  Calls Tryz.prog 57 #[.pointer (some ⟨rb,0,none⟩),.agg #[.string f,.int .i64 no,.string t],.int .i64 (k:Int),.string txt] w fun e w'=>e=.returned (.tuple #[])∧∃O' dv',Rdr w' O' F rb lv pos bv bs dv' (ds++[⟨f,no,k,txt⟩])∧Turn w w' O F O' F:=by
 obtain⟨A,c,rfl⟩:∃A c,dv=.slice A ds.length c:=by
  rcases h.dg.2 with ⟨h1,h2⟩|⟨g,cap,cur,h1,_⟩
  ·exact⟨none,0,by rw[h1,h2]⟩
  ·exact⟨_,_,h1⟩
 obtain⟨i0,hi0,hz0,hz1,hz2⟩:=info_parts diag_info;have hrl:=h.hold.lt;have h1:=h.below ((Below.refl _ w).alloc (Nat.le_refl _) (.cells #[.string f,.int .i64 no,.string t] 107));have hX:=Holds.new w 107 #[.string f,.int .i64 no,.string t];have hT0:Turn w (w.alloc (.cells #[.string f,.int .i64 no,.string t] 107)) O F O F:=⟨(Chg.refl _ _).alloc _,fun _ h=>.inl h,fun _ h=>.inl h,fun _ h=>h⟩;have hsz:(w.alloc (.cells #[.string f,.int .i64 no,.string t] 107)).heap.size=w.heap.size+1:=by simp
 obtain⟨n,hn⟩:∃n,w.heap.size=n:=⟨_,rfl⟩;rw[hn] at hX hsz;obtain⟨W1,hW1⟩:∃W1,w.alloc (.cells #[.string f,.int .i64 no,.string t] 107)=W1:=⟨_,rfl⟩;rw[hW1] at h1 hX hT0 hsz;have d0:=hX.cell 0;have d1:=hX.cell 1;have d3:=h1.hold.cell 3;have f3:=h1.hold.free 3;simp at d0 d1 d3;have hb1:rb<W1.heap.size:=h1.hold.lt;have hbx:n<W1.heap.size:=by omega
 have hkr:(Value.slice A ds.length c).ownBlock≠some rb:=fun e=>(h1.oD rb e).2.1 rfl
 have hkn:(Value.slice A ds.length c).ownBlock≠some n:=fun e=>by have:=h.ltO n (h.oD n e).1;omega
 have hrn:rb≠n:=by omega
 have HR:=hidH2 h1 hT0;have HZ:=hidH4 hi0 hz0 hz1 hz2;have HW1:=Lib.hid hW1;have HN:=Lib.hid hn;have HX:=Lib.hid hX;have hnW:w.heap.size≤n:=Nat.le_of_eq hn;have HSZ:=Lib.hid hsz;clear h h1 hT0 hi0 hz0 hz1 hz2 hX hsz;have e0:(W1.alloc (.cells #[.string f,.int .i64 no,.int .i64 (k:Int),.string txt] 55)).cell? ⟨n,0,none⟩=some (.string f):=by rw[World.cell?_alloc_lt _ _ _ hbx];exact d0
 have e1:(W1.alloc (.cells #[.string f,.int .i64 no,.int .i64 (k:Int),.string txt] 55)).cell? ⟨n,1,none⟩=some (.int .i64 no):=by rw[World.cell?_alloc_lt _ _ _ hbx];exact d1
 have e3:(W1.alloc (.cells #[.string f,.int .i64 no,.int .i64 (k:Int),.string txt] 55)).cell? ⟨rb,3,none⟩=some (.slice A ds.length c):=by rw[World.cell?_alloc_lt _ _ _ hb1];exact d3
 go_enter Tryz.func57,Tryz.ntmps57
 go_wp2
 (try rw[hW1])
 (try rw[hn])
 clear hW1 hn;refine wp_region_held_drew (S:=(fun w'=>w'.cell? ⟨n,0,none⟩=some (.string f)∧w'.cell? ⟨n,1,none⟩=some (.int .i64 no))) (by kernel_rfl) ?_ (fun hHeld0=>?_)
 ·(try dsimp only)
  first|exact⟨d0,d1⟩|exact⟨e0,e1⟩|exact⟨g0,g1⟩|exact⟨k0,k1⟩
 refine tkH 0 8 ?_;refine tkH 1 9 ?_;refine tkH 2 10 ?_;refine tkH 3 11 ?_;refine tkH 5 13 ?_;refine tkH 6 14 ?_;refine tkH 7 15 ?_;refine tkH 8 16 ?_;refine tkH 9 17 ?_;refine tkH 10 18 ?_;refine tkH 11 19 ?_;refine rdyH [4,12] ?_;refine AllReadyH.cons (o:=⟨some 12,_,_,_,_,_⟩) rfl (fun K hK=>?_) ?_
 ·skip
  go_simp;refine hK.out _ _ ?_ (fun hHeld1=>?_)
  ·(try dsimp only)
   first|exact⟨d0,d1⟩|exact⟨e0,e1⟩|exact⟨g0,g1⟩|exact⟨k0,k1⟩
  clear hK K hHeld0
  (try go_frame)
  refine rdyH [12] ?_;refine AllReadyH.cons (o:=⟨some 20,_,_,_,_,_⟩) rfl (fun K hK=>?_) AllReadyH.nil;go_simp;refine hK.out _ _ ?_ (fun hHeld2=>?_)
  ·(try dsimp only)
   first|exact⟨d0,d1⟩|exact⟨e0,e1⟩|exact⟨g0,g1⟩|exact⟨k0,k1⟩
  clear hK K hHeld1
  (try go_frame)
  refine rdyH [13] ?_;refine AllReadyH.cons (o:=⟨some 21,_,_,_,_,_⟩) rfl (fun K hK=>?_) AllReadyH.nil;refine step_append_lies _ (by rfl) _ _ _ (by rfl) 0 55 i0 _ 4 48 Tryz.underlying23 HZ.out.1 HZ.out.2.1 HZ.out.2.2.1 HZ.out.2.2.2 rfl (by omega) (.slice A ds.length c) ds.length (rowD ds) (by rfl) ((HR.out.1.dg.alloc _).drew)
   ⟨W1.heap.size,0,none⟩ 1 1 [.string f,.int .i64 no,.int .i64 (k:Int),.string txt] (by rfl) (by rfl) (World.news_of_block (cs:=#[.string f,.int .i64 no,.int .i64 (k:Int),.string txt]) (t:=55) (fr:=(0,0)) (heap_alloc_new W1 _)) (by simp[Value.oneCell'])
   (by omega) (by unfold maxLen;omega) (by omega) (Nat.zero_le _) (W1.heap.size+1) (by simp) ?_
  intro g cap w2 ho2 hg2 hat2 hl2;have hC2:Chg W1 w2 (fun b=>(Value.slice A ds.length c).ownBlock=some b):=(((Chg.refl W1 _).alloc _).drew).trans (Chg.grown hg2) (fun _ _ h=>h.symm);have hgb:g≠rb:=fun e=>by
   rcases hat2 with h|h
   ·exact hkr (by rw[h,e])
   ·omega
  have hgn:g≠n:=fun e=>by
   rcases hat2 with h|h
   ·exact hkn (by rw[h,e])
   ·omega
  have hh2:=hC2.holds hkr HR.out.1.hold;have g0:=hC2.cell (p:=⟨n,0,none⟩) hkn d0;have g1:=hC2.cell (p:=⟨n,1,none⟩) hkn d1;have g3:=hC2.cell (p:=⟨rb,3,none⟩) hkr d3;have q3:=hh2.free 3;have k0:=cell_far (g:=rb) (i:=3) (j:=0) hrn (.slice (some ⟨g,0,none⟩) (ds.length+1) cap) g0;have k1:=cell_far (g:=rb) (i:=3) (j:=1) hrn (.slice (some ⟨g,0,none⟩) (ds.length+1) cap) g1;have HE:=hidH4 hC2 ho2 hat2 hh2;clear hC2 ho2 hat2 hh2 hg2;refine hK.out _ _ ?_ (fun hHeld3=>?_)
  ·(try dsimp only)
   first|exact⟨d0,d1⟩|exact⟨e0,e1⟩|exact⟨g0,g1⟩|exact⟨k0,k1⟩
  clear hK K hHeld2
  (try go_frame)
  refine tkH 14 22 ?_;refine tkH 15 23 ?_;refine rdyH [16] ?_;refine AllReadyH.cons rfl (fun K hK=>?_) AllReadyH.nil;go_simp;refine hK.out _ _ ?_ (fun hHeld4=>?_)
  ·(try dsimp only)
   first|exact⟨d0,d1⟩|exact⟨e0,e1⟩|exact⟨g0,g1⟩|exact⟨k0,k1⟩
  clear hK K hHeld3
  (try go_frame)
  refine wpAnyH_done (by kernel_rfl) ?_ _;go_wp2
  go_end0
  have hC:=Chg.set w2 ⟨rb,3,none⟩ (.slice (some ⟨g,0,none⟩) (ds.length+1) cap);have hall:Chg W1 (w2.setCell ⟨rb,3,none⟩ (.slice (some ⟨g,0,none⟩) (ds.length+1) cap)) (fun b=>b=rb∨(Value.slice A ds.length c).ownBlock=some b) :=
   (HE.out.1.mono (T:=fun b=>b=rb∨(Value.slice A ds.length c).ownBlock=some b) (fun k _ h=>.inr h)).trans hC (fun k _ h=>.inl h)
  obtain⟨hq1,hq2⟩:=HR.out.1.told (d:=⟨f,no,k,txt⟩) hall (HE.out.2.2.2.set 3 _) (hC.owns HE.out.2.1 (fun k hk e=>hgb ((show g=k from (by simpa [Value.ownBlock] using hk)).trans e))) (fun b hb=>by
   have e1:g=b:=by simpa [Value.ownBlock] using hb
   rw[←e1];refine⟨?_,by simpa [World.setCell] using hl2⟩
   rcases HE.out.2.2.1 with h|h
   ·exact .inl h
   ·exact .inr (by omega))
  exact⟨rfl,_,_,hq1,HR.out.2.trans hq2⟩
 refine AllReadyH.cons (o:=⟨some 20,_,_,_,_,_⟩) rfl (fun K hK=>?_) AllReadyH.nil;go_simp;refine hK.out _ _ ?_ (fun hHeld1=>?_)
 ·(try dsimp only)
  first|exact⟨d0,d1⟩|exact⟨e0,e1⟩|exact⟨g0,g1⟩|exact⟨k0,k1⟩
 clear hK K hHeld0
 (try go_frame)
 refine rdyH [4] ?_;refine AllReadyH.cons (o:=⟨some 12,_,_,_,_,_⟩) rfl (fun K hK=>?_) AllReadyH.nil;go_simp;refine hK.out _ _ ?_ (fun hHeld2=>?_)
 ·(try dsimp only)
  first|exact⟨d0,d1⟩|exact⟨e0,e1⟩|exact⟨g0,g1⟩|exact⟨k0,k1⟩
 clear hK K hHeld1
 (try go_frame)
 refine rdyH [13] ?_;refine AllReadyH.cons (o:=⟨some 21,_,_,_,_,_⟩) rfl (fun K hK=>?_) AllReadyH.nil;refine step_append_lies _ (by rfl) _ _ _ (by rfl) 0 55 i0 _ 4 48 Tryz.underlying23 HZ.out.1 HZ.out.2.1 HZ.out.2.2.1 HZ.out.2.2.2 rfl (by omega) (.slice A ds.length c) ds.length (rowD ds) (by rfl) ((HR.out.1.dg.alloc _).drew)
  ⟨W1.heap.size,0,none⟩ 1 1 [.string f,.int .i64 no,.int .i64 (k:Int),.string txt] (by rfl) (by rfl) (World.news_of_block (cs:=#[.string f,.int .i64 no,.int .i64 (k:Int),.string txt]) (t:=55) (fr:=(0,0)) (heap_alloc_new W1 _)) (by simp[Value.oneCell'])
  (by omega) (by unfold maxLen;omega) (by omega) (Nat.zero_le _) (W1.heap.size+1) (by simp) ?_
 intro g cap w2 ho2 hg2 hat2 hl2;have hC2:Chg W1 w2 (fun b=>(Value.slice A ds.length c).ownBlock=some b):=(((Chg.refl W1 _).alloc _).drew).trans (Chg.grown hg2) (fun _ _ h=>h.symm);have hgb:g≠rb:=fun e=>by
  rcases hat2 with h|h
  ·exact hkr (by rw[h,e])
  ·omega
 have hgn:g≠n:=fun e=>by
  rcases hat2 with h|h
  ·exact hkn (by rw[h,e])
  ·omega
 have hh2:=hC2.holds hkr HR.out.1.hold;have g0:=hC2.cell (p:=⟨n,0,none⟩) hkn d0;have g1:=hC2.cell (p:=⟨n,1,none⟩) hkn d1;have g3:=hC2.cell (p:=⟨rb,3,none⟩) hkr d3;have q3:=hh2.free 3;have k0:=cell_far (g:=rb) (i:=3) (j:=0) hrn (.slice (some ⟨g,0,none⟩) (ds.length+1) cap) g0;have k1:=cell_far (g:=rb) (i:=3) (j:=1) hrn (.slice (some ⟨g,0,none⟩) (ds.length+1) cap) g1;have HE:=hidH4 hC2 ho2 hat2 hh2;clear hC2 ho2 hat2 hh2 hg2;refine hK.out _ _ ?_ (fun hHeld3=>?_)
 ·(try dsimp only)
  first|exact⟨d0,d1⟩|exact⟨e0,e1⟩|exact⟨g0,g1⟩|exact⟨k0,k1⟩
 clear hK K hHeld2
 (try go_frame)
 refine tkH 14 22 ?_;refine tkH 15 23 ?_;refine rdyH [16] ?_;refine AllReadyH.cons rfl (fun K hK=>?_) AllReadyH.nil;go_simp;refine hK.out _ _ ?_ (fun hHeld4=>?_)
 ·(try dsimp only)
  first|exact⟨d0,d1⟩|exact⟨e0,e1⟩|exact⟨g0,g1⟩|exact⟨k0,k1⟩
 clear hK K hHeld3
 (try go_frame)
 refine wpAnyH_done (by kernel_rfl) ?_ _;go_wp2
 go_end0
 have hC:=Chg.set w2 ⟨rb,3,none⟩ (.slice (some ⟨g,0,none⟩) (ds.length+1) cap);have hall:Chg W1 (w2.setCell ⟨rb,3,none⟩ (.slice (some ⟨g,0,none⟩) (ds.length+1) cap)) (fun b=>b=rb∨(Value.slice A ds.length c).ownBlock=some b) :=
  (HE.out.1.mono (T:=fun b=>b=rb∨(Value.slice A ds.length c).ownBlock=some b) (fun k _ h=>.inr h)).trans hC (fun k _ h=>.inl h)
 obtain⟨hq1,hq2⟩:=HR.out.1.told (d:=⟨f,no,k,txt⟩) hall (HE.out.2.2.2.set 3 _) (hC.owns HE.out.2.1 (fun k hk e=>hgb ((show g=k from (by simpa [Value.ownBlock] using hk)).trans e))) (fun b hb=>by
  have e1:g=b:=by simpa [Value.ownBlock] using hb
  rw[←e1];refine⟨?_,by simpa [World.setCell] using hl2⟩
  rcases HE.out.2.2.1 with h|h
  ·exact .inl h
  ·exact .inr (by omega))
 exact⟨rfl,_,_,hq1,HR.out.2.trans hq2⟩
end Go.Proofs.YtkdknllcllhpgaaGreatDoor
