/-
  What the chapter's laws share, part 7: plain facts, memory, and walks of functions. Its conditions: those that each theorem names.
-/
import Derived.Shelf.RegionOpenPlain
import Derived.Deep.DeepCutAuto
import Derived.Lib.SplitLaws
import Derived.Lib.CountLaws
import Derived.Laws.EntriesVeiled
import Derived.Test.YtkdknllcllhpgaaGreatDoorK0
import Derived.Test.YtkdknllcllhpgaaGreatDoorK6
set_option linter.unusedSimpArgs false
set_option linter.unusedVariables false
set_option maxHeartbeats 16000000
set_option maxRecDepth 100000
namespace Go.Bd
open Go.RowKit
theorem fillB_sizes (l:List At):∀(n:Nat) (s:Bs) (ns:List ByteArray),∀m∈(fillB l n s ns).2,m∈ns∨m.size≤s.length
 | 0,_,_,m,h=>.inl h
 | _+1,[],_,m,h=>.inl h
 | n+1,c::s,ns,m,h=>by
  unfold fillB at h;cases ha:askedB (c::s) with
  | none =>
   rw[ha] at h
   rcases fillB_sizes l n s ns m h with h|h
   ·exact .inl h
   ·exact .inr (by rw[List.length_cons];omega)
  | some a =>
   rw[ha] at h;have hl:=askedB_len ha;have h':m∈(fillB l n (s.drop (a.length+1)) (addN ns (ofB a))).2:=by
    dsimp only at h;cases hg:getA l (ofB a)<;>rw[hg] at h<;>exact h
   rcases fillB_sizes l n _ _ m h' with h|h
   ·rcases addN_mem.1 h with h|h
    ·exact .inl h
    ·right;rw[h,size_ofB];omega
   ·right;rw[List.length_drop] at h;rw[List.length_cons];omega
theorem fillN_sizes (l:List At) (s:ByteArray):∀m∈fillN l s,m.size≤s.size:=fun m hm=>by
 rcases fillB_sizes l s.size s.data.toList [] m hm with h|h
 ·cases h
 ·rw[size_lst] at h;exact h
theorem putN_le (l:List ByteArray) (n:ByteArray):(putN l n).length≤l.length+1:=by
 unfold putN;rw[List.length_append,List.length_singleton];have:=List.length_filter_le (fun x=>!decide (x=n)) l
 omega
theorem asks_len:∀(l:List ByteArray) (s:Ast),(s.asks l).asked.length≤s.asked.length+l.length
 | [],s=>Nat.le_refl _
 | n::l,s=>by
  have h:=asks_len l (s.ask n);have e:(s.ask n).asked.length≤s.asked.length+1:=by
   unfold Ast.ask;split
   ·omega
   ·exact putN_le _ _
  rw[List.length_cons]
  show ((s.ask n).asks l).asked.length≤_
  omega
theorem asks_snoc (l:List ByteArray) (n:ByteArray) (s:Ast):s.asks (l++[n])=(s.asks l).ask n:=by unfold Ast.asks;rw[List.foldl_append];rfl
end Go.Bd
namespace Go.Proofs.YtkdknllcllhpgaaGreatDoor
open Go.RowKit Go.Bd
theorem a_fill {w:World}{κ:Nat→Nat}{rb wm:Nat}{sv:Value}{v:Rv}{st:Ast}{stk:Stk} (h:ARd w κ rb wm sv v st stk) (hv:Vals st) (hn:st.attrs.length≤1000000000) (s:ByteArray) (hs:s.size≤1000000) (ha:st.asked.length≤100000000000) :
  Calls Tryz.prog 114 #[.pointer (some ⟨rb,0,none⟩),.string s] w fun e w'=>e=.returned (.string (fillT st.attrs s))∧ARd w' κ rb wm sv v (st.fill s) stk∧Mv w w' κ κ:=by
 have hF:=Fill_any (attrs_at h.attrs) (fun k hk=>h.lt k (by rw[h.kAt k hk];decide)) hn hv s hs;have c1:=h.hold.cell 1;simp at c1;obtain⟨A,c,hav,_⟩:=own_rowL h.attrs;rw[hav] at c1 hF;have hsz:=fillN_sizes st.attrs s;have hnl:=fillN_len hv s;have hst:st.fill s=st.asks (fillN st.attrs s):=rfl;rw[hst];obtain⟨ns,hns⟩:∃ns,fillN st.attrs s=ns:=⟨_,rfl⟩;obtain⟨tx,htx⟩:∃tx,fillT st.attrs s=tx:=⟨_,rfl⟩;rw[hns] at hF hsz hnl ⊢;rw[htx] at hF ⊢;have HF:=hidH4 hF h hsz hv;clear hF hav hns htx hst hsz hv
 go_enter Tryz.func114,Tryz.ntmps114
 go_wp2_with fail
 refine HF.out.1.mono ?_;rintro e w1 ⟨nv,rfl,hb1,ho1⟩;obtain⟨A1,k1,hnv,hk1⟩:=own_rowL ho1;subst hnv;obtain⟨nl,hnlen⟩:∃nl,ns.length=nl:=⟨_,rfl⟩;have hcells:∀(W:World),Mv w1 W κ κ→∀(k:Nat) (n:ByteArray),ns[k]? = some n→∃g,A1=some ⟨g,0,none⟩∧W.cell? ⟨g,k,none⟩=some (.string n):=fun W hW k n hk=>by
  obtain⟨g,cap,hh,_,_,hgl,hcl,_⟩:=own_rowN ho1 (by have:=(List.getElem?_eq_some_iff.1 hk).1;omega);cases hh
  refine⟨g,rfl,hW.chg.cell (p:=⟨g,k,none⟩) (fun hκ=>?_) (hcl k (.string n) (by unfold rowTx;rw[List.getElem?_map,hk];rfl))⟩;have h1:=HF.out.2.1.lt g hκ;have h2:=(own_obj ho1 (g:=g) rfl).1;omega
 rw[hnlen] at hk1 hnl ⊢;have HC:=hidH3 hcells hb1 hnlen;clear hcells ho1 hb1 hnlen
 go_wp2_with fail
 go_loopg [20] nl (fun q i wr=>∃k:Nat,k+q=nl∧i=.int .i64 (k:Int)∧Hid (ARd wr κ rb wm sv v (st.asks (ns.take k)) stk∧Mv w1 wr κ κ))
 case atStart=>exact⟨0,by omega,rfl,HF.out.2.1.below HC.out.2.1,Mv.refl _ _⟩
 case round =>
  obtain⟨k,hk,rfl,HR⟩:=hrel
  by_cases hlt:k<nl
  ·obtain⟨n,hn⟩:∃n,ns[k]? = some n:=⟨_,List.getElem?_eq_getElem (by rw[HC.out.2.2];exact hlt)⟩;obtain⟨g,rfl,q0⟩:=HC.out.1 wr HR.out.2 k n hn;have hA:=a_ask HR.out.1 n (by have:=HF.out.2.2.1 n (List.mem_of_getElem? hn);omega) (by have:=asks_len (ns.take k) st;rw[List.length_take] at this;omega);have HA:=hidH2 hA hn;clear hA hn
   go_wp2_with (go_at_call 109;refine HA.out.1.mono ?_;rintro e w2 ⟨rfl,hr2,hm2⟩)
   go_roundg (gk-1)
   case measure=>omega
   case rel=>exact⟨k+1,by omega,by go_num,by rw[List.take_add_one,HA.out.2];exact (asks_snoc _ _ _) ▸ hr2,HR.out.2.trans hm2⟩
  ·obtain rfl:k=nl:=by omega
   go_wp2_with fail
   go_ret
   have h2:=HR.out.1;rw[List.take_of_length_le (by rw[HC.out.2.2];exact Nat.le_refl _)] at h2;exact⟨rfl,h2,(Mv.below HC.out.2.1 κ).trans HR.out.2⟩
end Go.Proofs.YtkdknllcllhpgaaGreatDoor
namespace Go.Proofs.YtkdknllcllhpgaaGreatDoor
open Go.RowKit Go.Bd
def WordP (w:World) (κ:Nat→Nat) (rb wm:Nat) (sv:Value) (pre:Stk) (nm:ByteArray) (pb:List (Nat×Value)) (b:Nat) (r:Rs) (w':World):Prop :=
 ∃κ' v' rv',v'.sb=pb++[(b,rv')]∧ARd w' κ' rb wm sv v' r.1 (pre++[(nm,r.2)])∧Mv w w' κ κ'
def lnV (l:Ln):Value:=.agg #[.string l.file,.int .i64 l.no,.string l.text]
abbrev boxed (w:World) (l:Ln):World:=w.alloc (.cells #[.string l.file,.int .i64 l.no,.string l.text] 163)
section
variable {w:World} {κ:Nat→Nat} {rb wm:Nat} {sv:Value} {v:Rv} {st:Ast} {pre:Stk} {nm:ByteArray} {cs:List Cd} {pb:List (Nat×Value)} {b:Nat} {rv:Value}
theorem boxed_cell (w:World) (l:Ln){w':World} (hb:Below (boxed w l).heap.size (boxed w l) w'){n:Nat} (hn:w.heap.size=n):w'.cell? ⟨n,0,none⟩=some (.string l.file)∧w'.cell? ⟨n,1,none⟩=some (.int .i64 l.no)∧w'.cell? ⟨n,2,none⟩=some (.string l.text):=by
 subst hn;have h:=(Holds.new w 163 #[.string l.file,.int .i64 l.no,.string l.text]).below hb (by simp);have c0:=h.cell 0;have c1:=h.cell 1;have c2:=h.cell 2;simp at c0 c1 c2;exact⟨c0,c1,c2⟩
end
section
variable {w w' w'':World} {κ κ':Nat→Nat} {rb wm:Nat} {sv:Value} {v:Rv} {st:Ast} {pre:Stk} {nm:ByteArray} {cs:List Cd} {pb:List (Nat×Value)} {b:Nat} {rv:Value}
theorem a_force_any (h:SrcAt w κ pre.length (b,rv) (nm,cs)) (hn:cs.length≤100000) :
  Calls Tryz.prog 106 #[.pointer (some ⟨b,0,none⟩)] w fun e w'=>e=.returned (.bool (force cs))∧Below w.heap.size w w':=by
 rcases List.eq_nil_or_concat cs with hcs|⟨c0,c,hcs⟩
 ·subst hcs;exact a_force_nil h
 ·rw[List.concat_eq_append] at hcs;subst hcs;rw[List.length_append,List.length_singleton] at hn;have e:force (c0++[c])=c.holds:=by unfold force;rw[List.getLast?_concat]
  rw[e];exact a_force_at h (by omega)
end
end Go.Proofs.YtkdknllcllhpgaaGreatDoor
namespace Go.Bd
open Go.RowKit
end Go.Bd
namespace Go.Proofs.YtkdknllcllhpgaaGreatDoor
open Go.RowKit Go.Bd
section
variable {w:World} {κ:Nat→Nat} {rb wm:Nat} {sv:Value} {v:Rv} {st:Ast} {stk:Stk}
def WordQ (w:World) (κ:Nat→Nat) (rb wm:Nat) (sv:Value) (v:Rv) (stk:Stk) (r:Ast) (w':World):Prop :=
 ∃κ' v',v'.sb=v.sb∧ARd w' κ' rb wm sv v' r stk∧Mv w w' κ κ'
end
theorem word_no {s:ByteArray} (h:¬0≤Lib.indexAny s.data.toList [32,9]):wordB s.data.toList=(s.data.toList,[]):=by unfold wordB;rw[if_neg h]
theorem word_at {s:ByteArray}{k:Nat} (h:Lib.indexAny s.data.toList [32,9]=(k:Int)):wordB s.data.toList=(s.data.toList.take k,trim (s.data.toList.drop k)):=by
 unfold wordB;rw[h,if_pos (by omega)];rfl
theorem word_size (s:Bs):(wordB s).1.length≤s.length∧(wordB s).2.length≤s.length:=by
 unfold wordB;split
 ·refine⟨by rw[List.length_take];omega,?_⟩;have h:=trim_le (s.drop (Lib.indexAny s [32,9]).toNat);rw[List.length_drop] at h
  show (trim _).length≤_
  omega
 ·exact⟨Nat.le_refl _,Nat.zero_le _⟩
theorem ofB_ext (s:ByteArray) (k:Nat):s.extract 0 k=ofB (s.data.toList.take k):=by rw[←ofB_lst (s.extract 0 k),ext_lst];rfl
theorem idx_le:∀(s g:Bs),Lib.indexAny s g<s.length∨s=[]
 | [],_=>.inr rfl
 | b::l,g=>by
  left;have ih:=idx_le l g
  show (if g.contains b then (0:Int) else if Lib.indexAny l g == -1 then -1 else Lib.indexAny l g+1)<_
  rw[List.length_cons];split
  ·omega
  ·split
   ·omega
   ·rename_i h1 h2
    rcases ih with h|h
    ·omega
    ·subst h;exact absurd (show (Lib.indexAny [] g == -1)=true from rfl) h2
section
variable {w:World} {κ:Nat→Nat} {rb wm:Nat} {sv:Value} {v:Rv} {st:Ast} {stk:Stk}
end
end Go.Proofs.YtkdknllcllhpgaaGreatDoor
namespace Go.Bd
def cutsC (x:UInt8):Bs→List Bs
 | []=>[[]]
 | c::l=>if c==x then []::cutsC x l else match cutsC x l with
  | []=>[[c]]
  | p::ps=>(c::p)::ps
theorem cutsC_ne (x:UInt8) (l:Bs):cutsC x l≠[]:=by
 cases l with
 | nil=>simp[cutsC]
 | cons c l =>
  rw[cutsC];split
  ·simp
  ·split<;>simp
theorem dots_cuts:∀l:Bs,dotsB l=cutsC 46 l
 | []=>rfl
 | c::l=>by
  rw[dotsB,cutsC,dots_cuts l];split
  ·rfl
  ·cases cutsC 46 l<;>rfl
theorem nls_cuts:∀l:Bs,nlsB l=cutsC 10 l
 | []=>rfl
 | c::l=>by
  rw[nlsB,cutsC,nls_cuts l];split
  ·rfl
  ·cases cutsC 10 l<;>rfl
theorem cindex_eq (x:UInt8) (l:Bs):Lib.index (x::l) [x]=0:=by rw[Lib.index];simp[List.isPrefixOf]
theorem cindex_ne (x c:UInt8) (l:Bs) (h:c≠x):Lib.index (c::l) [x]=if Lib.index l [x] == -1 then -1 else Lib.index l [x]+1:=by
 have hp:([x]:List UInt8).isPrefixOf (c::l)=false:=by simp[List.isPrefixOf];exact fun e=>h e.symm
 rw[Lib.index,hp];simp
theorem splitK_cuts (x:UInt8):∀l:Bs,Lib.splitK [x] 0 (Lib.count l [x]) l=cutsC x l
 | []=>by rw[Lib.count_one];rfl
 | c::l=>by
  have ih:=splitK_cuts x l
  by_cases h:c=x
  ·subst h;rw[Lib.count_cons_eq,Nat.add_comm,Lib.splitK,cindex_eq,if_neg (by decide),cutsC,if_pos (by simp),←ih];simp
  ·rw[Lib.count_cons_ne c x l h,cutsC,if_neg (by simpa using h),←ih];cases hk:Lib.count l [x] with
   | zero=>rfl
   | succ k =>
    rw[Lib.splitK,Lib.splitK,cindex_ne x c l h]
    by_cases hi:Lib.index l [x]=-1
    ·simp[hi]
    ·have hge:=Lib.index_ge l [x];obtain⟨i,hi'⟩:∃i:Nat,Lib.index l [x]=i:=⟨(Lib.index l [x]).toNat,by omega⟩;have e1:((i:Int) == -1)=false:=by simp
     have e2:(((i:Int)+1) == -1)=false:=by simp;omega
     have e3:((i:Int)+1).toNat=i+1:=by omega
     rw[hi',e1];simp[e2,e3]
theorem splitB_cuts (x:UInt8) (s:ByteArray):(Lib.splitB ⟨#[x]⟩ 0 (Lib.countB s ⟨#[x]⟩) s).map (·.data.toList)=cutsC x s.data.toList:=by
 rw[Lib.splitB_data];exact splitK_cuts x _
theorem splitB_ofB (x:UInt8) (s:ByteArray):Lib.splitB ⟨#[x]⟩ 0 (Lib.countB s ⟨#[x]⟩) s=(cutsC x s.data.toList).map ofB:=by
 rw[←splitB_cuts,List.map_map];have e:(ofB ∘ fun b:ByteArray=>b.data.toList)=id:=by funext b;exact ofB_lst b
 rw[e,List.map_id]
theorem cutsC_len (x:UInt8):∀l:Bs,(cutsC x l).length≤l.length+1∧∀p∈cutsC x l,p.length≤l.length
 | []=>⟨Nat.le_refl _,fun p h=>by rw[cutsC,List.mem_singleton] at h;subst h;exact Nat.le_refl _⟩
 | c::l=>by
  have ih:=cutsC_len x l;rw[cutsC];split
  ·refine⟨by rw[List.length_cons,List.length_cons];omega,fun p h=>?_⟩
   rcases List.mem_cons.1 h with rfl|h
   ·exact Nat.zero_le _
   ·have:=ih.2 p h;rw[List.length_cons];omega
  ·split
   ·rename_i h;exact absurd h (cutsC_ne x l)
   ·rename_i p ps h;rw[h] at ih;refine⟨by rw[List.length_cons,List.length_cons];have:=ih.1;rw[List.length_cons] at this;omega,fun q hq=>?_⟩
    rcases List.mem_cons.1 hq with rfl|hq
    ·have:=ih.2 p (by simp);rw[List.length_cons,List.length_cons];omega
    ·have:=ih.2 q (by simp[hq]);rw[List.length_cons];omega
end Go.Bd
namespace Go.Proofs.YtkdknllcllhpgaaGreatDoor
open Go.RowKit Go.Bd
theorem pathAll_any {w:World}{g n c:Nat}{l:List ByteArray} (hl:∀(k:Nat) s,l[k]? = some s→w.cell? ⟨g,k,none⟩=some (.string s)) (hn:l.length=n) (hg:g<w.heap.size) (hnz:n≤1000000) (hs:∀s∈l,s.size≤100000) :
  Calls Tryz.prog 157 #[.func (.func 63) #[] #[],.slice (some ⟨g,0,none⟩) n c] w fun e w'=>e=.returned (.bool (l.all (fun s=>nameB s.data.toList)&&decide (0<n)))∧Below w.heap.size w w':=by
 have HL:=hidH3 hl hn hs;clear hl hn hs
 go_enter Tryz.func157,Tryz.ntmps157
 go_wp2_with fail
 go_loopg [9] n (fun q i wr=>∃k:Nat,k+q=n∧i=.int .i64 (k:Int)∧wr=w∧Hid ((l.take k).all (fun s=>nameB s.data.toList)=true))
 case atStart=>exact⟨0,by omega,rfl,rfl,Lib.hid rfl⟩
 case round =>
  obtain⟨k,hk,rfl,rfl,HA⟩:=hrel
  by_cases hlt:k<n
  ·obtain⟨s,hsk⟩:∃s,l[k]? = some s:=⟨_,List.getElem?_eq_getElem (by rw[HL.out.2.1];exact hlt)⟩;have q0:=HL.out.1 k s hsk;have hN:=name_any s wr (by have:=HL.out.2.2 s (List.mem_of_getElem? hsk);omega);cases hb:nameB s.data.toList
   ·rw[hb] at hN;have HN:=hidH3 hN hb hsk;clear hN hb hsk
    go_wp2_with (go_at_call 63;refine HN.out.1.mono ?_;rintro e w2 ⟨rfl,rfl⟩)
    go_ret
    refine⟨ret_bool ?_,Below.refl _ _⟩
    symm
    rw[Bool.and_eq_false_iff];left;rw[List.all_eq_false];exact⟨s,List.mem_of_getElem? HN.out.2.2,by rw[HN.out.2.1];decide⟩
   ·rw[hb] at hN;have HN:=hidH3 hN hb hsk;clear hN hb hsk
    go_wp2_with (go_at_call 63;refine HN.out.1.mono ?_;rintro e w2 ⟨rfl,rfl⟩)
    go_roundg (gk-1)
    case measure=>omega
    case rel=>exact⟨k+1,by omega,by go_num,rfl,Lib.hid (by rw[List.take_add_one,HN.out.2.2,List.all_append,HA.out];simp[HN.out.2.1])⟩
  ·obtain rfl:k=n:=by omega
   go_wp2_with fail
   go_ret
   refine⟨ret_bool ?_,Below.refl _ _⟩;have h:=HA.out;rw[List.take_of_length_le (by rw[HL.out.2.1];exact Nat.le_refl _)] at h;rw[h,Bool.true_and]
   first|done|rfl|simp
theorem path_any (s:ByteArray) (w:World) (hs:s.size≤100000){m:Int} (hm:Glob m w) :
  Calls Tryz.prog 111 #[.string s] w fun e w'=>e=.returned (.bool (pathB s.data.toList))∧Below w.heap.size w w':=by
 have hS:=Tryz.strings_Split s ⟨#[46]⟩ m w (by omega) hm.1 (by decide);have hcut:=splitB_ofB 46 s;have hlen:=Lib.splitB_all ⟨#[46]⟩ (by decide) 0 _ s rfl;have hcl:=cutsC_len 46 s.data.toList;rw[size_lst] at hcl;rw[hcut] at hS hlen;rw[List.length_map] at hlen;rw[←hlen] at hS;obtain⟨L,hL⟩:∃L,(cutsC 46 s.data.toList).map ofB=L:=⟨_,rfl⟩;have hLn:(cutsC 46 s.data.toList).length=L.length:=by rw[←hL,List.length_map]
 rw[hL,hLn] at hS;have hb:=(Below.refl w.heap.size w).alloc (Nat.le_refl _) (.cells (L.map Value.string).toArray 9);have hH:=Holds.new w 9 (L.map Value.string).toArray;have hP:pathB s.data.toList=(decide (s.size≤60)&&(L.all (fun s=>nameB s.data.toList)&&decide (0<L.length))):=by
  have h0:decide (0<L.length)=true:=decide_eq_true (by rw[←hLn];exact List.length_pos_iff.2 (cutsC_ne _ _));unfold pathB;rw[size_lst,dots_cuts,h0,Bool.and_true,←hL,List.all_map];rfl
 rw[hP];have hA:=pathAll_any (c:=L.length) (fun k u hu=>by
  rw[hH.cell];simpa using hu) rfl hH.lt (by rw[←hLn];omega) (fun u hu=>by
   rw[←hL] at hu;obtain⟨x,hx,rfl⟩:=List.mem_map.1 hu;rw[size_ofB];have:=hcl.2 x hx
   omega)
 have HX:=hidH3 hS hA hb;have hlm:L.length≤1000000:=by rw[←hLn];omega
 clear hS hcut hlen hcl hL hLn hH hP hA hb
 by_cases h60:s.size≤60
 ·have hd:decide (s.size≤60)=true:=decide_eq_true h60;rw[hd];clear hd
  go_enter Tryz.func111,Tryz.ntmps111
  go_wp2_with (first
   | (go_at_call 158;refine HX.out.1.mono ?_;rintro e w2 ⟨rfl,rfl⟩)
   | (go_at_call 157;refine HX.out.2.1.mono ?_;rintro e w3 ⟨rfl,hb3⟩))
  go_ret
  exact⟨ret_bool (by simp),HX.out.2.2.trans (hb3.mono HX.out.2.2.size)⟩
 ·have hd:decide (s.size≤60)=false:=decide_eq_false h60;rw[hd];clear hd
  go_enter Tryz.func111,Tryz.ntmps111
  go_wp2_with fail
  go_ret
  exact⟨ret_bool (by simp),Below.refl _ _⟩
end Go.Proofs.YtkdknllcllhpgaaGreatDoor
namespace Go.Bd
theorem linesT_eq (s:ByteArray):linesT s=if s.data.toList=[] then [] else (cutsC 10 (Lib.trimSuffix s.data.toList [10])).map ofB:=by
 unfold linesT;rw[nls_cuts];split
 ·rfl
 ·congr 2
  have h:=suf_eq 10 (by decide) s.data.toList
  by_cases hs:Lib.hasSuffix s.data.toList [10]=true
  ·rw[trim_suf 10 _ hs];rw[hs] at h;rw[←h,if_pos rfl]
  ·have h2:Lib.hasSuffix s.data.toList [10]=false:=by simpa using hs
   rw[h2] at h;rw[←h,if_neg (by decide)];unfold Lib.trimSuffix;rw[if_neg hs]
end Go.Bd
namespace Go.Proofs.YtkdknllcllhpgaaGreatDoor
open Go.RowKit Go.Bd
theorem Lines_any (s:ByteArray) (w:World) (hs:s.size≤1000000000){m:Int} (hm:Glob m w) :
  Calls Tryz.prog 120 #[.string s] w fun e w'=>∃x,e=.returned x∧w'.ownsRow w.heap.size 9 1 x (linesT s).length (rowTx (linesT s))∧Below w.heap.size w w':=by
 rw[linesT_eq]
 by_cases h0:s.data.toList=[]
 ·rw[if_pos h0];have hs0:s=⟨#[]⟩:=by rw[←ofB_lst s,h0];rfl
  subst hs0;clear h0
  go_enter Tryz.func120,Tryz.ntmps120
  go_wp2_with fail
  go_ret
  exact⟨_,rfl,World.ownsRow_nil _ _ _ _,Below.refl _ _⟩
 ·rw[if_neg h0];have hne:s.toList.isEmpty=false:=by
   rw[Lib.toList_data];cases h:s.data.toList with
   | nil=>exact absurd h h0
   | cons _ _=>rfl
  have hT:=Tryz.strings_TrimSuffix s ⟨#[10]⟩ w (by omega);have e10:(⟨#[10]⟩:ByteArray).data.toList=[10]:=rfl;rw[e10] at hT;obtain⟨t,ht⟩:∃t:ByteArray,ofB (Lib.trimSuffix s.data.toList [10])=t:=⟨_,rfl⟩;have htl:Lib.trimSuffix s.data.toList [10]=t.data.toList:=by rw[←ht];rfl
  have htz:t.size≤s.size:=by
   rw[←size_lst,←htl,←size_lst s];unfold Lib.trimSuffix;split
   ·rw[List.length_take];omega
   ·exact Nat.le_refl _
  have hT':Calls Tryz.prog 168 #[.string s,.string ⟨#[10]⟩] w fun e w'=>e=.returned (.string t)∧w'=w:=by rw[←ht];exact hT
  have hS:=Tryz.strings_Split t ⟨#[10]⟩ m w (by omega) hm.1 (by decide);have hcut:=splitB_ofB 10 t;have hlen:=Lib.splitB_all ⟨#[10]⟩ (by decide) 0 _ t rfl;have hcl:=cutsC_len 10 t.data.toList;rw[size_lst] at hcl;rw[hcut] at hS hlen;rw[List.length_map] at hlen;rw[←hlen] at hS;rw[htl];obtain⟨L,hL⟩:∃L,(cutsC 10 t.data.toList).map ofB=L:=⟨_,rfl⟩;have hLn:(cutsC 10 t.data.toList).length=L.length:=by rw[←hL,List.length_map]
  rw[hL,hLn] at hS;rw[hL];have hb:=(Below.refl w.heap.size w).alloc (Nat.le_refl _) (.cells (L.map Value.string).toArray 9);have ho:(w.alloc (.cells (L.map Value.string).toArray 9)).ownsRow w.heap.size 9 1 (.slice (some ⟨w.heap.size,0,none⟩) L.length L.length) L.length (rowTx L) :=
   own_shut (heap_alloc_new w _) (by simp) (by rw[Nat.mul_one];exact List.take_of_length_le (by simp)) (Nat.le_refl _) (by unfold maxLen;omega) (Nat.le_refl _)
  have HX:=hidH4 hT' hS ho hb;clear hT hT' e10 ht htl htz hS hcut hlen hcl hL hLn ho hb h0
  go_enter Tryz.func120,Tryz.ntmps120
  go_wp2_with (first
   | (go_at_call 168;refine HX.out.1.mono ?_;rintro e w2 ⟨rfl,rfl⟩)
   | (go_at_call 158;refine HX.out.2.1.mono ?_;rintro e w3 ⟨rfl,rfl⟩))
  go_ret
  exact⟨_,rfl,HX.out.2.2.1,HX.out.2.2.2⟩
end Go.Proofs.YtkdknllcllhpgaaGreatDoor
namespace Go.Proofs.YtkdknllcllhpgaaGreatDoor
open Go.RowKit Go.Bd
section
variable {w:World} {κ:Nat→Nat} {rb wm:Nat} {sv:Value} {v:Rv} {st:Ast} {stk:Stk}
def ReadP (PC:List PanicEntry) (w:World) (κ:Nat→Nat) (rb wm:Nat) (sv:Value) (v:Rv) (stk:Stk) (r:Ast) (e:Ending) (w':World):Prop :=
 if r.over=true then e=.panicked PC∧∃κ' v' stk',ARd w' κ' rb wm sv v' r stk'∧Mv w w' κ κ'
 else e=.returned (.tuple #[])∧WordQ w κ rb wm sv v stk r w'
theorem ReadP.back {PC:List PanicEntry}{r:Ast}{e:Ending}{w':World} (ho:r.over=false) (he:e=.returned (.tuple #[])) (h:WordQ w κ rb wm sv v stk r w'):ReadP PC w κ rb wm sv v stk r e w':=by
 unfold ReadP;rw[if_neg (by rw[ho];decide)];exact⟨he,h⟩
theorem a_include {PC:List PanicEntry}{S:Nat→Prop}{src:List Sc}{inc:ByteArray→ByteArray→Ast→Ast} (h:ARd w κ rb wm sv v st stk) (hov:st.over=false) (hsc:ScS w S sv src) (hS:∀k,S k→k<w.heap.size∧κ k=0) (hsn:src.length≤1000000000)
  (hd:st.diags.length≤1000000000) (hn:stk.length≤1000) (hp:0<stk.length) {m:Int} (hg:Glob m w) (l:Ln) (rest:ByteArray) (hz:rest.size≤100000)
  (hread:∀(W:World) (t:ByteArray),stk.length<16→ARd W κ rb wm sv v st stk→Mv w W κ κ→findS src rest=some t→Calls Tryz.prog 78 #[.pointer (some ⟨rb,0,none⟩),.string rest,.string t] W fun e w'=>ReadP PC W κ rb wm sv v stk (inc rest t st) e w') :
  Calls Tryz.prog 74 #[.pointer (some ⟨rb,0,none⟩),lnV l,.string rest] w fun e w'=>ReadP PC w κ rb wm sv v stk (inclM inc src (stk.map (·.1)) l rest st) e w':=by
 have hB:=(Below.refl w.heap.size w).alloc (Nat.le_refl _) (.cells #[.string l.file,.int .i64 l.no,.string l.text] 163);have hbx:=fun w' hb n hn=>@boxed_cell w l w' hb n hn
 unfold boxed at hbx;unfold lnV;obtain⟨n,hnn⟩:∃n,w.heap.size=n:=⟨_,rfl⟩;obtain⟨W1,hW1⟩:∃W1,w.alloc (.cells #[.string l.file,.int .i64 l.no,.string l.text] 163)=W1:=⟨_,rfl⟩;rw[hW1] at hbx hB;have hz1:W1.heap.size=n+1:=by rw[←hW1,←hnn];simp
 obtain⟨W2,hW2⟩:∃W2,W1.alloc (.cells #[.string rest] 9)=W2:=⟨_,rfl⟩;have hB2:Below W1.heap.size W1 W2:=by rw[←hW2];exact (Below.refl _ _).alloc (Nat.le_refl _) _
 have hH2:Holds W2 (n+1) 9 #[.string rest]:=by rw[←hz1,←hW2];exact Holds.new _ _ _
 have hbt:Below w.heap.size w W2:=hB.trans (hB2.mono (by rw[hnn,hz1];omega));have h2:=h.below hbt;have hm2:=Mv.below hbt κ;have HB:=hidH6 h2 hm2 hbx hnn hH2 hB2;have HS:=hidH6 hov hsc hS hg h.three hread;have HZ:=hidH4 hW1 hnn hW2 hz1;clear h h2 hm2 hbx hB hB2 hH2 hbt hov hsc hS hg hread hW1 hnn hW2 hz1;have hglob:∀W,Mv w W κ κ→Glob m W:=fun W hW=>HS.out.2.2.2.1.chg hW.chg (fun k hk=>HS.out.2.2.2.2.1 k hk)
 have hC:=path_any rest W2 hz (hglob W2 HB.out.2.1);have HC:=Lib.hid hC;clear hC hglob;cases hpb:pathB rest.data.toList with
 | false =>
  rw[hpb] at HC;have hr:inclM inc src (stk.map (·.1)) l rest st=st.tell l 3 l.text:=by unfold inclM;rw[if_pos hpb]
  have HRR:=Lib.hid hr;clear hr hpb
  go_enter Tryz.func74,Tryz.ntmps74
  go_wp2_with fail
  (try rw[HZ.out.1])
  (try rw[HZ.out.2.1])
  (try rw[HZ.out.2.2.1])
  (try rw[HZ.out.2.2.2])
  refine HC.out.mono ?_;rintro e w3 ⟨rfl,hb3⟩;have h3:=HB.out.1.below hb3;have hbb3:=HB.out.2.2.2.2.2.trans (hb3.mono HB.out.2.2.2.2.2.size);obtain⟨d0,d1,d2⟩:=HB.out.2.2.1 w3 hbb3 n HB.out.2.2.2.1;have hH3:=HB.out.2.2.2.2.1.below hb3 HB.out.2.2.2.2.1.lt;have r0:=hH3.cell 0;have c3:=h3.hold.cell 3;simp at r0 c3;have H3:=hidH4 h3 (HB.out.2.1.trans (Mv.below hb3 κ)) hH3 hbb3;clear h3 hH3 hbb3 hb3
  go_wp2_with fail
  refine (a_tell H3.out.1 l.file l.text l.no 3 l.text hd).mono ?_;rintro e w9 ⟨rfl,κ',dv',hr9,hm9⟩;go_wp2;refine bodyPost_ret (results_none rfl _ _ _) rfl ?_;rw[HRR.out];exact ReadP.back HS.out.1 rfl ⟨κ',{ v with dv:=dv' },rfl,hr9,H3.out.2.1.trans hm9⟩
 | true =>
  rw[hpb] at HC;have HP:=Lib.hid hpb;clear hpb;cases hho:hasN (stk.map (·.1)) rest with
  | true =>
   have hr:inclM inc src (stk.map (·.1)) l rest st=st.tell l 2 rest:=by unfold inclM;rw[if_neg (by rw[HP.out];decide),if_pos hho]
   have HRR:=Lib.hid hr;clear hr
   go_enter Tryz.func74,Tryz.ntmps74
   go_wp2_with fail
   (try rw[HZ.out.1])
   (try rw[HZ.out.2.1])
   (try rw[HZ.out.2.2.1])
   (try rw[HZ.out.2.2.2])
   refine HC.out.mono ?_;rintro e w3 ⟨rfl,hb3⟩;have h3:=HB.out.1.below hb3;have hbb3:=HB.out.2.2.2.2.2.trans (hb3.mono HB.out.2.2.2.2.2.size);obtain⟨d0,d1,d2⟩:=HB.out.2.2.1 w3 hbb3 n HB.out.2.2.2.1;have hH3:=HB.out.2.2.2.2.1.below hb3 HB.out.2.2.2.2.1.lt;have r0:=hH3.cell 0;have c3:=h3.hold.cell 3;simp at r0 c3;have H3:=hidH4 h3 (HB.out.2.1.trans (Mv.below hb3 κ)) hH3 hbb3;clear h3 hH3 hbb3 hb3;have hO:=isOpen_any H3.out.1 hn hp H3.out.2.2.1;rw[hho] at hO;have HO:=hidH2 hO hho;clear hO hho c3;obtain⟨A4,c4,hvo,_⟩:=own_rowL H3.out.1.opens;have c3:=H3.out.1.hold.cell 3;simp at c3;have HVO:=Lib.hid hvo;clear hvo
   go_wp2_with fail
   refine HO.out.1.mono ?_;rintro e w4 ⟨rfl,hb4⟩;have h4:=H3.out.1.below hb4;have hbb4:=H3.out.2.2.2.trans (hb4.mono H3.out.2.2.2.size);clear d0 d1 d2 r0 c3;obtain⟨d0,d1,d2⟩:=HB.out.2.2.1 w4 hbb4 n HB.out.2.2.2.1;have hH4:=H3.out.2.2.1.below hb4 H3.out.2.2.1.lt;have r0:=hH4.cell 0;have c3:=h4.hold.cell 3;have c0:=h4.hold.cell 0;simp at r0 c3 c0;rw[HVO.out] at c3;have H4:=hidH4 h4 (H3.out.2.1.trans (Mv.below hb4 κ)) hH4 hbb4;clear h4 hH4 hbb4 hb4
   go_wp2_with fail
   refine (a_tell H4.out.1 l.file l.text l.no 2 rest hd).mono ?_;rintro e w9 ⟨rfl,κ',dv',hr9,hm9⟩;go_wp2;refine bodyPost_ret (results_none rfl _ _ _) rfl ?_;rw[HRR.out];exact ReadP.back HS.out.1 rfl ⟨κ',{ v with dv:=dv' },rfl,hr9,H4.out.2.1.trans hm9⟩
  | false =>
   by_cases h16:16≤stk.length
   ·have hr:inclM inc src (stk.map (·.1)) l rest st=st.tell l 5 rest:=by unfold inclM;rw[if_neg (by rw[HP.out];decide),if_neg (by rw[hho];decide),if_pos (by rw[List.length_map];exact h16)]
    have HRR:=Lib.hid hr;clear hr
    go_enter Tryz.func74,Tryz.ntmps74
    go_wp2_with fail
    (try rw[HZ.out.1])
    (try rw[HZ.out.2.1])
    (try rw[HZ.out.2.2.1])
    (try rw[HZ.out.2.2.2])
    refine HC.out.mono ?_;rintro e w3 ⟨rfl,hb3⟩;have h3:=HB.out.1.below hb3;have hbb3:=HB.out.2.2.2.2.2.trans (hb3.mono HB.out.2.2.2.2.2.size);obtain⟨d0,d1,d2⟩:=HB.out.2.2.1 w3 hbb3 n HB.out.2.2.2.1;have hH3:=HB.out.2.2.2.2.1.below hb3 HB.out.2.2.2.2.1.lt;have r0:=hH3.cell 0;have c3:=h3.hold.cell 3;simp at r0 c3;have H3:=hidH4 h3 (HB.out.2.1.trans (Mv.below hb3 κ)) hH3 hbb3;clear h3 hH3 hbb3 hb3;have hO:=isOpen_any H3.out.1 hn hp H3.out.2.2.1;rw[hho] at hO;have HO:=hidH2 hO hho;clear hO hho c3;obtain⟨A4,c4,hvo,_⟩:=own_rowL H3.out.1.opens;have c3:=H3.out.1.hold.cell 3;simp at c3;have HVO:=Lib.hid hvo;clear hvo
    go_wp2_with fail
    refine HO.out.1.mono ?_;rintro e w4 ⟨rfl,hb4⟩;have h4:=H3.out.1.below hb4;have hbb4:=H3.out.2.2.2.trans (hb4.mono H3.out.2.2.2.size);clear d0 d1 d2 r0 c3;obtain⟨d0,d1,d2⟩:=HB.out.2.2.1 w4 hbb4 n HB.out.2.2.2.1;have hH4:=H3.out.2.2.1.below hb4 H3.out.2.2.1.lt;have r0:=hH4.cell 0;have c3:=h4.hold.cell 3;have c0:=h4.hold.cell 0;simp at r0 c3 c0;rw[HVO.out] at c3;have H4:=hidH4 h4 (H3.out.2.1.trans (Mv.below hb4 κ)) hH4 hbb4;clear h4 hH4 hbb4 hb4
    go_wp2_with fail
    refine (a_tell H4.out.1 l.file l.text l.no 5 rest hd).mono ?_;rintro e w9 ⟨rfl,κ',dv',hr9,hm9⟩;go_wp2;refine bodyPost_ret (results_none rfl _ _ _) rfl ?_;rw[HRR.out];exact ReadP.back HS.out.1 rfl ⟨κ',{ v with dv:=dv' },rfl,hr9,H4.out.2.1.trans hm9⟩
   ·obtain⟨A0,cp0,hsv,hcp0,hsc1⟩:=HS.out.2.1;have hF:=fun W (hW:Mv w W κ κ)=>Find_any (TwoS.chg HS.out.2.1 hW.chg (fun k hk e=>e (HS.out.2.2.1 k hk).2)) (fun k hk=>Nat.lt_of_lt_of_le (HS.out.2.2.1 k hk).1 hW.chg.size) hsn rest
    have hr:inclM inc src (stk.map (·.1)) l rest st=match findS src rest with|none=>st.tell l 1 rest|some t=>inc rest t st:=by unfold inclM;rw[if_neg (by rw[HP.out];decide),if_neg (by rw[hho];decide),if_neg (by rw[List.length_map];exact h16)];rfl
    have HSV:=Lib.hid hsv;have HN16:Hid (stk.length<16):=Lib.hid (by omega);rw[List.length_map] at hsv;rw[hsv] at hF;clear hsv hcp0 hsc1;have HFF:=Lib.hid hF;clear hF;cases hfs:findS src rest with
    | none =>
     rw[hfs] at hr HFF;have HRR:=Lib.hid hr;clear hr hfs;unfold getV at HFF
     go_enter Tryz.func74,Tryz.ntmps74
     go_wp2_with fail
     (try rw[HZ.out.1])
     (try rw[HZ.out.2.1])
     (try rw[HZ.out.2.2.1])
     (try rw[HZ.out.2.2.2])
     refine HC.out.mono ?_;rintro e w3 ⟨rfl,hb3⟩;have h3:=HB.out.1.below hb3;have hbb3:=HB.out.2.2.2.2.2.trans (hb3.mono HB.out.2.2.2.2.2.size);obtain⟨d0,d1,d2⟩:=HB.out.2.2.1 w3 hbb3 n HB.out.2.2.2.1;have hH3:=HB.out.2.2.2.2.1.below hb3 HB.out.2.2.2.2.1.lt;have r0:=hH3.cell 0;have c3:=h3.hold.cell 3;simp at r0 c3;have H3:=hidH4 h3 (HB.out.2.1.trans (Mv.below hb3 κ)) hH3 hbb3;clear h3 hH3 hbb3 hb3;have hO:=isOpen_any H3.out.1 hn hp H3.out.2.2.1;rw[hho] at hO;have HO:=hidH2 hO hho;clear hO hho c3;obtain⟨A4,c4,hvo,_⟩:=own_rowL H3.out.1.opens;have c3:=H3.out.1.hold.cell 3;simp at c3;have HVO:=Lib.hid hvo;clear hvo
     go_wp2_with fail
     refine HO.out.1.mono ?_;rintro e w4 ⟨rfl,hb4⟩;have h4:=H3.out.1.below hb4;have hbb4:=H3.out.2.2.2.trans (hb4.mono H3.out.2.2.2.size);clear d0 d1 d2 r0 c3;obtain⟨d0,d1,d2⟩:=HB.out.2.2.1 w4 hbb4 n HB.out.2.2.2.1;have hH4:=H3.out.2.2.1.below hb4 H3.out.2.2.1.lt;have r0:=hH4.cell 0;have c3:=h4.hold.cell 3;have c0:=h4.hold.cell 0;simp at r0 c3 c0;rw[HVO.out] at c3;have H4:=hidH4 h4 (H3.out.2.1.trans (Mv.below hb4 κ)) hH4 hbb4;clear h4 hH4 hbb4 hb4;have hsv:=HSV.out;rw[List.length_map] at hsv;rw[hsv] at c0;clear hsv
     go_wp2_with fail
     have hF4:=HFF.out w4.drew (H4.out.2.1.trans (Mv.below (Below.refl _ w4).drew κ));have HF4:=Lib.hid hF4;clear hF4
     go_region_with (go_at_call 25;refine HF4.out.mono ?_;rintro e w5 ⟨rfl,hb5⟩)
     all_goals (
      have hbd:Below w4.heap.size w4 w5:=((Below.refl w4.heap.size w4).drew).trans hb5;have h5:=H4.out.1.below hbd;clear d0 d1 d2 r0 c3 c0;obtain⟨d0,d1,d2⟩:=HB.out.2.2.1 w5 (H4.out.2.2.2.trans (hbd.mono H4.out.2.2.2.size)) n HB.out.2.2.2.1;have hH5:=H4.out.2.2.1.below hbd H4.out.2.2.1.lt;have r0:=hH5.cell 0;simp at r0;have H5:=hidH3 h5 (H4.out.2.1.trans (Mv.below hbd κ)) hH5;clear h5 hH5 hbd hb5
      go_wp2_with fail
      refine (a_tell H5.out.1 l.file l.text l.no 1 rest hd).mono ?_;rintro e w9 ⟨rfl,κ',dv',hr9,hm9⟩;go_wp2;refine bodyPost_ret (results_none rfl _ _ _) rfl ?_;rw[HRR.out];exact ReadP.back HS.out.1 rfl ⟨κ',{ v with dv:=dv' },rfl,hr9,H5.out.2.1.trans hm9⟩)
    | some t =>
     rw[hfs] at hr HFF;have HRR:=Lib.hid hr;have HFS:=Lib.hid hfs;clear hr hfs;unfold getV at HFF
     go_enter Tryz.func74,Tryz.ntmps74
     go_wp2_with fail
     (try rw[HZ.out.1])
     (try rw[HZ.out.2.1])
     (try rw[HZ.out.2.2.1])
     (try rw[HZ.out.2.2.2])
     refine HC.out.mono ?_;rintro e w3 ⟨rfl,hb3⟩;have h3:=HB.out.1.below hb3;have hbb3:=HB.out.2.2.2.2.2.trans (hb3.mono HB.out.2.2.2.2.2.size);obtain⟨d0,d1,d2⟩:=HB.out.2.2.1 w3 hbb3 n HB.out.2.2.2.1;have hH3:=HB.out.2.2.2.2.1.below hb3 HB.out.2.2.2.2.1.lt;have r0:=hH3.cell 0;have c3:=h3.hold.cell 3;simp at r0 c3;have H3:=hidH4 h3 (HB.out.2.1.trans (Mv.below hb3 κ)) hH3 hbb3;clear h3 hH3 hbb3 hb3;have hO:=isOpen_any H3.out.1 hn hp H3.out.2.2.1;rw[hho] at hO;have HO:=hidH2 hO hho;clear hO hho c3;obtain⟨A4,c4,hvo,_⟩:=own_rowL H3.out.1.opens;have c3:=H3.out.1.hold.cell 3;simp at c3;have HVO:=Lib.hid hvo;clear hvo
     go_wp2_with fail
     refine HO.out.1.mono ?_;rintro e w4 ⟨rfl,hb4⟩;have h4:=H3.out.1.below hb4;have hbb4:=H3.out.2.2.2.trans (hb4.mono H3.out.2.2.2.size);clear d0 d1 d2 r0 c3;obtain⟨d0,d1,d2⟩:=HB.out.2.2.1 w4 hbb4 n HB.out.2.2.2.1;have hH4:=H3.out.2.2.1.below hb4 H3.out.2.2.1.lt;have r0:=hH4.cell 0;have c3:=h4.hold.cell 3;have c0:=h4.hold.cell 0;simp at r0 c3 c0;rw[HVO.out] at c3;have H4:=hidH4 h4 (H3.out.2.1.trans (Mv.below hb4 κ)) hH4 hbb4;clear h4 hH4 hbb4 hb4;have hsv:=HSV.out;rw[List.length_map] at hsv;rw[hsv] at c0;clear hsv
     go_wp2_with fail
     have hF4:=HFF.out w4.drew (H4.out.2.1.trans (Mv.below (Below.refl _ w4).drew κ));have HF4:=Lib.hid hF4;clear hF4
     go_region_with (go_at_call 25;refine HF4.out.mono ?_;rintro e w5 ⟨rfl,hb5⟩)
     all_goals (
      have hbd:Below w4.heap.size w4 w5:=((Below.refl w4.heap.size w4).drew).trans hb5;have h5:=H4.out.1.below hbd;clear d0 d1 d2 r0 c3 c0;obtain⟨d0,d1,d2⟩:=HB.out.2.2.1 w5 (H4.out.2.2.2.trans (hbd.mono H4.out.2.2.2.size)) n HB.out.2.2.2.1;have hH5:=H4.out.2.2.1.below hbd H4.out.2.2.1.lt;have r0:=hH5.cell 0;simp at r0;have H5:=hidH3 h5 (H4.out.2.1.trans (Mv.below hbd κ)) hH5;clear h5 hH5 hbd hb5
      go_wp2_with fail
      refine (HS.out.2.2.2.2.2 w5 t HN16.out H5.out.1 H5.out.2.1 HFS.out).mono ?_;rintro e w9 hR;unfold ReadP at hR
      by_cases ho:(inc rest t st).over=true
      ·rw[if_pos ho] at hR;obtain⟨rfl,κ',v',stk',hr9,hm9⟩:=hR;go_wp2;refine⟨rfl,?_⟩
       show ReadP PC w κ rb wm sv v stk (inclM inc src (stk.map (·.1)) l rest st) (.panicked PC) w9
       rw[HRR.out];unfold ReadP;rw[if_pos ho];exact⟨rfl,κ',v',stk',hr9,H5.out.2.1.trans hm9⟩
      ·rw[if_neg ho] at hR;obtain⟨rfl,κ',v',hv9,hr9,hm9⟩:=hR;go_wp2
       go_end0
       rw[HRR.out];unfold ReadP;rw[if_neg ho];exact⟨rfl,κ',v',hv9,hr9,H5.out.2.1.trans hm9⟩)
end
section
variable {w:World} {κ:Nat→Nat} {rb wm:Nat} {sv:Value} {v:Rv} {st:Ast} {pre:Stk} {nm:ByteArray} {cs:List Cd} {pb:List (Nat×Value)} {b:Nat} {rv:Value}
theorem asks_lines:∀(l:List ByteArray) (s:Ast),(s.asks l).lines=s.lines
 | [],s=>rfl
 | n::l,s=>by
  have h:=asks_lines l (s.ask n);have e:(s.ask n).lines=s.lines:=by
   unfold Ast.ask;split<;>rfl
  exact h.trans e
theorem ofB_drop (s:ByteArray):s.extract 1 s.size=ofB (s.data.toList.drop 1):=by
 rw[←ofB_lst (s.extract 1 s.size),ext_lst,List.take_of_length_le (by rw[size_lst];exact Nat.le_refl _)]
theorem pre_len {s:Bs} (h:Lib.hasPrefix s [92,64]=true):2≤s.length:=by
 unfold Lib.hasPrefix at h;exact (List.isPrefixOf_iff_prefix.1 h).length_le
theorem lnA_info:(Tryz.prog.info? tLn).map (fun i=>(i.zero,i.size,i.bytes))=some (some (.agg #[.string ⟨#[]⟩,.int .i64 0,.string ⟨#[]⟩]),3,40):=by kernel_rfl
theorem lns_under:Tryz.prog.underlying 73=some (.slice tLn):=by kernel_rfl
theorem line_text {inc:ByteArray→ByteArray→Ast→Ast}{src:List Sc}{opens:List ByteArray} (h:ARd w κ rb wm sv v st (pre++[(nm,cs)])) (hv:v.sb=pb++[(b,rv)]) (hn:pre.length≤1000) (hc:cs.length≤100000) (hvs:Vals st) (hat:st.attrs.length≤1000000000) (ha:st.asked.length≤100000000000) (hll:st.lines.length≤1000000000) (l:Ln) (hz:l.text.size≤1000000) (hx:l.text.data.toList.headD 0≠64) :
  Calls Tryz.prog 121 #[.pointer (some ⟨rb,0,none⟩),lnV l] w fun e w'=>e=.returned (.tuple #[])∧WordP w κ rb wm sv pre nm pb b (lineM inc src opens l st cs) w':=by
 have hB:=(Below.refl w.heap.size w).alloc (Nat.le_refl _) (.cells #[.string l.file,.int .i64 l.no,.string l.text] 163);have h1:=h.below hB;have hm1:=Mv.below hB κ;have hbx:=fun w' hb n hn=>@boxed_cell w l w' hb n hn
 unfold boxed at hbx;unfold lnV;obtain⟨n,hnn⟩:∃n,w.heap.size=n:=⟨_,rfl⟩;obtain⟨W1,hW1⟩:∃W1,w.alloc (.cells #[.string l.file,.int .i64 l.no,.string l.text] 163)=W1:=⟨_,rfl⟩;rw[hW1] at h1 hm1 hbx;have HB:=hidH4 h1 hm1 hbx hnn;have HW:=hidH2 hW1 hnn;obtain⟨d0,d1,d2⟩:=hbx W1 (Below.refl _ _) n hnn;have HX:=Lib.hid h.lt;clear h1 hm1 hbx hB h hW1 hnn;have hP:=Tryz.strings_HasPrefix l.text ⟨#[64]⟩ W1;have e64:(⟨#[64]⟩:ByteArray).data.toList=[64]:=rfl;rw[e64,pre_eq 64 (by decide),beq_eq_false_iff_ne.2 hx] at hP;have hL:lineM inc src opens l st cs=if force cs then ({ st.fill (ofB (if Lib.hasPrefix l.text.data.toList [92,64] then l.text.data.toList.drop 1 else l.text.data.toList)) with lines:=(st.fill (ofB (if Lib.hasPrefix l.text.data.toList [92,64] then l.text.data.toList.drop 1 else l.text.data.toList))).lines++[⟨l.file,l.no,fillT st.attrs (ofB (if Lib.hasPrefix l.text.data.toList [92,64] then l.text.data.toList.drop 1 else l.text.data.toList))⟩] },cs) else (st,cs):=by
  unfold lineM;dsimp only;rw[if_neg (by simpa using hx)]
 have HP:=hidH3 hP hL hvs;clear hP hL e64 hx hvs;have HF:Hid (force cs=force cs):=Lib.hid rfl;cases hf:force cs with
 | false =>
  have HFF:=Lib.hid hf;clear hf
  go_enter Tryz.func121,Tryz.ntmps121
  go_wp2_with fail
  (try rw[HW.out.1])
  (try rw[HW.out.2])
  refine HP.out.1.mono ?_;rintro e w2 ⟨rfl,rfl⟩
  go_wp2_with fail
  refine (a_top HB.out.1 hv hn).mono ?_;rintro e w3 ⟨rfl,hb3⟩;have H3:=hidH2 (HB.out.1.below hb3) (HB.out.2.1.trans (Mv.below hb3 κ));clear hb3
  go_wp2_with fail
  have hfo:=a_force_any (H3.out.1.last hv) hc;rw[HFF.out] at hfo;refine hfo.mono ?_;rintro e w4 ⟨rfl,hb4⟩;have H4:=hidH2 (H3.out.1.below hb4) (H3.out.2.trans (Mv.below hb4 κ));clear hb4 hfo;go_wp2
  first|refine bodyPost_ret (results_none rfl _ _ _) rfl ?_|go_end0
  refine⟨rfl,?_⟩;rw[HP.out.2.1,HFF.out,if_neg (by decide)];exact⟨κ,v,rv,hv,H4.out.1,H4.out.2⟩
 | true =>
  have HFF:=Lib.hid hf;clear hf;obtain⟨tx,htx⟩:∃tx,ofB (if Lib.hasPrefix l.text.data.toList [92,64] then l.text.data.toList.drop 1 else l.text.data.toList)=tx:=⟨_,rfl⟩;have hL:=HP.out.2.1;rw[htx,HFF.out,if_pos rfl] at hL;have htz:tx.size≤l.text.size:=by
   rw[←htx,size_ofB,←size_lst l.text];split
   ·rw[List.length_drop];omega
   ·exact Nat.le_refl _
  have HT:=hidH2 htx hL;clear htx hL
  go_enter Tryz.func121,Tryz.ntmps121
  go_wp2_with fail
  (try rw[HW.out.1])
  (try rw[HW.out.2])
  refine HP.out.1.mono ?_;rintro e w2 ⟨rfl,rfl⟩
  go_wp2_with fail
  refine (a_top HB.out.1 hv hn).mono ?_;rintro e w3 ⟨rfl,hb3⟩;have H3:=hidH3 (HB.out.1.below hb3) (HB.out.2.1.trans (Mv.below hb3 κ)) hb3;clear hb3
  go_wp2_with fail
  have hfo:=a_force_any (H3.out.1.last hv) hc;rw[HFF.out] at hfo;refine hfo.mono ?_;rintro e w4 ⟨rfl,hb4⟩;have hbb4:=H3.out.2.2.trans (hb4.mono H3.out.2.2.size);clear d0 d1 d2;obtain⟨d0,d1,d2⟩:=HB.out.2.2.1 w4 hbb4 n HB.out.2.2.2;have H4:=hidH3 (H3.out.1.below hb4) (H3.out.2.1.trans (Mv.below hb4 κ)) hbb4;clear hb4 hfo hbb4;have hP2:=Tryz.strings_HasPrefix l.text ⟨#[92,64]⟩ w4;have e92:(⟨#[92,64]⟩:ByteArray).data.toList=[92,64]:=rfl;rw[e92] at hP2;obtain⟨hp,hhp⟩:∃hp,Lib.hasPrefix l.text.data.toList [92,64]=hp:=⟨_,rfl⟩;rw[hhp] at hP2;have HHP:=hidH2 hhp hP2;clear hhp hP2 e92
  go_wp2_with fail
  refine HHP.out.2.mono ?_;rintro e w5 ⟨rfl,rfl⟩
  go_upto_if 20 with fail
  go_cut [4] (fun s4 wx=>s4=.string tx∧wx=w5)
  case first =>
   cases hp
   ·go_wp2_with fail
    go_meet
    case rel =>
     refine⟨?_,rfl⟩;have h:=HT.out.1;rw[HHP.out.1,if_neg (by decide),ofB_lst] at h;rw[h]
   ·have h2:=pre_len HHP.out.1;rw[size_lst] at h2
    go_wp2_with fail
    go_meet
    case rel =>
     refine⟨?_,rfl⟩;have h:=HT.out.1;rw[HHP.out.1,if_pos rfl,←ofB_drop] at h;rw[h]
  case rest =>
   obtain⟨h4,h5⟩:=hcut;subst h4;subst h5;obtain⟨ls,hls⟩:∃ls,st.lines=ls:=⟨_,rfl⟩;have hfl:(st.fill tx).lines=ls:=by rw[←hls];exact asks_lines _ _
   obtain⟨A,c,hlv,hlc⟩:=own_rowL H4.out.1.lines;rw[hls] at hlv hlc hll;have c8:=H4.out.1.hold.cell 8;simp at c8;rw[hlv] at c8;have hF:=fun W (hW:Below wc.heap.size wc W)=>a_fill (H4.out.1.below hW) HP.out.2.2 hat tx (by omega) ha
   obtain⟨ft,hft⟩:∃ft,fillT st.attrs tx=ft:=⟨_,rfl⟩;rw[hft] at hF;obtain⟨i0,hi0,hz0,hz1,hz2⟩:=info_parts lnA_info;have HI:=hidH4 hi0 hz0 hz1 hz2;have HL:=hidH5 hlv hls hfl hft hF;have hk0:κ n=0:=by
    by_cases e:κ n=0
    ·exact e
    ·exact absurd (HX.out n e) (by have:=HB.out.2.2.2;omega)
   have HK:=Lib.hid hk0;clear hi0 hz0 hz1 hz2 hlv hls hfl hft hF hk0 d2;generalize hlsl:ls.length=lsl at *;have HLS:=Lib.hid hlsl;clear hlsl
   go_upto_region 6 with fail
   refine wp_region_held_drew (S:=(fun w'=>w'.cell? ⟨n,0,none⟩=some (.string l.file)∧w'.cell? ⟨n,1,none⟩=some (.int .i64 l.no))) (by kernel_rfl) ?_ (fun hHeld0=>?_)
   ·(try dsimp only)
    first|exact⟨d0,d1⟩|exact D6|exact E6|exact G6|exact K6
   refine tkH 0 23 ?_;refine tkH 1 24 ?_;refine tkH 2 25 ?_;refine tkH 3 26 ?_;refine tkH 5 28 ?_;refine tkH 6 29 ?_;refine tkH 7 30 ?_;refine tkH 8 31 ?_;refine tkH 9 32 ?_;refine tkH 10 33 ?_;refine rdyH [4,11] ?_;refine AllReadyH.cons (o:=⟨some 27,_,_,_,_,_⟩) rfl (fun K hK=>?_) ?_
   ·skip
    go_simp;refine hK.out _ _ ?_ (fun hHeld1=>?_)
    ·(try dsimp only)
     first|exact⟨d0,d1⟩|exact D6|exact E6|exact G6|exact K6
    clear hK K hHeld0
    (try go_frame)
    refine rdyH [11] ?_;refine AllReadyH.cons (o:=⟨some 34,_,_,_,_,_⟩) rfl (fun K hK=>?_) AllReadyH.nil;go_simp;refine (HL.out.2.2.2.2 _ ((Below.refl wc.heap.size wc).drew)).mono ?_;rintro e w6 ⟨rfl,h6,hm6⟩;have D6:w6.cell? ⟨n,0,none⟩=some (.string l.file)∧w6.cell? ⟨n,1,none⟩=some (.int .i64 l.no):=⟨hm6.chg.cell (p:=⟨n,0,none⟩) (fun e=>e HK.out) d0,hm6.chg.cell (p:=⟨n,1,none⟩) (fun e=>e HK.out) d1⟩;have c86:=h6.hold.cell 8;simp at c86;rw[HL.out.1] at c86;have hrl:rb<w6.heap.size:=h6.hold.lt;have hnl:n<w6.heap.size:=World.block_lt_of_cell? _ _ D6.1;have E6:(w6.alloc (.cells #[.string l.file,.int .i64 l.no,.string ft] 107)).cell? ⟨n,0,none⟩=some (.string l.file)∧(w6.alloc (.cells #[.string l.file,.int .i64 l.no,.string ft] 107)).cell? ⟨n,1,none⟩=some (.int .i64 l.no):=⟨by rw[World.cell?_alloc_lt _ _ _ hnl];exact D6.1,by rw[World.cell?_alloc_lt _ _ _ hnl];exact D6.2⟩;have e86:(w6.alloc (.cells #[.string l.file,.int .i64 l.no,.string ft] 107)).cell? ⟨rb,8,none⟩=some (.slice A lsl c):=by rw[World.cell?_alloc_lt _ _ _ hrl];exact c86
    have H6:=hidH2 h6 hm6;clear h6 hm6;refine hK.out _ _ ?_ (fun hHeld2=>?_)
    ·(try dsimp only)
     first|exact⟨d0,d1⟩|exact D6|exact E6|exact G6|exact K6
    clear hK K hHeld1
    (try go_frame)
    refine tkH 12 35 ?_;refine rdyH [13] ?_;refine AllReadyH.cons (o:=⟨some 36,_,_,_,_,_⟩) rfl (fun K hK=>?_) AllReadyH.nil;go_simp;refine hK.out _ _ ?_ (fun hHeld3=>?_)
    ·(try dsimp only)
     first|exact⟨d0,d1⟩|exact D6|exact E6|exact G6|exact K6
    clear hK K hHeld2
    (try go_frame)
    refine rdyH [14] ?_;refine AllReadyH.cons (o:=⟨some 37,_,_,_,_,_⟩) rfl (fun K hK=>?_) AllReadyH.nil;have hrow:w6.ownsRow 0 tLn 3 (.slice A lsl c) lsl (rowLn ls):=by
     have h:=H6.out.1.lines;rw[HL.out.2.2.1,HLS.out,HL.out.1] at h;exact h
    refine step_append_lies _ (by rfl) _ _ _ (by rfl) 0 107 i0 _ 3 40 lns_under HI.out.1 HI.out.2.1 HI.out.2.2.1 HI.out.2.2.2 rfl (by omega) (.slice A lsl c) lsl (rowLn ls) (by rfl) (hrow.alloc _)
     ⟨w6.heap.size,0,none⟩ 1 1 [.string l.file,.int .i64 l.no,.string ft] (by rfl) (by rfl) (World.news_of_block (cs:=#[.string l.file,.int .i64 l.no,.string ft]) (t:=107) (fr:=(0,0)) (heap_alloc_new w6 _)) (by simp[Value.oneCell'])
     (by omega) (by unfold maxLen;omega) (by omega) (Nat.zero_le _) (w6.heap.size+1) (by simp) ?_
    intro g cap w8 ho8 hg8 hat8 hl8;have hC8:Chg w6 w8 (fun k=>(Value.slice A lsl c).ownBlock=some k):=((Chg.refl w6 _).alloc _).trans (Chg.grown hg8) (fun _ _ h=>h.symm);have hkr:(Value.slice A lsl c).ownBlock≠some rb:=fun e=>by have h1:=H6.out.1.kL rb (by rw[HL.out.1];exact e);have h2:=H6.out.1.kR;omega
    have hon:(Value.slice A lsl c).ownBlock≠some n:=fun e=>by have h1:=H6.out.1.kL n (by rw[HL.out.1];exact e);have h2:=HK.out;omega
    have hgb:g≠rb:=fun e=>by
     rcases hat8 with h|h
     ·exact hkr (by rw[h,e])
     ·omega
    have hrn:rb≠n:=fun e=>by have h1:=H6.out.1.kR;have h2:=HK.out;rw[e] at h1;omega
    have hh8:=hC8.holds hkr H6.out.1.hold;have G6:w8.cell? ⟨n,0,none⟩=some (.string l.file)∧w8.cell? ⟨n,1,none⟩=some (.int .i64 l.no):=⟨hC8.cell (p:=⟨n,0,none⟩) hon D6.1,hC8.cell (p:=⟨n,1,none⟩) hon D6.2⟩;have K6:(w8.setCell ⟨rb,8,none⟩ (.slice (some ⟨g,0,none⟩) (lsl+1) cap)).cell? ⟨n,0,none⟩=some (.string l.file)∧(w8.setCell ⟨rb,8,none⟩ (.slice (some ⟨g,0,none⟩) (lsl+1) cap)).cell? ⟨n,1,none⟩=some (.int .i64 l.no):=⟨cell_far (g:=rb) (i:=8) (j:=0) hrn _ G6.1,cell_far (g:=rb) (i:=8) (j:=1) hrn _ G6.2⟩;have k8:=hh8.cell 8;have f8:=hh8.free 8;simp at k8;have H8:=hidH5 hC8 ho8 hat8 hh8 hl8;clear hC8 ho8 hg8 hat8 hh8 hl8 hkr hon hrow;refine hK.out _ _ ?_ (fun hHeld4=>?_)
    ·(try dsimp only)
     first|exact⟨d0,d1⟩|exact D6|exact E6|exact G6|exact K6
    clear hK K hHeld3
    (try go_frame)
    refine tkH 15 38 ?_;refine tkH 16 39 ?_;refine rdyH [17] ?_;refine AllReadyH.cons rfl (fun K hK=>?_) AllReadyH.nil;go_simp;refine hK.out _ _ ?_ (fun hHeld5=>?_)
    ·(try dsimp only)
     first|exact⟨d0,d1⟩|exact D6|exact E6|exact G6|exact K6
    clear hK K hHeld4
    (try go_frame)
    refine wpAnyH_done (by kernel_rfl) ?_ _;go_wp2
    first|refine bodyPost_ret (results_none rfl _ _ _) rfl ?_|go_end0
    have hlsl:=HLS.out;subst hlsl;have hA:=line_done (d:=⟨l.file,l.no,ft⟩) H6.out.1 HL.out.1 HL.out.2.2.1 H8.out.1 H8.out.2.1 H8.out.2.2.1 H8.out.2.2.2.1 H8.out.2.2.2.2 hgb;have hM:=line_mv H6.out.1 HL.out.1 HL.out.2.2.1 H8.out.1 H8.out.2.2.1 H8.out.2.2.2.2 (cap:=cap);refine⟨rfl,?_⟩;rw[HT.out.2,HL.out.2.2.2.1];exact⟨_,{ v with lv:=.slice (some ⟨g,0,none⟩) (ls.length+1) cap },rv,hv,hA,(H4.out.2.1.trans (Mv.below ((Below.refl wc.heap.size wc).drew) κ)).trans (H6.out.2.trans hM)⟩
   refine AllReadyH.cons (o:=⟨some 34,_,_,_,_,_⟩) rfl (fun K hK=>?_) AllReadyH.nil;go_simp;refine (HL.out.2.2.2.2 _ ((Below.refl wc.heap.size wc).drew)).mono ?_;rintro e w6 ⟨rfl,h6,hm6⟩;have D6:w6.cell? ⟨n,0,none⟩=some (.string l.file)∧w6.cell? ⟨n,1,none⟩=some (.int .i64 l.no):=⟨hm6.chg.cell (p:=⟨n,0,none⟩) (fun e=>e HK.out) d0,hm6.chg.cell (p:=⟨n,1,none⟩) (fun e=>e HK.out) d1⟩;have c86:=h6.hold.cell 8;simp at c86;rw[HL.out.1] at c86;have hrl:rb<w6.heap.size:=h6.hold.lt;have hnl:n<w6.heap.size:=World.block_lt_of_cell? _ _ D6.1;have E6:(w6.alloc (.cells #[.string l.file,.int .i64 l.no,.string ft] 107)).cell? ⟨n,0,none⟩=some (.string l.file)∧(w6.alloc (.cells #[.string l.file,.int .i64 l.no,.string ft] 107)).cell? ⟨n,1,none⟩=some (.int .i64 l.no):=⟨by rw[World.cell?_alloc_lt _ _ _ hnl];exact D6.1,by rw[World.cell?_alloc_lt _ _ _ hnl];exact D6.2⟩;have e86:(w6.alloc (.cells #[.string l.file,.int .i64 l.no,.string ft] 107)).cell? ⟨rb,8,none⟩=some (.slice A lsl c):=by rw[World.cell?_alloc_lt _ _ _ hrl];exact c86
   have H6:=hidH2 h6 hm6;clear h6 hm6;refine hK.out _ _ ?_ (fun hHeld1=>?_)
   ·(try dsimp only)
    first|exact⟨d0,d1⟩|exact D6|exact E6|exact G6|exact K6
   clear hK K hHeld0
   (try go_frame)
   refine tkH 12 35 ?_;refine rdyH [4,13] ?_;refine AllReadyH.cons (o:=⟨some 27,_,_,_,_,_⟩) rfl (fun K hK=>?_) ?_
   ·skip
    go_simp;refine hK.out _ _ ?_ (fun hHeld2=>?_)
    ·(try dsimp only)
     first|exact⟨d0,d1⟩|exact D6|exact E6|exact G6|exact K6
    clear hK K hHeld1
    (try go_frame)
    refine rdyH [13] ?_;refine AllReadyH.cons (o:=⟨some 36,_,_,_,_,_⟩) rfl (fun K hK=>?_) AllReadyH.nil;go_simp;refine hK.out _ _ ?_ (fun hHeld3=>?_)
    ·(try dsimp only)
     first|exact⟨d0,d1⟩|exact D6|exact E6|exact G6|exact K6
    clear hK K hHeld2
    (try go_frame)
    refine rdyH [14] ?_;refine AllReadyH.cons (o:=⟨some 37,_,_,_,_,_⟩) rfl (fun K hK=>?_) AllReadyH.nil;have hrow:w6.ownsRow 0 tLn 3 (.slice A lsl c) lsl (rowLn ls):=by
     have h:=H6.out.1.lines;rw[HL.out.2.2.1,HLS.out,HL.out.1] at h;exact h
    refine step_append_lies _ (by rfl) _ _ _ (by rfl) 0 107 i0 _ 3 40 lns_under HI.out.1 HI.out.2.1 HI.out.2.2.1 HI.out.2.2.2 rfl (by omega) (.slice A lsl c) lsl (rowLn ls) (by rfl) (hrow.alloc _)
     ⟨w6.heap.size,0,none⟩ 1 1 [.string l.file,.int .i64 l.no,.string ft] (by rfl) (by rfl) (World.news_of_block (cs:=#[.string l.file,.int .i64 l.no,.string ft]) (t:=107) (fr:=(0,0)) (heap_alloc_new w6 _)) (by simp[Value.oneCell'])
     (by omega) (by unfold maxLen;omega) (by omega) (Nat.zero_le _) (w6.heap.size+1) (by simp) ?_
    intro g cap w8 ho8 hg8 hat8 hl8;have hC8:Chg w6 w8 (fun k=>(Value.slice A lsl c).ownBlock=some k):=((Chg.refl w6 _).alloc _).trans (Chg.grown hg8) (fun _ _ h=>h.symm);have hkr:(Value.slice A lsl c).ownBlock≠some rb:=fun e=>by have h1:=H6.out.1.kL rb (by rw[HL.out.1];exact e);have h2:=H6.out.1.kR;omega
    have hon:(Value.slice A lsl c).ownBlock≠some n:=fun e=>by have h1:=H6.out.1.kL n (by rw[HL.out.1];exact e);have h2:=HK.out;omega
    have hgb:g≠rb:=fun e=>by
     rcases hat8 with h|h
     ·exact hkr (by rw[h,e])
     ·omega
    have hrn:rb≠n:=fun e=>by have h1:=H6.out.1.kR;have h2:=HK.out;rw[e] at h1;omega
    have hh8:=hC8.holds hkr H6.out.1.hold;have G6:w8.cell? ⟨n,0,none⟩=some (.string l.file)∧w8.cell? ⟨n,1,none⟩=some (.int .i64 l.no):=⟨hC8.cell (p:=⟨n,0,none⟩) hon D6.1,hC8.cell (p:=⟨n,1,none⟩) hon D6.2⟩;have K6:(w8.setCell ⟨rb,8,none⟩ (.slice (some ⟨g,0,none⟩) (lsl+1) cap)).cell? ⟨n,0,none⟩=some (.string l.file)∧(w8.setCell ⟨rb,8,none⟩ (.slice (some ⟨g,0,none⟩) (lsl+1) cap)).cell? ⟨n,1,none⟩=some (.int .i64 l.no):=⟨cell_far (g:=rb) (i:=8) (j:=0) hrn _ G6.1,cell_far (g:=rb) (i:=8) (j:=1) hrn _ G6.2⟩;have k8:=hh8.cell 8;have f8:=hh8.free 8;simp at k8;have H8:=hidH5 hC8 ho8 hat8 hh8 hl8;clear hC8 ho8 hg8 hat8 hh8 hl8 hkr hon hrow;refine hK.out _ _ ?_ (fun hHeld4=>?_)
    ·(try dsimp only)
     first|exact⟨d0,d1⟩|exact D6|exact E6|exact G6|exact K6
    clear hK K hHeld3
    (try go_frame)
    refine tkH 15 38 ?_;refine tkH 16 39 ?_;refine rdyH [17] ?_;refine AllReadyH.cons rfl (fun K hK=>?_) AllReadyH.nil;go_simp;refine hK.out _ _ ?_ (fun hHeld5=>?_)
    ·(try dsimp only)
     first|exact⟨d0,d1⟩|exact D6|exact E6|exact G6|exact K6
    clear hK K hHeld4
    (try go_frame)
    refine wpAnyH_done (by kernel_rfl) ?_ _;go_wp2
    first|refine bodyPost_ret (results_none rfl _ _ _) rfl ?_|go_end0
    have hlsl:=HLS.out;subst hlsl;have hA:=line_done (d:=⟨l.file,l.no,ft⟩) H6.out.1 HL.out.1 HL.out.2.2.1 H8.out.1 H8.out.2.1 H8.out.2.2.1 H8.out.2.2.2.1 H8.out.2.2.2.2 hgb;have hM:=line_mv H6.out.1 HL.out.1 HL.out.2.2.1 H8.out.1 H8.out.2.2.1 H8.out.2.2.2.2 (cap:=cap);refine⟨rfl,?_⟩;rw[HT.out.2,HL.out.2.2.2.1];exact⟨_,{ v with lv:=.slice (some ⟨g,0,none⟩) (ls.length+1) cap },rv,hv,hA,(H4.out.2.1.trans (Mv.below ((Below.refl wc.heap.size wc).drew) κ)).trans (H6.out.2.trans hM)⟩
   refine AllReadyH.cons (o:=⟨some 36,_,_,_,_,_⟩) rfl (fun K hK=>?_) AllReadyH.nil;go_simp;refine hK.out _ _ ?_ (fun hHeld2=>?_)
   ·(try dsimp only)
    first|exact⟨d0,d1⟩|exact D6|exact E6|exact G6|exact K6
   clear hK K hHeld1
   (try go_frame)
   refine rdyH [4] ?_;refine AllReadyH.cons (o:=⟨some 27,_,_,_,_,_⟩) rfl (fun K hK=>?_) AllReadyH.nil;go_simp;refine hK.out _ _ ?_ (fun hHeld3=>?_)
   ·(try dsimp only)
    first|exact⟨d0,d1⟩|exact D6|exact E6|exact G6|exact K6
   clear hK K hHeld2
   (try go_frame)
   refine rdyH [14] ?_;refine AllReadyH.cons (o:=⟨some 37,_,_,_,_,_⟩) rfl (fun K hK=>?_) AllReadyH.nil;have hrow:w6.ownsRow 0 tLn 3 (.slice A lsl c) lsl (rowLn ls):=by
    have h:=H6.out.1.lines;rw[HL.out.2.2.1,HLS.out,HL.out.1] at h;exact h
   refine step_append_lies _ (by rfl) _ _ _ (by rfl) 0 107 i0 _ 3 40 lns_under HI.out.1 HI.out.2.1 HI.out.2.2.1 HI.out.2.2.2 rfl (by omega) (.slice A lsl c) lsl (rowLn ls) (by rfl) (hrow.alloc _)
    ⟨w6.heap.size,0,none⟩ 1 1 [.string l.file,.int .i64 l.no,.string ft] (by rfl) (by rfl) (World.news_of_block (cs:=#[.string l.file,.int .i64 l.no,.string ft]) (t:=107) (fr:=(0,0)) (heap_alloc_new w6 _)) (by simp[Value.oneCell'])
    (by omega) (by unfold maxLen;omega) (by omega) (Nat.zero_le _) (w6.heap.size+1) (by simp) ?_
   intro g cap w8 ho8 hg8 hat8 hl8;have hC8:Chg w6 w8 (fun k=>(Value.slice A lsl c).ownBlock=some k):=((Chg.refl w6 _).alloc _).trans (Chg.grown hg8) (fun _ _ h=>h.symm);have hkr:(Value.slice A lsl c).ownBlock≠some rb:=fun e=>by have h1:=H6.out.1.kL rb (by rw[HL.out.1];exact e);have h2:=H6.out.1.kR;omega
   have hon:(Value.slice A lsl c).ownBlock≠some n:=fun e=>by have h1:=H6.out.1.kL n (by rw[HL.out.1];exact e);have h2:=HK.out;omega
   have hgb:g≠rb:=fun e=>by
    rcases hat8 with h|h
    ·exact hkr (by rw[h,e])
    ·omega
   have hrn:rb≠n:=fun e=>by have h1:=H6.out.1.kR;have h2:=HK.out;rw[e] at h1;omega
   have hh8:=hC8.holds hkr H6.out.1.hold;have G6:w8.cell? ⟨n,0,none⟩=some (.string l.file)∧w8.cell? ⟨n,1,none⟩=some (.int .i64 l.no):=⟨hC8.cell (p:=⟨n,0,none⟩) hon D6.1,hC8.cell (p:=⟨n,1,none⟩) hon D6.2⟩;have K6:(w8.setCell ⟨rb,8,none⟩ (.slice (some ⟨g,0,none⟩) (lsl+1) cap)).cell? ⟨n,0,none⟩=some (.string l.file)∧(w8.setCell ⟨rb,8,none⟩ (.slice (some ⟨g,0,none⟩) (lsl+1) cap)).cell? ⟨n,1,none⟩=some (.int .i64 l.no):=⟨cell_far (g:=rb) (i:=8) (j:=0) hrn _ G6.1,cell_far (g:=rb) (i:=8) (j:=1) hrn _ G6.2⟩;have k8:=hh8.cell 8;have f8:=hh8.free 8;simp at k8;have H8:=hidH5 hC8 ho8 hat8 hh8 hl8;clear hC8 ho8 hg8 hat8 hh8 hl8 hkr hon hrow;refine hK.out _ _ ?_ (fun hHeld4=>?_)
   ·(try dsimp only)
    first|exact⟨d0,d1⟩|exact D6|exact E6|exact G6|exact K6
   clear hK K hHeld3
   (try go_frame)
   refine tkH 15 38 ?_;refine tkH 16 39 ?_;refine rdyH [17] ?_;refine AllReadyH.cons rfl (fun K hK=>?_) AllReadyH.nil;go_simp;refine hK.out _ _ ?_ (fun hHeld5=>?_)
   ·(try dsimp only)
    first|exact⟨d0,d1⟩|exact D6|exact E6|exact G6|exact K6
   clear hK K hHeld4
   (try go_frame)
   refine wpAnyH_done (by kernel_rfl) ?_ _;go_wp2
   first|refine bodyPost_ret (results_none rfl _ _ _) rfl ?_|go_end0
   have hlsl:=HLS.out;subst hlsl;have hA:=line_done (d:=⟨l.file,l.no,ft⟩) H6.out.1 HL.out.1 HL.out.2.2.1 H8.out.1 H8.out.2.1 H8.out.2.2.1 H8.out.2.2.2.1 H8.out.2.2.2.2 hgb;have hM:=line_mv H6.out.1 HL.out.1 HL.out.2.2.1 H8.out.1 H8.out.2.2.1 H8.out.2.2.2.2 (cap:=cap);refine⟨rfl,?_⟩;rw[HT.out.2,HL.out.2.2.2.1];exact⟨_,{ v with lv:=.slice (some ⟨g,0,none⟩) (ls.length+1) cap },rv,hv,hA,(H4.out.2.1.trans (Mv.below ((Below.refl wc.heap.size wc).drew) κ)).trans (H6.out.2.trans hM)⟩
end
theorem word_zero1 (w:World):(zeroValue 137).run Tryz.prog w=.ok (.agg #[.nilFunc,.bool false]) w:=by kernel_rfl
theorem word_under:Tryz.prog.underlying 89=some (.map 9 137):=by kernel_rfl
def wordOf (n:ByteArray):Value:=match findF wordsF n with|some e=>e.v|none=>.agg #[.nilFunc,.bool false]
theorem word_look {w:World}{wm:Nat} (h:FsMap w Tryz.prog tTx wm wordsF) (n:ByteArray) (hn:n.size≤1000000000) :
  (Instr.lookup 89 (.map (some wm)) (.string n) true).run Tryz.prog w=.ok (.tuple #[wordOf n,.bool (findF wordsF n).isSome]) w:=by
 rw[FsMap.lookz_ok h str_under word_under (word_zero1 w) (s:=n) (by unfold maxLen;omega)];rfl
theorem find_head {e:Fe}{es:List Fe}{n:ByteArray}:findF (e::es) n=if e.name=n then some e else findF es n:=by
 unfold findF
 by_cases h:e.name=n
 ·rw[if_pos h,List.find?_cons_of_pos (by simp[h])]
 ·rw[if_neg h,List.find?_cons_of_neg (by simp[h])]
theorem words_incl:findF wordsF (ofB wIncl)=some ⟨ofB wIncl,wordV 74 false,[]⟩:=by unfold wordsF;rw[find_head,if_neg (by decide),find_head,if_neg (by decide),find_head,if_neg (by decide),find_head,if_pos rfl]
section
variable {w:World} {κ:Nat→Nat} {rb wm:Nat} {sv:Value} {v:Rv} {st:Ast} {pre:Stk} {nm:ByteArray} {cs:List Cd} {pb:List (Nat×Value)} {b:Nat} {rv:Value}
def LineP (PC:List PanicEntry) (w:World) (κ:Nat→Nat) (rb wm:Nat) (sv:Value) (pre:Stk) (nm:ByteArray) (pb:List (Nat×Value)) (b:Nat) (r:Rs) (e:Ending) (w':World):Prop :=
 if r.1.over=true then e=.panicked PC∧∃κ' v' stk',ARd w' κ' rb wm sv v' r.1 stk'∧Mv w w' κ κ'
 else e=.returned (.tuple #[])∧WordP w κ rb wm sv pre nm pb b r w'
theorem LineP.back {PC:List PanicEntry}{r:Rs}{e:Ending}{w':World} (ho:r.1.over=false) (he:e=.returned (.tuple #[])) (h:WordP w κ rb wm sv pre nm pb b r w'):LineP PC w κ rb wm sv pre nm pb b r e w':=by
 unfold LineP;rw[if_neg (by rw[ho];decide)];exact⟨he,h⟩
theorem WordP.from {W w':World}{r:Rs} (hm:Mv w W κ κ) (h:WordP W κ rb wm sv pre nm pb b r w'):WordP w κ rb wm sv pre nm pb b r w':=by
 obtain⟨κ',v',rv',h1,h2,h3⟩:=h;exact⟨κ',v',rv',h1,h2,hm.trans h3⟩
theorem WordQ.word {w':World}{r:Ast} (hv:v.sb=pb++[(b,rv)]) (h:WordQ w κ rb wm sv v (pre++[(nm,cs)]) r w'):WordP w κ rb wm sv pre nm pb b (r,cs) w':=by
 obtain⟨κ',v',h1,h2,h3⟩:=h;exact⟨κ',v',rv,h1.trans hv,h2,h3⟩
theorem line_word {PC:List PanicEntry}{S:Nat→Prop}{inc:ByteArray→ByteArray→Ast→Ast}{src:List Sc} (h:ARd w κ rb wm sv v st (pre++[(nm,cs)])) (hv:v.sb=pb++[(b,rv)]) (hov:st.over=false) (hsc:ScS w S sv src) (hS:∀k,S k→k<w.heap.size∧κ k=0) (hsn:src.length≤1000000000)
  (hn:pre.length≤100) (hc:cs.length≤100000) (hd:st.diags.length≤1000000000) (ha:st.asked.length≤100000000000) (hdn:st.done.length≤1000000000) (hat:st.attrs.length≤1000000000) (hvs:Vals st) (hri:risesB st.attrs=true) {m:Int} (hg:Glob m w) (l:Ln) (hz:l.text.size≤100000) (hx:l.text.data.toList.headD 0=64) (hin:(wordB l.text.data.toList).1=wIncl)
  (hread:∀(W:World) (rest t:ByteArray),rest.size≤100000→pre.length+1<16→ARd W κ rb wm sv v st (pre++[(nm,cs)])→Mv w W κ κ→findS src rest=some t→Calls Tryz.prog 78 #[.pointer (some ⟨rb,0,none⟩),.string rest,.string t] W fun e w'=>ReadP PC W κ rb wm sv v (pre++[(nm,cs)]) (inc rest t st) e w') :
  Calls Tryz.prog 121 #[.pointer (some ⟨rb,0,none⟩),lnV l] w fun e w'=>LineP PC w κ rb wm sv pre nm pb b (lineM inc src (pre.map (·.1)++[nm]) l st cs) e w':=by
 have hL:lineM inc src (pre.map (·.1)++[nm]) l st cs=if (wordB l.text.data.toList).1=wIf then beginM l (wordB l.text.data.toList).2 st cs else if (wordB l.text.data.toList).1=wElse then turnM l st cs else if (wordB l.text.data.toList).1=wEnd then endM l st cs
   else if force cs=false then (st,cs) else if (wordB l.text.data.toList).1=wIncl then (inclM inc src (pre.map (·.1)++[nm]) l (ofB (wordB l.text.data.toList).2) st,cs) else if (wordB l.text.data.toList).1=wSet then (setM l (wordB l.text.data.toList).2 st,cs)
   else if (wordB l.text.data.toList).1=wUnset then (unsetM l (ofB (wordB l.text.data.toList).2) st,cs) else (st.tell l 3 l.text,cs):=by
  unfold lineM;dsimp only;rw[if_pos (by rw[hx];rfl)]
 have HLL:=Lib.hid hL;clear hL;have hCC:∀W,Mv w W κ κ→ARd W κ rb wm sv v st (pre++[(nm,cs)])→∀rs:ByteArray,rs.size≤100000 →
   True ∧
   True ∧
   True ∧
   Calls Tryz.prog 74 #[.pointer (some ⟨rb,0,none⟩),lnV l,.string rs] W (fun e w'=>LineP PC w κ rb wm sv pre nm pb b (inclM inc src (pre.map (·.1)++[nm]) l rs st,cs) e w') ∧
   True ∧
   True ∧
   True:=fun W hm hW rs hrs=>by
  have hgW:Glob m W:=hg.chg hm.chg (fun k hk=>h.three k hk);have hS2:∀k,S k→k<W.heap.size∧κ k=0:=fun k hk=>⟨Nat.lt_of_lt_of_le (hS k hk).1 hm.chg.size,(hS k hk).2⟩
  have hsc2:ScS W S sv src:=TwoS.chg hsc hm.chg (fun k hk e=>e (hS k hk).2);refine⟨?_,?_,?_,?_,?_,?_,?_⟩
  ·trivial
  ·trivial
  ·trivial
  ·refine (a_include (PC:=PC) (inc:=inc) hW hov hsc2 hS2 hsn hd (by simp;omega) (by simp) hgW l rs hrs (fun W2 t h16 hA hM hf=>(hread W2 rs t hrs (by simpa using h16) hA (hm.trans hM) hf).mono (fun e w' hP=>hP))).mono ?_;intro e w' hP;unfold ReadP at hP;unfold LineP;rw[List.map_append] at hP
   by_cases ho:(inclM inc src (pre.map (·.1)++[nm]) l rs st).over=true
   ·rw[if_pos ho];have hP2:=hP;rw[show List.map (fun x=>x.fst) [(nm,cs)]=[nm] from rfl,if_pos ho] at hP2;obtain⟨he,κ',v',stk',h1,h2⟩:=hP2;exact⟨he,κ',v',stk',h1,hm.trans h2⟩
   ·rw[if_neg ho];have hP2:=hP;rw[show List.map (fun x=>x.fst) [(nm,cs)]=[nm] from rfl,if_neg ho] at hP2;exact⟨hP2.1,(hP2.2.word hv).from hm⟩
  ·trivial
  ·trivial
  ·trivial
 unfold lnV at hCC;have HCC:=hidH2 hCC hov;have HIN:=Lib.hid hin;clear hCC hov hsc hS hread hri hvs hg hin;have hB:=(Below.refl w.heap.size w).alloc (Nat.le_refl _) (.cells #[.string l.file,.int .i64 l.no,.string l.text] 163);have h1:=h.below hB;have hm1:=Mv.below hB κ;have hbx:=fun w' hb n hn=>@boxed_cell w l w' hb n hn
 unfold boxed at hbx;unfold lnV;obtain⟨n,hnn⟩:∃n,w.heap.size=n:=⟨_,rfl⟩;obtain⟨W1,hW1⟩:∃W1,w.alloc (.cells #[.string l.file,.int .i64 l.no,.string l.text] 163)=W1:=⟨_,rfl⟩;rw[hW1] at h1 hm1 hbx;have HB:=hidH4 h1 hm1 hbx hnn;have HW:=hidH2 hW1 hnn;obtain⟨d0,d1,d2⟩:=hbx W1 (Below.refl _ _) n hnn;clear h1 hm1 hbx hB h hW1 hnn;have hP:=Tryz.strings_HasPrefix l.text ⟨#[64]⟩ W1;have e64:(⟨#[64]⟩:ByteArray).data.toList=[64]:=rfl;rw[e64,pre_eq 64 (by decide),hx] at hP;have hI:=indexAnyX_any l.text ⟨#[32,9]⟩ W1 (by decide) (by decide) (by decide) (by omega);have e329:(⟨#[32,9]⟩:ByteArray).data.toList=[32,9]:=rfl;rw[e329] at hI;obtain⟨ix,hix⟩:∃ix,Lib.indexAny l.text.data.toList [32,9]=ix:=⟨_,rfl⟩;rw[hix] at hI;have HI:=hidH2 hI hix;have HP:=Lib.hid hP;clear hP e64 hx hI hix e329
 go_enter Tryz.func121,Tryz.ntmps121
 go_wp2_with fail
 (try rw[HW.out.1])
 (try rw[HW.out.2])
 refine HP.out.mono ?_;rintro e w0 ⟨rfl,rfl⟩
 go_wp2_with fail
 refine HI.out.1.mono ?_;rintro e w2 ⟨rfl,hb2⟩;clear d0 d1 d2;obtain⟨d0,d1,d2⟩:=HB.out.2.2.1 w2 hb2 n HB.out.2.2.2;have H2:=Lib.hid hb2;clear hb2
 go_upto_if 46 with fail
 go_cut [5,6] (fun s6 s7 wx=>s6=.string (ofB (wordB l.text.data.toList).1)∧s7=.string (ofB (wordB l.text.data.toList).2)∧Hid (Below w0.heap.size w0 wx))
 case first =>
  by_cases h0:0≤ix
  ·obtain⟨k,rfl⟩:∃k:Nat,ix=k:=⟨ix.toNat,by omega⟩;have hw:=word_at HI.out.2;have hkl:k≤l.text.size:=by
    rcases idx_le l.text.data.toList [32,9] with h|h
    ·rw[HI.out.2,size_lst] at h;omega
    ·have h2:=HI.out.2;rw[h] at h2;have h2:(-1:Int)=k:=h2;omega
   obtain⟨sub,hsub⟩:∃sub,l.text.extract k l.text.size=sub:=⟨_,rfl⟩;have hsl:sub.data.toList=l.text.data.toList.drop k:=by rw[←hsub,ext_lst,List.take_of_length_le (by rw[size_lst];exact Nat.le_refl _)]
   have htr:=fun W=>strTrim_any sub W (by rw[←size_lst,hsl,List.length_drop,size_lst];omega)
   rw[hsl] at htr;unfold strV at htr;have HT:=hidH3 htr hsub hw;clear htr hsub hw hsl
   go_wp2_with fail
   go_region_with (go_at_call 90;rw[HT.out.2.1];refine (HT.out.1 _).mono ?_;rintro e w4 ⟨rfl,hb4⟩;have hb5:Below w0.heap.size w0 w4:=H2.out.trans ((((Below.refl w2.heap.size w2).drew).trans hb4).mono H2.out.size);obtain⟨q0,q1,q2⟩:=HB.out.2.2.1 w4 hb5 n HB.out.2.2.2)
   all_goals (go_wp2_with fail;go_meet;(case rel=>refine⟨by rw[HT.out.2.2,ofB_ext],by rw[HT.out.2.2];rfl,Lib.hid ?_⟩;first|exact H2.out.trans (hb4.mono H2.out.size)|exact (H2.out.trans (hb4.mono H2.out.size)).drew|exact H2.out.drew.trans (hb4.mono H2.out.size)))
  ·have hw:=Lib.hid (word_no (by rw[HI.out.2];exact h0))
   go_wp2_with fail
   go_meet
   case rel =>
    refine⟨?_,?_,Lib.hid H2.out⟩
    ·rw[hw.out,ofB_lst]
    ·rw[hw.out];rfl
 case rest =>
  obtain⟨h6,h7,HW2⟩:=hcut;subst h6;subst h7;obtain⟨wd,hwd⟩:∃wd,(wordB l.text.data.toList).1=wd:=⟨_,rfl⟩;have hwi:Hid (wd=wIncl):=Lib.hid (by rw[←hwd];exact HIN.out);obtain⟨wr,hwr⟩:∃wr,(wordB l.text.data.toList).2=wr:=⟨_,rfl⟩;have hws:=word_size l.text.data.toList;rw[size_lst,hwd,hwr] at hws;have hLL:=HLL.out;rw[hwd,hwr] at hLL;rw[hwd,hwr];have HLL2:=Lib.hid hLL;clear hLL hwd hwr;obtain⟨rs,hrs⟩:∃rs,ofB wr=rs:=⟨_,rfl⟩;rw[hrs];have hrz:rs.size≤100000:=by rw[←hrs,size_ofB];omega
  have hrl:rs.data.toList=wr:=by rw[←hrs,list_ofB]
  have HRS:=hidH3 hrs hrz hrl;clear hrs hrz hrl;have hK:∀W,Below wc.heap.size wc W→ARd W κ rb wm sv v st (pre++[(nm,cs)])∧Mv w W κ κ∧W.cell? ⟨n,0,none⟩=some (.string l.file)∧W.cell? ⟨n,1,none⟩=some (.int .i64 l.no)∧W.cell? ⟨n,2,none⟩=some (.string l.text):=fun W hb=>by
   have hb2:=HW2.out.trans (hb.mono HW2.out.size);exact⟨HB.out.1.below hb2,HB.out.2.1.trans (Mv.below hb2 κ),HB.out.2.2.1 W hb2 n HB.out.2.2.2⟩
  have HK:=Lib.hid hK;have hKc:=hK wc (Below.refl _ _);have c2:=hKc.1.hold.cell 2;simp at c2;have hwl:=word_look hKc.1.words (ofB wd) (by rw[size_ofB];omega);obtain⟨d0,d1,d2⟩:=hKc.2.2;clear hK hKc hws;have HWL:=Lib.hid hwl;clear hwl;obtain⟨bf,hbf⟩:∃bf,force cs=bf:=⟨_,rfl⟩;have HF:=Lib.hid hbf;clear hbf;have e1:¬wd=wIf:=by rw[hwi.out];decide
  have e2:¬wd=wElse:=by rw[hwi.out];decide
  have e3:¬wd=wEnd:=by rw[hwi.out];decide
  by_cases e4:wd=wIncl
  ·have hl2:=HLL2.out;rw[if_neg e1] at hl2;rw[if_neg e2] at hl2;rw[if_neg e3] at hl2;have hwl:=HWL.out;rw[e4] at hwl;unfold wordOf at hwl;rw[words_incl] at hwl;unfold wordV at hwl;simp only[Option.isSome_some] at hwl;rw[e4];have hb8:Below wc.heap.size wc (wc.alloc (.cells #[.func (.func 74) #[] #[],.bool false] 137)):=(Below.refl _ _).alloc (Nat.le_refl _) _;have hT:=a_top (HK.out _ hb8).1 hv (by omega);have hX8:=Holds.new wc 137 #[.func (.func 74) #[] #[],.bool false];have HX8:=hidH3 hX8 hT hb8;clear hX8 hT hb8;cases bf with
   | false =>
    rw[if_pos HF.out] at hl2;have HLX:=Lib.hid hl2;clear hl2
    go_wp2_with fail
    refine HX8.out.2.1.mono ?_;rintro e w3 ⟨rfl,hb3⟩;have hbb3:=HX8.out.2.2.trans (hb3.mono HX8.out.2.2.size);have hX3:=HX8.out.1.below hb3 (by simp);have hfo:=a_force_any ((HK.out w3 hbb3).1.last hv) hc;rw[HF.out] at hfo;have H3:=hidH3 hbb3 hX3 hfo;clear hbb3 hX3 hfo hb3
    go_wp2_with fail
    refine H3.out.2.2.mono ?_;rintro e w4 ⟨rfl,hb4⟩;have hbb4:=H3.out.1.trans (hb4.mono H3.out.1.size);have H4:=Lib.hid (HK.out w4 hbb4);clear hb4 hbb4;go_wp2
    first|refine bodyPost_ret (results_none rfl _ _ _) rfl ?_|go_end0
    rw[HLX.out];exact LineP.back HCC.out.2 rfl ⟨κ,v,rv,hv,H4.out.1,H4.out.2.1⟩
   | true =>
    rw[if_neg (by rw[HF.out];decide)] at hl2;rw[if_pos e4] at hl2;have HLX:=Lib.hid hl2;clear hl2
    go_wp2_with fail
    refine HX8.out.2.1.mono ?_;rintro e w3 ⟨rfl,hb3⟩;have hbb3:=HX8.out.2.2.trans (hb3.mono HX8.out.2.2.size);have hX3:=HX8.out.1.below hb3 (by simp);have hfo:=a_force_any ((HK.out w3 hbb3).1.last hv) hc;rw[HF.out] at hfo;have H3:=hidH3 hbb3 hX3 hfo;clear hbb3 hX3 hfo hb3
    go_wp2_with fail
    refine H3.out.2.2.mono ?_;rintro e w4 ⟨rfl,hb4⟩;have hbb4:=H3.out.1.trans (hb4.mono H3.out.1.size);have hX4:=H3.out.2.1.below hb4 H3.out.2.1.lt;have x0:=hX4.cell 0;simp at x0;obtain⟨q0,q1,q2⟩:=(HK.out w4 hbb4).2.2;have hC:=(HCC.out.1 w4 (HK.out w4 hbb4).2.1 (HK.out w4 hbb4).1 rs HRS.out.2.1).2.2.2.1;rw[←HRS.out.1] at hC;rw[←HLX.out] at hC;rw[HRS.out.1] at hC;have HC:=Lib.hid hC;clear hC hX4 hb4 hbb4 d0 d1 d2
    go_wp2_with fail
    refine HC.out.mono ?_;intro e w9 hP;have hQ:=hP;unfold LineP at hQ
    by_cases ho:(lineM inc src (pre.map (·.1)++[nm]) l st cs).1.over=true
    ·rw[if_pos ho] at hQ;obtain⟨he,_⟩:=hQ;have HP9:=hidH2 hP he;subst he;clear hP ho;go_wp2;exact⟨rfl,HP9.out.1⟩
    ·rw[if_neg ho] at hQ;obtain⟨he,_⟩:=hQ;have HP9:=hidH2 hP he;subst he;clear hP ho;go_wp2
     go_end0
     exact HP9.out.1
  exact absurd hwi.out e4
end
end Go.Proofs.YtkdknllcllhpgaaGreatDoor
namespace Go.Bd
open Go.RowKit
theorem rises_cons {a:At}:∀{l:List At},risesB l=true→(∀b∈l,a.name.data.toList<b.name.data.toList)→risesB (a::l)=true
 | [],_,_=>rfl
 | x::l,h,k=>by
  show (decide (a.name.data.toList<x.name.data.toList)&&risesB (x::l))=true
  rw[Bool.and_eq_true,decide_eq_true_eq];exact⟨k x (List.mem_cons.2 (.inl rfl)),h⟩
theorem rises_del (n:ByteArray):∀{l:List At},risesB l=true→risesB (delA l n)=true
 | [],_=>rfl
 | a::l,h=>by
  obtain⟨h1,h2⟩:=rises_tail h;have ih:=rises_del n h1;unfold delA at *
  by_cases hn:a.name=n
  ·rw[List.filter_cons_of_neg (by simp[hn])];exact ih
  ·rw[List.filter_cons_of_pos (by simp[hn])];exact rises_cons ih (fun b hb=>h2 b (List.mem_filter.1 hb).1)
theorem rises_ins (a:At):∀{l:List At},risesB l=true→risesB (insA l a)=true
 | [],_=>rfl
 | b::l,h=>by
  obtain⟨h1,h2⟩:=rises_tail h;have ih:=rises_ins a h1;unfold insA;split
  ·rename_i e;refine rises_cons h1 (fun c hc=>?_);rw[e];exact h2 c hc
  ·rename_i hne;split
   ·rename_i hlt;exact rises_cons h (fun c hc=>by
     rcases List.mem_cons.1 hc with rfl|hc
     ·exact hlt
     ·exact lt_tr hlt (h2 c hc))
   ·rename_i hge;refine rises_cons ih (fun c hc=>?_)
    rcases insA_mem hc with rfl|hc
    ·rcases lt_tri b.name.data.toList c.name.data.toList with h3|h3|h3
     ·exact h3
     ·exfalso;refine hne ?_;cases hb:b.name
      cases ha:c.name
      rw[hb,ha] at h3;simp at h3;rw[h3]
     ·exact absurd h3 hge
    ·exact h2 c hc
theorem insA_len (a:At):∀l:List At,(insA l a).length≤l.length+1
 | []=>by simp[insA]
 | b::l=>by
  have:=insA_len a l
  unfold insA;split
  ·simp
  ·split
   ·simp
   ·rw[List.length_cons,List.length_cons];omega
theorem delA_len (l:List At) (n:ByteArray):(delA l n).length≤l.length:=List.length_filter_le _ _
structure Lm (d k:Nat) (s:Ast):Prop where
 cnt:s.count≤16384
 attrs:s.attrs.length+d≤64+s.count
 done:s.done.length+d≤s.count
 asked:s.asked.length+100001*d≤100001*s.count
 lines:s.lines.length+d≤s.count
 files:s.files.length+d≤s.count+1
 begun:s.begun.length+d≤s.count+1
 diags:s.diags.length+k+2*d≤2*s.count+(if s.over then 1 else 0)
 vals:Vals s
 rise:risesB s.attrs=true
theorem Lm.less {d k:Nat}{s:Ast} (h:Lm d k s){k':Nat} (hk:k'≤k):Lm 0 k' s:=by
 obtain⟨h1,h2,h3,h4,h5,h6,h7,h8,h9,h10⟩:=h;exact⟨h1,by omega,by omega,by omega,by omega,by omega,by omega,by omega,h9,h10⟩
theorem Lm.tell {k:Nat}{s:Ast} (h:Lm 1 k s) (l:Ln) (f:Nat) (t:ByteArray):Lm 0 (k+1) (s.tell l f t):=by
 obtain⟨h1,h2,h3,h4,h5,h6,h7,h8,h9,h10⟩:=h;refine⟨h1,?_,?_,?_,?_,?_,?_,?_,h9,h10⟩
 ·show s.attrs.length+0≤64+s.count;omega
 ·show s.done.length+0≤s.count;omega
 ·show s.asked.length+_≤100001*s.count;omega
 ·show s.lines.length+0≤s.count;omega
 ·show s.files.length+0≤s.count+1;omega
 ·show s.begun.length+0≤s.count+1;omega
 ·show (s.diags++[_]).length+(k+1)+2*0≤2*s.count+(if s.over then 1 else 0)
  rw[List.length_append,List.length_singleton];omega
theorem ask_keep (s:Ast) (n:ByteArray):(s.ask n).attrs=s.attrs∧(s.ask n).done=s.done∧(s.ask n).over=s.over∧(s.ask n).lines=s.lines∧(s.ask n).count=s.count∧(s.ask n).files=s.files∧(s.ask n).begun=s.begun∧(s.ask n).diags=s.diags∧(s.ask n).asked.length≤s.asked.length+1:=by
 unfold Ast.ask;split
 ·exact⟨rfl,rfl,rfl,rfl,rfl,rfl,rfl,rfl,Nat.le_succ _⟩
 ·exact⟨rfl,rfl,rfl,rfl,rfl,rfl,rfl,rfl,putN_le _ _⟩
theorem asks_all:∀(l:List ByteArray) (s:Ast),(s.asks l).attrs=s.attrs∧(s.asks l).done=s.done∧(s.asks l).over=s.over∧(s.asks l).lines=s.lines∧(s.asks l).count=s.count∧(s.asks l).files=s.files∧(s.asks l).begun=s.begun∧(s.asks l).diags=s.diags∧(s.asks l).asked.length≤s.asked.length+l.length
 | [],_=>⟨rfl,rfl,rfl,rfl,rfl,rfl,rfl,rfl,Nat.le_refl _⟩
 | n::l,s=>by
  obtain⟨h1,h2,h3,h4,h5,h6,h7,h8,h9⟩:=asks_all l (s.ask n);obtain⟨k1,k2,k3,k4,k5,k6,k7,k8,k9⟩:=ask_keep s n;refine⟨h1.trans k1,h2.trans k2,h3.trans k3,h4.trans k4,h5.trans k5,h6.trans k6,h7.trans k7,h8.trans k8,?_⟩;have e:(s.asks (n::l))=(s.ask n).asks l:=rfl;rw[e,List.length_cons];omega
theorem Lm.asks {k:Nat}{s:Ast} (h:Lm 1 k s) (l:List ByteArray) (hl:l.length≤100000):Lm 0 (k+1) (s.asks l)∧(s.asks l).asked.length+1≤100001*s.count:=by
 obtain⟨h1,h2,h3,h4,h5,h6,h7,h8,h9,h10⟩:=h;obtain⟨k1,k2,k3,k4,k5,k6,k7,k8,k9⟩:=asks_all l s;refine⟨⟨?_,?_,?_,?_,?_,?_,?_,?_,?_,?_⟩,by omega⟩
 ·rw[k5];exact h1
 ·rw[k1,k5];omega
 ·rw[k2,k5];omega
 ·rw[k5];omega
 ·rw[k4,k5];omega
 ·rw[k6,k5];omega
 ·rw[k7,k5];omega
 ·rw[k8,k5,k3];omega
 ·unfold Vals;rw[k1];exact h9
 ·rw[k1];exact h10
theorem wordB_le (s:Bs):(wordB s).2.length≤s.length:=(Go.Proofs.YtkdknllcllhpgaaGreatDoor.word_size s).2
theorem fill_lm {k:Nat}{s:Ast} (h:Lm 1 k s) (t:ByteArray) (ht:t.size≤100000):Lm 0 (k+1) (s.fill t)∧(s.fill t).asked.length+1≤100001*s.count :=
 h.asks _ (by have:=fillN_len h.vals t;omega)
theorem Lm.keep {k:Nat}{s:Ast} (h:Lm 1 k s):Lm 0 (k+1) s:=by
 obtain⟨h1,h2,h3,h4,h5,h6,h7,h8,h9,h10⟩:=h;exact⟨h1,by omega,by omega,by omega,by omega,by omega,by omega,by omega,h9,h10⟩
def IncLm (src:List Sc) (opens:List ByteArray) (inc:ByteArray→ByteArray→Ast→Ast):Prop :=
 ∀n t s k,hasN opens n=false→findS src n=some t→Lm 0 k s→s.over=false→s.files.length≤s.count→s.begun.length≤s.count →
  Lm 0 (if (inc n t s).over then 0 else k) (inc n t s)
theorem line_lm {inc:ByteArray→ByteArray→Ast→Ast}{src:List Sc}{opens:List ByteArray} (hI:IncLm src opens inc) (l:Ln) (hz:l.text.size≤100000){s:Ast}{cs:List Cd}{j:Nat} (ho:s.over=false) (h:Lm 1 (cs.length+j) s) :
  Lm 0 (if (lineM inc src opens l s cs).1.over then 0 else (lineM inc src opens l s cs).2.length+j) (lineM inc src opens l s cs).1:=by
 have ht:∀(f:Nat) (t:ByteArray) (k:Nat),k≤cs.length+j+1→Lm 0 (if (s.tell l f t).over then 0 else k) (s.tell l f t):=fun f t k hk=>by
  have h1:=h.tell l f t;have e:(s.tell l f t).over=false:=ho;rw[e];exact h1.less (by simp;exact hk)
 have hs:∀k,k≤cs.length+j+1→Lm 0 (if s.over then 0 else k) s:=fun k hk=>by
  rw[ho];exact h.keep.less (by simp;exact hk)
 have hlz:l.text.data.toList.length≤100000:=by rw[size_lst];exact hz
 have hw2:=wordB_le l.text.data.toList;unfold lineM;dsimp only;split
 ·split
  ·unfold beginM;split
   ·split
    ·exact ht _ _ _ (by simp;try omega)
    ·split
     ·exact ht _ _ _ (by simp;try omega)
     ·rename_i p _ _;have h1:=(h.asks [p.1] (by simp)).1;have e:s.asks [p.1]=s.ask p.1:=rfl;rw[e] at h1;have e2:=(ask_keep s p.1).2.2.1;dsimp only;rw[e2,ho];exact h1.less (by simp;try omega)
   ·exact hs _ (by simp;try omega)
  split
  ·unfold turnM;split
   ·exact ht _ _ _ (by simp;try omega)
   ·split
    ·exact ht _ _ _ (by simp;try omega)
    ·rename_i c hc _;refine hs _ ?_;have hne:cs≠[]:=fun e=>by rw[e] at hc;cases hc
     have:=List.length_pos_iff.2 hne
     simp;omega
  split
  ·unfold endM;split
   ·exact ht _ _ _ (by simp;try omega)
   ·exact hs _ (by simp;try omega)
  split
  ·exact hs _ (by simp;try omega)
  split
  ·unfold inclM;split
   ·exact ht _ _ _ (by simp;try omega)
   split
   ·exact ht _ _ _ (by simp;try omega)
   rename_i hop;split
   ·exact ht _ _ _ (by simp;try omega)
   split
   ·exact ht _ _ _ (by simp;try omega)
   ·rename_i t hf;exact hI _ t s (cs.length+j) (by simpa using hop) hf (h.less (Nat.le_refl _)) ho (by have:=h.files;omega) (by have:=h.begun;omega)
  split
  ·unfold setM;dsimp only;generalize (wordB l.text.data.toList).2=rr at hw2 ⊢;have hw3:=wordB_le rr;have h1:=fill_lm h (ofB (wordB rr).2) (by rw[size_ofB];omega);obtain⟨k1,k2,k3,k4,k5,k6,k7,k8,k9⟩:=asks_all (fillN s.attrs (ofB (wordB rr).2)) s;have e:s.asks (fillN s.attrs (ofB (wordB rr).2))=s.fill (ofB (wordB rr).2):=rfl;rw[e] at k1 k2 k3 k4 k5 k6 k7 k8 k9;obtain⟨g1,g2,g3,g4,g5,g6,g7,g8,g9,g10⟩:=h;obtain⟨⟨f1,f2,f3,f4,f5,f6,f7,f8,f9,f10⟩,f11⟩:=h1;rw[k3,ho] at f8;split
   ·rename_i hok;rw[if_neg (by dsimp only;rw[k3,ho];decide)];refine⟨f1,?_,?_,f4,f5,f6,f7,?_,fun a ha=>?_,rises_ins _ f10⟩
    ·have:=insA_len ⟨ofB (wordB rr).1,fillT s.attrs (ofB (wordB rr).2)⟩ (s.fill (ofB (wordB rr).2)).attrs
     dsimp only;rw[k5,k1] at *;omega
    ·have:=putN_le (s.fill (ofB (wordB rr).2)).done (ofB (wordB rr).1)
     dsimp only;rw[k5,k2] at *;omega
    ·dsimp only;rw[k3,ho];simp at f8 ⊢;omega
    ·rcases insA_mem ha with rfl|ha
     ·simp only[Bool.and_eq_true] at hok;have:=hok.2
      unfold validB at this;simp only[Bool.and_eq_true,decide_eq_true_eq] at this;have hz:=size_lst;rw[hz] at this;exact this.1
     ·exact f9 a ha
   ·rw[if_neg (by show ¬(s.fill (ofB (wordB rr).2)).over=true;rw[k3,ho];decide)];refine⟨f1,f2,f3,f4,f5,f6,f7,?_,f9,f10⟩
    show ((s.fill (ofB (wordB rr).2)).diags++[_]).length+_+2*0≤2*(s.fill (ofB (wordB rr).2)).count+(if (s.fill (ofB (wordB rr).2)).over then 1 else 0)
    rw[List.length_append,List.length_singleton,k3,ho];simp at f8 ⊢;omega
  split
  ·unfold unsetM;split
   ·obtain⟨g1,g2,g3,g4,g5,g6,g7,g8,g9,g10⟩:=h;rw[ho] at g8;rw[if_neg (by dsimp only;rw[ho];decide)];refine⟨g1,?_,?_,by show s.asked.length+_≤100001*s.count;omega,by show s.lines.length+_≤s.count;omega,by show s.files.length+_≤s.count+1;omega,by show s.begun.length+_≤s.count+1;omega,?_,fun a ha=>g9 a (List.mem_filter.1 ha).1,rises_del _ g10⟩
    ·have:=delA_len s.attrs (ofB (wordB l.text.data.toList).2)
     dsimp only;omega
    ·have:=putN_le s.done (ofB (wordB l.text.data.toList).2)
     dsimp only;omega
    ·show s.diags.length+_+2*0≤2*s.count+(if s.over then 1 else 0)
     rw[ho];simp at g8 ⊢;omega
   ·exact ht _ _ _ (by simp;try omega)
  ·exact ht _ _ _ (by simp;try omega)
 ·split
  ·obtain⟨tx,htx⟩:∃tx,ofB (if Lib.hasPrefix l.text.data.toList [92,64]=true then l.text.data.toList.drop 1 else l.text.data.toList)=tx:=⟨_,rfl⟩;have htz:tx.size≤100000:=by
    rw[←htx,size_ofB];split
    ·rw[List.length_drop];omega
    ·exact hlz
   rw[htx];have h1:=(fill_lm h tx htz).1;obtain⟨k1,k2,k3,k4,k5,k6,k7,k8,k9⟩:=asks_all (fillN s.attrs tx) s;have e:s.asks (fillN s.attrs tx)=s.fill tx:=rfl;rw[e] at k1 k2 k3 k4 k5 k6 k7 k8 k9;generalize s.fill tx=u at *;obtain⟨f1,f2,f3,f4,f5,f6,f7,f8,f9,f10⟩:=h1;have g5:=h.lines;rw[k3,ho] at f8;rw[if_neg (by dsimp only;rw[k3,ho];decide)];refine⟨f1,f2,f3,f4,?_,f6,f7,?_,f9,f10⟩
   ·show (u.lines++[_]).length+0≤u.count
    rw[List.length_append,List.length_singleton,k4,k5];omega
   ·show u.diags.length+_+2*0≤2*u.count+(if u.over then 1 else 0)
    rw[k3,ho];simp at f8 ⊢;omega
  ·exact hs _ (by simp;try omega)
theorem lines_lm {inc:ByteArray→ByteArray→Ast→Ast}{src:List Sc}{opens:List ByteArray} (hI:IncLm src opens inc) (f:ByteArray) :
  ∀(ts:List ByteArray) (i:Nat) (s:Ast) (cs:List Cd) (j:Nat),(∀t∈ts,t.size≤100000)→s.over=false→Lm 0 (cs.length+j) s →
   Lm 0 (if (linesM inc src opens f i ts s cs).1.over then 0 else (linesM inc src opens f i ts s cs).2.length+j) (linesM inc src opens f i ts s cs).1
 | [],i,s,cs,j,_,ho,h=>by
  unfold linesM;dsimp only;rw[ho];exact h
 | t::ts,i,s,cs,j,ht,ho,h=>by
  unfold linesM;obtain⟨g1,g2,g3,g4,g5,g6,g7,g8,g9,g10⟩:=h;rw[ho] at g8;split
  ·dsimp only;rw[if_pos rfl];refine⟨g1,g2,g3,g4,g5,g6,g7,?_,g9,g10⟩
   show (s.diags++[_]).length+0+2*0≤2*s.count+(if true then 1 else 0)
   rw[List.length_append,List.length_singleton];simp at g8 ⊢;omega
  ·rename_i hc;dsimp only;have h1:Lm 1 (cs.length+j) { s with count:=s.count+1 }:=by
    refine⟨by show s.count+1≤16384;omega,?_,?_,?_,?_,?_,?_,?_,g9,g10⟩
    ·show s.attrs.length+1≤64+(s.count+1);omega
    ·show s.done.length+1≤s.count+1;omega
    ·show s.asked.length+_≤100001*(s.count+1);omega
    ·show s.lines.length+1≤s.count+1;omega
    ·show s.files.length+1≤s.count+1+1;omega
    ·show s.begun.length+1≤s.count+1+1;omega
    ·show s.diags.length+(cs.length+j)+2*1≤2*(s.count+1)+(if s.over then 1 else 0)
     rw[ho];simp at g8 ⊢;omega
   have h2:=line_lm hI ⟨f,(i:Int)+1,t⟩ (ht t (List.mem_cons.2 (.inl rfl))) (s:={ s with count:=s.count+1 }) (cs:=cs) (j:=j) ho h1;split
   ·rename_i hov;rw[if_pos hov] at h2
    first|exact h2|(rw[if_pos hov];exact h2)
   ·rename_i hno;have hno2:(lineM inc src opens ⟨f,(i:Int)+1,t⟩ { s with count:=s.count+1 } cs).1.over=false:=by simpa using hno
    rw[hno2] at h2;exact lines_lm hI f ts (i+1) _ _ j (fun x hx=>ht x (List.mem_cons_of_mem _ hx)) hno2 h2
theorem tells_lm:∀(cs:List Cd) (s:Ast) (k:Nat),s.over=false→Lm 0 (cs.length+k) s→Lm 0 k (cs.foldl (fun s c=>s.tell c.at' 4 ⟨#[]⟩) s)∧(cs.foldl (fun s c=>s.tell c.at' 4 ⟨#[]⟩) s).over=false
 | [],s,k,ho,h=>⟨by simpa using h,ho⟩
 | c::cs,s,k,ho,h=>by
  refine tells_lm cs (s.tell c.at' 4 ⟨#[]⟩) k ho ?_;obtain⟨g1,g2,g3,g4,g5,g6,g7,g8,g9,g10⟩:=h;refine⟨g1,g2,g3,g4,g5,g6,g7,?_,g9,g10⟩
  show (s.diags++[_]).length+_+2*0≤2*s.count+(if s.over then 1 else 0)
  rw[List.length_append,List.length_singleton];rw[List.length_cons] at g8;omega
theorem begin_lm {k:Nat}{s:Ast} (h:Lm 0 k s) (hf:s.files.length≤s.count) (hb:s.begun.length≤s.count) (n:ByteArray):Lm 0 k (beginS s n)∧(beginS s n).over=s.over∧(beginS s n).count=s.count:=by
 unfold beginS;split
 ·exact⟨h,rfl,rfl⟩
 ·obtain⟨g1,g2,g3,g4,g5,g6,g7,g8,g9,g10⟩:=h;refine⟨⟨g1,g2,g3,g4,g5,?_,?_,g8,g9,g10⟩,rfl,rfl⟩
  ·show (s.files++[n]).length+0≤s.count+1
   rw[List.length_append,List.length_singleton];omega
  ·have:=putN_le s.begun n
   show (putN s.begun n).length+0≤s.count+1
   omega
theorem raw_mem:∀{l:List ByteArray}{x:ByteArray},x∈l→x.size+1≤rawT l
 | [],x,h=>by cases h
 | y::l,x,h=>by
  have e:rawT (y::l)=y.size+1+rawT l:=by simp[rawT]
  rw[e]
  rcases List.mem_cons.1 h with rfl|h
  ·omega
  ·have:=raw_mem h
   omega
theorem lines_le {t:ByteArray} (h:t.size≤99999):∀x∈linesT t,x.size≤100000:=fun x hx=>by
 have h1:=linesT_raw t;have h2:=raw_mem hx;omega
theorem find_le {src:List Sc}{Z:Nat} (hz:∀s∈src,s.text.size≤Z){n t:ByteArray} (h:findS src n=some t):t.size≤Z:=by
 unfold findS at h;cases he:src.find? (fun s=>decide (s.name=n)) with
 | none=>rw[he] at h;cases h
 | some s =>
  rw[he] at h;cases h
  exact hz s (List.mem_of_find?_eq_some he)
theorem read_lm {src:List Sc} (hz:∀s∈src,s.text.size≤99999):∀(d:Nat) (opens:List ByteArray),IncLm src opens (fun n t s=>readM src d opens n t s)
 | 0,opens,n,t,s,k,hop,hf,h,ho,hfl,hbl=>by
  dsimp only
  show Lm 0 (if (beginS s n).over then 0 else k) (beginS s n)
  obtain⟨h1,h2,_⟩:=begin_lm h hfl hbl n;rw[h2,ho];exact h1
 | d+1,opens,n,t,s,k,hop,hf,h,ho,hfl,hbl=>by
  dsimp only;obtain⟨h1,h2,h3⟩:=begin_lm h hfl hbl n;rw[ho] at h2;have htz:=find_le hz hf;have hl:=lines_lm (read_lm hz d (opens++[n])) n (linesT t) 0 (beginS s n) [] k (lines_le htz) h2 (by simpa using h1);have key:∀X,readM src (d+1) opens n t s=X→Lm 0 (if X.over then 0 else k) X→Lm 0 (if (readM src (d+1) opens n t s).over then 0 else k) (readM src (d+1) opens n t s):=fun X e h=>by subst e;exact h
  by_cases hov:(linesM (fun m u s=>readM src d (opens++[n]) m u s) src (opens++[n]) n 0 (linesT t) (beginS s n) []).1.over=true
  ·refine key _ (by rw[readM_succ,if_pos hov]) ?_;rw[if_pos hov] at hl;rw[if_pos hov];exact hl
  ·refine key _ (by rw[readM_succ,if_neg hov]) ?_;rw[if_neg hov] at hl;obtain⟨e1,e2⟩:=tells_lm _ _ k (by simpa using hov) hl;rw[if_neg (by rw[e2];decide)];exact e1
theorem first_lm (attrs:List At):Lm 0 0 (firstA attrs)∧(firstA attrs).over=false:=by
 have hc:∀l:List At,checkB l=true→l.length≤64∧risesB l=true∧∀a∈l,a.value.size≤1024:=fun l h=>by
  unfold checkB at h;simp only[Bool.and_eq_true,List.all_eq_true,decide_eq_true_eq] at h;refine⟨h.1.1,h.2,fun a ha=>?_⟩;have:=h.1.2 a ha
  unfold atB validB at this;simp only[Bool.and_eq_true,decide_eq_true_eq] at this;have h2:=this.2.1;rw[size_lst] at h2;exact h2
 unfold firstA;refine⟨⟨by simp,?_,by simp,by simp,by simp,by simp,by simp,by simp,?_,?_⟩,rfl⟩
 ·show (if checkB attrs then attrs else []).length+0≤64+0
  split
  ·rename_i h;have:=(hc _ h).1;omega
  ·simp
 ·show ∀a∈(if checkB attrs then attrs else []),a.value.size≤1024
  split
  ·rename_i h;exact (hc _ h).2.2
  ·simp
 ·show risesB (if checkB attrs then attrs else [])=true
  split
  ·rename_i h;exact (hc _ h).2.1
  ·rfl
end Go.Bd
namespace Go.Proofs.YtkdknllcllhpgaaGreatDoor
open Go.RowKit Go.Bd
section
variable {w w2:World} {κ:Nat→Nat} {rb wm:Nat} {sv:Value} {v:Rv} {st:Ast} {stk:Stk}
theorem sps_under:Tryz.prog.underlying 92=some (.slice tSp):=by kernel_rfl
theorem spA_info:(Tryz.prog.info? tSp).map (fun i=>(i.zero,i.size,i.bytes))=some (some (.pointer none),1,8):=by kernel_rfl
theorem txA_info:(Tryz.prog.info? tTx).map (fun i=>(i.zero,i.size,i.bytes))=some (some (.string ⟨#[]⟩),1,16):=by kernel_rfl
def pushK (κ:Nat→Nat) (n j g:Nat):Nat→Nat:=fun k=>if k<n then κ k else if k=n then 20+2*j else if k=g then 7 else 0
theorem push_done {A:Option Addr}{c g cap:Nat}{nm:ByteArray} (h:ARd w κ rb wm sv v st stk) (hv:v.ov=.slice A stk.length c)
  (hc:Chg w w2 (fun k=>(Value.slice A stk.length c).ownBlock=some k)) (ho:w2.ownsRow 0 tSp 1 (.slice (some ⟨g,0,none⟩) (stk.length+1) cap) (stk.length+1) (v.sb.map (fun p=>.pointer (some ⟨p.1,0,none⟩))++[.pointer (some ⟨w.heap.size,0,none⟩)]))
  (hs:Holds w2 w.heap.size tSrc #[.string nm,.slice none 0 0]) (hat:(Value.slice A stk.length c).ownBlock=some g∨w.heap.size<g) (hg:g<w2.heap.size) :
  ARd (w2.setCell ⟨rb,3,none⟩ (.slice (some ⟨g,0,none⟩) (stk.length+1) cap)) (pushK κ w.heap.size stk.length g) rb wm sv { v with ov:=.slice (some ⟨g,0,none⟩) (stk.length+1) cap,sb:=v.sb++[(w.heap.size,.slice none 0 0)] } st (stk++[(nm,[])]) ∧
  Mv w (w2.setCell ⟨rb,3,none⟩ (.slice (some ⟨g,0,none⟩) (stk.length+1) cap)) κ (pushK κ w.heap.size stk.length g):=by
 have hrl:rb<w.heap.size:=h.hold.lt;have hgr:g≠rb:=fun e=>by
  rcases hat with h1|h1
  ·have h2:=h.kO g (by rw[hv];exact h1);have h3:=h.kR;rw[e] at h2;omega
  ·omega
 have hold:∀k,k<w.heap.size→pushK κ w.heap.size stk.length g k=κ k:=fun k hk=>by unfold pushK;rw[if_pos hk]
 have hS:=Chg.set w2 ⟨rb,3,none⟩ (.slice (some ⟨g,0,none⟩) (stk.length+1) cap);have hz:(w2.setCell ⟨rb,3,none⟩ (.slice (some ⟨g,0,none⟩) (stk.length+1) cap)).heap.size=w2.heap.size:=by simp[World.setCell]
 have R:Rest w (w2.setCell ⟨rb,3,none⟩ (.slice (some ⟨g,0,none⟩) (stk.length+1) cap)) κ 7 (pushK κ w.heap.size stk.length g):=by
  refine⟨(hc.mono (T:=fun k=>κ k=1∨κ k=7) (fun k _ hk=>.inr (h.kO k (by rw[hv];exact hk)))).trans hS (fun k _ hk=>.inl (by rw[show k=rb from hk];exact h.kR)),hold,fun k hk=>?_⟩;rw[hz];have h2:=hc.size;have h3:=hs.lt;unfold pushK at hk;split at hk
  ·omega
  ·split at hk
   ·omega
   ·split at hk
    ·omega
    ·exact absurd rfl hk
 have hgn:g≠w.heap.size:=fun e=>by
  rcases hat with h1|h1
  ·have h2:=h.kO g (by rw[hv];exact h1);have h3:=h.lt g (by omega);omega
  ·omega
 refine⟨h.push R ((hc.holds (fun e=>by have h2:=h.kO rb (by rw[hv];exact e);have h3:=h.kR;omega) h.hold).set 3 _) (hS.owns ho (fun k hk e=>by
  have e1:g=k:=by simpa [Value.ownBlock] using hk
  exact hgr (e1.trans e))) (fun k hk=>?_) ⟨hS.holds (fun e=>by have e:w.heap.size=rb:=e;omega) hs,⟨rfl,.inl ⟨rfl,rfl⟩⟩,?_,fun k hk=>by cases hk⟩,R.mv (by decide)⟩
 ·have e1:g=k:=by simpa [Value.ownBlock] using hk
  rw[←e1]
  rcases hat with h1|h1
  ·have h2:=h.kO g (by rw[hv];exact h1);rw[hold g (h.lt g (by omega))];exact h2
  ·unfold pushK;rw[if_neg (by omega),if_neg hgn,if_pos rfl]
 ·unfold pushK;rw[if_neg (Nat.lt_irrefl _),if_pos rfl]
theorem ARd.came (h:ARd w κ rb wm sv v st stk) (n:ByteArray) (hn:n.size≤1000000000) (ha:st.begun.length≤1000000000000) :
  ∃w',(Instr.mapUpdate 91 (.map (some v.bm)) (.string n) (.agg #[])).run Tryz.prog w=.ok () w'∧ARd w' κ rb wm sv v { st with begun:=putN st.begun n } stk∧Mv w w' κ κ:=by
 obtain⟨w2,r2,m2,k2,z2,u2⟩:=set_store h.begun h.uB n hn ha;have hM:Rest w w2 κ 5 κ:=⟨k2.mono (fun k _ hk=>.inr (by rw[show k=v.bm from hk];exact h.kB)),fun _ _=>rfl,fun k hk=>by rw[z2];exact h.lt k hk⟩;have hh2:Holds w2 rb tAr #[sv,v.av,.map (some wm),v.ov,.int .i64 (st.count:Int),.map (some v.dm),.map (some v.am),.map (some v.bm),v.lv,v.dv,v.fv]:=k2.holds (fun e=>by have:=h.kB;have:=h.kR;rw[show rb=v.bm from e] at this;omega) h.hold;exact⟨w2,r2,h.set_begun hM hh2 m2 u2,hM.mv (by decide)⟩
end
end Go.Proofs.YtkdknllcllhpgaaGreatDoor
