/- part 17 -/
import Derived.Test.YtkkebmciiiajeaaGreatDoorK0
import Derived.Test.YtkkebmciiiajeaaGreatDoorK16
set_option linter.unusedSimpArgs false
set_option linter.unusedVariables false
set_option maxHeartbeats 16000000
set_option maxRecDepth 100000
namespace Go.Bd
open Go.RowKit Go.Proofs.YtkkebmciiiajeaaGreatDoor
def twoZ (l:List (ByteArray×ByteArray)):Nat:=l.length+(l.map fun f=>f.1.size+f.2.size).sum
theorem twoZ_take {l:List (ByteArray×ByteArray)}{k:Nat}{f:ByteArray×ByteArray} (h:l[k]? = some f):l.length+((l.take (k+1)).map fun f=>f.1.size+f.2.size).sum=l.length+((l.take k).map fun f=>f.1.size+f.2.size).sum+(f.1.size+f.2.size):=by
 rw[List.take_add_one,h,List.map_append,List.sum_append];simp;omega
theorem twoZ_mem:∀{l:List (ByteArray×ByteArray)}{f:ByteArray×ByteArray},f∈l→f.1.size+f.2.size+1≤twoZ l
 | [],f,h=>by cases h
 | x::l,f,h=>by
  have e:twoZ (x::l)=(x.1.size+x.2.size)+1+twoZ l:=by unfold twoZ;simp;omega
  rw[e]
  rcases List.mem_cons.1 h with rfl|h
  ·omega
  ·have:=twoZ_mem h;omega
theorem halfs_succ:∀(k n:Nat),halfs (k+1) n=halfs k n*3 / 2
 | 0,n=>rfl
 | k+1,n=>by
  have ih:=halfs_succ k (n*3 / 2)
  show halfs (k+1) (n*3 / 2)=_
  rw[ih];rfl
theorem cntB_short (w:Bs) (hw:0<w.length):∀l:Bs,l.length<w.length→cntB w l=0
 | [],_=>rfl
 | c::l,h=>by
  have ih:=cntB_short w hw l (by rw[List.length_cons] at h;omega)
  show (if Lib.hasPrefix (c::l) w then 1 else 0)+cntB w l=0
  rw[ih,if_neg];intro hp;unfold Lib.hasPrefix at hp;have:=(List.isPrefixOf_iff_prefix.1 hp).length_le
  omega
theorem cntB_step (w:Bs) (l:Bs) (i:Nat) (h:i<l.length):cntB w (l.drop i)=(if Lib.hasPrefix (l.drop i) w then 1 else 0)+cntB w (l.drop (i+1)):=by
 rw[List.drop_eq_getElem_cons h];rfl
theorem pre_take (l w:Bs) (h:w.length≤l.length):Lib.hasPrefix l w=decide (l.take w.length=w):=by
 unfold Lib.hasPrefix;rw[Bool.eq_iff_iff,List.isPrefixOf_iff_prefix,decide_eq_true_eq,List.prefix_iff_eq_take];exact⟨fun h=>h.symm,fun h=>h.symm⟩
end Go.Bd
namespace Go.Proofs.YtkkebmciiiajeaaGreatDoor
open Go.RowKit Go.Bd
theorem sourcesSize_any {w:World}{S:Nat→Prop}{v:Value}{l:List (ByteArray×ByteArray)} (h:TwoS w S v l) (hS:∀k,S k→k<w.heap.size) (hl:twoZ l≤1048576) :
  Calls Tryz.prog 13 #[v] w fun e w'=>e=.returned (.int .i64 (twoZ l:Int))∧Below w.heap.size w w':=by
 obtain⟨A,c,rfl,hc,k1⟩:=h;have H1:=hidH2 k1 hS;obtain⟨m,hm⟩:∃m,l.length=m:=⟨_,rfl⟩;have HL:Hid (∀k,k≤m→m+((l.take k).map fun f=>f.1.size+f.2.size).sum≤1048576):=Lib.hid (fun k _=>by
  have:=sum_take_le (l.map fun f=>f.1.size+f.2.size) k
  unfold twoZ at hl;rw[←List.map_take] at this;omega)
 have hml:m≤1048576:=by unfold twoZ at hl;omega
 have HZ:Hid (twoZ l=m+(l.map fun f=>f.1.size+f.2.size).sum):=Lib.hid (by unfold twoZ;omega);rw[hm] at hc ⊢;have HN:=Lib.hid hm;clear hm k1 hl hS
 go_enter Tryz.func13,Tryz.ntmps13
 go_wp2_with fail
 go_loopg [3,4] m (fun q nv iv wr=>∃k n:Nat,k+q=m∧iv=.int .i64 (k:Int)∧nv=.int .i64 (n:Int)∧n≤1048576∧Hid (n=m+((l.take k).map fun f=>f.1.size+f.2.size).sum∧Below w.heap.size w wr))
 case atStart=>exact⟨0,m,by omega,rfl,rfl,hml,Lib.hid ⟨by simp,Below.refl _ _⟩⟩
 case round =>
  obtain⟨k,n,hk,rfl,rfl,hn,HR⟩:=hrel
  by_cases hlt:k<m
  ·obtain⟨f,hf⟩:∃f,l[k]? = some f:=⟨_,List.getElem?_eq_getElem (by rw[HN.out];exact hlt)⟩;obtain⟨b,off,rfl,_,x0,x1⟩:=H1.out.1 k f hf;have e:∀{p:Addr} {z:Value},w.cell? p=some z→wr.cell? p=some z:=fun {p z} h=>(HR.out.2.cell (World.block_lt_of_cell? w _ h)).trans h
   replace x0:=e x0
   replace x1:=e x1
   have hnx:=twoZ_take hf;rw[HN.out,←HR.out.1] at hnx;have hle:=HL.out (k+1) (by omega);rw[hnx] at hle;obtain⟨gx,hgx⟩:∃gx,f.2=gx:=⟨_,rfl⟩;obtain⟨nx,hnm⟩:∃nx,f.1=nx:=⟨_,rfl⟩;rw[hgx] at x1 hnx hle;rw[hnm] at x0 hnx hle;have HX:=Lib.hid hnx;have HD:=Lib.hid (HR.out.2.drew);clear e hf hgx hnm hnx
   go_wp2_with fail
   go_region
   all_goals (
    go_wp2_with fail
    go_roundg (gk-1)
    case measure=>omega
    case rel=>exact⟨k+1,n+(nx.size+gx.size),by omega,by go_num,by go_num,hle,Lib.hid ⟨HX.out.symm,by first|exact HD.out|exact HR.out.2⟩⟩)
  ·obtain rfl:k=m:=by omega
   have hfin:Hid (n=twoZ l):=Lib.hid (by
    have:=HR.out.1
    rw[List.take_of_length_le (by rw[HN.out];exact Nat.le_refl _)] at this;rw[HZ.out,this])
   go_wp2_with fail
   go_ret
   exact⟨by rw[←hfin.out];(first|done|rfl),HR.out.2⟩
theorem attrsSize_any {w:World}{S:Nat→Prop}{v:Value}{l:List (ByteArray×ByteArray)} (h:TwoS w S v l) (hS:∀k,S k→k<w.heap.size) (hl:twoZ l≤1048576) :
  Calls Tryz.prog 14 #[v] w fun e w'=>e=.returned (.int .i64 (twoZ l:Int))∧Below w.heap.size w w':=by
 obtain⟨A,c,rfl,hc,k1⟩:=h;have H1:=hidH2 k1 hS;obtain⟨m,hm⟩:∃m,l.length=m:=⟨_,rfl⟩;have HL:Hid (∀k,k≤m→m+((l.take k).map fun f=>f.1.size+f.2.size).sum≤1048576):=Lib.hid (fun k _=>by
  have:=sum_take_le (l.map fun f=>f.1.size+f.2.size) k
  unfold twoZ at hl;rw[←List.map_take] at this;omega)
 have hml:m≤1048576:=by unfold twoZ at hl;omega
 have HZ:Hid (twoZ l=m+(l.map fun f=>f.1.size+f.2.size).sum):=Lib.hid (by unfold twoZ;omega);rw[hm] at hc ⊢;have HN:=Lib.hid hm;clear hm k1 hl hS
 go_enter Tryz.func14,Tryz.ntmps14
 go_wp2_with fail
 go_loopg [3,4] m (fun q nv iv wr=>∃k n:Nat,k+q=m∧iv=.int .i64 (k:Int)∧nv=.int .i64 (n:Int)∧n≤1048576∧Hid (n=m+((l.take k).map fun f=>f.1.size+f.2.size).sum∧Below w.heap.size w wr))
 case atStart=>exact⟨0,m,by omega,rfl,rfl,hml,Lib.hid ⟨by simp,Below.refl _ _⟩⟩
 case round =>
  obtain⟨k,n,hk,rfl,rfl,hn,HR⟩:=hrel
  by_cases hlt:k<m
  ·obtain⟨f,hf⟩:∃f,l[k]? = some f:=⟨_,List.getElem?_eq_getElem (by rw[HN.out];exact hlt)⟩;obtain⟨b,off,rfl,_,x0,x1⟩:=H1.out.1 k f hf;have e:∀{p:Addr} {z:Value},w.cell? p=some z→wr.cell? p=some z:=fun {p z} h=>(HR.out.2.cell (World.block_lt_of_cell? w _ h)).trans h
   replace x0:=e x0
   replace x1:=e x1
   have hnx:=twoZ_take hf;rw[HN.out,←HR.out.1] at hnx;have hle:=HL.out (k+1) (by omega);rw[hnx] at hle;obtain⟨gx,hgx⟩:∃gx,f.2=gx:=⟨_,rfl⟩;obtain⟨nx,hnm⟩:∃nx,f.1=nx:=⟨_,rfl⟩;rw[hgx] at x1 hnx hle;rw[hnm] at x0 hnx hle;have HX:=Lib.hid hnx;have HD:=Lib.hid (HR.out.2.drew);clear e hf hgx hnm hnx
   go_wp2_with fail
   go_region
   all_goals (
    go_wp2_with fail
    go_roundg (gk-1)
    case measure=>omega
    case rel=>exact⟨k+1,n+(nx.size+gx.size),by omega,by go_num,by go_num,hle,Lib.hid ⟨HX.out.symm,by first|exact HD.out|exact HR.out.2⟩⟩)
  ·obtain rfl:k=m:=by omega
   have hfin:Hid (n=twoZ l):=Lib.hid (by
    have:=HR.out.1
    rw[List.take_of_length_le (by rw[HN.out];exact Nat.le_refl _)] at this;rw[HZ.out,this])
   go_wp2_with fail
   go_ret
   exact⟨by rw[←hfin.out];(first|done|rfl),HR.out.2⟩
theorem count_any (s t:ByteArray) (w:World) (hs:s.size≤1000000000) (ht:0<t.size) (ht2:t.size≤1000) :
  Calls Tryz.prog 30 #[.string s,.string t] w fun e w'=>e=.returned (.int .i64 (cntB t.data.toList s.data.toList:Int))∧Below w.heap.size w w':=by
 have hlen:=cntB_le t.data.toList s.data.toList;rw[size_lst] at hlen;have HL:=Lib.hid hlen;clear hlen
 go_enter Tryz.func30,Tryz.ntmps30
 go_wp2_with fail
 go_loopg [5,6] s.size (fun q nv iv wr=>∃k c:Nat,k+q=s.size∧iv=.int .i64 (k:Int)∧nv=.int .i64 (c:Int)∧c≤k∧Hid (c+cntB t.data.toList (s.data.toList.drop k)=cntB t.data.toList s.data.toList∧Below w.heap.size w wr))
 case atStart=>exact⟨0,0,by omega,rfl,rfl,Nat.le_refl _,Lib.hid ⟨by simp,Below.refl _ _⟩⟩
 case round =>
  obtain⟨k,c,hk,rfl,rfl,hc,HR⟩:=hrel
  by_cases hlt:k+t.size≤s.size
  ·have h1:=cntB_step t.data.toList s.data.toList k (by rw[size_lst];omega);have h2:=pre_take (s.data.toList.drop k) t.data.toList (by rw[List.length_drop,size_lst,size_lst];omega);obtain⟨sub,hsub⟩:∃sub,s.extract k (k+t.size)=sub:=⟨_,rfl⟩;have hsl:sub.data.toList=(s.data.toList.drop k).take t.data.toList.length:=by
    rw[←hsub,ext_lst,size_lst,List.drop_take,Nat.add_sub_cancel_left]
   rw[←hsl] at h2;have hE:=toL_eq sub t;have hd2:decide (sub.data.toList=t.data.toList)=decide (sub=t):=by
    rw[Bool.eq_iff_iff,decide_eq_true_eq,decide_eq_true_eq];constructor
    ·intro h;cases sub;cases t;simp at h;rw[h]
    ·intro h;rw[h]
   rw[hd2] at h2;obtain⟨d,hd⟩:∃d,decide (sub=t)=d:=⟨_,rfl⟩;rw[hd] at hE h2;rw[h2] at h1;have HS:=hidH2 hsub h1;clear h1 h2 hsl hd2 hd;have hi1:((k:Int)+(t.size:Int)≤(s.size:Int)):=by omega
   have e1:IntKind.i64.wrap ((k:Int)+(t.size:Int))=(k:Int)+(t.size:Int):=IntWalk.i64_in _ (by omega);have e2:((k:Int)+(t.size:Int)).toNat=k+t.size:=by omega
   have e3:IntKind.i64.wrap ((c:Int)+1)=(c:Int)+1:=IntWalk.i64_in _ (by omega);have e4:IntKind.i64.wrap ((k:Int)+1)=(k:Int)+1:=IntWalk.i64_in _ (by omega);have e5:¬((k:Int)+(t.size:Int)<0):=by omega
   have e6:¬((k:Int)+(t.size:Int)<(k:Int)):=by omega
   cases d
   ·go_wp2_with fail
    go_roundg (gk-1)
    case measure=>omega
    case rel =>
     have h:=HS.out.2;simp only[Bool.false_eq_true,if_false] at h;exact⟨k+1,c,by omega,by go_num,by go_num,by omega,Lib.hid ⟨by have:=HR.out.1;omega,HR.out.2⟩⟩
   ·go_wp2_with fail
    go_roundg (gk-1)
    case measure=>omega
    case rel =>
     have h:=HS.out.2;simp only[if_true] at h;exact⟨k+1,c+1,by omega,by go_num,by go_num,by omega,Lib.hid ⟨by have:=HR.out.1;omega,HR.out.2⟩⟩
  ·have h0:=cntB_short t.data.toList (by rw[size_lst];exact ht) (s.data.toList.drop k) (by rw[List.length_drop,size_lst,size_lst];omega);have HE:Hid (c=cntB t.data.toList s.data.toList):=Lib.hid (by have:=HR.out.1;omega);have e1:IntKind.i64.wrap ((k:Int)+(t.size:Int))=(k:Int)+(t.size:Int):=IntWalk.i64_in _ (by omega);have hi1:¬((k:Int)+(t.size:Int)≤(s.size:Int)):=by omega
   clear h0
   go_wp2_with fail
   go_ret
   exact⟨by rw[←HE.out];(first|done|rfl),HR.out.2⟩
def cntL (l:List ByteArray):Nat:=(l.map fun t=>cntB inclW t.data.toList).sum
def sumL (l:List ByteArray):Nat:=(l.map (·.size)).sum
theorem cntL_snoc (l:List ByteArray) (t:ByteArray):cntL (l++[t])=cntL l+cntB inclW t.data.toList:=by unfold cntL;simp
theorem sumL_snoc (l:List ByteArray) (t:ByteArray):sumL (l++[t])=sumL l+t.size:=by unfold sumL;simp
theorem sumL_take (l:List ByteArray) (k:Nat):sumL (l.take k)≤sumL l:=by
 unfold sumL;have:=sum_take_le (l.map (·.size)) k
 rwa [←List.map_take] at this
theorem cntL_le:∀l:List ByteArray,cntL l≤sumL l
 | []=>Nat.le_refl _
 | t::l=>by
  have h1:=cntL_le l;have h2:=cntB_le inclW t.data.toList;rw[size_lst] at h2;unfold cntL sumL at *;simp only[List.map_cons,List.sum_cons];omega
def SwP (n:Nat) (l:List ByteArray) (w:World) (e:Ending) (w':World):Prop:=∃g:Bool,e=.returned (.bool g)∧(g=false→∃b,n≤b∧halfs (cntL l) b≤60000)∧Below w.heap.size w w'
theorem swells_any {w:World}{S:Nat→Prop}{tv:Value}{l:List ByteArray} (h:TxS w S tv l) (hS:∀k,S k→k<w.heap.size) (hl:l.length≤100) (hz:sumL l≤8000) (n value:Nat) (hn:n≤8000) (hv:value≤8000) :
  Calls Tryz.prog 15 #[tv,.int .i64 (n:Int),.int .i64 (value:Int)] w (SwP n l w):=by
 obtain⟨A,c,rfl,hc,k1⟩:=h;obtain⟨m,hm⟩:∃m,l.length=m:=⟨_,rfl⟩;rw[hm] at hc hl ⊢;have hct:∀(t:ByteArray) W,t.size≤8000→Calls Tryz.prog 30 #[.string t,.string ⟨#[105,110,99,108,117,100,101]⟩] W (fun e w'=>e=.returned (.int .i64 (cntB inclW t.data.toList:Int))∧Below W.heap.size W w') ∧
   Calls Tryz.prog 30 #[.string t,.string ⟨#[123]⟩] W (fun e w'=>(∃c:Nat,c≤t.size∧e=.returned (.int .i64 (c:Int)))∧Below W.heap.size W w') ∧
   Calls Tryz.prog 30 #[.string t,.string ⟨#[115,101,116]⟩] W (fun e w'=>(∃c:Nat,e=.returned (.int .i64 (c:Int)))∧Below W.heap.size W w'):=fun t W hts=>by
  refine⟨count_any t ⟨#[105,110,99,108,117,100,101]⟩ W (by omega) (by decide) (by decide),?_,?_⟩
  ·refine (count_any t ⟨#[123]⟩ W (by omega) (by decide) (by decide)).mono ?_;rintro e w' ⟨rfl,hb⟩;have:=cntB_le [123] t.data.toList
   rw[size_lst] at this;exact⟨⟨_,this,rfl⟩,hb⟩
  ·refine (count_any t ⟨#[115,101,116]⟩ W (by omega) (by decide) (by decide)).mono ?_;rintro e w' ⟨rfl,hb⟩;exact⟨⟨_,rfl⟩,hb⟩
 have hsum:∀k t,l[k]? = some t→sumL (l.take k)+t.size≤8000∧cntL (l.take (k+1))=cntL (l.take k)+cntB inclW t.data.toList:=fun k t hk=>by
  have e:l.take (k+1)=l.take k++[t]:=by rw[List.take_add_one,hk];rfl
  have h1:=sumL_take l (k+1);rw[e,sumL_snoc] at h1;rw[e,cntL_snoc];exact⟨by omega,rfl⟩
 have hcb:∀k,cntL (l.take k)≤8000:=fun k=>Nat.le_trans (cntL_le _) (Nat.le_trans (sumL_take l k) hz)
 have HH:=hidH6 k1 hS hct hsum hm hcb;clear k1 hS hct hsum hm hcb
 go_enter Tryz.func15,Tryz.ntmps15
 go_wp2_with fail
 go_loopg [2,7,8,9] m (fun q vv iv bv kv wr=>∃k v b:Nat,k+q=m∧kv=.int .i64 (k:Int)∧vv=.int .i64 (v:Int)∧bv=.int .i64 (b:Int)∧iv=.int .i64 (cntL (l.take k):Int)∧v≤8000∧b≤8000∧Hid (b≤sumL (l.take k)∧Below w.heap.size w wr))
 case atStart=>exact⟨0,value,0,by omega,rfl,rfl,rfl,rfl,hv,by omega,Lib.hid ⟨Nat.zero_le _,Below.refl _ _⟩⟩
 case round =>
  obtain⟨k,v,b,hk,rfl,rfl,rfl,rfl,hvb,hbb,HR⟩:=hrel
  by_cases hlt:k<m
  ·obtain⟨t,ht⟩:∃t,l[k]? = some t:=⟨_,List.getElem?_eq_getElem (by have:=HH.out.2.2.2.2.1;omega)⟩;obtain⟨g,off,rfl,hSg,c0⟩:=HH.out.1 k t ht;have hgl:=HH.out.2.1 g hSg;have q0:=(HR.out.2.cell (p:=⟨g,off+k,none⟩) hgl).trans c0;obtain⟨hs1,hs2⟩:=HH.out.2.2.2.1 k t ht;have hsk:sumL (l.take (k+1))=sumL (l.take k)+t.size:=by rw[List.take_add_one,ht];exact sumL_snoc _ _
   have hcl:=cntB_le inclW t.data.toList;rw[size_lst] at hcl;have hk8:=HH.out.2.2.2.2.2 k;have hb8:=HR.out.1;obtain⟨ck,hck⟩:∃ck,cntL (l.take k)=ck:=⟨_,rfl⟩;obtain⟨ct,hct⟩:∃ct,cntB inclW t.data.toList=ct:=⟨_,rfl⟩;have hC:=HH.out.2.2.1 t;rw[hct] at hs2 hcl hC;rw[hck] at hs2 hk8 ⊢;have e1:IntKind.i64.wrap ((ck:Int)+(ct:Int))=(ck:Int)+(ct:Int):=IntWalk.i64_in _ (by omega);have HT:=hidH6 hC hs2 hs1 hsk hgl hb8;clear ht hSg c0 hs1 hs2 hck hct hC hsk hb8
   go_wp2_with fail
   refine (HT.out.1 wr (by have:=HT.out.2.2.1;omega)).1.mono ?_;rintro e w2 ⟨rfl,hb2⟩;have q2:=(hb2.cell (p:=⟨g,off+k,none⟩) (Nat.lt_of_lt_of_le HT.out.2.2.2.2.1 HR.out.2.size)).trans q0;have hw2:=HR.out.2.trans (hb2.mono HR.out.2.size);have HW2:=Lib.hid hw2;clear hw2 hb2
   go_wp2_with fail
   refine (HT.out.1 w2 (by have:=HT.out.2.2.1;omega)).2.1.mono ?_;rintro e w3 ⟨⟨bc,hbc,rfl⟩,hb3⟩;have q3:=(hb3.cell (p:=⟨g,off+k,none⟩) (Nat.lt_of_lt_of_le HT.out.2.2.2.2.1 HW2.out.size)).trans q2;have hw3:=HW2.out.trans (hb3.mono HW2.out.size);have HW3:=Lib.hid hw3;have hbb2:b+bc≤8000:=by have h1:=HT.out.2.2.1;have h2:=HT.out.2.2.2.2.2;omega
   have e2:IntKind.i64.wrap ((b:Int)+(bc:Int))=(b:Int)+(bc:Int):=IntWalk.i64_in _ (by omega);clear hw3 hb3
   go_wp2_with fail
   refine (HT.out.1 w3 (by have:=HT.out.2.2.1;omega)).2.2.mono ?_;rintro e w4 ⟨⟨sc,rfl⟩,hb4⟩;have HW4:=Lib.hid (HW3.out.trans (hb4.mono HW3.out.size));clear hb4
   by_cases hsc:0<sc
   ·have hsi:(0:Int)<(sc:Int):=by omega
    go_wp2_with fail
    go_roundg (gk-1)
    case measure=>omega
    case rel=>exact⟨k+1,1024,b+bc,by omega,by go_num,rfl,by go_num,by rw[HT.out.2.1];go_num,by omega,by omega,Lib.hid ⟨by have h1:=HT.out.2.2.2.1;have h2:=HT.out.2.2.2.2.2;omega,HW4.out⟩⟩
   ·have hsi:¬(0:Int)<(sc:Int):=by omega
    go_wp2_with fail
    go_roundg (gk-1)
    case measure=>omega
    case rel=>exact⟨k+1,v,b+bc,by omega,by go_num,rfl,by go_num,by rw[HT.out.2.1];go_num,hvb,by omega,Lib.hid ⟨by have h1:=HT.out.2.2.2.1;have h2:=HT.out.2.2.2.2.2;omega,HW4.out⟩⟩
  ·obtain rfl:k=m:=by omega
   have hlk:l.take k=l:=List.take_of_length_le (by rw[HH.out.2.2.2.2.1];exact Nat.le_refl _);have hcb:=HH.out.2.2.2.2.2 k;rw[hlk] at hcb ⊢;obtain⟨K,hK⟩:∃K,cntL l=K:=⟨_,rfl⟩;have HK:=Lib.hid hK;rw[hK] at hcb ⊢;obtain⟨mn,hmn⟩:∃mn:Nat,(if v≤n then v else n)=mn:=⟨_,rfl⟩;have hmn1:(min (v:Int) (n:Int))=(mn:Int):=by subst hmn;split<;>omega
   have hmn2:mn≤8000:=by subst hmn;split<;>omega
   have hpr:b*mn≤8000*8000:=Nat.mul_le_mul hbb hmn2;obtain⟨pr,hpr2⟩:∃pr,b*mn=pr:=⟨_,rfl⟩;have hpi:(b:Int)*(mn:Int)=(pr:Int):=by rw[←hpr2];exact (Int.natCast_mul b mn).symm
   rw[hpr2] at hpr;have e1:IntKind.i64.wrap (pr:Int)=(pr:Int):=IntWalk.i64_in _ (by omega);have e2:IntKind.i64.wrap ((n:Int)+(pr:Int))=(n:Int)+(pr:Int):=IntWalk.i64_in _ (by omega);obtain⟨wO,hwO⟩:∃x,x=wr:=⟨_,rfl⟩;subst hwO;clear hlk hK hmn hpr2 hk hlt
   go_wp2_with fail
   go_loopg [10,11] K (fun q nv iv wr=>∃i x:Nat,i+q=K∧iv=.int .i64 (i:Int)∧nv=.int .i64 (x:Int)∧x≤64008000∧Hid (x=halfs i (n+pr)∧Below w.heap.size w wr))
   case atStart=>exact⟨0,n+pr,by omega,rfl,by go_num,by omega,Lib.hid ⟨rfl,HR.out.2⟩⟩
   case round =>
    obtain⟨i,x,hi,rfl,rfl,hx,HR2⟩:=hrel
    by_cases hlt:i<K
    ·by_cases hx6:x≤60000
     ·have hx7:((x:Int)≤60000):=by omega
      have e3:IntKind.i64.wrap ((x:Int)*3)=(x:Int)*3:=IntWalk.i64_in _ (by omega);have hs:=halfs_succ i (n+pr);rw[←HR2.out.1] at hs;have HS:=Lib.hid hs;clear hs
      go_wp2_with fail
      go_roundg (gk-1)
      case measure=>omega
      case rel=>exact⟨i+1,x*3 / 2,by omega,by go_num,congrArg (Value.int .i64) (by omega),by omega,Lib.hid ⟨HS.out.symm,HR2.out.2⟩⟩
     ·have hx7:¬((x:Int)≤60000):=by omega
      have hx8:((60000:Int)<(x:Int)):=by omega
      go_wp2_with fail
      go_ret
      exact⟨true,rfl,(fun h=>by cases h),HR2.out.2⟩
    ·obtain rfl:i=K:=by omega
     by_cases hx6:x≤60000
     ·have hx7:((x:Int)≤60000):=by omega
      have hx8:¬((60000:Int)<(x:Int)):=by omega
      have HX:=Lib.hid hx6
      go_wp2_with fail
      go_ret
      refine⟨false,rfl,fun _=>⟨n+pr,by omega,?_⟩,HR2.out.2⟩;rw[HK.out,←HR2.out.1];exact HX.out
     ·have hx7:¬((x:Int)≤60000):=by omega
      have hx8:((60000:Int)<(x:Int)):=by omega
      go_wp2_with fail
      go_ret
      exact⟨true,rfl,(fun h=>by cases h),HR2.out.2⟩
def Fine (src:List Sc) (attrs:List At):Prop:=twoZ (src.map scP)+twoZ (attrs.map atP)≤8000∧src.length≤100∧∃b,rawS src≤b∧halfs (cntS src) b≤60000
def GrP (src:List Sc) (attrs:List At) (w:World) (e:Ending) (w':World):Prop:=∃g:Bool,e=.returned (.bool g)∧(g=false→Fine src attrs)∧Below w.heap.size w w'
theorem raw_two:∀src:List Sc,rawS src≤twoZ (src.map scP)
 | []=>Nat.zero_le _
 | x::l=>by
  have h:=raw_two l;have e1:rawS (x::l)=x.text.size+1+rawS l:=by simp[rawS]
  have e2:twoZ ((x::l).map scP)=(x.name.size+x.text.size)+1+twoZ (l.map scP):=by unfold twoZ scP;simp;omega
  rw[e1,e2];omega
theorem sum_two:∀src:List Sc,sumL (src.map (·.text))≤twoZ (src.map scP)
 | []=>Nat.zero_le _
 | x::l=>by
  have h:=sum_two l;have e1:sumL ((x::l).map (·.text))=x.text.size+sumL (l.map (·.text)):=by simp[sumL]
  have e2:twoZ ((x::l).map scP)=(x.name.size+x.text.size)+1+twoZ (l.map scP):=by unfold twoZ scP;simp;omega
  rw[e1,e2];omega
theorem cnt_src (src:List Sc):cntL (src.map (·.text))=cntS src:=by unfold cntL cntS;rw[List.map_map];rfl
theorem great_any {w:World}{S T:Nat→Prop}{sv av:Value}{src:List Sc}{attrs:List At} (hsc:ScS w S sv src) (hat:AtS w T av attrs) (hS:∀k,S k→k<w.heap.size) (hT:∀k,T k→k<w.heap.size) (hz1:twoZ (src.map scP)≤1048576) (hz2:twoZ (attrs.map atP)≤1048576) :
  Calls Tryz.prog 5 #[sv,av] w (GrP src attrs w):=by
 have hc1:=sourcesSize_any hsc hS hz1;have hc2:=fun W (hW:Below w.heap.size w W)=>attrsSize_any (TwoS.below hat hW) (fun k hk=>Nat.lt_of_lt_of_le (hT k hk) hW.size) hz2
 have hl1:src.length≤1048576:=by unfold twoZ at hz1;rw[List.length_map] at hz1;omega
 have hl2:attrs.length≤1048576:=by unfold twoZ at hz2;rw[List.length_map] at hz2;omega
 have hr:=raw_two src;have hs:=sum_two src;have hat2:∀a∈attrs,a.value.size≤twoZ (attrs.map atP):=fun a ha=>by have:=twoZ_mem (List.mem_map_of_mem (f:=atP) ha);unfold atP at this;dsimp only at this;unfold atP;omega
 obtain⟨As,cs,hsv,hscc,k1⟩:=hsc;obtain⟨Aa,ca,hav,hacc,k2⟩:=hat;rw[List.length_map] at hsv hav hscc hacc;obtain⟨m,hm⟩:∃m,src.length=m:=⟨_,rfl⟩;obtain⟨m2,hm2⟩:∃m2,attrs.length=m2:=⟨_,rfl⟩;rw[hm] at hsv hscc hl1;rw[hm2] at hav hacc hl2;subst hsv hav;obtain⟨n1,hn1⟩:∃n1,twoZ (src.map scP)=n1:=⟨_,rfl⟩;obtain⟨n2,hn2⟩:∃n2,twoZ (attrs.map atP)=n2:=⟨_,rfl⟩;rw[hn1] at hz1 hc1 hr hs;rw[hn2] at hz2 hc2 hat2;have HH:=Lib.hid (And.intro hc1 (And.intro hc2 (And.intro k1 (And.intro k2 (And.intro hS (And.intro hT (And.intro hm (And.intro hm2 (And.intro hn1 (And.intro hn2 (And.intro hr (And.intro hs hat2))))))))))));have e0:IntKind.i64.wrap ((n1:Int)+(n2:Int))=(n1:Int)+(n2:Int):=IntWalk.i64_in _ (by omega);clear hc1 hc2 k1 k2 hS hT hm hm2 hn1 hn2 hr hs hat2
 go_enter Tryz.func5,Tryz.ntmps5
 go_wp2_with fail
 refine HH.out.1.mono ?_;rintro e w1 ⟨rfl,hb1⟩;have HB1:=Lib.hid hb1;clear hb1
 go_wp2_with fail
 refine (HH.out.2.1 w1 HB1.out).mono ?_;rintro e w2 ⟨rfl,hb2⟩;have HB2:=Lib.hid (HB1.out.trans (hb2.mono HB1.out.size));clear hb2
 by_cases hbig:8000<n1+n2
 ·have hbi:(8000:Int)<(n1:Int)+(n2:Int):=by omega
  go_wp2_with fail
  go_ret
  exact⟨true,rfl,(fun h=>by cases h),HB2.out⟩
 ·have hbi:¬(8000:Int)<(n1:Int)+(n2:Int):=by omega
  by_cases hmm:100<m
  ·have hmi:(100:Int)<(m:Int):=by omega
   go_wp2_with fail
   go_ret
   exact⟨true,rfl,(fun h=>by cases h),HB2.out⟩
  ·have hmi:¬(100:Int)<(m:Int):=by omega
   obtain⟨i2,hi2,hx0,hx1,hx2⟩:=info_parts txA_info;have HI2:=hidH4 hi2 hx0 hx1 hx2;clear hi2 hx0 hx1 hx2
   go_wp2_with fail
   go_loopg [6,7] m (fun q tv iv wr=>∃(k:Nat) (A:Option Addr) (c:Nat),k+q=m∧iv=.int .i64 (k:Int)∧tv=.slice A k c∧Hid (wr.ownsRow w.heap.size 9 1 (.slice A k c) k (rowTx ((src.map (·.text)).take k))∧Below w.heap.size w wr))
   case atStart=>exact⟨0,none,0,by omega,rfl,rfl,Lib.hid ⟨own_nil _ _ _ _,HB2.out⟩⟩
   case round =>
    obtain⟨k,A,c,hk,rfl,rfl,HR⟩:=hrel
    by_cases hlt:k<m
    ·obtain⟨s,hs⟩:∃s,src[k]? = some s:=⟨_,List.getElem?_eq_getElem (by have:=HH.out.2.2.2.2.2.2.1;omega)⟩;obtain⟨g,off,rfl,hSg,_,c1⟩:=HH.out.2.2.1 k (scP s) (by rw[List.getElem?_map,hs];rfl);have q1:=(HR.out.2.cell (p:=⟨g,off+k*2+1,none⟩) (HH.out.2.2.2.2.1 g hSg)).trans c1;unfold scP at q1;dsimp only at q1;have htk:(src.map (·.text)).take (k+1)=(src.map (·.text)).take k++[s.text]:=by rw[List.take_add_one,List.getElem?_map,hs];rfl
     obtain⟨tx,htx⟩:∃tx,s.text=tx:=⟨_,rfl⟩;rw[htx] at q1 htk;have HT:=Lib.hid htk;have hsz:=HR.out.2.size;clear c1 hs hSg htk htx
     go_wp2_with (at_builtin;refine wpList_append_lies _ rfl _ _ 30 rfl w.heap.size 9 i2 _ 1 16 txs_underA HI2.out.1 HI2.out.2.1 HI2.out.2.2.1 HI2.out.2.2.2 rfl (by omega) (.slice A k c) k (rowTx ((src.map (·.text)).take k)) (by rfl) (HR.out.1.alloc _) ⟨wr.heap.size,0,none⟩ 1 1 [.string tx] rfl rfl (World.news_of_block (cs:=#[.string tx]) (t:=9) (fr:=(0,0)) (heap_alloc_new wr _)) (by simp[Value.oneCell']) (by omega) (by unfold maxLen;omega) (by omega) (by simp;omega) (wr.heap.size+1) (by simp) ?_;intro g2 cap w10 ho10 hg10 hat10 hl10;have hC10:Chg wr w10 (fun b=>(Value.slice A k c).ownBlock=some b):=((Chg.refl wr _).alloc _).trans (Chg.grown hg10) (fun _ _ h=>h.symm);have H10:=hidH2 hC10 ho10;clear hC10 ho10 hat10 hg10 hl10)
     go_roundg (gk-1)
     case measure=>omega
     case rel =>
      refine⟨k+1,some ⟨g2,0,none⟩,cap,by omega,by go_num,rfl,Lib.hid ⟨?_,?_⟩⟩
      ·rw[HT.out];have er:rowTx ((src.map (·.text)).take k++[tx])=rowTx ((src.map (·.text)).take k)++[.string tx]:=by unfold rowTx;simp
       rw[er];exact H10.out.2
      ·exact HR.out.2.trans (H10.out.1.toBelow HR.out.2.size (fun b hb=>(own_lt HR.out.1 hb).1))
    ·obtain rfl:k=m:=by omega
     have hlen:(src.map (·.text)).length=k:=by rw[List.length_map];exact HH.out.2.2.2.2.2.2.1
     have hrow:=HR.out.1;rw[List.take_of_length_le (by rw[hlen];exact Nat.le_refl _)] at hrow;have HT:=hidH2 hrow hlen;obtain⟨wO,hwO⟩:∃x,x=wr:=⟨_,rfl⟩;subst hwO;clear hk hlt hrow hlen
     go_wp2_with fail
     go_loopg [8,9] m2 (fun q vv iv wr=>∃j v:Nat,j+q=m2∧iv=.int .i64 (j:Int)∧vv=.int .i64 (v:Int)∧v≤8000∧Hid (Below wO.heap.size wO wr))
     case atStart=>exact⟨0,0,by omega,rfl,rfl,by omega,Lib.hid (Below.refl _ _)⟩
     case round =>
      obtain⟨j,v,hj,rfl,rfl,hv,HR2⟩:=hrel
      by_cases hlt:j<m2
      ·obtain⟨a,ha⟩:∃a,attrs[j]? = some a:=⟨_,List.getElem?_eq_getElem (by have:=HH.out.2.2.2.2.2.2.2.1;omega)⟩;obtain⟨g,off,rfl,hSg,_,c1⟩:=HH.out.2.2.2.1 j (atP a) (by rw[List.getElem?_map,ha];rfl);have hgl:=HH.out.2.2.2.2.2.1 g hSg;have q1:=(HR2.out.cell (p:=⟨g,off+j*2+1,none⟩) (Nat.lt_of_lt_of_le hgl HR.out.2.size)).trans ((HR.out.2.cell (p:=⟨g,off+j*2+1,none⟩) hgl).trans c1);unfold atP at q1;dsimp only at q1;have hvs:=HH.out.2.2.2.2.2.2.2.2.2.2.2.2 a (List.mem_of_getElem? ha);obtain⟨tx,htx⟩:∃tx,a.value=tx:=⟨_,rfl⟩;rw[htx] at q1 hvs;obtain⟨mx,hmx⟩:∃mx:Nat,(if v≤tx.size then tx.size else v)=mx:=⟨_,rfl⟩;have hm1:(max (v:Int) (tx.size:Int))=(mx:Int):=by subst hmx;split<;>omega
       have hm3:mx≤8000:=by subst hmx;split<;>omega
       clear hmx ha hSg c1 htx hgl
       go_wp2_with fail
       go_roundg (gk-1)
       case measure=>omega
       case rel=>exact⟨j+1,mx,by omega,by go_num,rfl,hm3,HR2⟩
      ·obtain rfl:j=m2:=by omega
       have hTx:TxS wr (fun b=>b<wr.heap.size) (.slice A k c) (src.map (·.text)):=TxS.own ((Chg.below HR2.out (fun _=>False)).owns HT.out.1 (fun _ _ h=>h)) HT.out.2.symm (fun b hb=>Nat.lt_of_lt_of_le (own_lt HT.out.1 hb).2 HR2.out.size);have hSw:=swells_any hTx (fun _ h=>h) (by rw[HT.out.2];omega) (Nat.le_trans HH.out.2.2.2.2.2.2.2.2.2.2.2.1 (by omega)) (n1+n2) v (by omega) hv;have hnn:((n1+n2:Nat):Int)=(n1:Int)+(n2:Int):=by omega
       rw[hnn] at hSw;have HS:=Lib.hid hSw;clear hTx hSw hnn hj hlt
       go_wp2_with fail
       refine HS.out.mono ?_;intro e w9 hP;unfold SwP at hP;obtain⟨gb,rfl,hgb,hb9⟩:=hP;have H9:=hidH2 hgb hb9;clear hgb hb9
       go_wp2_with fail
       go_ret
       refine⟨gb,rfl,fun hg=>?_,HR.out.2.trans ((HR2.out.trans (H9.out.2.mono HR2.out.size)).mono HR.out.2.size)⟩;obtain⟨b,hb1,hb2⟩:=H9.out.1 hg;refine⟨by rw[HH.out.2.2.2.2.2.2.2.2.1,HH.out.2.2.2.2.2.2.2.2.2.1];omega,by rw[HH.out.2.2.2.2.2.2.1];omega,b,?_,?_⟩
       ·have:=HH.out.2.2.2.2.2.2.2.2.2.2.1;omega
       ·rw[←cnt_src];exact hb2
end Go.Proofs.YtkkebmciiiajeaaGreatDoor
namespace Go.Bd
open Go.RowKit Go.Proofs.YtkkebmciiiajeaaGreatDoor
def sameF (was l:List Sc) (f:ByteArray):Bool:=match findS was f with|none=>false|some x=>match findS l f with|none=>false|some y=>decide (x=y)
def sameD (l:List Sc) (d:Dg):Bool:=!decide (d.fault=1) || (findS l d.text).isNone
def sameA (a:List At) (x:At):Bool:=match getA a x.name with|none=>false|some v=>decide (v=x.value)
def sameU (a:List At) (n:ByteArray):Bool:=(getA a n).isNone
def sameM (c:Ch) (was l:List Sc) (a:List At):Bool:=c.files.all (sameF was l)&&(c.diags.all (sameD l)&&(c.attrs.all (sameA a)&&c.unset.all (sameU a)))
theorem all_step {α:Type}{P:α→Bool}{l:List α}{k:Nat}{a:α} (h:l[k]? = some a) (ht:(l.take k).all P=true) (ha:P a=true):(l.take (k+1)).all P=true:=by
 rw[List.take_add_one,h,List.all_append,ht];simp[ha]
theorem all_fail {α:Type}{P:α→Bool}{l:List α}{k:Nat}{a:α} (h:l[k]? = some a) (ha:P a=false):l.all P=false:=by
 rw[Bool.eq_false_iff];intro hA;rw[List.all_eq_true] at hA;have:=hA a (List.mem_of_getElem? h)
 rw[ha] at this;cases this
theorem all_end {α:Type}{P:α→Bool}{l:List α}{n:Nat} (hn:l.length=n) (h:(l.take n).all P=true):l.all P=true:=by
 rwa [List.take_of_length_le (by omega)] at h
end Go.Bd
namespace Go.Proofs.YtkkebmciiiajeaaGreatDoor
open Go.RowKit Go.Bd
theorem same_ch {w:World}{B:Nat}{S1 S2 T:Nat→Prop}{cv sv1 sv2 av:Value}{c:Ch}{was l:List Sc}{attrs:List At} (hc:ChAt w B cv c) (hB:B≤w.heap.size) (hs1:ScS w S1 sv1 was) (hs2:ScS w S2 sv2 l) (hat:AtS w T av attrs) (hS1:∀k,S1 k→k<w.heap.size) (hS2:∀k,S2 k→k<w.heap.size) (hT:∀k,T k→k<w.heap.size)
  (hn1:was.length≤1000000000) (hn2:l.length≤1000000000) (hn3:attrs.length≤1000000000) (haz:∀a∈attrs,a.name.size≤100000∧a.value.size≤100000) (hlen:c.files.length≤1000000000∧c.diags.length≤1000000000∧c.attrs.length≤2000000000∧c.unset.length≤2000000000) :
  Calls Tryz.prog 8 #[cv,sv1,sv2,av] w fun e w'=>e=.returned (.bool (sameM c was l (firstA attrs).attrs))∧Below w.heap.size w w':=by
 obtain⟨bv,dv,fv,av',uv,rfl,_,hdg,hfl,hca,hcu⟩:=hc;obtain⟨Af,cf,hfv,hfc,hff⟩:=hfl;obtain⟨Ad,cd,hdv,hdc⟩:=hdg.form;obtain⟨Aa,ca,hav,hac,haf⟩:=hca;obtain⟨Au,cu,huv,huc,huf⟩:=hcu;subst hfv hdv hav huv;rw[List.length_map] at hac ⊢;have hB0:=(Below.refl w.heap.size w).alloc (Nat.le_refl _) (.cells #[.string c.name,bv,.slice Ad c.diags.length cd,.slice Af c.files.length cf,.slice Aa c.attrs.length ca,.slice Au c.unset.length cu] 32);have hX0:=Holds.new w 32 #[.string c.name,bv,.slice Ad c.diags.length cd,.slice Af c.files.length cf,.slice Aa c.attrs.length ca,.slice Au c.unset.length cu];obtain⟨n1,hn1'⟩:∃n1,c.files.length=n1:=⟨_,rfl⟩;obtain⟨n2,hn2'⟩:∃n2,c.diags.length=n2:=⟨_,rfl⟩;obtain⟨n3,hn3'⟩:∃n3,c.attrs.length=n3:=⟨_,rfl⟩;obtain⟨n4,hn4'⟩:∃n4,c.unset.length=n4:=⟨_,rfl⟩;rw[hn1',hn2',hn3',hn4'] at hB0 hX0;rw[hn1',hn2',hn3',hn4'] at hlen;rw[hn1'] at hfc;rw[hn2'] at hdc hdg;rw[hn3'] at hac;rw[hn4'] at huc;rw[hn1',hn2',hn3',hn4'];obtain⟨W0,hW0⟩:∃W0,w.alloc (.cells #[.string c.name,bv,.slice Ad n2 cd,.slice Af n1 cf,.slice Aa n3 ca,.slice Au n4 cu] 32)=W0:=⟨_,rfl⟩;obtain⟨p,hp⟩:∃p,w.heap.size=p:=⟨_,rfl⟩;rw[hW0] at hB0 hX0;rw[hp] at hX0;have hfind1:=fun W (hW:Below w.heap.size w W) n=>Find_any (TwoS.below hs1 hW) (fun k hk=>Nat.lt_of_lt_of_le (hS1 k hk) hW.size) hn1 n
 have hfind2:=fun W (hW:Below w.heap.size w W) n=>Find_any (TwoS.below hs2 hW) (fun k hk=>Nat.lt_of_lt_of_le (hS2 k hk) hW.size) hn2 n
 have hal:=fun W (hW:Below w.heap.size w W)=>allowed_any (TwoS.below hat hW) (fun k hk=>Nat.lt_of_lt_of_le (hT k hk) hW.size) hn3 haz
 obtain⟨av2,hav2⟩:∃av2,(if checkB attrs then av else .slice none 0 0)=av2:=⟨_,rfl⟩;obtain⟨a2,ha2⟩:∃a2,(firstA attrs).attrs=a2:=⟨_,rfl⟩;have hget:∀W,Below w.heap.size w W→∀n,Calls Tryz.prog 21 #[av2,.string n] W fun e w'=>e=.returned (getV (getA a2 n))∧Below W.heap.size W w':=fun W hW n=>by
  refine Get_any (S:=T) ?_ (fun k hk=>Nat.lt_of_lt_of_le (hT k hk) hW.size) ?_ n
  ·rw[←hav2,←ha2];unfold firstA;dsimp only;split
   ·exact TwoS.below hat hW
   ·exact TwoS.nil _ _
  ·rw[←ha2];unfold firstA;dsimp only;split
   ·exact hn3
   ·exact Nat.zero_le _
 rw[hav2] at hal;have hbx:∀W,Below W0.heap.size W0 W→W.cell? ⟨p,2,none⟩=some (.slice Ad n2 cd)∧W.cell? ⟨p,3,none⟩=some (.slice Af n1 cf)∧W.cell? ⟨p,4,none⟩=some (.slice Aa n3 ca)∧W.cell? ⟨p,5,none⟩=some (.slice Au n4 cu)∧Below w.heap.size w W:=fun W hW=>by
  have h:=hX0.below hW hX0.lt;have a2:=h.cell 2;have a3:=h.cell 3;have a4:=h.cell 4;have a5:=h.cell 5;simp at a2 a3 a4 a5;exact⟨a2,a3,a4,a5,hB0.trans (hW.mono hB0.size)⟩
 have HH:=Lib.hid (And.intro hfind1 (And.intro hfind2 (And.intro hal (And.intro hget (And.intro hbx (And.intro hff (And.intro hdg (And.intro haf (And.intro huf (And.intro hB (And.intro ha2 (And.intro hn1' (And.intro hn2' (And.intro hn3' hn4'))))))))))))));have HW:=hidH2 hW0 hp;obtain⟨_,c3,_,_,_⟩:=hbx W0 (Below.refl _ _);clear hfind1 hfind2 hal hget hbx hff hdg haf huf hB ha2 hn1' hn2' hn3' hn4' hs1 hs2 hat hS1 hS2 hT haz hX0 hB0 hav2
 go_enter Tryz.func8,Tryz.ntmps8
 go_wp2_with fail
 (try rw[HW.out.1])
 (try rw[HW.out.2])
 clear hW0 hp
 go_loopg [30] n1 (fun q i wr=>∃k:Nat,k+q=n1∧i=.int .i64 (k:Int)∧Hid (Below W0.heap.size W0 wr∧(c.files.take k).all (sameF was l)=true))
 case atStart=>exact⟨0,by omega,rfl,Lib.hid ⟨Below.refl _ _,rfl⟩⟩
 case round =>
  obtain⟨k,hk,rfl,HR⟩:=hrel
  by_cases hlt:k<n1
  ·obtain⟨f,hf⟩:∃f,c.files[k]? = some f:=⟨_,List.getElem?_eq_getElem (by have:=HH.out.2.2.2.2.2.2.2.2.2.2.2.1;omega)⟩;obtain⟨b,off,rfl,hbB,q0⟩:=HH.out.2.2.2.2.2.1 k f hf;have hbw:=(HH.out.2.2.2.2.1 wr HR.out.1).2.2.2.2;have r0:=(hbw.cell (p:=⟨b,off+k,none⟩) (Nat.lt_of_lt_of_le hbB HH.out.2.2.2.2.2.2.2.2.2.1)).trans q0;have hF1:=HH.out.1 wr hbw f;have HP:=hidH3 hf hbw hF1;clear hf hbw q0 hbB hF1;cases hx:findS was f with
   | none =>
    have hF1:=HP.out.2.2;rw[hx] at hF1;unfold getV at hF1;have HF:=hidH2 hF1 hx;clear hF1 hx;cases hy:findS l f with
    | none =>
     have HY:=Lib.hid hy;clear hy
     go_wp2_with fail
     refine HF.out.1.mono ?_;rintro e w2 ⟨rfl,hb2⟩;have hbw2:=HP.out.2.1.trans (hb2.mono HP.out.2.1.size);have hF2:=HH.out.2.1 w2 hbw2 f;rw[HY.out] at hF2;unfold getV at hF2;have HF2:=hidH3 hF2 hbw2 hb2;clear hF2 hbw2 hb2
     go_wp2_with fail
     refine HF2.out.1.mono ?_;rintro e w3 ⟨rfl,hb3⟩
     go_wp2_with fail
     go_ret
     have hP:sameF was l f=false:=by unfold sameF;rw[HF.out.2]
     refine⟨ret_bool ?_,HF2.out.2.1.trans (hb3.mono HF2.out.2.1.size)⟩;unfold sameM;rw[all_fail HP.out.1 hP,Bool.false_and]
    | some y =>
     have HY:=Lib.hid hy;clear hy
     go_wp2_with fail
     refine HF.out.1.mono ?_;rintro e w2 ⟨rfl,hb2⟩;have hbw2:=HP.out.2.1.trans (hb2.mono HP.out.2.1.size);have hF2:=HH.out.2.1 w2 hbw2 f;rw[HY.out] at hF2;unfold getV at hF2;have HF2:=hidH3 hF2 hbw2 hb2;clear hF2 hbw2 hb2
     go_wp2_with fail
     refine HF2.out.1.mono ?_;rintro e w3 ⟨rfl,hb3⟩
     go_wp2_with fail
     go_ret
     have hP:sameF was l f=false:=by unfold sameF;rw[HF.out.2]
     refine⟨ret_bool ?_,HF2.out.2.1.trans (hb3.mono HF2.out.2.1.size)⟩;unfold sameM;rw[all_fail HP.out.1 hP,Bool.false_and]
   | some x =>
    have hF1:=HP.out.2.2;rw[hx] at hF1;unfold getV at hF1;have HF:=hidH2 hF1 hx;clear hF1 hx;cases hy:findS l f with
    | none =>
     have HY:=Lib.hid hy;clear hy
     go_wp2_with fail
     refine HF.out.1.mono ?_;rintro e w2 ⟨rfl,hb2⟩;have hbw2:=HP.out.2.1.trans (hb2.mono HP.out.2.1.size);have hF2:=HH.out.2.1 w2 hbw2 f;rw[HY.out] at hF2;unfold getV at hF2;have HF2:=hidH3 hF2 hbw2 hb2;clear hF2 hbw2 hb2
     go_wp2_with fail
     refine HF2.out.1.mono ?_;rintro e w3 ⟨rfl,hb3⟩
     go_wp2_with fail
     go_ret
     have hP:sameF was l f=false:=by unfold sameF;rw[HF.out.2];dsimp only;rw[HY.out]
     refine⟨ret_bool ?_,HF2.out.2.1.trans (hb3.mono HF2.out.2.1.size)⟩;unfold sameM;rw[all_fail HP.out.1 hP,Bool.false_and]
    | some y =>
     have HY:=Lib.hid hy;clear hy
     go_wp2_with fail
     refine HF.out.1.mono ?_;rintro e w2 ⟨rfl,hb2⟩;have hbw2:=HP.out.2.1.trans (hb2.mono HP.out.2.1.size);have hF2:=HH.out.2.1 w2 hbw2 f;rw[HY.out] at hF2;unfold getV at hF2;have HF2:=hidH3 hF2 hbw2 hb2;clear hF2 hbw2 hb2;have hE:=toL_eq x y;obtain⟨d,hd⟩:∃d,decide (x=y)=d:=⟨_,rfl⟩;rw[hd] at hE;have HD:=Lib.hid hd;clear hd;cases d with
     | false =>
      go_wp2_with fail
      refine HF2.out.1.mono ?_;rintro e w3 ⟨rfl,hb3⟩
      go_wp2_with fail
      go_ret
      have hP:sameF was l f=false:=by unfold sameF;rw[HF.out.2];dsimp only;rw[HY.out];exact HD.out
      refine⟨ret_bool ?_,HF2.out.2.1.trans (hb3.mono HF2.out.2.1.size)⟩;unfold sameM;rw[all_fail HP.out.1 hP,Bool.false_and]
     | true =>
      go_wp2_with fail
      refine HF2.out.1.mono ?_;rintro e w3 ⟨rfl,hb3⟩
      go_wp2_with fail
      have hP:sameF was l f=true:=by unfold sameF;rw[HF.out.2];dsimp only;rw[HY.out];exact HD.out
      go_roundg (gk-1)
      case measure=>omega
      case rel=>exact⟨k+1,by omega,by go_num,Lib.hid ⟨HR.out.1.trans ((HF2.out.2.2.trans (hb3.mono HF2.out.2.2.size)).mono HR.out.1.size),all_step HP.out.1 HR.out.2 hP⟩⟩
  ·obtain rfl:k=n1:=by omega
   have h1:=all_end HH.out.2.2.2.2.2.2.2.2.2.2.2.1 HR.out.2;have HA1:=Lib.hid h1;obtain⟨c2,_,_,_,hbw⟩:=HH.out.2.2.2.2.1 wr HR.out.1;obtain⟨wA,hwA⟩:∃x,x=wr:=⟨_,rfl⟩;subst hwA;clear h1 hbw hk hlt
   go_wp2_with fail
   go_loopg [61] n2 (fun q i wr=>∃k:Nat,k+q=n2∧i=.int .i64 (k:Int)∧Hid (Below W0.heap.size W0 wr∧(c.diags.take k).all (sameD l)=true))
   case atStart=>exact⟨0,by omega,rfl,Lib.hid ⟨HR.out.1,rfl⟩⟩
   case round =>
    obtain⟨k2,hk,rfl,HR2⟩:=hrel
    by_cases hlt:k2<n2
    ·obtain⟨dg,hf⟩:∃dg,c.diags[k2]? = some dg:=⟨_,List.getElem?_eq_getElem (by have:=HH.out.2.2.2.2.2.2.2.2.2.2.2.2.1;omega)⟩;obtain⟨b,off,rfl,hbB,q0,q1,q2,q3⟩:=HH.out.2.2.2.2.2.2.1.at hf;have hbw:=(HH.out.2.2.2.2.1 wr HR2.out.1).2.2.2.2;have hbl:=Nat.lt_of_lt_of_le hbB HH.out.2.2.2.2.2.2.2.2.2.1;have r0:=(hbw.cell (p:=⟨b,off+k2*4,none⟩) hbl).trans q0;have r1:=(hbw.cell (p:=⟨b,off+k2*4+1,none⟩) hbl).trans q1;have r2:=(hbw.cell (p:=⟨b,off+k2*4+2,none⟩) hbl).trans q2;have r3:=(hbw.cell (p:=⟨b,off+k2*4+3,none⟩) hbl).trans q3;have hBx:=(Below.refl wr.heap.size wr).alloc (Nat.le_refl _) (.cells #[.string dg.file,.int .i64 dg.line,.int .i64 (dg.fault:Int),.string dg.text] 51);have hF2:=HH.out.2.1 _ (hbw.trans (hBx.mono hbw.size)) dg.text;have HP:=hidH4 hf hbw hBx hF2;clear hf hbw q0 q1 q2 q3 hbB hbl hBx hF2
     by_cases hfa:dg.fault=1
     ·have hfi:((dg.fault:Int)=1):=by omega
      cases hy:findS l dg.text with
      | some y =>
       have hF:=HP.out.2.2.2;have hBy:=HP.out.2.2.1;rw[hfi] at hBy;rw[hfi,hy] at hF;unfold getV at hF;have HF:=hidH4 hF hy hfa hBy;clear hF hy hfa hBy
       go_wp2_with fail
       refine HF.out.1.mono ?_;rintro e w3 ⟨rfl,hb3⟩
       go_wp2_with fail
       go_ret
       have hP:sameD l dg=false:=by unfold sameD;rw[HF.out.2.1,HF.out.2.2.1];rfl
       refine⟨ret_bool ?_,HP.out.2.1.trans ((HF.out.2.2.2.trans (hb3.mono HF.out.2.2.2.size)).mono HP.out.2.1.size)⟩;unfold sameM;rw[HA1.out,Bool.true_and,all_fail HP.out.1 hP,Bool.false_and]
      | none =>
       have hF:=HP.out.2.2.2;have hBy:=HP.out.2.2.1;rw[hfi] at hBy;rw[hfi,hy] at hF;unfold getV at hF;have HF:=hidH3 hF hy hBy;clear hF hy hfa hBy
       go_wp2_with fail
       refine HF.out.1.mono ?_;rintro e w3 ⟨rfl,hb3⟩
       go_wp2_with fail
       have hP:sameD l dg=true:=by unfold sameD;rw[HF.out.2.1];exact Bool.or_true _
       go_roundg (gk-1)
       case measure=>omega
       case rel=>exact⟨k2+1,by omega,by go_num,Lib.hid ⟨HR2.out.1.trans ((HF.out.2.2.trans (hb3.mono HF.out.2.2.size)).mono HR2.out.1.size),all_step HP.out.1 HR2.out.2 hP⟩⟩
     ·have hfi:¬((dg.fault:Int)=1):=by omega
      have hP:sameD l dg=true:=by unfold sameD;rw[decide_eq_false hfa];rfl
      have HF:=Lib.hid hP;clear hP hfa
      go_wp2_with fail
      go_roundg (gk-1)
      case measure=>omega
      case rel=>exact⟨k2+1,by omega,by go_num,Lib.hid ⟨HR2.out.1.trans (HP.out.2.2.1.mono HR2.out.1.size),all_step HP.out.1 HR2.out.2 HF.out⟩⟩
    ·obtain rfl:k2=n2:=by omega
     have h1:=all_end HH.out.2.2.2.2.2.2.2.2.2.2.2.2.1 HR2.out.2;have HA2:=Lib.hid h1;obtain⟨_,_,_,_,hbw⟩:=HH.out.2.2.2.2.1 wr HR2.out.1;have hal:=HH.out.2.2.1 wr hbw;have HAL:=Lib.hid hal;obtain⟨wB,hwB⟩:∃x,x=wr:=⟨_,rfl⟩;subst hwB;clear h1 hbw hk hlt hal c2
     go_wp2_with fail
     refine HAL.out.mono ?_;rintro e wC ⟨rfl,hbC⟩;have hRC:=HR2.out.1.trans (hbC.mono HR2.out.1.size);obtain⟨_,_,c4,_,hbwC⟩:=HH.out.2.2.2.2.1 wC hRC;have HRC:=Lib.hid hRC;clear hRC hbC hbwC
     go_wp2_with fail
     go_loopg [82] n3 (fun q i wr=>∃k:Nat,k+q=n3∧i=.int .i64 (k:Int)∧Hid (Below W0.heap.size W0 wr∧(c.attrs.take k).all (sameA a2)=true))
     case atStart=>exact⟨0,by omega,rfl,Lib.hid ⟨HRC.out,rfl⟩⟩
     case round =>
      obtain⟨k3,hk,rfl,HR3⟩:=hrel
      by_cases hlt:k3<n3
      ·obtain⟨at',hf⟩:∃at',c.attrs[k3]? = some at':=⟨_,List.getElem?_eq_getElem (by have:=HH.out.2.2.2.2.2.2.2.2.2.2.2.2.2.1;omega)⟩;obtain⟨b,off,rfl,hbB,q0,q1⟩:=HH.out.2.2.2.2.2.2.2.1 k3 (atP at') (by rw[List.getElem?_map,hf];rfl);unfold atP at q0 q1;dsimp only at q0 q1;have hbw:=(HH.out.2.2.2.2.1 wr HR3.out.1).2.2.2.2;have hbl:=Nat.lt_of_lt_of_le hbB HH.out.2.2.2.2.2.2.2.2.2.1;have r0:=(hbw.cell (p:=⟨b,off+k3*2,none⟩) hbl).trans q0;have r1:=(hbw.cell (p:=⟨b,off+k3*2+1,none⟩) hbl).trans q1;have hBx:=(Below.refl wr.heap.size wr).alloc (Nat.le_refl _) (.cells #[.string at'.name,.string at'.value] 47);have hXx:=Holds.new wr 47 #[.string at'.name,.string at'.value];have hF2:=HH.out.2.2.2.1 _ (hbw.trans (hBx.mono hbw.size)) at'.name;obtain⟨av3,hav3⟩:∃x,at'.value=x:=⟨_,rfl⟩;rw[hav3] at r1 hBx hF2 hXx;have HP:=hidH6 hf hbw hBx hF2 hav3 hXx;clear hf hbw q0 q1 hbB hbl hBx hF2 hav3 hXx;cases hy:getA a2 at'.name with
       | none =>
        have hF:=HP.out.2.2.2.1;rw[hy] at hF;unfold getV at hF;have HF:=hidH2 hF hy;clear hF hy
        go_wp2_with fail
        refine HF.out.1.mono ?_;rintro e w3 ⟨rfl,hb3⟩
        go_wp2_with fail
        go_ret
        have hP:sameA a2 at'=false:=by unfold sameA;rw[HF.out.2]
        refine⟨ret_bool ?_,HP.out.2.1.trans ((HP.out.2.2.1.trans (hb3.mono HP.out.2.2.1.size)).mono HP.out.2.1.size)⟩;unfold sameM;rw[HH.out.2.2.2.2.2.2.2.2.2.2.1,HA1.out,HA2.out,Bool.true_and,Bool.true_and,all_fail HP.out.1 hP,Bool.false_and]
       | some v =>
        have hF:=HP.out.2.2.2.1;rw[hy] at hF;unfold getV at hF;have HF:=hidH2 hF hy;clear hF hy;have hE:=toL_eq v av3;obtain⟨d,hd⟩:∃d,decide (v=av3)=d:=⟨_,rfl⟩;rw[hd] at hE;have HD:=Lib.hid hd;clear hd;cases d with
        | false =>
         go_wp2_with fail
         refine HF.out.1.mono ?_;rintro e w3 ⟨rfl,hb3⟩;have s1:=(HP.out.2.2.2.2.2.below hb3 (by simp)).cell 1;simp at s1
         go_wp2_with fail
         go_ret
         have hP:sameA a2 at'=false:=by unfold sameA;rw[HF.out.2];dsimp only;rw[HP.out.2.2.2.2.1];exact HD.out
         refine⟨ret_bool ?_,HP.out.2.1.trans ((HP.out.2.2.1.trans (hb3.mono HP.out.2.2.1.size)).mono HP.out.2.1.size)⟩;unfold sameM;rw[HH.out.2.2.2.2.2.2.2.2.2.2.1,HA1.out,HA2.out,Bool.true_and,Bool.true_and,all_fail HP.out.1 hP,Bool.false_and]
        | true =>
         go_wp2_with fail
         refine HF.out.1.mono ?_;rintro e w3 ⟨rfl,hb3⟩;have s1:=(HP.out.2.2.2.2.2.below hb3 (by simp)).cell 1;simp at s1
         go_wp2_with fail
         have hP:sameA a2 at'=true:=by unfold sameA;rw[HF.out.2];dsimp only;rw[HP.out.2.2.2.2.1];exact HD.out
         go_roundg (gk-1)
         case measure=>omega
         case rel=>exact⟨k3+1,by omega,by go_num,Lib.hid ⟨HR3.out.1.trans ((HP.out.2.2.1.trans (hb3.mono HP.out.2.2.1.size)).mono HR3.out.1.size),all_step HP.out.1 HR3.out.2 hP⟩⟩
      ·obtain rfl:k3=n3:=by omega
       have h1:=all_end HH.out.2.2.2.2.2.2.2.2.2.2.2.2.2.1 HR3.out.2;have HA3:=Lib.hid h1;obtain⟨_,_,_,c5,hbw⟩:=HH.out.2.2.2.2.1 wr HR3.out.1;obtain⟨wD,hwD⟩:∃x,x=wr:=⟨_,rfl⟩;subst hwD;clear h1 hbw hk hlt c4
       go_wp2_with fail
       go_loopg [105] n4 (fun q i wr=>∃k:Nat,k+q=n4∧i=.int .i64 (k:Int)∧Hid (Below W0.heap.size W0 wr∧(c.unset.take k).all (sameU a2)=true))
       case atStart=>exact⟨0,by omega,rfl,Lib.hid ⟨HR3.out.1,rfl⟩⟩
       case round =>
        obtain⟨k4,hk,rfl,HR4⟩:=hrel
        by_cases hlt:k4<n4
        ·obtain⟨un,hf⟩:∃un,c.unset[k4]? = some un:=⟨_,List.getElem?_eq_getElem (by have:=HH.out.2.2.2.2.2.2.2.2.2.2.2.2.2.2;omega)⟩;obtain⟨b,off,rfl,hbB,q0⟩:=HH.out.2.2.2.2.2.2.2.2.1 k4 un hf;have hbw:=(HH.out.2.2.2.2.1 wr HR4.out.1).2.2.2.2;have r0:=(hbw.cell (p:=⟨b,off+k4,none⟩) (Nat.lt_of_lt_of_le hbB HH.out.2.2.2.2.2.2.2.2.2.1)).trans q0;have hF2:=HH.out.2.2.2.1 _ hbw un;have HP:=hidH3 hf hbw hF2;clear hf hbw q0 hbB hF2;cases hy:getA a2 un with
         | none =>
          have hF:=HP.out.2.2;rw[hy] at hF;unfold getV at hF;have HF:=hidH2 hF hy;clear hF hy
          go_wp2_with fail
          refine HF.out.1.mono ?_;rintro e w3 ⟨rfl,hb3⟩
          go_wp2_with fail
          have hP:sameU a2 un=true:=by unfold sameU;rw[HF.out.2];rfl
          go_roundg (gk-1)
          case measure=>omega
          case rel=>exact⟨k4+1,by omega,by go_num,Lib.hid ⟨HR4.out.1.trans (hb3.mono HR4.out.1.size),all_step HP.out.1 HR4.out.2 hP⟩⟩
         | some v =>
          have hF:=HP.out.2.2;rw[hy] at hF;unfold getV at hF;have HF:=hidH2 hF hy;clear hF hy
          go_wp2_with fail
          refine HF.out.1.mono ?_;rintro e w3 ⟨rfl,hb3⟩
          go_wp2_with fail
          go_ret
          have hP:sameU a2 un=false:=by unfold sameU;rw[HF.out.2];rfl
          refine⟨ret_bool ?_,HP.out.2.1.trans (hb3.mono HP.out.2.1.size)⟩;unfold sameM;rw[HH.out.2.2.2.2.2.2.2.2.2.2.1,HA1.out,HA2.out,HA3.out,Bool.true_and,Bool.true_and,Bool.true_and,all_fail HP.out.1 hP]
        ·obtain rfl:k4=n4:=by omega
         have h1:=all_end HH.out.2.2.2.2.2.2.2.2.2.2.2.2.2.2 HR4.out.2;have HA4:=Lib.hid h1;clear h1
         go_wp2_with fail
         go_ret
         refine⟨ret_bool ?_,(HH.out.2.2.2.2.1 wr HR4.out.1).2.2.2.2⟩;unfold sameM;rw[HH.out.2.2.2.2.2.2.2.2.2.2.1,HA1.out,HA2.out,HA3.out,HA4.out];rfl
end Go.Proofs.YtkkebmciiiajeaaGreatDoor
