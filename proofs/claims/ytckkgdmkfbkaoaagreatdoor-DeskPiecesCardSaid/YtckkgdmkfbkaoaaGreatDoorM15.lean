/- Texts of the proof. -/
import Derived.Test.YtckkgdmkfbkaoaaGreatDoorM14
namespace Go.Proofs.YtckkgdmkfbkaoaaGreatDoor
open Go.Proofs.Tryz
set_option maxRecDepth 100000
set_option maxHeartbeats 32000000
set_option linter.all false
section
open Go.RowKit
theorem Qga:El prog 22 9 1 16:=El.mk' underlying22 (by kernel_rfl) (by decide)
def Xl (cs:List (List Int)):List Value:=cs.map fun c=>.string ⟨(U.encs c).toArray⟩
theorem Qgb (a b:List (List Int)):Xl (a++b)=Xl a++Xl b:=by simp[Xl]
theorem Qod {s:U.Bs}{k:Nat}(hk:k≤s.length):(ByteArray.mk s.toArray).extract 0 k=⟨(s.take k).toArray⟩:=by
 simp[ByteArray.extract,ByteArray.copySlice,hk]
theorem Qoe (rs:List Int)(k:Nat):(U.encs rs).take (bl (fill rs k))=U.encs (fill rs k)∧(U.encs rs).drop (bl (fill rs k))=U.encs (rs.drop (fill rs k).length):=by
 have e:U.encs rs=U.encs (fill rs k)++U.encs (rs.drop (fill rs k).length):=by rw[← U.encs_append,← Qhj]
 unfold bl
 constructor
 ·conv=>lhs;rw[e]
  exact List.take_left
 ·conv=>lhs;rw[e]
  exact List.drop_left
theorem Qof {rs:List Int}(h:U.AllR rs){k:Nat}(h1:bl (fill rs 32)≤k)(h2:k≤32)(h3:32<bl rs):U.cont ((U.encs rs).getD k 0)=decide (bl (fill rs 32)<k):=by
 have hr:=Qaw h (a:=k) (by omega);have hn:k≠(U.encs rs).length:=by have:(U.encs rs).length=bl rs:=rfl;omega
 unfold Yv at hr;rw[decide_eq_false hn,Bool.false_or] at hr
 by_cases hk:bl (fill rs 32)<k
 ·rw[decide_eq_true hk]
  cases hc:U.cont ((U.encs rs).getD k 0) with
  | true=>rfl
  | false =>
   exfalso
   rw[hc] at hr;obtain⟨p,q,e,hb⟩:=hr.1 rfl
   have:=Qsg e (k:=32) (by omega)
   omega
 ·rw[decide_eq_false hk];obtain⟨q,e⟩:=Qhh rs 32
  have:=hr.2 ⟨fill rs 32,q,e,by omega⟩
  simpa using this
theorem Qog {rs:List Int}(h:32<bl rs):Qr rs=fill rs 32 :: Qr (rs.drop (fill rs 32).length):=by
 conv=>lhs;unfold Qr
 rw[dif_pos h]
theorem Qoh {rs:List Int}(h:¬ 32<bl rs):Qr rs=if rs=[] then [] else [rs]:=by
 conv=>lhs;unfold Qr
 rw[dif_neg h]
section
variable {P:Program}
theorem Qoi {ops:Array Oper}{o:Oper}{a:Act}{w:World}{K:Act→World→Prop}{Q:Exit→Act→World→Prop}{F:Prop}{s x:Operand}{t e:TypeId}{size bytes base n m B:Nat}{v:Value}{xs:List Value}{cs:Array Value}
  (E:El P t e size bytes) (hgd:o.guard=none) (ho:o.op=.call { callee:=.builtin .append,args:=#[s,x],argTypes:=#[t,t] }) (hs:a.eval s=v) (hown:w.ownsRow base e size v n xs)
  (hx:a.eval x=.slice (some ⟨B,0,none⟩) m m) (hb:w.heap[B]?=some (.cells cs e (0,0))) (hl:cs.toList.length=m*size) (h1:∀ u∈cs.toList,u.oneCell'=true) (hm:0<m)
  (h63:n+m≤maxLen) (hbytes:(n+m)*bytes≤140737488355328) (hbase:base≤w.heap.size)
  (h:∀ g cap w',w'.ownsRow base e size (.slice (some ⟨g,0,none⟩) (n+m) cap) (n+m) (xs++cs.toList)→Below base w w'→K (a.put o.dst (.slice (some ⟨g,0,none⟩) (n+m) cap)) w') :
  if Region.wanted o (yielded ops a.tmps)=true then Oper.wp P o a w K Q else F:=by
 obtain⟨i,z,hi,hz,hsi,hby,hzs⟩:=E.hi;refine step_append_lies w hgd s x t ho base e i z size bytes E.ht hi hz hsi hby hzs E.pos v n xs hs hown ⟨B,0,none⟩ m m cs.toList hx hl (World.news_of_block hb) h1 hm h63 hbytes hbase _ rfl ?_;intro g cap w' ho' hg _ _;have hlt:=hown.lt;exact h g cap w' ho' ⟨hg.os,hg.tape,hg.output,hg.size,fun k hk=>hg.block k (by omega) (fun e=>by have:=(hlt k e.symm).1;omega)⟩
end
theorem Qoj (rs:List Int)(k:Nat):bl (rs.drop k)=bl rs-bl (rs.take k):=by
 have:rs=rs.take k++rs.drop k:=(Wbh k rs).symm
 conv=>rhs;lhs;rw[this]
 rw[bl_append];omega
attribute [local go_sem] Xf
theorem Qok {rs:List Int}(hr:U.AllR rs)(hs:bl rs≤1000000)(w:World) :
  Calls prog 233 #[.string ⟨(U.encs rs).toArray⟩] w fun e w'=>∃ v,e=.returned v∧Below w.heap.size w w'∧w'.ownsRow w.heap.size 9 1 v (Qr rs).length (Xl (Qr rs)):=by
 have HR:=Hm hr;have HS:=Hm hs;clear hr hs;go_enter func233,ntmps233
 go_wp2_with fail
 go_loopg [0,3] rs.length (fun gk sv out wr=>∃ (d:List (List Int)) (q:List Int),sv=.string ⟨(U.encs q).toArray⟩∧Qr rs=d++Qr q∧U.AllR q∧q.length=gk∧bl q≤bl rs∧d.length+q.length≤rs.length∧wr.ownsRow w.heap.size 9 1 out d.length (Xl d)∧Below w.heap.size w wr)
 case atStart=>exact⟨[],rs,rfl,rfl,HR.o,rfl,Wak _,by simp,⟨rfl,.inl ⟨rfl,rfl⟩⟩,Wac _ _⟩
 case round =>
  obtain⟨d,q,rfl,hc,hq,hg,hb,hdl,hown,hbel⟩:=hrel;have HC:=Hm hc;have HQ:=Hm hq;have HG:=Hm hg;have HO:=Hm hown;have HB:=Hm hbel;have hrl:=QB rs;have hs:=HS.o;have HDL:Hd (d.length+q.length≤1000000):=⟨by omega⟩;have hlq:(U.encs q).length=bl q:=rfl;have hbq:bl q≤1000000:=by omega
  have HBQ:=Hm hb;have HDL0:=Hm hdl;clear hc hq hg hown hbel hrl hs hdl
  by_cases h1:32<bl q
  ·have hi:(32:Int)<(bl q:Int):=by omega
   have HFL:Hd (bl (fill q 32)≤32∧fill q 32≠[]):=⟨Qhi _ _,Qax (by rintro rfl;simp at h1) (by omega)⟩;have HTF:=Hm (Qoe q 32);have HST:=Hm (Qog h1);have HCU:Hd (∀ k,bl (fill q 32)≤k→k≤32→U.cont ((U.encs q).getD k 0)=decide (bl (fill q 32)<k)):=⟨fun k h2 h3=>Qof HQ.o h2 h3 h1⟩;go_wp2_with fail
   go_loopg [4] 32 (fun gk kv wr'=>∃ k:Nat,kv=.int .i64 k∧k=gk∧bl (fill q 32)≤k∧k≤32∧wr'=wr)
   case atStart=>exact⟨32,rfl,rfl,HFL.o.1,Wak _,rfl⟩
   case round =>
    obtain⟨k,rfl,hk0,hk1,hk2,rfl⟩:=hrel;have e0:=fun hh=>byte_at (s:=U.encs q) (j:=k) (by omega) hh
    have hcc:=HCU.o k hk1 hk2;have HK1:=Hm hk1
    by_cases h2:bl (fill q 32)<k
    ·rw[decide_eq_true h2] at hcc;have hct:=ZO hcc;have HK0:=Hm hk0;have HK2:=Hm h2;clear hcc h2 hk0 hk1;generalize (U.encs q).getD k 0=x at *;have hx:=x.toNat_lt;go_wp2_with fail
     go_roundg (k-1)
     case rel=>exact⟨k-1,by congr 1;have:=HK2.o;omega,rfl,by have:=HK2.o;omega,by omega,rfl⟩
     case measure=>have:=HK0.o;have:=HK2.o;omega
    ·have hke:bl (fill q 32)=k:=by omega
     rw[decide_eq_false h2] at hcc;have hct:=YQ (by rw[hcc];exact Bool.false_ne_true);rw[hke] at HTF;clear hcc h2 hk0 hk1;have hx:=((U.encs q).getD k 0).toNat_lt;generalize (U.encs q).getD k 0=x at *;have hkl:k≤(U.encs q).length:=by omega
     have e1:=Qod hkl;have e2:(ByteArray.mk (U.encs q).toArray).extract k (bl q)=⟨((U.encs q).drop k).toArray⟩:=Xf _ _;rw[HTF.o.1] at e1;rw[HTF.o.2] at e2;rw[hlq] at hkl;have HKE:=Hm hke;clear hke;go_wp2_with fail;go_region_law (first | (refine Qoi (m:=1) (B:=wr.heap.size) (cs:=#[Value.string ⟨(U.encs (fill q 32)).toArray⟩]) (base:=w.heap.size) (n:=d.length) (v:=u3) (xs:=Xl d) Qga rfl rfl rfl ((Q9 HO.o (Only.of_below (S:=fun _=>False) (Wac _ _)) (fun _ _ h=>h)).drew.alloc _) rfl (Wbc wr.drew _) rfl (YI rfl) (by decide) (by have:=HDL.o;unfold maxLen;omega) (by have:=HDL.o;omega) (by have:=HB.o.size;simp;omega) ?_;intro g2 cap2 w2 hown2 hbel2))
     have HO2:=Hm hown2;have HB2:=Hm hbel2;clear hown2 hbel2;go_wp2_with fail
     go_roundg (q.drop (fill q 32).length).length
     case rel =>
      refine⟨d++[fill q 32],q.drop (fill q 32).length,rfl,by rw[HC.o,HST.o];simp,fun x hx=>HQ.o x (List.mem_of_mem_drop hx),rfl,by rw[Qoj];have:=HBQ.o;omega,?_,?_,?_⟩
      ·have:=Wax.2 HFL.o.2
       have h3:0<q.length:=by
        rcases q with _ | ⟨y,q⟩
        ·simp at h1
        ·simp
       have:=HDL0.o
       rw[War,Wad,List.length_singleton];omega
      ·have:=HO2.o
       rw[Qgb,Wad,List.length_singleton];exact this
      ·refine HB.o.trans ⟨HB2.o.os,HB2.o.tape,HB2.o.output,?_,fun i hi=>?_⟩
       ·have:=HB2.o.size;simp at this;omega
       ·rw[HB2.o.block i hi];exact Below.heap_alloc wr.drew _ i (by have:=HB.o.size;simp;omega)
     case measure =>
      have:=Wax.2 HFL.o.2
      have h3:0<q.length:=by
       rcases q with _ | ⟨y,q⟩
       ·simp at h1
       ·simp
      have:=HG.o
      rw[War];omega
  ·have hi:¬ ((32:Int)<(bl q:Int)):=by omega
   have hcl:=Qoh h1
   cases q with
   | nil =>
    have HCL:Hd (Qr rs=d):=⟨by rw[HC.o,hcl,if_pos rfl,Wam]⟩;have hbq0:bl []=0:=rfl;clear hcl hi h1 hlq hbq;simp only[U.encs_nil];go_wp2_with fail;go_ret;rw[HCL.o]
    exact⟨_,rfl,HB.o,HO.o⟩
   | cons y q =>
    have HCL:Hd (Qr rs=d++[y :: q]):=⟨by rw[HC.o,hcl,if_neg (by simp)]⟩;have hne:(U.encs (y :: q) == [])=false:=by rw[Waf];intro e;have:=ZQ (rs:=y :: q) (by simp);unfold bl at this;rw[e] at this;simp at this
    generalize y :: q=q2 at *;clear hcl;go_wp2_with (at_builtin;refine Yw Qga #[.string ⟨(U.encs q2).toArray⟩] HO.o rfl rfl rfl rfl rfl (YI rfl) (by have:=HDL.o;unfold maxLen;omega) (by have:=HDL.o;omega) HB.o.size ?_;intro v1 w1 hown1 hbel1 _;have HO1:=Hm hown1;have HB1:=Hm hbel1;clear hown1 hbel1)
    go_ret;rw[HCL.o];refine⟨_,rfl,HB.o.trans HB1.o,?_⟩
    have:=HO1.o
    rw[Qgb,Wad,List.length_singleton];exact this
end
section
open Go.RowKit
structure Lay (w w':World)(p:Nat)(t t':RT):Prop where
 at_:AtR w' p t'
 nodup:t'.blocks.Nodup
 sub:∀ i∈t'.blocks,i∈t.blocks∨w.heap.size≤i
 only:Only (fun i=>i=p∨i∈t.blocks) w w'
 bal:t.Bal→t'.Bal
theorem Qtu {t:RT}{g:Nat}{c:List Int}(hn:t.blocks.Nodup)(hg:g ∉ t.blocks)(ne:Ne t.chunks)(hs:bl t.runes+bl c≤1000000):ApN (t.nodes++(RT.node g c .nil .nil).nodes):=by
 have h1:=QB t.runes;have h2:=QB c;have h3:=Qfd ne;rw[RT.len_chunks,← RT.runes_chunks] at h3;refine⟨?_,⟨?_,?_⟩⟩
 ·simp only[RT.nodes_node,RT.nodes_nil,Wbn,Wbo,List.map_cons,List.map_nil];exact List.nodup_append.2 ⟨hn,by simp,fun x hx y hy e=>by simp at hy;subst hy;subst e;exact hg hx⟩
 ·rw[List.flatMap_append,← RT.runes_nodes];simp;omega
 ·simp;omega
theorem Qdo {t:RT}{a b:List (List Int)}(h:t.chunks=a++b):∃ na nb,t.nodes=na++nb∧na.map Prod.snd=a∧nb.map Prod.snd=b:=by
 obtain⟨na,nb,h1,h2,h3⟩:=List.map_eq_append_iff.1 h
 exact⟨na,nb,h1,h2,h3⟩
theorem Qdp (na:List (Nat × List Int)):bl (na.flatMap Prod.snd)=cb (na.map Prod.snd):=by rw[List.flatMap_def];rfl
theorem Qtv {x t:RT}{k:Nat}{a b:List (List Int)}(hne:Ne t.chunks)(h:t.chunks=a++b)(hk:cb a=k):(RT.addT x t k).chunks=a++x.chunks++b:=by
 obtain⟨na,nb,h1,h2,h3⟩:=Qdo h;unfold RT.chunks;rw[RT.addT_nodes hne h1 (by rw[Qdp,h2,hk])];simp[h2,h3]
theorem Qtw {x t:RT}{k:Nat}{a b:List (List Int)}(hne:Ne t.chunks)(h:t.chunks=a++b)(hk:cb a=k)(hd:ApN (t.nodes++x.nodes)):(RT.addT x t k).blocks.Nodup:=by
 obtain⟨na,nb,h1,h2,h3⟩:=Qdo h;unfold RT.blocks;rw[RT.addT_nodes hne h1 (by rw[Qdp,h2,hk])]
 have:=(Qae na x.nodes nb []).symm
 rw[h1] at hd;exact (hd.perm (by simpa using this)).nodup
theorem Lay.more {w1 wr w2 w3:World}{p g k:Nat}{t t':RT}{c:List Int}{a b:List (List Int)}(h:Lay w1 wr p t t')(hb:Below wr.heap.size wr w2)(hg:wr.heap.size≤g)(hne:Ne t'.chunks)(hab:t'.chunks=a++b)(hk:cb a=k)
  (hd:ApN (t'.nodes++(RT.node g c .nil .nil).nodes)) (ht:AtT w3 (RT.addT (.node g c .nil .nil) t' k)) (ho:Only (YW t' (.node g c .nil .nil)) w2 w3) (_hp:p<w1.heap.size) :
  Lay w1 (w3.setCell ⟨p,0,none⟩ (RT.addT (.node g c .nil .nil) t' k).ptr) p t (RT.addT (.node g c .nil .nil) t' k):=by
 have hpl:=h.at_.blk.lt;have hpn:¬ YW t' (.node g c .nil .nil) p:=fun e=>e.elim h.at_.out (fun e=>by simp at e;omega)
 have hp3:=(h.at_.blk.below hb hpl).only ho hpn;have hout:p ∉ (RT.addT (.node g c .nil .nil) t' k).blocks:=fun e=>hpn (Qad e)
 refine⟨⟨hp3.set_ 0 _,ht.only ((Only.refl (fun i=>i=p) w3).setCell (p:=⟨p,0,none⟩) (.inl rfl) _) (fun i hi e=>hout (e ▸ hi)),hout⟩,Qtw hne hab hk hd,fun i hi=>?_,?_,fun hbal=>?_⟩
 ·rcases Qad hi with e | e
  ·exact h.sub i e
  ·simp at e;subst e;exact .inr (Wbf h.only.size hg)
 ·refine Jf ((h.only.then_below hb).step ho ?_) (.inl rfl);intro i hi e;rcases e with e | e
  ·rcases h.sub i e with e | e
   ·exact .inr e
   ·omega
  ·simp at e;have:=h.only.size;omega
 ·exact (RT.addT_bal (by simp[RT.Bal]) rfl (h.bal hbal) _).1
theorem Qtx {p k:Nat}{t:RT}{rs:List Int}{a b:List (List Int)}{w:World}(h:AtR w p t)(hn:t.blocks.Nodup)(hne:Ne t.chunks)(hab:t.chunks=a++b)(hk:cb a=k)(hr:U.AllR rs)(hs:bl t.runes+bl rs≤1000000) :
  Calls prog 184 #[.pointer (some ⟨p,0,none⟩),.int .i64 k,.string ⟨(U.encs rs).toArray⟩] w fun e w'=>e=.returned (.tuple #[])∧∃ t',t'.chunks=a++Qr rs++b∧Lay w w' p t t':=by
 have HC:=Hm (Qok hr (by omega) w);go_enter func184,ntmps184
 go_wp2_with (go_at_call 233;refine HC.o.mono ?_;rintro e w1 ⟨v,rfl,hb,hown⟩;obtain⟨A,cp,rfl⟩:=Qm hown;have HB:=Hm hb;have HO:=Hm hown;clear hb hown)
 have HN:=Hm hne;have HAB:=Hm hab;have HK:=Hm hk;have HS:=Hm hs;have hL0:Lay w1 w1 p t t:=⟨h.below HB.o,hn,fun i hi=>.inl hi,Only.refl _ _,id⟩;have HP:Hd (p<w1.heap.size∧(∀ i∈t.blocks,i<w.heap.size)∧p<w.heap.size∧U.AllR rs):=⟨⟨by have:=h.blk.lt;have:=HB.o.size;omega,h.tree.lt,h.blk.lt,hr⟩⟩;have hkb:k≤1000000:=by have:=JL t;rw[hab,cb_append] at this;omega
 have HKB:Hd (cb a+bl rs≤1000000):=⟨by have:=JL t;rw[hab,cb_append] at this;omega⟩;have HL0:=Hm hL0;clear h hn hne hab hk hr hs hL0
 go_loopw [1,11] (fun kv i wr=>∃ (j:Nat) (t':RT),j≤(Qr rs).length∧i=.int .i64 j∧kv=.int .i64 ((k+cb ((Qr rs).take j):Nat):Int)∧t'.chunks=a++(Qr rs).take j++b∧Lay w1 wr p t t') (fun _ i _=>(Qr rs).length-(intOf i).toNat)
 case atStart=>exact⟨0,t,Nat.zero_le _,rfl,rfl,by simpa using HAB.o,HL0.o⟩
 case round =>
  obtain⟨j,t',hj,rfl,rfl,hch,hL⟩:=hrel
  by_cases hlt:j<(Qr rs).length
  ·have hlt':(j:Int)<((Qr rs).length:Int):=by omega
   have hrow:=Q9 HO.o hL.only (fun i e hS=>by
    have:=(HO.o.lt i e).1
    rcases hS with rfl | hS
    ·have:=HP.o.2.2.1;omega
    ·have:=HP.o.2.1 i hS;omega)
   obtain⟨ad,c',u,hv,hadl,hu,hcell⟩:=(Sl.of_own hrow).at_ hlt
   cases hv
   have hu2:u=.string ⟨(U.encs (Qr rs)[j]).toArray⟩:=by
    unfold Xl at hu;rw[Wav,Waj hlt] at hu;simpa using hu.symm
   subst hu2;have HM:=Hm (Qdb (Wau hlt));have HTK:Hd ((Qr rs).take (j+1)=(Qr rs).take j++[(Qr rs)[j]]):=⟨Wag hlt⟩;have HRC:Hd (U.AllR (Qr rs)[j]):=⟨fun x hx=>HP.o.2.2.2 x (by rw[← Jy rs];exact List.mem_flatten.2 ⟨_,Wau hlt,hx⟩)⟩
   have hsum:cb ((Qr rs).take j)+bl (Qr rs)[j]≤bl rs:=by
    have e:bl rs=cb (Qr rs):=by rw[cb,Jy]
    have e2:Qr rs=(Qr rs).take (j+1)++(Qr rs).drop (j+1):=(Wbh _ _).symm;rw[e];conv=>rhs;rw[e2]
    rw[HTK.o,cb_append,cb_append,cb_cons,cb_nil];omega
   have hkb2:=HKB.o;have hkk:=HK.o
   have hnt:Ne t'.chunks:=by
    rw[hch]
    have:=HN.o;rw[HAB.o] at this
    exact (this.l.app (fun x hx=>Qdc rs x (List.mem_of_mem_take hx))).app this.r
   have hsz:bl t'.runes+bl (Qr rs)[j]≤1000000:=by
    have:=JL t'
    rw[hch,cb_append,cb_append] at this;have h2:=JL t;rw[HAB.o,cb_append] at h2
    have:=HS.o
    omega
   have HKJ:Hd (cb (a++(Qr rs).take j)=k+cb ((Qr rs).take j)):=⟨by rw[cb_append];omega⟩;have HKJ2:Hd (k+cb ((Qr rs).take (j+1))=k+cb ((Qr rs).take j)+bl (Qr rs)[j]):=⟨by rw[HTK.o,cb_append,cb_cons,cb_nil];omega⟩;have HL:=Hm hL;have HCH:=Hm hch;have HNT:=Hm hnt;have HSZ:=Hm hsz;obtain⟨kj,hkj⟩:∃ x,x=k+cb ((Qr rs).take j):=⟨_,rfl⟩;rw[← hkj] at HKJ HKJ2;have hkjb:kj≤1000000:=by omega
   have hcb:bl (Qr rs)[j]≤32:=HM.o.2;rw[← hkj];have HLC:Hd ((U.encs (Qr rs)[j]).length=bl (Qr rs)[j]):=⟨rfl⟩;have hlc:(U.encs (Qr rs)[j]).length≤32:=HM.o.2;have hjb:j≤1000000:=by have h1:=Qfd (Qdc rs);have h2:=QB rs;rw[Jy] at h1;omega
   generalize (Qr rs)[j]=c at *;have c0:=hL.at_.blk.cell 0;have cf:=hL.at_.blk.frozen;have cl:=hL.at_.blk.lt;simp only[Wab,Waa,RT.ptr] at c0;clear hL hch hnt hsz hrow hu hsum hkb2 hkk hkj hkb hj;go_wp2_with fail
   go_region_with (first
    | (go_at_call 235;refine (Qpm (rs:=c) HRC.o (by omega) _).mono ?_;rintro e w2 ⟨g,he,hgs,hat,hb2'⟩;have hb2:=Qeb hb2';clear hb2';rw[RT.ptr_node] at he;obtain rfl:=he;have hp2:=HL.o.at_.blk.below hb2 HL.o.at_.blk.lt;have c0:=hp2.cell 0;have cf:=hp2.frozen;have cl:=hp2.lt;simp only[Wab,Waa,RT.ptr] at c0;have HB2:=Hm hb2;have HGS:=Hm hgs;have HAT:=Hm hat;have HAPN:=Hm (Qtu HL.o.nodup (fun e=>by have:=HL.o.at_.tree.lt g e;simp at hgs;omega) HNT.o HSZ.o);clear hp2 hb2 hgs hat)
    | (go_at_call 234;refine (Qpo (x:=.node g c .nil .nil) (t:=t') (k:=kj) HAT.o (HL.o.at_.tree.below HB2.o) HNT.o HAPN.o (by obtain⟨na,nb,e1,e2,e3⟩:=Qdo HCH.o;exact⟨na,nb,e1,by rw[Qdp,e2];exact HKJ.o⟩)).mono ?_;rintro e w3 ⟨he,ht3,ho3⟩;rw[RT.ptr] at he;obtain rfl:=he;have HT3:=Hm ht3;have HO3:=Hm ho3;have hp3:=(HL.o.at_.blk.below HB2.o HL.o.at_.blk.lt).only ho3 (fun e=>e.elim HL.o.at_.out (fun e=>by have:=HL.o.at_.blk.lt;have:=HGS.o;simp at e this;omega));have c0:=hp3.cell 0;have cf:=hp3.frozen;have cl:=hp3.lt;simp only[Wab,Waa,RT.ptr] at c0;clear hp3 ht3 ho3))
   all_goals
    have hmore:=HL.o.more HB2.o (HGS.o:wr.heap.size≤g) HNT.o HCH.o HKJ.o HAPN.o HT3.o HO3.o HP.o.1;have hch2:=Qtv (x:=.node g c .nil .nil) HNT.o HCH.o HKJ.o;have HCH2:=Hm hch2;rw[RT.ptr] at hmore;have HMORE:=Hm hmore;clear hmore hch2 c0 cf cl;generalize (w3.setCell ⟨p,0,none⟩ (.pointer (RT.addT (.node g c .nil .nil) t' kj).pa))=wz at HMORE ⊢;go_wp2_with fail;refine⟨⟨j+1,RT.addT (.node g c .nil .nil) t' kj,by omega,by go_num,by rw[HKJ2.o]<;>congr 1,?_,HMORE.o⟩,by simp only[intOf];omega⟩;rw[HCH2.o,HTK.o];simp
  ·obtain rfl:j=(Qr rs).length:=by omega
   have HL:=Hm hL;have HCH:=Hm hch;clear hL hch;go_wp2_with fail;go_end0;refine⟨rfl,t',?_,⟨HL.o.at_,HL.o.nodup,fun i hi=>(HL.o.sub i hi).imp id (fun h=>Wbf HB.o.size h),(Only.of_below HB.o).trans HL.o.only,HL.o.bal⟩⟩
   have:=HCH.o
   rwa [Wbe] at this
end
section
open Go.RowKit
def errno (e:Int):Value:=.iface 31 (.int .i64 e)
def Qp5 (rs:List Int)(rest:U.Bs)(w:World)(e:Ending)(w':World):Prop :=
 Below w.heap.size w w'∧(rest≠[]→∃ g,e=.returned (.tuple #[.pointer none,atV g])∧QU w' g 3 (bl rs)) ∧
  (rest=[]→8000<bl rs→e=.returned (.tuple #[.pointer none,errno 12])) ∧
  (rest=[]→bl rs≤8000→∃ p t,e=.returned (.tuple #[.pointer (some ⟨p,0,none⟩),.nilIface])∧AtR w' p t∧Good t∧t.runes=rs∧w.heap.size≤p∧∀ i∈t.blocks,w.heap.size≤i)
theorem Qaj {s:U.Bs}{rs:List Int}{rest:U.Bs}(h:U.Sp s rs rest)(w:World)(hs:s.length≤1000000) :
  Calls prog 134 #[.string ⟨s.toArray⟩] w (Qp5 rs rest w):=by
 have HC:=Hm (Xv h w (by omega));have HA:Hd (U.AllR rs):=⟨h.all⟩
 by_cases hr:rest=[]
 ·subst hr;obtain rfl:s=U.encs rs:=by have:=h.eq;simpa using this
  have hbl:(U.encs rs).length=bl rs:=rfl
  by_cases hb:bl rs≤8000
  ·have hi:¬ ((8000:Int)<(bl rs:Int)):=by omega
   have HB:=Hm hb;clear h;go_enter func134,ntmps134
   go_wp2_with (first
    | (go_at_call 133;refine HC.o.mono ?_;rintro e w1 ⟨hb1,he,-⟩;obtain rfl:=he rfl;have HB1:=Hm hb1;clear hb1 he)
    | (go_at_call 184;refine (Qtx (p:=w1.heap.size+1) (k:=0) (t:=.nil) (rs:=rs) (a:=[]) (b:=[]) ⟨by have:=Blk.new (w1.alloc (.cells #[Value.int .i64 (cnt rs).b,.int .i64 (cnt rs).h,.int .i64 (cnt rs).r,.int .i64 (cnt rs).l] 125)) 272 #[RT.ptr .nil];rw[Waq] at this;exact this,trivial,by simp⟩ (by simp) (by intro c hc;simp at hc) rfl rfl HA.o (by have:=HB.o;simp;omega)).mono ?_;rintro e w2 ⟨rfl,t,hch,hL⟩;have HCH:=Hm hch;have HL:=Hm hL;clear hch hL))
   go_ret2;refine⟨?_,fun h=>absurd rfl h,fun _ h=>absurd h (by have:=HB.o;omega),fun _ _=>⟨w1.heap.size+1,t,rfl,HL.o.at_,?_,?_,by have:=HB1.o.size;omega,fun i hi=>?_⟩⟩
   ·refine (Only.trans (S:=fun i=>i=w1.heap.size+1∨i∈RT.nil.blocks) ?_ HL.o.only).below (Wak _) (fun k hk e=>?_)
    ·exact Only.of_below (((HB1.o.alloc HB1.o.size _)).alloc (by simp;have:=HB1.o.size;omega) _)
    ·have:=HB1.o.size
     rcases e with e | e
     ·omega
     ·simp at e
   ·have hc:t.chunks=Qr rs:=by simpa using HCH.o
    have hrr:t.runes=rs:=by rw[RT.runes_chunks,hc,Jy]
    exact⟨HL.o.nodup,by rw[hc];exact Qdc rs,fun c hc'=>(Qdb (by rw[← hc];exact hc')).2,by rw[hrr];exact HA.o,HL.o.bal trivial,by rw[hrr];exact HB.o⟩
   ·rw[RT.runes_chunks,HCH.o];simp[Jy]
   ·rcases HL.o.sub i hi with h | h
    ·simp at h
    ·have:=HB1.o.size;simp at h;omega
  ·have hi:(8000:Int)<(bl rs:Int):=by omega
   have HB:=Hm hb;clear h;go_enter func134,ntmps134
   go_wp2_with (go_at_call 133;refine HC.o.mono ?_;rintro e w1 ⟨hb1,he,-⟩;obtain rfl:=he rfl;have HB1:=Hm hb1;clear hb1 he)
   go_ret2
   exact⟨Qb HB1.o _,fun h=>absurd rfl h,fun _ _=>rfl,fun _ h=>absurd h (by have:=HB.o;omega)⟩
 ·clear h;go_enter func134,ntmps134
  go_wp2_with (go_at_call 133;refine HC.o.mono ?_;rintro e w1 ⟨hb1,-,he⟩;obtain⟨g,rfl,hat⟩:=he hr;have HB1:=Hm hb1;have HAT:=Hm hat;clear hb1 he hat)
  go_ret2
  exact⟨Qb HB1.o _,fun _=>⟨g,rfl,by have:=HAT.o.below (Qb (Wac _ _) (.cells #[Value.int .i64 Cn.zero.b,.int .i64 Cn.zero.h,.int .i64 Cn.zero.r,.int .i64 Cn.zero.l] 125));rw[U.off_full] at this;exact this⟩,fun h=>absurd h hr,fun h=>absurd h hr⟩
end
end Go.Proofs.YtckkgdmkfbkaoaaGreatDoor
