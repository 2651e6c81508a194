/- Texts of the proof. -/
import Derived.Test.YtdgdajnbkfmijaaGreatDoorM17
import Derived.Test.YtdgdajnbkfmijaaGreatDoorM7
namespace Go.Proofs.YtdgdajnbkfmijaaGreatDoor
open Go.Proofs.Tryz
set_option maxRecDepth 100000
set_option maxHeartbeats 32000000
section
open Go.RowKit
theorem Qey {w:World}{t:Addr}{e:Int}{old:Value}(h:w.cell? t=some old):(asW w t e).cell? t=some (.int .i64 e):=by
 unfold asW;have hl:=World.block_lt_of_cell? w t h;refine World.cell?_setCell_same _ _ _ (u:=old) ?_
 rw[Wbj _ _ t (by simp;omega),Wbj _ _ t (by simp;omega),Wbj _ _ t (by simp;omega),Wbj _ _ t hl];exact h
theorem Qez {w0 w:World}{t:Addr}{e:Int}(h:Below w0.heap.size w0 w)(ht:w0.heap.size≤t.block):Below w0.heap.size w0 (asW w t e):=by
 unfold asW;exact (Qa (Qa (Qa (Qa h _) _) _) _).setCell ht _
theorem Qe0 (w:World):Calls prog 53 #[.nilIface] w fun ev w'=>ev=.returned (.int .i64 0)∧Below w.heap.size w w':=by
 go_enter func53,ntmps53
 go_wp2_with fail;go_ret
 exact⟨rfl,Wac _ _⟩
theorem Qe1 (e:Int)(w:World)(hg:Hdl w):Calls prog 53 #[.iface 29 (.int .i64 e)] w fun ev w'=>ev=.returned (.int .i64 e)∧Below w.heap.size w w':=by
 have HG:=Hm hg;clear hg;go_enter func53,ntmps53
 go_wp2_with fail;have hn:(w.alloc (.cells #[.int .i64 0] 29)).cell? ⟨w.heap.size,0,none⟩=some (.int .i64 0):=by simp
 have hc:=Qey (e:=e) hn;have hbl:Below w.heap.size w (asW (w.alloc (.cells #[.int .i64 0] 29)) ⟨w.heap.size,0,none⟩ e):=Qez (Qa (Wac _ _) _) (Wak _);refine (Qva e ⟨w.heap.size,0,none⟩ (.int .i64 0) _ (HG.o.below (Qa (Wac _ _) _)) hn (by simp)).mono ?_;rintro ev w' ⟨rfl,rfl⟩;generalize asW (w.alloc (.cells #[.int .i64 0] 29)) ⟨w.heap.size,0,none⟩ e=w1 at hc hbl ⊢;clear hn;go_wp2_with fail;go_ret
 exact⟨rfl,hbl⟩
theorem Qe2 (g:Nat)(e p:Int)(w:World)(hg:Hdl w)(hat:QV w g e p):Calls prog 53 #[atV g] w fun ev w'=>ev=.returned (.int .i64 e)∧Below w.heap.size w w':=by
 have HG:=Hm hg;have HA:=Hm hat
 clear hg hat
 go_enter func53,ntmps53
 go_wp2_with fail;have hn:(w.alloc (.cells #[.int .i64 0] 29)).cell? ⟨w.heap.size,0,none⟩=some (.int .i64 0):=by simp
 have hc:=Qey (e:=e) hn;have hbl:Below w.heap.size w (asW (w.alloc (.cells #[.int .i64 0] 29)) ⟨w.heap.size,0,none⟩ e):=Qez (Qa (Wac _ _) _) (Wak _);refine (Qve g e p ⟨w.heap.size,0,none⟩ (.int .i64 0) _ (HG.o.below (Qa (Wac _ _) _)) (HA.o.below (Qa (Wac _ _) _)) hn (by simp)).mono ?_;rintro ev w' ⟨rfl,rfl⟩;generalize asW (w.alloc (.cells #[.int .i64 0] 29)) ⟨w.heap.size,0,none⟩ e=w1 at hc hbl ⊢;clear hn;go_wp2_with fail;go_ret
 exact⟨rfl,hbl⟩
inductive ErrV (w:World):Value→Int→Int→Prop
 | nil:ErrV w .nilIface 0 (-1)
 | no (e:Int):ErrV w (.iface 29 (.int .i64 e)) e (-1)
 | at_ (g:Nat) (e p:Int) (h:QV w g e p):ErrV w (atV g) e p
theorem ErrV.below {w w':World}{v:Value}{e p:Int}(h:ErrV w v e p)(hb:Below w.heap.size w w'):ErrV w' v e p:=by
 cases h with
 | nil=>exact .nil
 | no=>exact .no _
 | at_ g _ _ h=>exact .at_ g _ _ (h.below hb)
theorem Xh {v:Value}{e p:Int}{w:World}(h:ErrV w v e p)(hg:Hdl w):Calls prog 53 #[v] w fun ev w'=>ev=.returned (.int .i64 e)∧Below w.heap.size w w':=by
 cases h with
 | nil=>exact Qe0 w
 | no e=>exact Qe1 e w hg
 | at_ g e p h=>exact Qe2 g e p w hg h
theorem Qkx (e:Int)(w:World):(Instr.typeAssert (.iface 29 (.int .i64 e)) 25 125 true).run prog w=.ok (.tuple #[.pointer none,.bool false]) w:=by kernel_rfl
theorem Qky (g:Nat)(w:World):(Instr.typeAssert (.iface 125 (.pointer (some ⟨g,0,none⟩))) 25 125 true).run prog w=.ok (.tuple #[.pointer (some ⟨g,0,none⟩),.bool true]) w:=by kernel_rfl
theorem Qkz (e:Int)(w:World):(Instr.typeAssert (.iface 29 (.int .i64 e)) 25 172 true).run prog w=.ok (.tuple #[.nilIface,.bool false]) w :=
 run_typeAssert_lacksB underlying172 (by kernel_rfl) (by kernel_rfl) _ _ w
theorem Qk0 (e:Int)(w:World)(hg:Hdl w):Calls prog 51 #[.iface 29 (.int .i64 e)] w fun ev w'=>ev=.returned (.tuple #[.int .i64 e,.int .i64 (-1)])∧Below w.heap.size w w':=by
 have HG:=Hm hg;have t1:=Qkx e;have t2:=Qkz e;clear hg;go_enter func51,ntmps51
 go_wp2_with fail;refine (Qe1 e _ HG.o).mono ?_;rintro ev w1 ⟨rfl,hb⟩;go_wp2_with fail;refine wp_loop_rounds 1 ?_;rw[rounds_succ];go_wp2_with fail;go_ret2
 exact⟨rfl,hb⟩
theorem Qk1 (w:World):Calls prog 51 #[.nilIface] w fun ev w'=>ev=.returned (.tuple #[.int .i64 0,.int .i64 (-1)])∧Below w.heap.size w w':=by
 go_enter func51,ntmps51
 go_wp2_with fail;refine (Qe0 _).mono ?_;rintro ev w1 ⟨rfl,hb⟩;go_wp2_with fail;refine wp_loop_rounds 1 ?_;rw[rounds_succ];go_wp2_with fail;go_ret2
 exact⟨rfl,hb⟩
theorem Qk2 (g:Nat)(e p:Int)(w:World)(hg:Hdl w)(hat:QV w g e p):Calls prog 51 #[atV g] w fun ev w'=>ev=.returned (.tuple #[.int .i64 e,.int .i64 p])∧Below w.heap.size w w':=by
 have HG:=Hm hg;have HA:=Hm hat
 have t1:=Qky g;clear hg hat
 go_enter func51,ntmps51
 go_wp2_with fail;refine (Qe2 g e p _ HG.o HA.o).mono ?_;rintro ev w1 ⟨rfl,hb⟩;have hA:=HA.o.below hb
 have hc:w1.cell? ⟨g,1,none⟩=some (.int .i64 p):=by
  unfold QV at hA;simp[World.cell?,hA]
 clear hA;go_wp2_with fail;refine wp_loop_rounds 1 ?_;rw[rounds_succ];go_wp2_with fail;go_quiet (fail)
 go_wp2_with fail;go_ret2
 exact⟨rfl,Qh _ hb⟩
theorem Qk3 {v:Value}{e p:Int}{w:World}(h:ErrV w v e p)(hg:Hdl w):Calls prog 51 #[v] w fun ev w'=>ev=.returned (.tuple #[.int .i64 e,.int .i64 p])∧Below w.heap.size w w':=by
 cases h with
 | nil=>exact Qk1 w
 | no e=>exact Qk0 e w hg
 | at_ g e p h=>exact Qk2 g e p w hg h
theorem is_x {v:Value}{e p:Int}{w:World}(f q:Int)(h:ErrV w v e p)(hg:Hdl w):Calls prog 9 #[v,.agg #[.int .i64 f,.int .i64 q]] w fun ev w'=>ev=.returned (.bool (e == f && p == q))∧Below w.heap.size w w':=by
 have HH:=Hm h;have HG:=Hm hg;clear h hg;go_enter func9,ntmps9
 go_wp2_with fail;have hx:Below w.heap.size w (w.alloc (.cells #[.int .i64 f,.int .i64 q] 31)):=Qa (Wac _ _) _;refine (Qk3 (HH.o.below hx) (HG.o.below hx)).mono ?_;rintro ev w1 ⟨rfl,hb⟩;have hb2:=Qb hx hb;obtain⟨hc,hf⟩:=Qnz hb;simp only[Waq] at hc hf;have f0:w1.cell? ⟨w.heap.size,0,none⟩=some (.int .i64 f):=by rw[hc _ _ (by omega)];simp
 have f1:w1.cell? ⟨w.heap.size,1,none⟩=some (.int .i64 q):=by rw[hc _ _ (by omega)];simp
 have HB:=Hm hb2;clear hb hb2 hc hf hx
 cases h1:(e == f)
 ·go_wp2_with fail;go_ret
  exact⟨by rw[h1];rfl,HB.o⟩
 ·go_wp2_with fail;go_ret
  exact⟨by rw[h1];rfl,HB.o⟩
theorem JY {v:Value}{e p:Int}{w:World}(h:ErrV w v e p)(hg:Hdl w):Calls prog 9 #[v,.agg #[.int .i64 e,.int .i64 p]] w fun ev w'=>ev=.returned (.bool true)∧Below w.heap.size w w':=by
 refine (is_x e p h hg).mono ?_;rintro ev w' ⟨rfl,hb⟩
 exact⟨by simp,hb⟩
theorem JZ (e:Int)(w:World):Calls prog 50 #[.int .i64 e] w fun ev w'=>ev=.returned (.agg #[.int .i64 e,.int .i64 (-1)])∧Below w.heap.size w w':=by
 go_enter func50,ntmps50
 go_wp2_with fail;refine Waz (v:=.agg #[.int .i64 e,.int .i64 (-1)]) (by simp[results,results50,go_sem]) rfl ?_
 exact⟨rfl,(by repeat (first | exact Wac _ _ | exact Qe (by assumption) | apply Qe | apply Qh | apply Qa | assumption))⟩
theorem Yd {v:Value}{e:Int}{w:World}(h:ErrV w v e (-1))(hg:Hdl w):Calls prog 11 #[v,.int .i64 e] w fun ev w'=>ev=.returned (.bool true)∧Below w.heap.size w w':=by
 have HH:=Hm h;have HG:=Hm hg;clear h hg;go_enter func11,ntmps11
 go_wp2_with fail;refine (JZ e _).mono ?_;rintro ev w1 ⟨rfl,hb1⟩;go_wp2_with fail;refine (JY (HH.o.below hb1) (HG.o.below hb1)).mono ?_;rintro ev w2 ⟨rfl,hb2⟩;go_wp2_with fail;go_ret
 exact⟨rfl,Qb hb1 hb2⟩
end
section
open Go.RowKit
def QQ (e p:Int):Value:=.agg #[.int .i64 e,.int .i64 p]
section
attribute [local go_sem] Xp
end
end
section
open Go.RowKit
theorem Qgz {s:U.Bs}{r:Int}{n:Nat}(h:U.next s=(r,n))(w:World)(hl:s.length≤140737488351232) :
  Calls prog 136 #[.string ⟨s.toArray⟩] w fun e w'=>e=.returned (.tuple #[.int .i32 r,.int .i64 n])∧Below w.heap.size w w':=by
 have:=Qqg hl w
 rw[h] at this;exact this
theorem own_below {w w':World}{base:Nat}{e:TypeId}{size:Nat}{v:Value}{n:Nat}{xs:List Value}(h:w.ownsRow base e size v n xs)(hb:Below w.heap.size w w'):w'.ownsRow base e size v n xs:=by
 rcases h with ⟨h1,h | ⟨g,cap,cur,h2,h3,hg,h4⟩⟩
 ·exact⟨h1,.inl h⟩
 ·exact⟨h1,.inr ⟨g,cap,cur,h2,h3,(hb.block g (Wbm.1 hg).1).trans hg,h4⟩⟩
theorem Qo0 {w w':World}{g0:Nat}{e:TypeId}{size:Nat}{v:Value}{n:Nat}{xs:List Value}(h:w.ownsRow (g0+1) e size v n xs)(hf:∀ g',g'≠g0→w'.heap[g']?=w.heap[g']?):w'.ownsRow (g0+1) e size v n xs:=by
 rcases h with ⟨h1,h | ⟨g,cap,cur,h2,h3,hg,h4⟩⟩
 ·exact⟨h1,.inl h⟩
 ·exact⟨h1,.inr ⟨g,cap,cur,h2,h3,(hf g (by omega)).trans hg,h4⟩⟩
def Qo1 (rs:List Int)(rest:U.Bs)(w:World)(e:Ending)(w':World):Prop :=
 Below w.heap.size w w'∧(rest=[]→∃ v,e=.returned (.tuple #[v,QQ 0 (-1)])∧Sl w' 1 v rs.length (Qs rs)) ∧
  (rest≠[]→e=.returned (.tuple #[.slice none 0 0,QQ 3 (U.off rs rs.length)]))
section
attribute [local go_sem] YZ
theorem XO {s:U.Bs}{rs:List Int}{rest:U.Bs}(h:U.Sp s rs rest)(w:World)(hs:s.length≤35184372087808) :
  Calls prog 89 #[.string ⟨s.toArray⟩] w (Qo1 rs rest w):=by
 have H:=Hm h;have hlen:=h.length;have hll:=U.len_le_off rs;clear h;have HL:=Hm hlen;have hle:U.off rs rs.length≤s.length:=by omega
 clear hlen;go_enter func89,ntmps89
 go_wp2_with fail
 go_loopw [2,4,5] (fun t v i wr=>t=.slice none 0 0∧∃ k:Nat,k≤rs.length∧i=.int .i64 (U.off rs k)∧wr.ownsRow (w.heap.size+1) 21 1 v k (Qs (rs.take k))∧Blk wr w.heap.size 31 #[.int .i64 0,.int .i64 0]∧Below w.heap.size w wr) (fun _ _ i _=>s.length-(intOf i).toNat)
 case atStart=>exact⟨rfl,0,by omega,rfl,World.ownsRow_nil _ _ _ _,Blk.new _ _ _,(by repeat (first | exact Wac _ _ | exact Qe (by assumption) | apply Qe | apply Qh | apply Qa | assumption))⟩
 case round =>
  obtain⟨rfl,k,hk,rfl,hown,hblk,hbel⟩:=hrel;have hb0:w.heap.size+1≤wr.heap.size:=by have:=hblk.lt;omega
  have HB:=Hm hbel;have HK:=Hm hblk;have hgl:=hblk.lt;have hok:U.off rs k≤U.off rs rs.length:=U.off_le hk
  by_cases hlt:k<rs.length
  ·have hol:U.off rs k<U.off rs rs.length:=U.off_lt hlt;have HN:=Hm (H.o.next_at hlt);have HO:=Hm (U.off_succ hlt);have hw1:=U.wid_pos rs[k];have hw2:=U.wid_le rs[k];generalize hr:rs[k]=r at *;have HR:=Hm hr;clear hr;have hlt':U.off rs k<s.length:=by omega
   have hn0:((U.wid r:Int) == 0)=false:=by rw[Waf];omega
   have HOS:=Hm hown;clear hown hbel hblk;go_wp2_with fail;refine (Qgz HN.o _ (by rw[War];omega)).mono ?_;rintro e w1 ⟨rfl,hb1⟩;have HB1:=Hm (HB.o.trans (hb1.mono (by omega)));have HK1:=Hm (HK.o.below hb1 hgl);have HO1:=Hm (own_below HOS.o hb1);have hb2:w.heap.size+1≤w1.heap.size:=by have:=hb1.size;omega
   clear hb1 HOS HK HB;go_wp2_with (at_builtin;refine Z9 Qcj #[.int .i32 r] HO1.o rfl rfl rfl rfl rfl (Yz rfl) (by unfold maxLen;omega) (by omega) hb2 ?_;intro v1 w2 hown1 hbel1 _)
   have e1:Qs (rs.take (k+1))=Qs (rs.take k)++#[Value.int .i32 r].toList:=by
    rw[Wag hlt,Qs,Wbo,← HR.o];rfl
   rw[← e1] at hown1;refine⟨⟨rfl,k+1,by omega,by rw[HO.o];go_num,hown1,HK1.o.below hbel1 (by omega),HB1.o.trans (hbel1.mono (by omega))⟩,?_⟩;simp only[intOf];omega
  ·obtain rfl:k=rs.length:=by omega
   rw[Wbe] at hown;have HF:=Hm hown;clear hown hbel hblk
   by_cases hr:rest=[]
   ·have hge:¬ U.off rs rs.length<s.length:=by have:=HL.o;rw[hr] at this;simp at this;omega
    have HRE:=Hm hr;clear hlt hr;go_wp2_with fail;refine (JZ 0 _).mono ?_;rintro e w1 ⟨rfl,hb1⟩;have hK1:=HK.o.below hb1 hgl;have HF1:=Hm (own_below HF.o hb1);have HK1:=Hm hK1;have hf:=hK1.frozen;have c0:=hK1.cell 0;have c1:=hK1.cell 1;simp only[Wab,Waa,Wae] at c0 c1;have HB1:=Hm (HB.o.trans (hb1.mono (by omega)));clear hK1 hb1;go_wp2_with fail;refine HK1.o.set2 (F:=fun W=>bodyPost _ _ _ Exit.ret _ W) ?_;intro w3 hC3 hB3 _ hfar;have g0:=hC3.cell 0;have g1:=hC3.cell 1;simp only[Wab,Waa,Wae] at g0 g1;refine Waz (v:=.tuple #[u4,QQ 0 (-1)]) (by simp[results,QQ,results89,go_sem,g0,g1]) rfl ?_
    exact⟨HB1.o.trans (hB3 _ (Wak _)),fun _=>⟨u4,rfl,Sl.of_own (Qo0 HF1.o hfar)⟩,fun h=>absurd HRE.o h⟩
   ·have hlt':U.off rs rs.length<s.length:=by
     have:=HL.o
     have h2:0<rest.length:=Wax.2 hr;omega
    have HN:=Hm H.o.next_end;have HR:=Hm hr;clear hlt hr HF;go_wp2_with fail;refine (Qgz HN.o _ (by rw[War];omega)).mono ?_;rintro e w1 ⟨rfl,hb1⟩;have HB1:=Hm (HB.o.trans (hb1.mono (by omega)));have hK1:=HK.o.below hb1 hgl;have HK1:=Hm hK1;have hf:=hK1.frozen;have c0:=hK1.cell 0;have c1:=hK1.cell 1;simp only[Wab,Waa,Wae] at c0 c1;clear hK1 hb1;go_wp2_with fail;refine HK1.o.set2 (F:=fun W=>bodyPost _ _ _ Exit.ret _ W) ?_;intro w3 hC3 hB3 _ _;have g0:=hC3.cell 0;have g1:=hC3.cell 1;simp only[Wab,Waa,Wae] at g0 g1;refine Waz (v:=.tuple #[.slice none 0 0,QQ 3 (U.off rs rs.length)]) (by simp[results,QQ,results89,go_sem,g0,g1]) rfl ?_
    exact⟨HB1.o.trans (hB3 _ (Wak _)),fun h=>absurd h HR.o,fun _=>rfl⟩
end
end
end Go.Proofs.YtdgdajnbkfmijaaGreatDoor
