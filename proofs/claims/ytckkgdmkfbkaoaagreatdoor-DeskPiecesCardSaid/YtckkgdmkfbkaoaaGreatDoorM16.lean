/- Texts of the proof. -/
import Derived.Test.YtckkgdmkfbkaoaaGreatDoorM15
import Derived.Test.YtckkgdmkfbkaoaaGreatDoorM5
import Derived.Laws.EntriesVeiled
namespace Go.Proofs.YtckkgdmkfbkaoaaGreatDoor
open Go.Proofs.Tryz
set_option maxRecDepth 100000
set_option maxHeartbeats 32000000
set_option linter.all false
open Go.RowKit Go.Shelf
theorem Je {w w':World}{g b:Nat}{t:TypeId}{cs:Array Value}(h:Blk w g t cs)(hk:Lib.OthersKept 5 (some b) w w')(hg:g≠b)(ht:t≠5):Blk w' g t cs :=
 hk g _ h (by simpa using hg) (fun c fz e=>by injection e with e1 e2 e3;exact ht e2)
theorem AtT.keep {w w':World}{b:Nat}{t:RT}(h:AtT w t)(hk:Lib.OthersKept 5 (some b) w w')(hb:b ∉ t.blocks):AtT w' t:=by
 induction t with
 | nil=>trivial
 | node g rs l r ihl ihr =>
  simp only[RT.blocks_node,List.mem_append,Wbk,not_or] at hb
  exact⟨Je h.1 hk (Ne.symm hb.2.1) (by decide),ihl h.2.1 hb.1,ihr h.2.2 hb.2.2⟩
def Y3 (v b:Nat):Value:=.func (.func 303) #[] #[.pointer (some ⟨v,0,none⟩),.pointer (some ⟨b,0,none⟩)]
def Qj2 (B b:Nat)(l:List UInt8)(w:World)(e:Ending)(w':World):Prop :=
 e=.returned (.tuple #[])∧Lib.IsBuilderF 56 5 B b (Lib.byteCells l) w'∧Below B w w'∧Lib.OthersKept 5 (some b) w w'
theorem Qj3 {B b v:Nat}{t:RT}{l:List UInt8}{w:World}(ht:AtT w t)(hv:Blk w v 428 #[Y3 v b])(hb:Lib.IsBuilderF 56 5 B b (Lib.byteCells l) w)(hvb:v≠b)(htb:b ∉ t.blocks)(hBw:B≤w.heap.size)
  (hlen:l.length+bl t.runes≤1000000):Calls prog 303 #[t.ptr,.pointer (some ⟨v,0,none⟩),.pointer (some ⟨b,0,none⟩)] w (Qj2 B b (l++U.encs t.runes) w):=by
 induction t generalizing l w with
 | nil =>
  have HB:=Hm hb;rw[RT.ptr_nil];clear ht hv hb;go_enter func303,ntmps303
  go_wp2_with fail;go_end0
  exact⟨rfl,by rw[RT.runes_nil,U.encs_nil,Wam];exact HB.o,Wac _ _,Lib.OthersKept.refl _ _ _⟩
 | node g rs a c iha ihc =>
  simp only[RT.blocks_node,List.mem_append,Wbk,not_or] at htb;simp only[RT.runes_node,bl_append] at hlen;obtain⟨c0,-,-,-,-,-,-,-,-,c9,c10,-⟩:=Qv ht.1;have cl:=ht.1.lt;have cf:=ht.1.frozen;have v0:=hv.cell 0;have vl:=hv.lt;simp only[Wab,Waa,Y3] at v0;simp only[RT.ptr] at c9 c10;rw[RT.ptr_node];have HT:=Hm ht;have HV:=Hm hv;have HB:=Hm hb;have HTB:=Hm htb;have HLN:=Hm hlen;have HBW:=Hm hBw;have IA:=fun w1 (h1:AtT w1 a) (h2:Blk w1 v 428 #[Y3 v b]) (h3:Lib.IsBuilderF 56 5 B b (Lib.byteCells l) w1) (h4:B≤w1.heap.size)=>Hm (iha (l:=l) (w:=w1) h1 h2 h3 htb.1 h4 (by omega))
  have IC:=fun l1 w1 (h1:AtT w1 c) (h2:Blk w1 v 428 #[Y3 v b]) (h3:Lib.IsBuilderF 56 5 B b (Lib.byteCells l1) w1) (h4:B≤w1.heap.size) (h5:l1.length+bl c.runes≤1000000)=>Hm (ihc (l:=l1) (w:=w1) h1 h2 h3 htb.2.2 h4 h5)
  have HRS:Hd ((U.encs rs).length=bl rs∧(U.encs a.runes).length=bl a.runes):=⟨⟨rfl,rfl⟩⟩;clear ht hv hb htb hlen hBw iha ihc;go_enter func303,ntmps303
  go_wp2_with fail;go_region_with (go_at_call 303;refine (IA w.drew (HT.o.2.1.below (Qe (Wac _ _))) HV.o HB.o HBW.o).out.mono ?_;rintro e w1 ⟨rfl,hb1,hbl1,hk1⟩;have hg1:=Je HT.o.1 hk1 (Ne.symm HTB.o.2.1) (by decide);have hv1:=Je HV.o hk1 hvb (by decide);obtain⟨c0,-,-,-,-,-,-,-,-,c9,c10,-⟩:=Qv hg1;have cl:=hg1.lt;have cf:=hg1.frozen;have v0:=hv1.cell 0;have vl:=hv1.lt;simp only[Wab,Waa,Y3] at v0;simp only[RT.ptr] at c9 c10;have HC1:=Hm (HT.o.2.2.keep hk1 HTB.o.2.2);have HG1:=Hm hg1;have HV1:=Hm hv1;have HB1:=Hm hb1;have HBL1:=Hm ((Wac B w).drew.trans hbl1);have HK1:=Hm ((Lib.OthersKept.refl _ _ w).drew.trans hk1);clear hg1 hv1 hb1 hbl1 hk1)
  all_goals
   go_wp2_with (go_at_call 19;refine (Qg7 B b (Lib.byteCells (l++U.encs a.runes)) ⟨(U.encs rs).toArray⟩ _ HB1.o (by rw[Lib.byteCells_length];have:=HLN.o;obtain⟨q1,q2⟩:=HRS.o;simp only[ByteArray.size,List.size_toArray,Wad];omega) (by have:w.heap.size≤w1.heap.size:=HBL1.o.size;have:=HBW.o;omega)).mono ?_;rintro e w2 ⟨rfl,hb2,hbl2,hk2⟩;have hg2:=Je HG1.o hk2 (Ne.symm HTB.o.2.1) (by decide);have hv2:=Je HV1.o hk2 hvb (by decide);obtain⟨c0,-,-,-,-,-,-,-,-,c9,c10,-⟩:=Qv hg2;have cl:=hg2.lt;have cf:=hg2.frozen;have v0:=hv2.cell 0;have vl:=hv2.lt;simp only[Wab,Waa,Y3] at v0;simp only[RT.ptr] at c9 c10;have HC2:=Hm (HC1.o.keep hk2 HTB.o.2.2);have HV2:=Hm hv2;rw[Qg8,← Lib.byteCells_append] at hb2;have HB2:=Hm (.inr hb2:Lib.IsBuilderF 56 5 B b (Lib.byteCells ((l++U.encs a.runes)++U.encs rs)) w2);have HBL2:=Hm (HBL1.o.trans hbl2);have HK2:=Hm (HK1.o.trans hk2);clear hg2 hv2 hb2 hbl2 hk2)
   go_region_with (go_at_call 303;refine (IC ((l++U.encs a.runes)++U.encs rs) w2.drew (HC2.o.below (Qe (Wac _ _))) HV2.o HB2.o (by have:w.heap.size≤w2.heap.size:=HBL2.o.size;have:=HBW.o;simp;omega) (by have:=HLN.o;obtain⟨q1,q2⟩:=HRS.o;simp only[Wad];omega)).out.mono ?_;rintro e w3 ⟨rfl,hb3,hbl3,hk3⟩;have HB3:=Hm hb3;have HBL3:=Hm hbl3;have HK3:=Hm hk3;clear hb3 hbl3 hk3)
   all_goals
    go_wp2_with fail;go_end0;refine⟨rfl,?_,HBL2.o.drew.trans HBL3.o,HK2.o.drew.trans HK3.o⟩
    have:=HB3.o
    rw[RT.runes_node,U.encs_append,U.encs_append];simpa only [Wah] using this
theorem Qee {p:Nat}{t:RT}{w:World}(h:AtR w p t)(hs:bl t.runes≤1000000) :
  Calls prog 279 #[.pointer (some ⟨p,0,none⟩)] w fun e w'=>e=.returned (.string ⟨(U.encs t.runes).toArray⟩)∧Below w.heap.size w w':=by
 have c0:=h.blk.cell 0;have cl:=h.blk.lt;simp only[Wab,Waa,RT.ptr] at c0;have HR:=Hm h;have HLT:=Hm h.tree.lt;have HS:=Hm hs;clear h hs;go_enter func279,ntmps279
 go_wp2_with fail;have hB0:Lib.IsBuilderF 56 5 w.heap.size w.heap.size (Lib.byteCells []) ((w.alloc (.cells #[.pointer none,.slice none 0 0] 56)).alloc (.cells #[Y3 (w.heap.size+1) w.heap.size] 428)):=(bnew w).alloc _
 have hV0:Blk ((w.alloc (.cells #[.pointer none,.slice none 0 0] 56)).alloc (.cells #[Y3 (w.heap.size+1) w.heap.size] 428)) (w.heap.size+1) 428 #[Y3 (w.heap.size+1) w.heap.size]:=by
  have:=Blk.new (w.alloc (.cells #[.pointer none,.slice none 0 0] 56)) 428 #[Y3 (w.heap.size+1) w.heap.size]
  rw[Waq] at this;exact this
 have HB0:=Hm hB0;have HV0:=Hm hV0;clear hB0 hV0;go_region_with (go_at_call 303;refine (Qj3 (B:=w.heap.size) (b:=w.heap.size) (v:=w.heap.size+1) (t:=t) (l:=[]) (HR.o.tree.below (Qe (Qb (Qb (Wac _ _) _) _))) HV0.o HB0.o (by omega) (fun e=>by have:=HLT.o _ e;omega) (by simp;omega) (by have:=HS.o;simp;omega)).mono ?_;rintro e w3 ⟨rfl,hb3,hbl3,hk3⟩;have HB3:=Hm hb3;have HBL3:=Hm hbl3;have HK3:=Hm hk3;clear hb3 hbl3 hk3)
 all_goals
  rw[Wbn] at HB3;go_wp2_with (go_at_call 21;refine (Qc4 w.heap.size w.heap.size (U.encs t.runes) _ HB3.o (by have:=HBL3.o.size;simp at this;omega)).mono ?_;rintro e w4 ⟨rfl,-,hbl4,-⟩;have HBL4:=Hm hbl4;clear hbl4)
  go_ret
  exact⟨rfl,((Qe (Qb (Qb (Wac _ _) _) _)).trans HBL3.o).trans HBL4.o⟩
end Go.Proofs.YtckkgdmkfbkaoaaGreatDoor
