/- Texts of the proof. -/
import Derived.Test.YtckkgdmkfbkaoaaGreatDoorM12
import Derived.BigQuiet
import Derived.Deep.QuietTactic
namespace Go.Proofs.YtckkgdmkfbkaoaaGreatDoor
open Go.Proofs.Tryz
set_option maxRecDepth 100000
set_option maxHeartbeats 32000000
set_option linter.all false
section
open Go.RowKit
namespace RT
def rotR (g:Nat)(rs:List Int):RT→RT→RT
 | node gx rx xl xr,r=>node gx rx xl (node g rs xr r)
 | nil,r=>node g rs nil r
def rotL (g:Nat)(rs:List Int):RT→RT→RT
 | l,node gx rx xl xr=>node gx rx (node g rs l xl) xr
 | l,nil=>node g rs l nil
def fixL:RT→RT
 | node g rs l r=>if l.high<r.high then rotL g rs l r else node g rs l r
 | nil=>nil
def fixR:RT→RT
 | node g rs l r=>if r.high<l.high then rotR g rs l r else node g rs l r
 | nil=>nil
def lvl (g:Nat)(rs:List Int)(l r:RT):RT :=
 if r.high+1<l.high then rotR g rs l.fixL r else if l.high+1<r.high then rotL g rs l r.fixR else node g rs l r
theorem Qef (g:Nat)(rs:List Int)(l r:RT):(rotR g rs l r).nodes=l.nodes++(g,rs) :: r.nodes:=by
 cases l<;>simp[rotR]
theorem Qeg (g:Nat)(rs:List Int)(l r:RT):(rotL g rs l r).nodes=l.nodes++(g,rs) :: r.nodes:=by
 cases r<;>simp[rotL]
theorem Qj4 (l:RT):l.fixL.nodes=l.nodes:=by
 cases l with
 | nil=>rfl
 | node g rs a b=>show (if a.high<b.high then rotL g rs a b else node g rs a b).nodes=_;split<;>simp[Qeg]
theorem Qj5 (l:RT):l.fixR.nodes=l.nodes:=by
 cases l with
 | nil=>rfl
 | node g rs a b=>show (if b.high<a.high then rotR g rs a b else node g rs a b).nodes=_;split<;>simp[Qef]
theorem Qbi (g:Nat)(rs:List Int)(l r:RT):(lvl g rs l r).nodes=l.nodes++(g,rs) :: r.nodes:=by
 unfold lvl
 split
 ·rw[Qef,Qj4]
 ·split
  ·rw[Qeg,Qj5]
  ·rfl
theorem runes_of_nodes {t u:RT}(h:t.nodes=u.nodes):t.runes=u.runes:=by rw[runes_nodes,runes_nodes,h]
theorem blocks_of_nodes {t u:RT}(h:t.nodes=u.nodes):t.blocks=u.blocks:=by unfold blocks;rw[h]
end RT
structure Ap (t:RT):Prop where
 nodup:t.blocks.Nodup
 sm:Sm t.runes t.nodes.length
theorem Ap.of_nodes {t u:RT}(h:Ap t)(e:u.nodes=t.nodes):Ap u:=⟨by rw[RT.blocks_of_nodes e];exact h.nodup,by rw[RT.runes_of_nodes e,e];exact h.sm⟩
theorem Sm.le {rs rs':List Int}{n n':Nat}(h:Sm rs n)(h1:rs'.length≤rs.length)(h2:n'≤n):Sm rs' n':=⟨Wbf h1 h.len,Wbf h2 h.many⟩
section
variable {g:Nat}{rs:List Int}{l r:RT}
theorem Ap.onL (h:Ap (.node g rs l r)):Ap l:=⟨by have:=h.nodup;simp only[RT.blocks_node] at this;exact (List.nodup_append.1 this).1,h.sm.le (by simp only[RT.runes_node,Wad];omega) (by simp only[RT.nodes_node,Wad,Wan];omega)⟩
theorem Ap.onR (h:Ap (.node g rs l r)):Ap r:=⟨by have:=h.nodup;simp only[RT.blocks_node] at this;exact (List.nodup_cons.1 (List.nodup_append.1 this).2.1).2,h.sm.le (by simp only[RT.runes_node,Wad];omega) (by simp only[RT.nodes_node,Wad,Wan];omega)⟩
theorem Ap.nl (h:Ap (.node g rs l r)):g ∉ l.blocks:=fun hg=>by
 have:=h.nodup;simp only[RT.blocks_node] at this
 exact (List.nodup_append.1 this).2.2 g hg g (by simp) rfl
theorem Ap.nr (h:Ap (.node g rs l r)):g ∉ r.blocks:=by
 have:=h.nodup;simp only[RT.blocks_node] at this
 exact (List.nodup_cons.1 (List.nodup_append.1 this).2.1).1
theorem Ap.lr (h:Ap (.node g rs l r)):∀ b∈l.blocks,b ∉ r.blocks:=fun b hb hb'=>by
 have:=h.nodup;simp only[RT.blocks_node] at this
 exact (List.nodup_append.1 this).2.2 b hb b (by simp[hb']) rfl
theorem Ap.fit (h:Ap (.node g rs l r)):Sm (l.runes++rs++r.runes) (l.nodes.length+r.nodes.length):=h.sm.le (by simp only[RT.runes_node,Wad];omega) (by simp only[RT.nodes_node,Wad,Wan];omega)
end
theorem Qbj {w:World}{g:Nat}{rs:List Int}{all:Cn}{l r l':Value}{h:Int}(hb:Blk w g 393 (ZK rs all l r h)):Blk (w.setCell ⟨g,9,none⟩ l') g 393 (ZK rs all l' r h):=hb.set_ 9 l'
theorem Qbk {w:World}{g:Nat}{rs:List Int}{all:Cn}{l r r':Value}{h:Int}(hb:Blk w g 393 (ZK rs all l r h)):Blk (w.setCell ⟨g,10,none⟩ r') g 393 (ZK rs all l r' h):=hb.set_ 10 r'
theorem Qbl {g gx:Nat}{rs rx:List Int}{xl xr r:RT}{w:World}(h:YX w g rs (.node gx rx xl xr) r)(hd:Ap (.node g rs (.node gx rx xl xr) r)) :
  Calls prog 306 #[.pointer (some ⟨g,0,none⟩)] w fun e w'=>e=.returned (.pointer (some ⟨gx,0,none⟩))∧AtT w' (.node gx rx xl (.node g rs xr r))∧Only (fun k=>k=g∨k=gx) w w':=by
 obtain⟨⟨c,m,hblk⟩,⟨hx,hxl,hxr⟩,hr⟩:=h;have hne:gx≠g:=fun e=>hd.nl (by simp[e])
 obtain⟨-,-,-,-,-,-,-,-,-,a9,a10,-⟩:=Qv hblk;obtain⟨-,-,-,-,-,-,-,-,-,b9,b10,-⟩:=Qv hx;have af:=hblk.frozen;have bf:=hx.frozen;have al:=hblk.lt;have bl:=hx.lt
 have HR:Hd (AtT ((w.setCell ⟨g,9,none⟩ xr.ptr).setCell ⟨gx,10,none⟩ (.pointer (some ⟨g,0,none⟩))) xl∧YX ((w.setCell ⟨g,9,none⟩ xr.ptr).setCell ⟨gx,10,none⟩ (.pointer (some ⟨g,0,none⟩))) g rs xr r ∧
   (∃ all h,Blk ((w.setCell ⟨g,9,none⟩ xr.ptr).setCell ⟨gx,10,none⟩ (.pointer (some ⟨g,0,none⟩))) gx 393 (ZK rx all xl.ptr (.pointer (some ⟨g,0,none⟩)) h)) ∧
   Only (fun k=>k=g∨k=gx) w ((w.setCell ⟨g,9,none⟩ xr.ptr).setCell ⟨gx,10,none⟩ (.pointer (some ⟨g,0,none⟩)))):=by
  have ho:Only (fun k=>k=g∨k=gx) w ((w.setCell ⟨g,9,none⟩ xr.ptr).setCell ⟨gx,10,none⟩ (.pointer (some ⟨g,0,none⟩))) :=
   ((Only.refl _ w).setCell (p:=⟨g,9,none⟩) (.inl (.inl rfl)) _).setCell (p:=⟨gx,10,none⟩) (.inl (.inr rfl)) _
  have ns:∀ t:RT,g ∉ t.blocks→gx ∉ t.blocks→∀ b∈t.blocks,¬ (b=g∨b=gx):=by
   rintro t h1 h2 b hb (rfl | rfl)
   ·exact h1 hb
   ·exact h2 hb
  have n1:g ∉ xl.blocks:=fun e=>hd.nl (by simp[e])
  have n2:g ∉ xr.blocks:=fun e=>hd.nl (by simp[e])
  exact⟨⟨hxl.only ho (ns _ n1 hd.onL.nl),⟨⟨c,m,(Qbj hblk).far (p:=⟨gx,10,none⟩) (Ne.symm hne) _⟩,hxr.only ho (ns _ n2 hd.onL.nr),hr.only ho (ns _ hd.nr (hd.lr gx (by simp)))⟩,
   ⟨_,_,Qbk (hx.far (p:=⟨g,9,none⟩) hne _)⟩,ho⟩⟩
 have HA:Hd (Ap (.node gx rx xl (.node g rs xr r))):=⟨hd.of_nodes (by simp)⟩;have HNE:=Hm hne;have HG:Hd (g ∉ xr.blocks∧g ∉ xl.blocks∧g ∉ r.blocks∧gx ∉ r.blocks):=⟨⟨fun e=>hd.nl (by simp[e]),fun e=>hd.nl (by simp[e]),hd.nr,hd.lr gx (by simp)⟩⟩;have HF:Hd (Sm (xr.runes++rs++r.runes) (xr.nodes.length+r.nodes.length)∧True):=⟨⟨HA.o.onR.fit,trivial⟩⟩;clear hblk hx hxl hxr hr hd;rw[RT.ptr_node] at a9;simp only[RT.ptr] at a10 b9 b10 HR ⊢;generalize xr.pa=pxr at *;go_enter func306,ntmps306
 go_wp2_with (first
  | (go_at_call_of 283 (Value.pointer (some ⟨g,0,none⟩));refine (XO HR.o.2.1 HG.o.1 HG.o.2.2.1 HF.o.1).mono ?_;rintro e w2 ⟨rfl,ht2,ho2⟩;have HT2:=Hm ht2;have HO2:=Hm ho2;clear ht2 ho2)
  | (go_at_call_of 283 (Value.pointer (some ⟨gx,0,none⟩));refine (XO (l:=xl) (r:=.node g rs xr r) ⟨HR.o.2.2.1.elim fun a h=>h.elim fun m h=>⟨a,m,h.only HO2.o HNE.o⟩,HR.o.1.only HO2.o (fun b hb e=>HG.o.2.1 (e ▸ hb)),HT2.o⟩ HA.o.nl HA.o.nr HA.o.fit).mono ?_;rintro e w3 ⟨rfl,ht3,ho3⟩;have HT3:=Hm ht3;have HO3:=Hm ho3;clear ht3 ho3))
 go_ret
 exact⟨rfl,HT3.o,(HR.o.2.2.2.trans (HO2.o.mono fun _ _ h=>.inl h)).trans (HO3.o.mono fun _ _ h=>.inr h)⟩
theorem Qbm {g gx:Nat}{rs rx:List Int}{l xl xr:RT}{w:World}(h:YX w g rs l (.node gx rx xl xr))(hd:Ap (.node g rs l (.node gx rx xl xr))) :
  Calls prog 305 #[.pointer (some ⟨g,0,none⟩)] w fun e w'=>e=.returned (.pointer (some ⟨gx,0,none⟩))∧AtT w' (.node gx rx (.node g rs l xl) xr)∧Only (fun k=>k=g∨k=gx) w w':=by
 obtain⟨⟨c,m,hblk⟩,hl,hx,hxl,hxr⟩:=h;have hne:gx≠g:=fun e=>hd.nr (by simp[e])
 obtain⟨-,-,-,-,-,-,-,-,-,a9,a10,-⟩:=Qv hblk;obtain⟨-,-,-,-,-,-,-,-,-,b9,b10,-⟩:=Qv hx;have af:=hblk.frozen;have bf:=hx.frozen;have al:=hblk.lt;have bl:=hx.lt;have n1:g ∉ xl.blocks:=fun e=>hd.nr (by simp[e])
 have n2:g ∉ xr.blocks:=fun e=>hd.nr (by simp[e])
 have n3:gx ∉ l.blocks:=fun e=>hd.lr gx e (by simp)
 have HR:Hd (AtT ((w.setCell ⟨g,10,none⟩ xl.ptr).setCell ⟨gx,9,none⟩ (.pointer (some ⟨g,0,none⟩))) xr∧YX ((w.setCell ⟨g,10,none⟩ xl.ptr).setCell ⟨gx,9,none⟩ (.pointer (some ⟨g,0,none⟩))) g rs l xl ∧
   (∃ all h,Blk ((w.setCell ⟨g,10,none⟩ xl.ptr).setCell ⟨gx,9,none⟩ (.pointer (some ⟨g,0,none⟩))) gx 393 (ZK rx all (.pointer (some ⟨g,0,none⟩)) xr.ptr h)) ∧
   Only (fun k=>k=g∨k=gx) w ((w.setCell ⟨g,10,none⟩ xl.ptr).setCell ⟨gx,9,none⟩ (.pointer (some ⟨g,0,none⟩)))):=by
  have ho:Only (fun k=>k=g∨k=gx) w ((w.setCell ⟨g,10,none⟩ xl.ptr).setCell ⟨gx,9,none⟩ (.pointer (some ⟨g,0,none⟩))) :=
   ((Only.refl _ w).setCell (p:=⟨g,10,none⟩) (.inl (.inl rfl)) _).setCell (p:=⟨gx,9,none⟩) (.inl (.inr rfl)) _
  have ns:∀ t:RT,g ∉ t.blocks→gx ∉ t.blocks→∀ b∈t.blocks,¬ (b=g∨b=gx):=by
   rintro t h1 h2 b hb (rfl | rfl)
   ·exact h1 hb
   ·exact h2 hb
  exact⟨⟨hxr.only ho (ns _ n2 hd.onR.nr),⟨⟨c,m,(Qbk hblk).far (p:=⟨gx,9,none⟩) (Ne.symm hne) _⟩,hl.only ho (ns _ hd.nl n3),hxl.only ho (ns _ n1 hd.onR.nl)⟩,
   ⟨_,_,Qbj (hx.far (p:=⟨g,10,none⟩) hne _)⟩,ho⟩⟩
 have HA:Hd (Ap (.node gx rx (.node g rs l xl) xr)):=⟨hd.of_nodes (by simp)⟩;have HNE:=Hm hne;have HG:Hd (g ∉ l.blocks∧g ∉ xl.blocks∧g ∉ xr.blocks):=⟨⟨hd.nl,n1,n2⟩⟩;have HF:Hd (Sm (l.runes++rs++xl.runes) (l.nodes.length+xl.nodes.length)∧True):=⟨⟨HA.o.onL.fit,trivial⟩⟩;clear hblk hx hxl hxr hl hd n1 n2 n3;rw[RT.ptr_node] at a10;simp only[RT.ptr] at a9 b9 b10 HR ⊢;generalize xl.pa=pxl at *;go_enter func305,ntmps305
 go_wp2_with (first
  | (go_at_call_of 283 (Value.pointer (some ⟨g,0,none⟩));refine (XO HR.o.2.1 HG.o.1 HG.o.2.1 HF.o.1).mono ?_;rintro e w2 ⟨rfl,ht2,ho2⟩;have HT2:=Hm ht2;have HO2:=Hm ho2;clear ht2 ho2)
  | (go_at_call_of 283 (Value.pointer (some ⟨gx,0,none⟩));refine (XO (l:=.node g rs l xl) (r:=xr) ⟨HR.o.2.2.1.elim fun a h=>h.elim fun m h=>⟨a,m,h.only HO2.o HNE.o⟩,HT2.o,HR.o.1.only HO2.o (fun b hb e=>HG.o.2.2 (e ▸ hb))⟩ HA.o.nl HA.o.nr HA.o.fit).mono ?_;rintro e w3 ⟨rfl,ht3,ho3⟩;have HT3:=Hm ht3;have HO3:=Hm ho3;clear ht3 ho3))
 go_ret
 exact⟨rfl,HT3.o,(HR.o.2.2.2.trans (HO2.o.mono fun _ _ h=>.inl h)).trans (HO3.o.mono fun _ _ h=>.inr h)⟩
theorem AtT.drewN {w:World}{t:RT}(n:Nat)(h:AtT w t):AtT (w.drewN n) t:=h.below (Qo n (Wac _ _))
theorem XF {t:RT}{w:World}(h:AtT w t):Calls prog 304 #[t.ptr] w fun e w'=>e=.returned (.int .i64 t.high)∧w'=w:=by
 cases t with
 | nil =>
  rw[RT.ptr_nil];go_enter func304,ntmps304
  go_wp2_with fail;go_ret
  exact⟨rfl,rfl⟩
 | node g rs l r =>
  have hc:=Qv h.1;have hl:=h.1.lt;have h11:=hc.2.2.2.2.2.2.2.2.2.2.2;rw[RT.ptr_node];simp only[RT.high_node];generalize (1+max l.high r.high)=m at *;clear hc h;go_enter func304,ntmps304
  go_wp2_with fail;go_ret
  exact⟨rfl,rfl⟩
theorem Qeh {w:World}{g:Nat}{rs:List Int}{c:Cn}{lp:Value}{m:Int}{l r:RT}(h:Blk w g 393 (ZK rs c lp r.ptr m))(hl:AtT w l)(hr:AtT w r)(n1:g ∉ l.blocks)(n2:g ∉ r.blocks):YX (w.setCell ⟨g,9,none⟩ l.ptr) g rs l r:=by
 have ho:Only (fun k=>k=g) w (w.setCell ⟨g,9,none⟩ l.ptr):=(Only.refl (fun k=>k=g) w).setCell (p:=⟨g,9,none⟩) (.inl rfl) _
 exact⟨⟨c,m,Qbj h⟩,hl.only ho (fun b hb e=>n1 (e ▸ hb)),hr.only ho (fun b hb e=>n2 (e ▸ hb))⟩
theorem Qei {w:World}{g:Nat}{rs:List Int}{c:Cn}{rp:Value}{m:Int}{l r:RT}(h:Blk w g 393 (ZK rs c l.ptr rp m))(hl:AtT w l)(hr:AtT w r)(n1:g ∉ l.blocks)(n2:g ∉ r.blocks):YX (w.setCell ⟨g,10,none⟩ r.ptr) g rs l r:=by
 have ho:Only (fun k=>k=g) w (w.setCell ⟨g,10,none⟩ r.ptr):=(Only.refl (fun k=>k=g) w).setCell (p:=⟨g,10,none⟩) (.inl rfl) _
 exact⟨⟨c,m,Qbk h⟩,hl.only ho (fun b hb e=>n1 (e ▸ hb)),hr.only ho (fun b hb e=>n2 (e ▸ hb))⟩
theorem Jf {S:Nat→Prop}{w w':World}{g i:Nat}{v:Value}(h:Only S w w')(hg:S g):Only S w (w'.setCell ⟨g,i,none⟩ v):=h.setCell (p:=⟨g,i,none⟩) (.inl hg) v
theorem Qej {g:Nat}{rs:List Int}{l r:RT}{w:World}(h:YX w g rs l r)(hd:Ap (.node g rs l r)) :
  Calls prog 282 #[.pointer (some ⟨g,0,none⟩)] w fun e w'=>e=.returned (RT.lvl g rs l r).ptr∧AtT w' (RT.lvl g rs l r)∧Only (fun k=>k∈(RT.node g rs l r).blocks) w w':=by
 have HF:=Hm (XO h hd.nl hd.nr hd.fit);have HD:=Hm hd;clear h hd;go_enter func282,ntmps282
 go_wp2_with (go_at_call 283;refine HF.o.mono ?_;rintro e w1 ⟨rfl,ht,ho⟩;obtain⟨-,-,-,-,-,-,-,-,-,a9,a10,-⟩:=Qv ht.1;have al:=ht.1.lt;have af:=ht.1.frozen;have HT:=Hm ht;have HO:=Hm ho;clear ht ho)
 go_quiet (first
  | (go_at_call_of 304 (RT.ptr l);exact Calls.quiet_of_same (XF (HT.o.2.1.drewN _)))
  | (go_at_call_of 304 (RT.ptr r);exact Calls.quiet_of_same (XF (HT.o.2.2.drewN _))))
 have hlh:l.high≤1099511627776:=by have:=l.high_le;have:=HD.o.sm.many;simp only[RT.nodes_node,Wad,Wan] at this;omega
 have hrh:r.high≤1099511627776:=by have:=r.high_le;have:=HD.o.sm.many;simp only[RT.nodes_node,Wad,Wan] at this;omega
 have HX:=Hm (HT.o.drewN nq);have HOX:=Hm (HO.o.drewN nq);clear a9 a10 al af;generalize w1.drewN nq=wa at HX HOX ⊢;clear HT HO w1;obtain⟨-,-,-,-,-,-,-,-,-,a9,a10,-⟩:=Qv HX.o.1;have al:=HX.o.1.lt;have af:=HX.o.1.frozen;have hw:wrap64 ((l.high:Int)-(r.high:Int))=(l.high:Int)-(r.high:Int):=by unfold wrap64;omega
 rw[hw];clear hw;obtain⟨d,hd⟩:∃ d:Int,d=(l.high:Int)-(r.high:Int):=⟨_,rfl⟩;rw[← hd]
 by_cases h1:r.high+1<l.high
 ·have HE:Hd (RT.lvl g rs l r=RT.rotR g rs l.fixL r):=⟨by unfold RT.lvl;rw[if_pos h1]⟩;have hd1:(1:Int)<d:=by omega
  clear hd hlh hrh
  cases l with
  | nil=>simp at h1
  | node gl rl ll lr =>
   clear h1;rw[RT.ptr_node] at a9;obtain⟨-,-,-,-,-,-,-,-,-,b9,b10,-⟩:=Qv HX.o.2.1.1;have bl:=HX.o.2.1.1.lt;have bf:=HX.o.2.1.1.frozen;go_wp2_with fail
   go_quiet (first
    | (go_at_call_of 304 (RT.ptr ll);exact Calls.quiet_of_same (XF (HX.o.2.1.2.1.drewN _)))
    | (go_at_call_of 304 (RT.ptr lr);exact Calls.quiet_of_same (XF (HX.o.2.1.2.2.drewN _))))
   have HX2:=Hm (HX.o.drewN nq);have HOX2:=Hm (HOX.o.drewN nq);clear a9 a10 al af b9 b10 bl bf;generalize wa.drewN nq=wb at HX2 HOX2 ⊢;clear HX HOX wa;obtain⟨-,-,-,-,-,-,-,-,-,a9,a10,-⟩:=Qv HX2.o.1;have al:=HX2.o.1.lt;have af:=HX2.o.1.frozen;rw[RT.ptr_node] at a9
   by_cases h2:ll.high<lr.high
   ·have hd2:(ll.high:Int)<(lr.high:Int):=by omega
    have HE2:Hd ((RT.node gl rl ll lr).fixL=RT.rotL gl rl ll lr):=⟨by show (if ll.high<lr.high then RT.rotL gl rl ll lr else _)=_;rw[if_pos h2]⟩
    cases lr with
    | nil=>simp at h2
    | node gm rm ml mr =>
     clear h2
     go_wp2_with (first
      | (go_at_call 305;refine (Qbm (g:=gl) (gx:=gm) (rs:=rl) (rx:=rm) (l:=ll) (xl:=ml) (xr:=mr) HX2.o.2.1.raw HD.o.onL).mono ?_;rintro e w2 ⟨rfl,ht2,ho2⟩;have hg2:=HX2.o.1.only ho2 (by rintro (rfl | rfl);exact HD.o.nl (by simp);exact HD.o.nl (by simp));have hr2:=HX2.o.2.2.only ho2 (by rintro b hb (rfl | rfl);exact HD.o.lr _ (by simp) hb;exact HD.o.lr _ (by simp) hb);have al:=hg2.lt;have af:=hg2.frozen;obtain⟨-,-,-,-,-,-,-,-,-,a9,a10,-⟩:=Qv hg2;have HG2:=Hm hg2;have HR2:=Hm hr2;have HT2:=Hm ht2;have HO2:=Hm ho2;clear hg2 hr2 ht2 ho2)
      | (go_at_call 306;refine (Qbl (g:=g) (gx:=gm) (rs:=rs) (rx:=rm) (xl:=.node gl rl ll ml) (xr:=mr) (r:=r) (Qeh HG2.o HT2.o HR2.o (fun e=>HD.o.nl (by simpa using e)) HD.o.nr) (HD.o.of_nodes (by simp))).mono ?_;rintro e w3 ⟨rfl,ht3,ho3⟩;have HT3:=Hm ht3;have HO3:=Hm ho3;clear ht3 ho3))
     go_ret;rw[HE.o,HE2.o];refine⟨rfl,HT3.o,((Jf ((HOX2.o.mono ?_).trans (HO2.o.mono ?_)) ?_).trans (HO3.o.mono ?_))⟩
     ·rintro k-rfl;simp
     ·rintro k-(rfl | rfl)<;>simp
     ·simp
     ·rintro k-(rfl | rfl)<;>simp
   ·have hd2:¬ ((ll.high:Int)<(lr.high:Int)):=by omega
    have HE2:Hd ((RT.node gl rl ll lr).fixL=RT.node gl rl ll lr):=⟨by show (if ll.high<lr.high then RT.rotL gl rl ll lr else _)=_;rw[if_neg h2]⟩;clear h2;go_wp2_with (go_at_call 306;refine (Qbl (g:=g) (gx:=gl) (rs:=rs) (rx:=rl) (xl:=ll) (xr:=lr) (r:=r) HX2.o.raw HD.o).mono ?_;rintro e w3 ⟨rfl,ht3,ho3⟩;have HT3:=Hm ht3;have HO3:=Hm ho3;clear ht3 ho3)
    go_ret;rw[HE.o,HE2.o];refine⟨rfl,HT3.o,(HOX2.o.mono ?_).trans (HO3.o.mono ?_)⟩
    ·rintro k-rfl;simp
    ·rintro k-(rfl | rfl)<;>simp
 ·by_cases h3:l.high+1<r.high
  ·have HE:Hd (RT.lvl g rs l r=RT.rotL g rs l r.fixR):=⟨by unfold RT.lvl;rw[if_neg h1,if_pos h3]⟩;have hd1:¬ ((1:Int)<d):=by omega
   have hd3:d<(-1:Int):=by omega
   clear hd hlh hrh h1
   cases r with
   | nil=>simp at h3
   | node gl rl ll lr =>
    clear h3;rw[RT.ptr_node] at a10;obtain⟨-,-,-,-,-,-,-,-,-,b9,b10,-⟩:=Qv HX.o.2.2.1;have bl:=HX.o.2.2.1.lt;have bf:=HX.o.2.2.1.frozen;go_wp2_with fail
    go_quiet (first
     | (go_at_call_of 304 (RT.ptr ll);exact Calls.quiet_of_same (XF (HX.o.2.2.2.1.drewN _)))
     | (go_at_call_of 304 (RT.ptr lr);exact Calls.quiet_of_same (XF (HX.o.2.2.2.2.drewN _))))
    have HX2:=Hm (HX.o.drewN nq);have HOX2:=Hm (HOX.o.drewN nq);clear a9 a10 al af b9 b10 bl bf;generalize wa.drewN nq=wb at HX2 HOX2 ⊢;clear HX HOX wa;obtain⟨-,-,-,-,-,-,-,-,-,a9,a10,-⟩:=Qv HX2.o.1;have al:=HX2.o.1.lt;have af:=HX2.o.1.frozen;rw[RT.ptr_node] at a10
    by_cases h2:lr.high<ll.high
    ·have hd2:(lr.high:Int)<(ll.high:Int):=by omega
     have HE2:Hd ((RT.node gl rl ll lr).fixR=RT.rotR gl rl ll lr):=⟨by show (if lr.high<ll.high then RT.rotR gl rl ll lr else _)=_;rw[if_pos h2]⟩
     cases ll with
     | nil=>simp at h2
     | node gm rm ml mr =>
      clear h2
      go_wp2_with (first
       | (go_at_call 306;refine (Qbl (g:=gl) (gx:=gm) (rs:=rl) (rx:=rm) (r:=lr) (xl:=ml) (xr:=mr) HX2.o.2.2.raw HD.o.onR).mono ?_;rintro e w2 ⟨rfl,ht2,ho2⟩;have hg2:=HX2.o.1.only ho2 (by rintro (rfl | rfl);exact HD.o.nr (by simp);exact HD.o.nr (by simp));have hr2:=HX2.o.2.1.only ho2 (by rintro b hb (rfl | rfl);exact HD.o.lr _ hb (by simp);exact HD.o.lr _ hb (by simp));have al:=hg2.lt;have af:=hg2.frozen;obtain⟨-,-,-,-,-,-,-,-,-,a9,a10,-⟩:=Qv hg2;have HG2:=Hm hg2;have HR2:=Hm hr2;have HT2:=Hm ht2;have HO2:=Hm ho2;clear hg2 hr2 ht2 ho2)
       | (go_at_call 305;refine (Qbm (g:=g) (gx:=gm) (rs:=rs) (rx:=rm) (l:=l) (xl:=ml) (xr:=.node gl rl mr lr) (Qei HG2.o HR2.o HT2.o HD.o.nl (fun e=>HD.o.nr (by simpa using e))) (HD.o.of_nodes (by simp))).mono ?_;rintro e w3 ⟨rfl,ht3,ho3⟩;have HT3:=Hm ht3;have HO3:=Hm ho3;clear ht3 ho3))
      go_ret;rw[HE.o,HE2.o];refine⟨rfl,HT3.o,((Jf ((HOX2.o.mono ?_).trans (HO2.o.mono ?_)) ?_).trans (HO3.o.mono ?_))⟩
      ·rintro k-rfl;simp
      ·rintro k-(rfl | rfl)<;>simp
      ·simp
      ·rintro k-(rfl | rfl)<;>simp
    ·have hd2:¬ ((lr.high:Int)<(ll.high:Int)):=by omega
     have HE2:Hd ((RT.node gl rl ll lr).fixR=RT.node gl rl ll lr):=⟨by show (if lr.high<ll.high then RT.rotR gl rl ll lr else _)=_;rw[if_neg h2]⟩;clear h2;go_wp2_with (go_at_call 305;refine (Qbm (g:=g) (gx:=gl) (rs:=rs) (rx:=rl) (xl:=ll) (xr:=lr) (l:=l) HX2.o.raw HD.o).mono ?_;rintro e w3 ⟨rfl,ht3,ho3⟩;have HT3:=Hm ht3;have HO3:=Hm ho3;clear ht3 ho3)
     go_ret;rw[HE.o,HE2.o];refine⟨rfl,HT3.o,(HOX2.o.mono ?_).trans (HO3.o.mono ?_)⟩
     ·rintro k-rfl;simp
     ·rintro k-(rfl | rfl)<;>simp
  ·have HE:Hd (RT.lvl g rs l r=RT.node g rs l r):=⟨by unfold RT.lvl;rw[if_neg h1,if_neg h3]⟩;have hd1:¬ ((1:Int)<d):=by omega
   have hd3:¬ (d<(-1:Int)):=by omega
   clear hd hlh hrh h1 h3;go_wp2_with fail;go_ret;rw[HE.o];refine⟨rfl,HX.o,HOX.o.mono ?_⟩;rintro k-rfl;simp
end
section
open Go.RowKit
namespace U
def at_ (s:Bs)(j:Nat):UInt8:=s.getD j 0
end U
theorem Qje {s:U.Bs}{k:Nat}(hk:k≤s.length):(ByteArray.mk s.toArray).extract 0 k=⟨(s.take k).toArray⟩:=by
 simp[ByteArray.extract,ByteArray.copySlice,hk]
theorem getD_at {s:U.Bs}{j:Nat}(h:j<s.length)(hh):(ByteArray.mk s.toArray)[j]'hh=U.at_ s j:=by
 have:(ByteArray.mk s.toArray)[j]'hh=s[j]:=rfl
 rw[this];simp[h,U.at_]
attribute [local go_sem ↓] Go.wp_at_zero Go.wp_at_succ
end
section
def bl (rs:List Int):Nat:=(U.encs rs).length
theorem ZB (rs:List Int):(cnt rs).b=(bl rs:Int):=by rw[(Zk rs).2.1,U.off_full];rfl
@[simp] theorem bl_nil:bl []=0:=rfl
@[simp] theorem bl_append (a b:List Int):bl (a++b)=bl a+bl b:=by unfold bl;rw[U.encs_append,Wad]
theorem QB (rs:List Int):rs.length≤bl rs:=by have:=U.len_le_off rs;rwa [U.off_full] at this
theorem ZQ {rs:List Int}(h:rs≠[]):0<bl rs:=by
 have:=QB rs
 have:=Wax.2 h
 omega
namespace RT
def chunks (t:RT):List (List Int):=t.nodes.map Prod.snd
@[simp] theorem chunks_nil:nil.chunks=[]:=rfl
@[simp] theorem chunks_node (g:Nat) (rs:List Int) (l r:RT):(node g rs l r).chunks=l.chunks++rs :: r.chunks:=by simp[chunks]
theorem runes_chunks (t:RT):t.runes=t.chunks.flatten:=by rw[runes_nodes,chunks,List.flatMap_def]
theorem len_chunks (t:RT):t.chunks.length=t.nodes.length:=by simp[chunks]
theorem blocks_lvl (g:Nat)(rs:List Int)(l r:RT):(lvl g rs l r).blocks=l.blocks++g :: r.blocks:=by simp[blocks,Qbi]
def addT (x:RT):RT→Nat→RT
 | nil,_=>x
 | node g rs l r,k=>if k≤bl l.runes then lvl g rs (addT x l k) r else lvl g rs l (addT x r (k-bl l.runes-bl rs))
end RT
def Ne (cs:List (List Int)):Prop:=∀ c∈cs,c≠[]
theorem Ne.l {a b:List (List Int)}(h:Ne (a++b)):Ne a:=fun c hc=>h c (List.mem_append_left _ hc)
theorem Ne.r {a b:List (List Int)}(h:Ne (a++b)):Ne b:=fun c hc=>h c (List.mem_append_right _ hc)
theorem Ne.tl {c:List Int}{b:List (List Int)}(h:Ne (c :: b)):Ne b:=fun x hx=>h x (List.mem_cons_of_mem _ hx)
theorem Ne.hd {c:List Int}{b:List (List Int)}(h:Ne (c :: b)):c≠[]:=h c (by simp)
theorem Ne.app {a b:List (List Int)}(h:Ne a)(k:Ne b):Ne (a++b):=fun c hc=>(List.mem_append.1 hc).elim (h c) (k c)
def cb (cs:List (List Int)):Nat:=bl cs.flatten
@[simp] theorem cb_nil:cb []=0:=rfl
@[simp] theorem cb_append (a b:List (List Int)):cb (a++b)=cb a+cb b:=by simp[cb]
@[simp] theorem cb_cons (c:List Int) (b:List (List Int)):cb (c :: b)=bl c+cb b:=by simp[cb]
theorem JL (t:RT):cb t.chunks=bl t.runes:=by rw[cb,RT.runes_chunks]
theorem Qbu {α:Type}{l r a b:List α}{x:α}(h:l++x :: r=a++b):(∃ c,l=a++c∧b=c++x :: r)∨(∃ c,a=l++x :: c∧r=c++b):=by
 rcases List.append_eq_append_iff.1 h with ⟨c,h1,h2⟩ | ⟨c,h1,h2⟩
 ·cases c with
  | nil=>exact .inl ⟨[],by simpa using h1.symm,by simpa using h2.symm⟩
  | cons y c =>
   simp only[Wap,List.cons.injEq] at h2;obtain⟨rfl,h3⟩:=h2;exact .inr ⟨c,h1,h3⟩
 ·exact .inl ⟨c,h1,h2⟩
namespace RT
theorem addT_nodes {x:RT}{t:RT}{k:Nat}{a b:List (Nat × List Int)}(hne:Ne t.chunks)(h:t.nodes=a++b)(hk:bl (a.flatMap Prod.snd)=k):(addT x t k).nodes=a++x.nodes++b:=by
 induction t generalizing k a b with
 | nil =>
  obtain⟨rfl,rfl⟩:=List.append_eq_nil_iff.1 h.symm;simp[addT]
 | node g rs l r ihl ihr =>
  simp only[nodes_node] at h;simp only[chunks_node] at hne;unfold addT;rcases Qbu h with ⟨c,h1,rfl⟩ | ⟨c,rfl,h2⟩
  ·have:k≤bl l.runes:=by rw[runes_nodes,h1,List.flatMap_append,bl_append];omega
   rw[if_pos this,Qbi,ihl hne.l h1 hk];simp
  ·have:=ZQ hne.r.hd
   have e:bl ((l.nodes++(g,rs) :: c).flatMap Prod.snd)=bl l.runes+(bl rs+bl (c.flatMap Prod.snd)):=by
    rw[List.flatMap_append,bl_append,← runes_nodes,List.flatMap_cons,bl_append]
   rw[if_neg (by omega),Qbi,ihr (a:=c) hne.r.tl h2 (by omega)];simp
end RT
end
section
def Yv (s:U.Bs)(a:Nat):Bool:=decide (a=s.length) || !(U.cont (s.getD a 0))
theorem YH {n:Int}(h:0≤n)(h2:n<256):U.cont (U.by8 n)=decide (128≤n∧n<192):=by
 have:=U.by8_toNat h h2
 unfold U.cont
 congr 1
 apply propext
 omega
theorem Qsf {r:Int}(h:U.right r=true){i:Nat}(hi:i<U.wid r)(t:U.Bs):U.cont ((U.enc r++t).getD i 0)=decide (0<i):=by
 have hr:=U.right_iff.1 h;unfold U.wid at hi;unfold U.enc
 split
 ·rename_i h1
  rw[if_pos h1] at hi;obtain rfl:i=0:=by omega
  show U.cont (U.by8 r)=_
  rw[YH (by omega) (by omega),decide_eq_false (by omega)];rfl
 ·rename_i h1
  rw[if_neg h1] at hi
  split
  ·rename_i h2
   rw[if_pos h2] at hi;obtain rfl | rfl:i=0∨i=1:=by omega
   ·show U.cont (U.by8 _)=_
    rw[YH (by omega) (by omega),decide_eq_false (by omega)];rfl
   ·show U.cont (U.by8 _)=_
    rw[YH (by omega) (by omega),decide_eq_true (by omega)];rfl
  ·rename_i h2
   rw[if_neg h2] at hi
   split
   ·rename_i h3
    rw[if_pos h3] at hi;obtain rfl | rfl | rfl:i=0∨i=1∨i=2:=by omega
    ·show U.cont (U.by8 _)=_
     rw[YH (by omega) (by omega),decide_eq_false (by omega)];rfl
    ·show U.cont (U.by8 _)=_
     rw[YH (by omega) (by omega),decide_eq_true (by omega)];rfl
    ·show U.cont (U.by8 _)=_
     rw[YH (by omega) (by omega),decide_eq_true (by omega)];rfl
   ·rename_i h3
    rw[if_neg h3] at hi;obtain rfl | rfl | rfl | rfl:i=0∨i=1∨i=2∨i=3:=by omega
    ·show U.cont (U.by8 _)=_
     rw[YH (by omega) (by omega),decide_eq_false (by omega)];rfl
    ·show U.cont (U.by8 _)=_
     rw[YH (by omega) (by omega),decide_eq_true (by omega)];rfl
    ·show U.cont (U.by8 _)=_
     rw[YH (by omega) (by omega),decide_eq_true (by omega)];rfl
    ·show U.cont (U.by8 _)=_
     rw[YH (by omega) (by omega),decide_eq_true (by omega)];rfl
theorem Z9 (r:Int)(rs:List Int):bl (r :: rs)=U.wid r+bl rs:=by unfold bl;rw[U.encs_cons,Wad,U.enc_length]
theorem Qaw {rs:List Int}(h:U.AllR rs){a:Nat}(ha:a≤bl rs):Yv (U.encs rs) a=true↔∃ p q,rs=p++q∧bl p=a:=by
 induction rs generalizing a with
 | nil =>
  simp at ha;subst ha
  exact⟨fun _=>⟨[],[],rfl,rfl⟩,fun _=>rfl⟩
 | cons r rs ih =>
  have hr:=h r (by simp);have hw:=U.wid_pos r;have hrs:U.AllR rs:=fun x hx=>h x (by simp[hx])
  rw[Z9] at ha
  by_cases h0:a<U.wid r
  ·have e:Yv (U.encs (r :: rs)) a=!decide (0<a):=by
    unfold Yv;have hl:a≠(U.encs (r :: rs)).length:=by have:=Z9 r rs;unfold bl at this;omega
    rw[decide_eq_false hl,U.encs_cons,Qsf hr h0];simp
   rw[e]
   constructor
   ·intro hh
    have:a=0:=by simpa using hh
    exact⟨[],r :: rs,rfl,this.symm⟩
   ·rintro⟨p,q,hp,hb⟩
    cases p with
    | nil=>simp at hb;simp[← hb]
    | cons y p =>
     simp only[Wap,List.cons.injEq] at hp;rw[Z9,← hp.1] at hb;omega
  ·have e:Yv (U.encs (r :: rs)) a=Yv (U.encs rs) (a-U.wid r):=by
    unfold Yv;rw[U.encs_cons,Wad,U.enc_length]
    have e1:(U.enc r++U.encs rs).getD a 0=(U.encs rs).getD (a-U.wid r) 0:=by
     rw[List.getD_eq_getElem?_getD,List.getD_eq_getElem?_getD,Way (by rw[U.enc_length];omega),U.enc_length]
    rw[e1]
    congr 1
    rw[decide_eq_decide];omega
   rw[e,ih hrs (by omega)]
   constructor
   ·rintro⟨p,q,rfl,hb⟩
    exact⟨r :: p,q,rfl,by rw[Z9];omega⟩
   ·rintro⟨p,q,hp,hb⟩
    cases p with
    | nil=>simp at hb;omega
    | cons y p =>
     simp only[Wap,List.cons.injEq] at hp;obtain⟨rfl,rfl⟩:=hp;rw[Z9] at hb
     exact⟨p,q,rfl,by omega⟩
def fill:List Int→Nat→List Int
 | [],_=>[]
 | r :: rs,k=>if U.wid r≤k then r :: fill rs (k-U.wid r) else []
theorem Qhh (rs:List Int)(k:Nat):∃ q,rs=fill rs k++q:=by
 induction rs generalizing k with
 | nil=>exact⟨[],rfl⟩
 | cons r rs ih =>
  unfold fill
  split
  ·obtain⟨q,e⟩:=ih (k-U.wid r)
   exact⟨q,by rw[Wap,← e]⟩
  ·exact⟨r :: rs,rfl⟩
theorem Qhi (rs:List Int)(k:Nat):bl (fill rs k)≤k:=by
 induction rs generalizing k with
 | nil=>simp[fill]
 | cons r rs ih =>
  unfold fill
  split
  ·rw[Z9];have:=ih (k-U.wid r);omega
  ·simp
theorem Qsg {rs p q:List Int}{k:Nat}(h:rs=p++q)(hk:bl p≤k):bl p≤bl (fill rs k):=by
 induction rs generalizing p k with
 | nil =>
  obtain⟨rfl,rfl⟩:=List.append_eq_nil_iff.1 h.symm;simp
 | cons r rs ih =>
  cases p with
  | nil=>simp
  | cons y p =>
   simp only[Wap,List.cons.injEq] at h;obtain⟨rfl,h2⟩:=h;rw[Z9] at hk;unfold fill;rw[if_pos (by omega),Z9,Z9]
   have:=ih h2 (k:=k-U.wid r) (by omega)
   omega
theorem Qax {rs:List Int}{k:Nat}(h:rs≠[])(hk:4≤k):fill rs k≠[]:=by
 cases rs with
 | nil=>exact absurd rfl h
 | cons r rs =>
  unfold fill;rw[if_pos (by have:=U.wid_le r;omega)];simp
theorem Qhj (rs:List Int)(k:Nat):rs=fill rs k++rs.drop (fill rs k).length:=by
 obtain⟨q,e⟩:=Qhh rs k
 have:rs.drop (fill rs k).length=q:=by
  conv=>lhs;rw[e]
  have:fill (fill rs k++q) k=fill rs k:=by rw[← e]
  rw[this,List.drop_left]
 rw[this];exact e
def Qr (rs:List Int):List (List Int) :=
 if _h:32<bl rs then fill rs 32 :: Qr (rs.drop (fill rs 32).length) else if rs=[] then [] else [rs]
termination_by rs.length
decreasing_by
 have hne:rs≠[]:=by rintro rfl;simp at _h
 have:=Wax.2 (Qax hne (k:=32) (by omega))
 have:=Wax.2 hne
 rw[War];omega
theorem Jy (rs:List Int):(Qr rs).flatten=rs:=by
 generalize hn:rs.length=n
 induction n using Nat.strongRecOn generalizing rs with
 | _ n ih =>
  unfold Qr
  split
  ·rename_i h
   have hne:rs≠[]:=by rintro rfl;simp at h
   have:=Wax.2 (Qax hne (k:=32) (by omega))
   have:=Wax.2 hne
   rw[List.flatten_cons,ih (rs.drop (fill rs 32).length).length (by rw[War];omega) _ rfl,← Qhj]
  ·split
   ·rename_i h;rw[h];rfl
   ·simp
theorem Qdb {rs c:List Int}(h:c∈Qr rs):c≠[]∧bl c≤32:=by
 generalize hn:rs.length=n
 induction n using Nat.strongRecOn generalizing rs with
 | _ n ih =>
  unfold Qr at h
  split at h
  ·rename_i h1
   have hne:rs≠[]:=by rintro rfl;simp at h1
   have hf:=Qax hne (k:=32) (by omega)
   have:=Wax.2 hf
   have:=Wax.2 hne
   rcases Wbk.1 h with rfl | h
   ·exact⟨hf,Qhi _ _⟩
   ·exact ih (rs.drop (fill rs 32).length).length (by rw[War];omega) h rfl
  ·split at h
   ·simp at h
   ·rename_i h1 h2
    obtain rfl:=Wbd.1 h
    exact⟨h2,by omega⟩
theorem Qdc (rs:List Int):Ne (Qr rs):=fun _ h=>(Qdb h).1
end
section
open Go.RowKit
def edg (s:U.Bs)(a:Nat):Bool:=decide (a=s.length) || !(U.cont (U.at_ s a))
theorem Qqa (s:U.Bs):edg s s.length=true:=by simp[edg]
end
section
open Go.RowKit
structure ApN (ns:List (Nat × List Int)):Prop where
 nodup:(ns.map Prod.fst).Nodup
 sm:Sm (ns.flatMap Prod.snd) ns.length
theorem Qpl {a b:List (Nat × List Int)}(h:a.Perm b):(a.flatMap Prod.snd).length=(b.flatMap Prod.snd).length:=(h.flatMap_right Prod.snd).length_eq
theorem ApN.perm {a b:List (Nat × List Int)}(h:ApN a)(p:a.Perm b):ApN b :=
 ⟨(p.map Prod.fst).nodup_iff.1 h.nodup,h.sm.le (Nat.le_of_eq (Qpl p).symm) (Nat.le_of_eq p.length_eq.symm)⟩
theorem ApN.ap {t:RT}(h:ApN t.nodes):Ap t:=⟨h.nodup,by rw[RT.runes_nodes];exact h.sm⟩
theorem ApN.left {a b:List (Nat × List Int)}(h:ApN (a++b)):ApN a:=by
 obtain⟨h1,h2⟩:=h;rw[Wbo] at h1
 exact⟨(List.nodup_append.1 h1).1,h2.le (by simp) (by simp)⟩
theorem ApN.right {a b:List (Nat × List Int)}(h:ApN (a++b)):ApN b:=by
 obtain⟨h1,h2⟩:=h;rw[Wbo] at h1
 exact⟨(List.nodup_append.1 h1).2.1,h2.le (by simp) (by simp)⟩
theorem ApN.apart {a b:List (Nat × List Int)}(h:ApN (a++b)):∀ k,k∈a.map Prod.fst→k ∉ b.map Prod.fst:=fun k hk hk'=>by
 have:=h.nodup
 rw[Wbo] at this;exact (List.nodup_append.1 this).2.2 k hk k hk' rfl
theorem Qpm {rs:List Int}(hr:U.AllR rs)(hs:bl rs≤1099511627776)(w:World) :
  Calls prog 235 #[.string ⟨(U.encs rs).toArray⟩] w fun e w'=>∃ g,e=.returned (RT.node g rs .nil .nil).ptr∧w.heap.size≤g∧AtT w' (.node g rs .nil .nil)∧Below w.heap.size w w':=by
 have HC:=Hm (Xv (U.sp_encs hr) w (by unfold bl at hs;omega));have HS:Hd (Sm ([]++rs++[]) (0+0)):=⟨⟨by have:=QB rs;simp;omega,by omega⟩⟩;clear hr hs;go_enter func235,ntmps235
 go_wp2_with (first
  | (go_at_call 133;refine HC.o.mono ?_;rintro e w1 ⟨hb,he,-⟩;obtain rfl:=he rfl;have HB:=Hm hb;clear hb he)
  | (go_at_call 283;refine (XO (g:=w1.heap.size+1) (rs:=rs) (l:=.nil) (r:=.nil) ⟨⟨Cn.zero,0,by have:=Blk.new (w1.alloc (.cells #[Value.int .i64 (cnt rs).b,.int .i64 (cnt rs).h,.int .i64 (cnt rs).r,.int .i64 (cnt rs).l] 125)) 393 (ZK rs Cn.zero (RT.ptr .nil) (RT.ptr .nil) 0);rw[Waq] at this;exact this⟩,trivial,trivial⟩ (by simp) (by simp) HS.o).mono ?_;rintro e w2 ⟨rfl,ht,ho⟩;have HT:=Hm ht;have HO:=Hm ho;clear ht ho))
 go_ret;refine⟨w1.heap.size+1,rfl,by have:=HB.o.size;omega,HT.o,?_⟩;refine (Only.trans (S:=fun k=>k=w1.heap.size+1) ?_ HO.o).below (Wak _) (fun k hk e=>?_)
 ·exact Only.of_below (((HB.o.alloc HB.o.size _)).alloc (by simp;have:=HB.o.size;omega) _)
 ·have:=HB.o.size
  omega
def YW (t x:RT)(k:Nat):Prop:=k∈t.blocks∨k∈x.blocks
theorem Qad {x t:RT}{k b:Nat}(h:b∈(RT.addT x t k).blocks):YW t x b:=by
 unfold YW
 induction t generalizing k with
 | nil=>exact .inr h
 | node g rs l r ihl ihr =>
  unfold RT.addT at h
  split at h
  ·simp only[RT.blocks_lvl,RT.blocks_node,List.mem_append,Wbk] at h ⊢;rcases h with h | h | h
   ·rcases ihl h with h | h
    ·exact .inl (.inl h)
    ·exact .inr h
   ·exact .inl (.inr (.inl h))
   ·exact .inl (.inr (.inr h))
  ·simp only[RT.blocks_lvl,RT.blocks_node,List.mem_append,Wbk] at h ⊢;rcases h with h | h | h
   ·exact .inl (.inl h)
   ·exact .inl (.inr (.inl h))
   ·rcases ihr h with h | h
    ·exact .inl (.inr (.inr h))
    ·exact .inr h
theorem Qae {α:Type}(a x c m:List α):(a++x++c++m).Perm (a++c++m++x):=by
 have:=(List.perm_append_comm (l₁:=x) (l₂:=c++m)).append_left a
 simpa only [Wah] using this
theorem XP (b h r l:Int)(w:World):(Instr.field 125 (.agg #[.int .i64 b,.int .i64 h,.int .i64 r,.int .i64 l]) 0).run prog w=.ok (.int .i64 b) w:=by kernel_rfl
theorem Qpn (b h r l:Int)(w:World):(Instr.field 125 (.agg #[.int .i64 b,.int .i64 h,.int .i64 r,.int .i64 l]) 2).run prog w=.ok (.int .i64 r) w:=by kernel_rfl
theorem Qcu (b h r l:Int)(w:World):(Instr.field 125 (.agg #[.int .i64 b,.int .i64 h,.int .i64 r,.int .i64 l]) 3).run prog w=.ok (.int .i64 l) w:=by kernel_rfl
attribute [local go_sem] Cn.v_eq ZB XP
set_option maxHeartbeats 1000000 in
theorem Qpo {x t : RT} {k : Nat} {w : World} (hx : AtT w x) (ht : AtT w t) (hne : Ne t.chunks) (hd : ApN (t.nodes ++ x.nodes)) (hk : ∃ a b, t.nodes = a ++ b ∧ bl (a.flatMap Prod.snd) = k) :
    Calls Tryz.prog 234 #[t.ptr, .int .i64 k, x.ptr] w fun e w' => e = .returned (RT.addT x t k).ptr ∧ AtT w' (RT.addT x t k) ∧ Only (YW t x) w w' := by
  induction t generalizing k w with
  | nil =>
    rw [RT.ptr_nil]
    show Calls _ _ _ _ fun e w' => e = .returned x.ptr ∧ AtT w' x ∧ _
    unfold RT.ptr
    have HX := Hd.mk hx
    clear hx
    go_enter Tryz.func234, Tryz.ntmps234
    go_wp2_with fail
    go_ret
    exact ⟨rfl, HX.out, Only.refl _ _⟩
  | node g rs l r ihl ihr =>
    obtain ⟨-, c1, -, -, -, -, -, -, -, c9, c10, -⟩ := Qv ht.1
    have lt := ht.1.lt
    have fr := ht.1.frozen
    have HT := Hd.mk ht
    have HX := Hd.mk hx
    have HA0 : Ap (.node g rs l r) := hd.left.ap
    have hlx : ApN (l.nodes ++ x.nodes) := (hd.perm (by have := (Qae l.nodes x.nodes [] ((g, rs) :: r.nodes)).symm; simpa using this) : ApN ((l.nodes ++ x.nodes) ++ (g, rs) :: r.nodes)).left
    have hrx : ApN (r.nodes ++ x.nodes) := by
      have : (RT.node g rs l r).nodes ++ x.nodes = (l.nodes ++ [(g, rs)]) ++ (r.nodes ++ x.nodes) := by simp
      rw [this] at hd; exact hd.right
    have hgx : g ∉ x.blocks := hd.apart g (by simp)
    have hlb : ∀ b ∈ l.blocks, b ∉ x.blocks := fun b hb => hd.apart b (by have : b ∈ (RT.node g rs l r).blocks := by simp [hb]
                                                                          exact this)
    have hrb : ∀ b ∈ r.blocks, b ∉ x.blocks := fun b hb => hd.apart b (by have : b ∈ (RT.node g rs l r).blocks := by simp [hb]
                                                                          exact this)
    simp only [RT.chunks_node] at hne
    obtain ⟨a, b, hab, hk⟩ := hk
    simp only [RT.nodes_node] at hab
    have hsm := ZQ hne.r.hd
    have hlen := HA0.sm.len
    have hb1 : bl l.runes ≤ 4398046511104 := by have := (Zk l.runes).1; have := ZB l.runes; obtain ⟨⟨b0, b1, -⟩, -, -⟩ := Zk l.runes; simp only [RT.runes_node, Wad] at hlen; omega
    have hb2 : bl rs ≤ 4398046511104 := by have := ZB rs; obtain ⟨⟨b0, b1, -⟩, -, -⟩ := Zk rs; simp only [RT.runes_node, Wad] at hlen; omega
    rw [RT.ptr_node]
    rw [ZB] at c1
    by_cases h : k ≤ bl l.runes
    · have hi : (k : Int) ≤ (bl l.runes : Int) := by omega
      have HE : Hd (RT.addT x (.node g rs l r) k = RT.lvl g rs (RT.addT x l k) r) := ⟨by show (if _ then _ else _) = _; rw [if_pos h]⟩
      have hcut : ∃ c, l.nodes = a ++ c := by
        rcases Qbu hab with ⟨c, h1, -⟩ | ⟨c, rfl, -⟩
        · exact ⟨c, h1⟩
        · exfalso
          rw [List.flatMap_append, bl_append, ← RT.runes_nodes, List.flatMap_cons, bl_append] at hk
          dsimp only at hk
          omega
      obtain ⟨c, hc⟩ := hcut
      have hnn := RT.addT_nodes (x := x) hne.l hc hk
      have HA : Hd (Ap (.node g rs (RT.addT x l k) r)) := ⟨ApN.ap (hd.perm (by
        rw [RT.nodes_node, RT.nodes_node, hnn, hc]
        exact (Qae a x.nodes c ((g, rs) :: r.nodes)).symm))⟩
      have HI := fun w1 (hb : Below w.heap.size w w1) => Hd.mk (ihl (k := k) (w := w1) (hx.below hb) (ht.2.1.below hb) hne.l hlx ⟨a, c, hc, hk⟩)
      have HN : Hd ((∀ b ∈ r.blocks, ¬ YW l x b) ∧ ¬ YW l x g) := ⟨⟨fun b hb e => e.elim (fun e => HA0.lr b e hb) (hrb b hb), fun e => e.elim HA0.nl hgx⟩⟩
      clear h hc hk hab hnn hd hne ihl ihr hx ht hlx hrx hgx hlb hrb HA0 hlen hsm
      simp only [RT.ptr] at c9 c10 ⊢
      go_enter Tryz.func234, Tryz.ntmps234
      go_wp2_with (first
        | (go_at_call 261; refine (X8 (t := l) HT.out.2.1).mono ?_; rintro e w1 ⟨rfl, hb⟩; have hg1 := HT.out.1.below hb HT.out.1.lt; obtain ⟨-, c1, -, -, -, -, -, -, -, c9, c10, -⟩ := Qv hg1; rw [ZB] at c1; have lt := hg1.lt; have fr := hg1.frozen; simp only [RT.ptr] at c9 c10; have HB := Hd.mk hb; clear hb hg1)
        | (go_at_call 234; refine (HI _ HB.out).out.mono ?_; rintro e w2 ⟨he, ht2, ho2⟩; simp only [RT.ptr] at he; obtain rfl := he; have hg2 := (HT.out.1.below HB.out HT.out.1.lt).only ho2 HN.out.2; obtain ⟨-, c1, -, -, -, -, -, -, -, c9, c10, -⟩ := Qv hg2; have lt := hg2.lt; have fr := hg2.frozen; simp only [RT.ptr] at c9 c10; have HG2 := Hd.mk hg2; have HT2 := Hd.mk ht2; have HO2 := Hd.mk ho2; clear hg2 ht2 ho2)
        | (go_at_call 282; refine (Qej (g := g) (rs := rs) (l := RT.addT x l k) (r := r) (Qeh HG2.out HT2.out ((HT.out.2.2.below HB.out).only HO2.out HN.out.1) HA.out.nl HA.out.nr) HA.out).mono ?_; rintro e w3 ⟨he, ht3, ho3⟩; simp only [RT.ptr] at he; obtain rfl := he; have HT3 := Hd.mk ht3; have HO3 := Hd.mk ho3; clear ht3 ho3))
      go_ret
      rw [HE.out]
      refine ⟨rfl, HT3.out, ((Jf (((Only.of_below HB.out).trans (HO2.out.mono ?_))) ?_).trans (HO3.out.mono ?_))⟩
      · rintro k - h; exact h.elim (fun h => .inl (by simp [h])) .inr
      · exact .inl (by simp)
      · rintro k - h
        simp only [RT.blocks_node, List.mem_append, Wbk] at h
        rcases h with h | h | h
        · exact (Qad h).elim (fun h => .inl (by simp [h])) .inr
        · exact .inl (by simp [h])
        · exact .inl (by simp [h])
    · have hi : ¬ ((k : Int) ≤ (bl l.runes : Int)) := by omega
      have HE : Hd (RT.addT x (.node g rs l r) k = RT.lvl g rs l (RT.addT x r (k - bl l.runes - bl rs))) := ⟨by show (if _ then _ else _) = _; rw [if_neg h]⟩
      have hcut : ∃ c, a = l.nodes ++ (g, rs) :: c ∧ r.nodes = c ++ b := by
        rcases Qbu hab with ⟨c, h1, -⟩ | h1
        · exfalso
          have : bl l.runes = bl (a.flatMap Prod.snd) + bl (c.flatMap Prod.snd) := by rw [RT.runes_nodes, h1, List.flatMap_append, bl_append]
          omega
        · exact h1
      obtain ⟨c, rfl, hc⟩ := hcut
      rw [List.flatMap_append, bl_append, ← RT.runes_nodes, List.flatMap_cons, bl_append] at hk
      dsimp only at hk
      obtain ⟨k2, hk2⟩ : ∃ k2, k2 = bl (c.flatMap Prod.snd) := ⟨_, rfl⟩
      have e2 : k - bl l.runes - bl rs = k2 := by omega
      have hb3 : bl r.runes ≤ 4398046511104 := by have := ZB r.runes; obtain ⟨⟨b0, b1, -⟩, -, -⟩ := Zk r.runes; simp only [RT.runes_node, Wad] at hlen; omega
      have hb4 : bl r.runes = bl (c.flatMap Prod.snd) + bl (b.flatMap Prod.snd) := by rw [RT.runes_nodes, hc, List.flatMap_append, bl_append]
      rw [e2] at HE
      have hnn := RT.addT_nodes (x := x) hne.r.tl hc hk2.symm
      have HA : Hd (Ap (.node g rs l (RT.addT x r k2))) := ⟨ApN.ap (hd.perm (by
        rw [RT.nodes_node, RT.nodes_node, hnn, hc]
        have := (Qae (l.nodes ++ (g, rs) :: c) x.nodes b []).symm
        simpa using this))⟩
      have HI := fun w1 (hb : Below w.heap.size w w1) => Hd.mk (ihr (k := k2) (w := w1) (hx.below hb) (ht.2.2.below hb) hne.r.tl hrx ⟨c, b, hc, hk2.symm⟩)
      have HN : Hd ((∀ b ∈ l.blocks, ¬ YW r x b) ∧ ¬ YW r x g) := ⟨⟨fun b hb e => e.elim (fun e => HA0.lr b hb e) (hlb b hb), fun e => e.elim HA0.nr hgx⟩⟩
      have HW : Hd (IntKind.i64.wrap (IntKind.i64.wrap ((k : Int) - (bl l.runes : Int)) - (bl rs : Int)) = (k2 : Int)) := ⟨by rw [Waw (n := (k : Int) - (bl l.runes : Int)), Waw] <;> omega⟩
      clear h hc hk hk2 hab hnn hd hne ihl ihr hx ht hlx hrx hgx hlb hrb HA0 hlen hsm e2 hb3 hb4
      simp only [RT.ptr] at c9 c10 ⊢
      go_enter Tryz.func234, Tryz.ntmps234
      go_wp2_with (go_at_call 261; refine (X8 (t := l) HT.out.2.1).mono ?_; rintro e w1 ⟨rfl, hb⟩; have hg1 := HT.out.1.below hb HT.out.1.lt; obtain ⟨-, c1, -, -, -, -, -, -, -, c9, c10, -⟩ := Qv hg1; rw [ZB] at c1; have lt := hg1.lt; have fr := hg1.frozen; simp only [RT.ptr] at c9 c10; have HB := Hd.mk hb; clear hb hg1)
      go_region_with (go_at_call 234; rw [HW.out]; refine (HI _ (Qe HB.out)).out.mono ?_; rintro e w2 ⟨he, ht2, ho2⟩; simp only [RT.ptr] at he; obtain rfl := he; have hg2 := (HT.out.1.below (Qe HB.out) HT.out.1.lt).only ho2 HN.out.2; obtain ⟨-, c1, -, -, -, -, -, -, -, c9, c10, -⟩ := Qv hg2; have lt := hg2.lt; have fr := hg2.frozen; simp only [RT.ptr] at c9 c10; have HG2 := Hd.mk hg2; have HT2 := Hd.mk ht2; have HO2 := Hd.mk ho2; clear hg2 ht2 ho2)
      all_goals go_wp2_with (go_at_call 282; refine (Qej (g := g) (rs := rs) (l := l) (r := RT.addT x r k2) (Qei HG2.out ((HT.out.2.1.below (Qe HB.out)).only HO2.out HN.out.1) HT2.out HA.out.nl HA.out.nr) HA.out).mono ?_; rintro e w3 ⟨he, ht3, ho3⟩; simp only [RT.ptr] at he; obtain rfl := he; have HT3 := Hd.mk ht3; have HO3 := Hd.mk ho3; clear ht3 ho3)
      all_goals go_ret
      all_goals rw [HE.out]
      all_goals refine ⟨rfl, HT3.out, ((Jf (((Only.of_below (Qe HB.out)).trans (HO2.out.mono ?_))) ?_).trans (HO3.out.mono ?_))⟩
      all_goals first
        | exact .inl (by simp)
        | (rintro k - h; exact h.elim (fun h => .inl (by simp [h])) .inr)
        | (rintro k - h
           simp only [RT.blocks_node, List.mem_append, Wbk] at h
           rcases h with h | h | h
           · exact .inl (by simp [h])
           · exact .inl (by simp [h])
           · exact (Qad h).elim (fun h => .inl (by simp [h])) .inr)
end
section
namespace RT
def Bal:RT→Prop
 | nil=>True
 | node _ _ l r=>l.high≤r.high+1∧r.high≤l.high+1∧Bal l∧Bal r
theorem Qi3 {g:Nat}{rs:List Int}{l r:RT}(hl:Bal l)(hr:Bal r)(h1:l.high≤r.high+2)(h2:r.high≤l.high+2) :
  Bal (lvl g rs l r)∧max l.high r.high≤(lvl g rs l r).high∧(lvl g rs l r).high≤1+max l.high r.high∧(l.high≤r.high+1→r.high≤l.high+1→(lvl g rs l r).high=1+max l.high r.high):=by
 unfold lvl
 split
 ·rename_i h
  cases l with
  | nil=>simp at h
  | node gl rl a b =>
   obtain⟨k1,k2,ka,kb⟩:=hl;simp only[high_node] at h h1 h2 ⊢
   show _∧_
   have e:(node gl rl a b).fixL=if a.high<b.high then rotL gl rl a b else node gl rl a b:=rfl
   rw[e]
   split
   ·cases b with
    | nil=>rename_i h3;simp at h3
    | node gb rb c d =>
     obtain⟨m1,m2,kc,kd⟩:=kb;simp only[high_node] at *;simp only[rotL,rotR,Bal,high_node];refine⟨⟨?_,?_,⟨?_,?_,ka,kc⟩,⟨?_,?_,kd,hr⟩⟩,?_,?_,?_⟩<;>omega
   ·simp only[rotR,Bal,high_node];refine⟨⟨?_,?_,ka,⟨?_,?_,kb,hr⟩⟩,?_,?_,?_⟩<;>omega
 ·split
  ·rename_i h0 h
   cases r with
   | nil=>simp at h
   | node gr rr a b =>
    obtain⟨k1,k2,ka,kb⟩:=hr;simp only[high_node] at h0 h h1 h2 ⊢;have e:(node gr rr a b).fixR=if b.high<a.high then rotR gr rr a b else node gr rr a b:=rfl
    rw[e]
    split
    ·cases a with
     | nil=>rename_i h3;simp at h3
     | node ga ra c d =>
      obtain⟨m1,m2,kc,kd⟩:=ka;simp only[high_node] at *;simp only[rotL,rotR,Bal,high_node];refine⟨⟨?_,?_,⟨?_,?_,hl,kc⟩,⟨?_,?_,kd,kb⟩⟩,?_,?_,?_⟩<;>omega
    ·simp only[rotL,Bal,high_node];refine⟨⟨?_,?_,⟨?_,?_,hl,ka⟩,kb⟩,?_,?_,?_⟩<;>omega
  ·rename_i h0 h
   simp only[Bal,high_node]
   exact⟨⟨by omega,by omega,hl,hr⟩,by omega,by omega,fun _ _=>trivial⟩
theorem addT_bal {x t:RT}(hx:Bal x)(hx1:x.high=1)(ht:Bal t)(k:Nat):Bal (addT x t k)∧t.high≤(addT x t k).high∧(addT x t k).high≤t.high+1:=by
 induction t generalizing k with
 | nil=>exact⟨hx,by simp,by simp[addT,hx1]⟩
 | node g rs l r ihl ihr =>
  obtain⟨k1,k2,kl,kr⟩:=ht;unfold addT;rw[high_node]
  split
  ·obtain⟨b1,b2,b3⟩:=ihl kl k;obtain⟨c1,c2,c3,c4⟩:=Qi3 (g:=g) (rs:=rs) b1 kr (by omega) (by omega);refine⟨c1,?_,by omega⟩
   by_cases h:(addT x l k).high≤r.high+1
   ·have:=c4 h (by omega);omega
   ·omega
  ·obtain⟨b1,b2,b3⟩:=ihr kr (k-bl l.runes-bl rs);obtain⟨c1,c2,c3,c4⟩:=Qi3 (g:=g) (rs:=rs) kl b1 (by omega) (by omega);refine⟨c1,?_,by omega⟩
   by_cases h:(addT x r (k-bl l.runes-bl rs)).high≤l.high+1
   ·have:=c4 (by omega) h;omega
   ·omega
end RT
end
end Go.Proofs.YtckkgdmkfbkaoaaGreatDoor
