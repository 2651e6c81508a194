/- Texts of the proof. -/
import Derived.Test.YtckkgdmkfbkaoaaGreatDoorM19
namespace Go.Proofs.YtckkgdmkfbkaoaaGreatDoor
set_option maxRecDepth 100000
set_option maxHeartbeats 32000000
set_option linter.all false
section
open Go.RowKit Go.Shelf Go.Sort
section
variable {P:Program}{n:Nat}{g:Operand}{ps:Array Tmp}{assign body:Code}{Q:Exit→Act→World→Prop}{a:Act}{w:World}
def KpS (K:Nat→Prop)(A A':World):Prop:=A.heap.size≤A'.heap.size∧∀ b,K b→A'.heap[b]?=A.heap[b]?
def Qik (P:Program)(n gf:Nat)(lb:Array Value)(xs:Nat→Array Value)(N sB:Nat)(K:Nat→Prop)(w:World):Prop :=
 ∀ (l:Nat) (J:Nat→World→Prop) (W:World),Below w.heap.size w W→(∀ k A B,J k A→Only (fun j=>j=sB) A B→J k B) →
  (∀ k A,k<N→J k A→YieldAt Fence.wide (n-1) P l (xs k) A fun e A'=>e=.returned (.bool true)∧J (k+1) A'∧KpS K A A') →
  J 0 W→CallsIn Fence.wide n P gf (#[.func (.yield l) #[] #[]]++lb) W fun e W'=>(∃ v,e=.returned v)∧J N W'
def Qs8 (I:Nat→World→Prop)(k:Nat)(K:Nat→Prop)(B:Nat)(W:World)(e:Exit)(_:Act)(W':World):Prop :=
 e=.normal∧I (k+1) W'∧W.heap.size≤W'.heap.size∧∀ b,(K b∨b=B∨b=B+1)→W'.heap[b]?=W.heap[b]?
theorem Only.of_put {S:Nat→Prop}(W:World){l:Nat}(o:Obj)(h:S l):Only S W (W.putObj l o) :=
 ⟨rfl,rfl,rfl,by simp,fun _ _ hk=>World.putObj_heap_other (fun e=>hk (by rw[e];exact h))⟩
theorem Qs9 {gf:Nat}{lb:Array Value}(hg:a.eval g=.func (.func gf) #[] lb)(eg:∀ args w,(callFunc gf args).run P w=.ok (.enter gf args) w)
  {xs:Nat→Array Value} {N sB:Nat} {K:Nat→Prop} (hsB:sB<w.heap.size) (hK:∀ j,K j→j<w.heap.size) (hseq:Qik P (n-1) gf lb xs N sB K w) (hps:∀ k,k<N→(xs k).size=ps.size)
  (I:Nat→World→Prop) (hI:∀ k A B,I k A→Only (fun j=>j=sB∨j=w.heap.size∨j=w.heap.size+1) A B→I k B) (h0:I 0 w)
  (hround:∀ (l k:Nat) (W:World),k<N→I k W→w.heap.size+1<W.heap.size →
   assign.wpIn (Fence.wide.inRound l) (n-1-1) P (Exit.then (fun a' W'=>Below W.heap.size W W' ∧
    ∀ o,body.wpIn (Fence.wide.inRound l) (n-1-1) P (Qs8 I k K w.heap.size (W'.putObj (w.heap.size+1) o)) a' (W'.putObj (w.heap.size+1) o)) (fun _ _ _=>False))
    { tmps:=(ps.zip (xs k)).foldl (fun t (p,v)=>t.setIfInBounds p v) a.tmps,defers:=[] } W)
  (hdone:∀ W,I N W→W.heap[w.heap.size]?=some (.deferred (some []))→Q .normal { a with defers:={ target:=.collected w.heap.size,args:=#[] } :: a.defers } W) :
  (Code.rangeFunc g ps assign body).wpIn Fence.wide n P Q a w:=by
 refine wpIn_rangeFunc ?_;intro fn hfn;obtain⟨rec,hrec⟩:∃ rec:LoopState→Loop,rec=fun st=>{ state:=st,pending:=none,fn,tmps:=a.tmps,params:=ps,assign,body,defers:=w.heap.size }:=⟨_,rfl⟩
 have hsz1:(w.alloc (.deferred (some []))).heap.size=w.heap.size+1:=Waq _ _
 have hL1:((w.alloc (.deferred (some []))).alloc (.loop (rec .ready))).heap[w.heap.size+1]?=some (.loop (rec .ready)):=by
  have:=World.alloc_heap_new (w.alloc (.deferred (some []))) (.loop (rec .ready))
  rwa [hsz1] at this
 have hK1:((w.alloc (.deferred (some []))).alloc (.loop (rec .ready))).heap[w.heap.size]?=some (.deferred (some [])) :=
  (Below.heap_alloc _ _ _ (by rw[hsz1];omega)).trans (World.alloc_heap_new w _)
 have hb1:Below w.heap.size w ((w.alloc (.deferred (some []))).alloc (.loop (rec .ready))):=((Wac _ w).alloc (Wak _) _).alloc (by rw[hsz1];omega) _;have hz2:((w.alloc (.deferred (some []))).alloc (.loop (rec .ready))).heap.size=w.heap.size+2:=by rw[Waq,hsz1]
 refine⟨w.heap.size+1,[{ target:=.collected w.heap.size,args:=#[] }],(w.alloc (.deferred (some []))).alloc (.loop (rec .ready)),{ target:=.fn (.func gf) lb,args:=#[.func (.yield (w.heap.size+1)) #[] #[]] },
  (w.alloc (.deferred (some []))).alloc (.loop (rec .ready)),gf,#[.func (.yield (w.heap.size+1)) #[] #[]]++lb,(w.alloc (.deferred (some []))).alloc (.loop (rec .ready)),?_,?_,fun _ _=>trivial,?_,fun h=>absurd h (by decide),?_⟩
 ·rw[hrec];exact run_enterLoop_outer _ _ _ _ _
 ·simp only[resolve,hg];simp[go_sem]
 ·simp[invoke,go_sem,eg]
 ·generalize (w.alloc (.deferred (some []))).alloc (.loop (rec .ready))=W1 at *;have hI1:I 0 W1:=hI 0 _ _ h0 (Only.of_below hb1);refine (hseq (w.heap.size+1) (fun k W=>I k W∧W.heap[w.heap.size+1]?=some (.loop (rec .ready))∧W.heap[w.heap.size]?=some (.deferred (some []))) W1 hb1 ?_ ?_ ⟨hI1,hL1,hK1⟩).mono ?_
  ·rintro k A B ⟨hi,hl,hk⟩ hb
   exact⟨hI k _ _ hi (hb.mono (fun j _ e=>.inl e)),(hb.block _ (Wbm.1 hl).1 (by omega)).trans hl,(hb.block _ (Wbm.1 hk).1 (by omega)).trans hk⟩
  ·rintro k A hk ⟨hi,hl,hd⟩;have hlt:w.heap.size+1<A.heap.size:=(Wbm.1 hl).1;have hy:=run_yield (P:=P) (args:=xs k) hl (by rw[hrec];exact hps k hk);rw[hrec] at hy;refine⟨fn,_,assign,body,hy,roundIn_of_wpIn hfn (wpIn_mono (hround _ k A hk hi hlt) ?_)⟩;rintro e a' WA h
   cases e<;>first | exact False.elim h | skip
   obtain⟨hwa,hax⟩:=h;have hlA:WA.heap[w.heap.size+1]?=some (.loop (rec .ready)):=(hwa.block _ hlt).trans hl;have hltA:w.heap.size+1<WA.heap.size:=(Wbm.1 hlA).1;have hzA:=hwa.size;rw[hrec] at hlA;refine⟨_,run_beginRound hlA rfl,?_⟩;refine wpIn_mono (hax _) ?_;rintro e a3 W3 ⟨rfl,hi3,hz3,hb3⟩;simp only[World.putObj_size] at hz3 hb3
   have hl3:W3.heap[w.heap.size+1]?=some (.loop { rec .ready with state:=.busy }):=by
    rw[hrec];exact (hb3 _ (.inr (.inr rfl))).trans (World.putObj_heap_same hltA)
   have hd3:W3.heap[w.heap.size]?=some (.deferred (some [])):=(hb3 _ (.inr (.inl rfl))).trans ((World.putObj_heap_other (by omega)).trans ((hwa.block _ (by omega)).trans hd));have hr:=run_endRound (P:=P) none hl3;have hlt3:w.heap.size+1<W3.heap.size:=(Wbm.1 hl3).1;refine⟨_,_,hr,rfl,⟨hI _ _ _ hi3 (Only.of_put W3 _ (.inr (.inr rfl))),?_,(World.putObj_heap_other (by omega)).trans hd3⟩,?_,?_⟩
   ·rw[World.putObj_heap_same hlt3,hrec];rfl
   ·simp only[World.putObj_size];omega
   ·intro b hbk;have hbl:=hK b hbk;rw[World.putObj_heap_other (by omega),hb3 b (.inl hbk),World.putObj_heap_other (by omega),hwa.block b (by omega)]
  ·rintro e W2 ⟨⟨v,rfl⟩,hi,hl,hd⟩;refine⟨none,_,by have:=run_endLoop (P:=P) hl (by rw[hrec];simp);rw[hrec] at this;exact this,?_⟩;have hlt2:w.heap.size+1<W2.heap.size:=(Wbm.1 hl).1;exact hdone _ (hI _ _ _ hi (Only.of_put W2 _ (.inr (.inr rfl)))) ((World.putObj_heap_other (by omega)).trans hd)
end
end
section
open Go.RowKit Go.Shelf Go.Sort
section
variable {P:Program}{n:Nat}{g:Operand}{ps:Array Tmp}{assign body:Code}{Q:Exit→Act→World→Prop}{a:Act}{w:World}
def Qly (I:Nat→World→Prop)(X:World→Prop)(k iB B:Nat)(W:World)(e:Exit)(_:Act)(W':World):Prop :=
 (e=.normal∧I (k+1) W'∧W.heap.size≤W'.heap.size∧∀ b,b<W.heap.size→b≠iB→W'.heap[b]?=W.heap[b]?) ∨
 (e=.ret∧X W'∧W.heap.size≤W'.heap.size∧∀ b,b=B∨b=B+1→W'.heap[b]?=W.heap[b]?)
theorem Qez {gf:Nat}{lb:Array Value}(hg:a.eval g=.func (.func gf) #[] lb)(eg:∀ args w,(callFunc gf args).run P w=.ok (.enter gf args) w)
  {xs:Nat→Array Value} {N iB:Nat} (hib:iB<w.heap.size) (hseq:Qvo P (n-1) gf lb xs N iB w) (hps:∀ k,(xs k).size=ps.size)
  (I:Nat→World→Prop) (X:World→Prop) (hI:∀ k A B,I k A→Below w.heap.size A B→I k B) (hX:∀ A B,X A→Below w.heap.size A B→X B) (h0:I 0 w)
  (hround:∀ (l k:Nat) (W:World),k<N→I k W→w.heap.size+1<W.heap.size →
   assign.wpIn (Fence.wide.inRound l) (n-1-1) P (Exit.then (fun a' W'=>Below W.heap.size W W' ∧
    ∀ o,body.wpIn (Fence.wide.inRound l) (n-1-1) P (Qly I X k iB w.heap.size (W'.putObj (w.heap.size+1) o)) a' (W'.putObj (w.heap.size+1) o)) (fun _ _ _=>False))
    { tmps:=(ps.zip (xs k)).foldl (fun t (p,v)=>t.setIfInBounds p v) a.tmps,defers:=[] } W)
  (hdone:∀ W,I N W→W.heap[w.heap.size]?=some (.deferred (some []))→Q .normal { a with defers:={ target:=.collected w.heap.size,args:=#[] } :: a.defers } W)
  (hleft:∀ W,X W→W.heap[w.heap.size]?=some (.deferred (some []))→Q .ret { a with defers:={ target:=.collected w.heap.size,args:=#[] } :: a.defers } W) :
  (Code.rangeFunc g ps assign body).wpIn Fence.wide n P Q a w:=by
 refine wpIn_rangeFunc ?_;intro fn hfn;obtain⟨rec,hrec⟩:∃ rec:LoopState→Loop,rec=fun st=>{ state:=st,pending:=none,fn,tmps:=a.tmps,params:=ps,assign,body,defers:=w.heap.size }:=⟨_,rfl⟩
 have hsz1:(w.alloc (.deferred (some []))).heap.size=w.heap.size+1:=Waq _ _
 have hL1:((w.alloc (.deferred (some []))).alloc (.loop (rec .ready))).heap[w.heap.size+1]?=some (.loop (rec .ready)):=by
  have:=World.alloc_heap_new (w.alloc (.deferred (some []))) (.loop (rec .ready))
  rwa [hsz1] at this
 have hK1:((w.alloc (.deferred (some []))).alloc (.loop (rec .ready))).heap[w.heap.size]?=some (.deferred (some [])) :=
  (Below.heap_alloc _ _ _ (by rw[hsz1];omega)).trans (World.alloc_heap_new w _)
 have hb1:Below w.heap.size w ((w.alloc (.deferred (some []))).alloc (.loop (rec .ready))):=((Wac _ w).alloc (Wak _) _).alloc (by rw[hsz1];omega) _;have hz2:((w.alloc (.deferred (some []))).alloc (.loop (rec .ready))).heap.size=w.heap.size+2:=by rw[Waq,hsz1]
 refine⟨w.heap.size+1,[{ target:=.collected w.heap.size,args:=#[] }],(w.alloc (.deferred (some []))).alloc (.loop (rec .ready)),{ target:=.fn (.func gf) lb,args:=#[.func (.yield (w.heap.size+1)) #[] #[]] },
  (w.alloc (.deferred (some []))).alloc (.loop (rec .ready)),gf,#[.func (.yield (w.heap.size+1)) #[] #[]]++lb,(w.alloc (.deferred (some []))).alloc (.loop (rec .ready)),?_,?_,fun _ _=>trivial,?_,fun h=>absurd h (by decide),?_⟩
 ·rw[hrec];exact run_enterLoop_outer _ _ _ _ _
 ·simp only[resolve,hg];simp[go_sem]
 ·simp[invoke,go_sem,eg]
 ·generalize (w.alloc (.deferred (some []))).alloc (.loop (rec .ready))=W1 at *;have hI1:I 0 W1:=hI 0 _ _ h0 hb1;refine (hseq (w.heap.size+1) (fun k W=>I k W∧W.heap[w.heap.size+1]?=some (.loop (rec .ready))∧W.heap[w.heap.size]?=some (.deferred (some []))) (fun k W=>X W∧W.heap[w.heap.size+1]?=some (.loop { rec .done with pending:=some .ret })∧W.heap[w.heap.size]?=some (.deferred (some []))) W1 hb1 ?_ ?_ ⟨hI1,hL1,hK1⟩).mono ?_
  ·rintro k A B ⟨hi,hl,hk⟩ hb
   exact⟨hI k _ _ hi (hb.mono (by omega)),(hb.block _ (by omega)).trans hl,(hb.block _ (by omega)).trans hk⟩
  ·rintro k A hk ⟨hi,hl,hd⟩;have hlt:w.heap.size+1<A.heap.size:=(Wbm.1 hl).1;have hy:=run_yield (P:=P) (args:=xs k) hl (by rw[hrec];exact hps k);rw[hrec] at hy;refine⟨fn,_,assign,body,hy,roundIn_of_wpIn hfn (wpIn_mono (hround _ k A hk hi hlt) ?_)⟩;rintro e a' WA h
   cases e<;>first | exact False.elim h | skip
   obtain⟨hwa,hax⟩:=h;have hlA:WA.heap[w.heap.size+1]?=some (.loop (rec .ready)):=(hwa.block _ hlt).trans hl;have hltA:w.heap.size+1<WA.heap.size:=(Wbm.1 hlA).1;have hzA:=hwa.size;rw[hrec] at hlA;refine⟨_,run_beginRound hlA rfl,?_⟩;refine wpIn_mono (hax _) ?_;rintro e a3 W3 (⟨rfl,hi3,hz3,hb3⟩ | ⟨rfl,hx3,hz3,hb3⟩)
   ·simp only[World.putObj_size] at hz3 hb3
    have hl3:W3.heap[w.heap.size+1]?=some (.loop { rec .ready with state:=.busy }):=by
     rw[hrec];exact (hb3 _ hltA (by omega)).trans (World.putObj_heap_same hltA)
    have hd3:W3.heap[w.heap.size]?=some (.deferred (some [])):=(hb3 _ (by omega) (by omega)).trans ((World.putObj_heap_other (by omega)).trans ((hwa.block _ (by omega)).trans hd));have hr:=run_endRound (P:=P) none hl3;have hlt3:w.heap.size+1<W3.heap.size:=(Wbm.1 hl3).1;refine⟨_,_,hr,.inl ⟨rfl,⟨hI _ _ _ hi3 (Xc W3 (w.heap.size+1) _ (by omega)),?_,(World.putObj_heap_other (by omega)).trans hd3⟩,?_,?_⟩⟩
    ·rw[World.putObj_heap_same hlt3,hrec];rfl
    ·simp only[World.putObj_size];omega
    ·intro b cs t hbk hbi;have hbl:b<A.heap.size:=(Wbm.1 hbk).1;have hne:b≠w.heap.size+1:=fun e=>by subst e;rw[hl] at hbk;cases hbk
     rw[World.putObj_heap_other hne,hb3 b (by omega) hbi,World.putObj_heap_other hne,hwa.block b hbl];exact hbk
   ·simp only[World.putObj_size] at hz3
    have hl3:W3.heap[w.heap.size+1]?=some (.loop { rec .ready with state:=.busy }):=by
     rw[hrec];exact (hb3 _ (.inr rfl)).trans (World.putObj_heap_same hltA)
    have hd3:W3.heap[w.heap.size]?=some (.deferred (some [])):=(hb3 _ (.inl rfl)).trans ((World.putObj_heap_other (by omega)).trans ((hwa.block _ (by omega)).trans hd));have hr:=run_endRound (P:=P) (some .ret) hl3;have hlt3:w.heap.size+1<W3.heap.size:=(Wbm.1 hl3).1;refine⟨_,_,hr,.inr ⟨rfl,hX _ _ hx3 (Xc W3 (w.heap.size+1) _ (by omega)),?_,(World.putObj_heap_other (by omega)).trans hd3⟩⟩;rw[World.putObj_heap_same hlt3,hrec];rfl
  ·rintro e W2 ⟨⟨v,rfl⟩,(⟨hi,hl,hd⟩ | ⟨_,_,h⟩)⟩
   ·refine⟨none,_,by have:=run_endLoop (P:=P) hl (by rw[hrec];simp);rw[hrec] at this;exact this,?_⟩;exact hdone _ (hI _ _ _ hi (Xc W2 (w.heap.size+1) _ (by omega))) ((World.putObj_heap_other (by omega)).trans hd)
   ·refine⟨some .ret,_,by have:=run_endLoop (P:=P) h.2.1 (by rw[hrec];simp);rw[hrec] at this;exact this,?_⟩;exact wpIn_ret (hleft _ (hX _ _ h.1 (Xc W2 (w.heap.size+1) _ (by omega))) ((World.putObj_heap_other (by omega)).trans h.2.2))
end
end
end Go.Proofs.YtckkgdmkfbkaoaaGreatDoor
