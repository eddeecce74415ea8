import Derived.Test.YtiijokopcgnokaaGreatWHeap
import Derived.MapKept
import Derived.Maps.RangeRun
import Derived.Maps.RangeWalk
import Derived.Maps.OwnOps
import Derived.Maps.OwnSet
import Derived.Carry
set_option linter.unusedSimpArgs false
set_option linter.unusedVariables false
namespace Go.Proofs.YtiijokopcgnokaaGreat
open Go Go.RowKit
abbrev Pairs := List (Int × Value)
def pk (q:IntKind) (p:Int × Value):Value × Value:=(.int q p.1,p.2)
def kv (e:MapEntry):Value × Value:=(e.key,e.val)
def MapAt (w:World) (b:Nat) (q:IntKind) (m:Pairs):Prop :=
 ∃ es clock,w.heap[b]?=some (.map es clock)∧MapKept.Stamped es clock∧es.toList.map kv=m.map (pk q)
def look (m:Pairs) (a:Int):Option Value:=(m.find? fun p=>p.1 == a).map (·.2)
def mput (m:Pairs) (a:Int) (v:Value):Pairs:=if (look m a).isSome then m.map (fun p=>if p.1=a then (a,v) else p) else m++[(a,v)]
def mdel (m:Pairs) (a:Int):Pairs:=m.filter fun p=>p.1 != a
theorem Xol (m:Pairs) (a:Int):(m.filter fun x=>x.1≠a)=mdel m a:=by
 unfold mdel
 apply List.filter_congr
 intro x _
 by_cases h:x.1=a <;> simp [h]
section
variable {w w' : World} {b r : Nat} {q : IntKind} {m left : Pairs} {P : Program}
theorem pk_inj {q:IntKind} {p p':Int × Value} (h:pk q p=pk q p'):p=p':=by
 simp only [pk,Prod.mk.injEq,Value.int.injEq,true_and] at h;exact Prod.ext h.1 h.2
theorem MapAt.lt (h:MapAt w b q m):b<w.heap.size:=by
 obtain ⟨es,c,hb,_⟩:=h;exact (Array.getElem?_eq_some_iff.1 hb).1
theorem MapAt.later {X:List Nat} (h:MapAt w b q m) (hO:Only X w w') (hX:b∉X):MapAt w' b q m:=by
 have hl:=h.lt;obtain ⟨es,c,hb,r⟩:=h;exact ⟨es,c,(hO.block b hl hX).trans hb,r⟩
theorem MapAt.past (h:MapAt w b q m) (hO:Only [] w w'):MapAt w' b q m:=h.later hO (by simp)
theorem MapAt.made (w:World) (q:IntKind):MapAt (w.alloc (.map #[] 0)) w.heap.size q [] :=
 ⟨#[],0,heap_alloc_new w _,MapKept.stamped_empty 0,rfl⟩
theorem MapAt.ne (h:MapAt w b q m) {g:Nat} {cs:List Value} {t:TypeId} (hb:Blk w g cs t):b≠g:=fun e=>by
 subst e;obtain ⟨es,c,h1,_⟩:=h;unfold Blk at hb
 rw [h1] at hb;cases hb
theorem Xjd {es:Array MapEntry} {clock:Nat} (hs:MapKept.Stamped es clock) (he:es.toList.map kv=m.map (pk q)):(m.map (·.1)).Nodup:=by
 have h1:(es.toList.map (·.key))=m.map (fun p=>Value.int q p.1):=by
  have:=congrArg (List.map Prod.fst) he
  simpa [Yw,Function.comp_def,kv,pk] using this
 have h2:=hs.2.2;rw [h1] at h2;exact Xf.2 ((Xf.1 h2).imp fun hne e=>hne (by rw [e]))
theorem MapAt.nodup (h:MapAt w b q m):(m.map (·.1)).Nodup:=by
 obtain ⟨es,c,_,hs,he⟩:=h;exact Xjd hs he
theorem get_kv {es:Array MapEntry} (he:es.toList.map kv=m.map (pk q)) (j:Nat):(es[j]?).map kv=(m[j]?).map (pk q):=by
 have:=congrArg (fun l=>l[j]?) he
 simpa using this
theorem isKeys {es:Array MapEntry} (he:es.toList.map kv=m.map (pk q)):∀ x∈es.toList,MapKept.IsKey (.int q) x.key:=by
 intro x hx;have:kv x∈es.toList.map kv:=Yj hx;rw [he,Zi] at this;obtain ⟨p,_,hp⟩:=this;simp only [pk,kv,Prod.mk.injEq] at hp
 rw [←hp.1];rfl
theorem find_at : ∀ {m:Pairs} {a:Int} {v:Value} {j:Nat},(m.map (·.1)).Nodup→m[j]?=some (a,v)→m.find? (fun p=>p.1 == a)=some (a,v)
 | [],_,_,_,_,h=>by simp at h
 | p :: m,a,v,0,_,h=>by
  simp only [Zb,Zw] at h
  subst h;simp
 | p :: m,a,v,j+1,hn,h=>by
  simp only [Zd] at h;simp only [Zx,Xn] at hn
  have hne:p.1≠a:=fun e=>hn.1 (by rw [e];exact Zi.2 ⟨(a,v),Zm h,rfl⟩)
  rw [List.find?_cons_of_neg (by simpa using hne)];exact find_at hn.2 h
theorem look_at {a:Int} {v:Value} {j:Nat} (hn:(m.map (·.1)).Nodup) (h:m[j]?=some (a,v)):look m a=some v:=by
 unfold look;rw [find_at hn h];rfl
theorem Xhk {a:Int} (h:∀ p∈m,p.1≠a):look m a=none:=by
 unfold look
 rw [Vb.2 (fun p hp=>by simpa using h p hp)];rfl
theorem found {es:Array MapEntry} {clock:Nat} (hs:MapKept.Stamped es clock) (he:es.toList.map kv=m.map (pk q)) (a:Int) :
  (Instr.findNow (.int q) (.int q a) es.toList 0=some none∧look m a=none∧∀ p∈m,p.1≠a) ∨
  ∃ (j:Nat) (e:MapEntry),Instr.findNow (.int q) (.int q a) es.toList 0=some (some (j,e.val))∧es[j]?=some e∧e.key=.int q a∧look m a=some e.val∧m[j]?=some (a,e.val):=by
 rcases MapKept.findNow_spec (d:=.int q) (k:=.int q a) rfl es.toList 0 (isKeys he) with ⟨h1,h2⟩ | ⟨j,e,h1,h2,h3⟩
 ·have h4:∀ p∈m,p.1≠a:=fun p hp e=>by
   have:pk q p∈m.map (pk q):=Yj hp;rw [←he,Zi] at this;obtain ⟨x,hx,hx2⟩:=this;simp only [pk,kv,Prod.mk.injEq] at hx2;exact h2 x hx (by rw [hx2.1,e])
  exact .inl ⟨h1,Xhk h4,h4⟩
 ·have h2':es[j]?=some e:=by simpa using h2
  have h5:=get_kv he j;rw [h2'] at h5
  cases hm:m[j]? with
  | none=>rw [hm] at h5;cases h5
  | some p =>
   rw [hm] at h5;simp only [Xe,Zw,kv,pk,Prod.mk.injEq] at h5;rw [h3] at h5;simp only [Value.int.injEq,true_and] at h5
   have h6:m[j]?=some (a,e.val):=by rw [hm];simp only [Zw];exact Prod.ext h5.1.symm h5.2.symm
   exact .inr ⟨j,e,by rw [h1,Yd],h2',h3,look_at (Xjd hs he) h6,h6⟩
theorem MapAt.look {t k e:TypeId} (h:MapAt w b q m) (ht:P.underlying t=some (.map k e)) (hk:P.underlying k=some (.int q)) {z:Value} (hz:(zeroValue e).run P w=.ok z w) (a:Int) (ok:Bool) :
  (Instr.lookup t (.map (some b)) (.int q a) ok).run P w=.ok (if ok then .tuple #[(look m a).getD z,.bool (look m a).isSome] else (look m a).getD z) w:=by
 obtain ⟨es,clock,hb,hs,he⟩:=h;simp only [Instr.lookup,Sem.run_bind,run_underlying ht,Result.andThen,MapKept.run_getObj_map hb,Sem.run_pure,MapKept.run_checkKey (k:=.int q a) hk rfl _ 9999]
 rcases found hs he a with ⟨h1,h2,_⟩ | ⟨j,en,h1,_,_,h2,_⟩
 ·simp only [MapKept.run_findKey hk h1,Sem.run_bind,hz,Result.andThen,Sem.run_pure,h2]
  cases ok <;> rfl
 ·simp only [MapKept.run_findKey hk h1,Sem.run_bind,Result.andThen,Sem.run_pure,h2]
  cases ok <;> rfl
theorem MapAt.len {t k e:TypeId} (h:MapAt w b q m) (ht:P.underlying t=some (.map k e)) (ty:TypeId):(Builtin.len_ #[t] ty #[.map (some b)]).run P w=.ok (.int .i64 m.length) w:=by
 obtain ⟨es,clock,hb,hs,he⟩:=h
 have hl:es.size=m.length:=by simpa using congrArg List.length he
 simp [Builtin.len_,Sem.run_bind,run_underlying ht,MapKept.run_getObj_map hb,Result.andThen,goInt,hl]
theorem Xeu {b:Nat} {o o':Obj} (hb:w.heap[b]?=some o):Only [b] w { w with heap:=w.heap.setIfInBounds b o' } :=
 ⟨rfl,rfl,rfl,by simp,fun k _ hn=>by simp only [Zg,Xt,or_false] at hn;simp [Ne.symm hn]⟩
theorem modify_kv {es:Array MapEntry} {clock:Nat} (hs:MapKept.Stamped es clock) (he:es.toList.map kv=m.map (pk q)) {j:Nat} {a:Int} {u v:Value} (hm:m[j]?=some (a,u)) :
  (es.modify j fun e=>{ e with key:=.int q a,val:=v }).toList.map kv=(m.map fun p=>if p.1=a then (a,v) else p).map (pk q):=by
 have hn:=Xjd hs he
 apply List.ext_getElem?
 intro i;have h1:=get_kv he i;simp only [Zr,Array.getElem?_toList,Array.getElem?_modify]
 by_cases hij:j=i
 ·subst hij
  simp only [if_true];rw [hm] at h1 ⊢
  cases hx:es[j]? with
  | none=>rw [hx] at h1;cases h1
  | some x=>simp [kv,pk]
 ·simp only [if_neg hij]
  rw [h1]
  cases hp:m[i]? with
  | none=>rfl
  | some p =>
   have hne:p.1≠a:=fun e=>by
    have hx:=Yy.1 hn
    have hj:j<m.length:=by
     rcases Yv j m.length with h | h
     ·exact h
     ·rw [Xb h] at hm;cases hm
    have hi:i<m.length:=by
     rcases Yv i m.length with h | h
     ·exact h
     ·rw [Xb h] at hp;cases hp
    have ej:m[j]=(a,u):=by rw [Zc hj] at hm;simpa using hm
    have ei:m[i]=p:=by rw [Zc hi] at hp;simpa using hp
    rcases Nat.lt_or_gt_of_ne hij with h | h
    ·exact hx j i (by simpa using hj) (by simpa using hi) h (by simp [ej,ei,e])
    ·exact hx i j (by simpa using hi) (by simpa using hj) h (by simp [ej,ei,e])
   simp [hne]
theorem MapAt.put {t k e:TypeId} (h:MapAt w b q m) (ht:P.underlying t=some (.map k e)) (hk:P.underlying k=some (.int q)) (a:Int) (v:Value) :
  ∃ w',(Instr.mapUpdate t (.map (some b)) (.int q a) v).run P w=.ok () w'∧MapAt w' b q (mput m a v)∧Only [b] w w'∧w'.heap.size=w.heap.size:=by
 obtain ⟨es,clock,hb,hs,he⟩:=h
 rcases found hs he a with ⟨h1,h2,h3⟩ | ⟨j,en,h1,hj,hkey,h2,hm⟩
 ·refine ⟨_,?_,⟨_,_,(MapKept.heap_set hb).1,MapKept.stamped_push hs (key:=.int q a) (val:=v) (fun x hx e=>?_),?_⟩,Xeu hb,by simp⟩
  ·simp only [Instr.mapUpdate,Sem.run_bind,run_underlying ht,Result.andThen,MapKept.run_getObj_map hb,MapKept.run_checkKey (k:=.int q a) hk rfl _ 9999,MapKept.run_findKey hk h1,MapKept.run_setObj_map _ hb]
  ·have:kv x∈es.toList.map kv:=Yj hx
   rw [he,Zi] at this;obtain ⟨p,hp,hp2⟩:=this;simp only [pk,kv,Prod.mk.injEq,e,Value.int.injEq,true_and] at hp2;exact h3 p hp hp2.1
  ·simp only [mput,h2,Option.isSome_none,Bool.false_eq_true,if_false,Array.toList_push,Zs,he]
   rfl
 ·have hkeep:(Instr.keyThatStays (((es[j]?).map (·.key)).getD (.int q a)) (.int q a)).run P w=.ok (.int q a) w:=by
   simp [hj,hkey,Instr.keyThatStays,Instr.sameBits]
  refine ⟨_,?_,⟨_,_,(MapKept.heap_set hb).1,MapKept.stamped_modify hs j (fun e=>{ e with key:=.int q a,val:=v }) (fun _ _=>rfl) (fun x _ hx=>?_),?_⟩,Xeu hb,by simp⟩
  ·simp only [Instr.mapUpdate,Sem.run_bind,run_underlying ht,Result.andThen,MapKept.run_getObj_map hb,MapKept.run_checkKey (k:=.int q a) hk rfl _ 9999,MapKept.run_findKey hk h1,hkeep,MapKept.run_setObj_map _ hb]
  ·rw [hj] at hx
   simp only [Zw] at hx;subst hx;exact hkey.symm
  ·simp only [mput,h2,Option.isSome_some,if_true]
   exact modify_kv hs he hm
theorem Xis : ∀ {m:Pairs} {j:Nat} {a:Int} {u:Value},(m.map (·.1)).Nodup→m[j]?=some (a,u)→m.eraseIdx j=mdel m a
 | [],_,_,_,_,h=>by simp at h
 | p :: m,0,a,u,hn,h=>by
  simp only [Zb,Zw] at h;subst h;simp only [Zx,Xn] at hn
  have:mdel ((a,u) :: m) a=m.filter fun p=>p.1 != a:=by simp [mdel]
  rw [this,List.eraseIdx_cons_zero,List.filter_eq_self.2];intro x hx
  have:x.1≠a:=fun e=>hn.1 (by rw [←e];exact Yj hx)
  simpa using this
 | p :: m,j+1,a,u,hn,h=>by
  simp only [Zd] at h;simp only [Zx,Xn] at hn
  have hne:p.1≠a:=fun e=>hn.1 (by rw [e];exact Zi.2 ⟨(a,u),Zm h,rfl⟩)
  have:mdel (p :: m) a=p :: mdel m a:=by simp [mdel,hne]
  rw [this,List.eraseIdx_cons_succ,Xis hn.2 h]
theorem MapAt.del {t k e:TypeId} (h:MapAt w b q m) (ht:P.underlying t=some (.map k e)) (hk:P.underlying k=some (.int q)) (a:Int) (ty:TypeId) (tk:TypeId) :
  ∃ w',(Builtin.delete_ #[t,tk] ty #[.map (some b),.int q a]).run P w=.ok (.tuple #[]) w'∧MapAt w' b q (mdel m a)∧Only [b] w w'∧w'.heap.size=w.heap.size:=by
 obtain ⟨es,clock,hb,hs,he⟩:=h
 rcases found hs he a with ⟨h1,h2,h3⟩ | ⟨j,en,h1,hj,hkey,h2,hm⟩
 ·refine ⟨_,?_,⟨_,_,(MapKept.heap_set hb).1,hs,?_⟩,Xeu hb,by simp⟩
  ·simp [Builtin.delete_,Sem.run_bind,run_underlying ht,Result.andThen,MapKept.run_getObj_map hb,MapKept.run_checkKey (k:=.int q a) hk rfl _ 9999,MapKept.run_findKey hk h1,MapKept.run_setObj_map _ hb]
  ·rw [he]
   unfold mdel;rw [List.filter_eq_self.2 (fun p hp=>by simpa using h3 p hp)]
 ·refine ⟨_,?_,⟨_,_,(MapKept.heap_set hb).1,MapKept.stamped_erase hs j,?_⟩,Xeu hb,by simp⟩
  ·simp [Builtin.delete_,Sem.run_bind,run_underlying ht,Result.andThen,MapKept.run_getObj_map hb,MapKept.run_checkKey (k:=.int q a) hk rfl _ 9999,MapKept.run_findKey hk h1,MapKept.run_setObj_map _ hb]
  ·have hlt:j<es.size:=(Array.getElem?_eq_some_iff.1 hj).1
   rw [←Xis (Xjd hs he) hm];unfold Array.eraseIdxIfInBounds;rw [dif_pos hlt,Array.toList_eraseIdx,ChangeMaps.map_eraseIdx,ChangeMaps.map_eraseIdx,he]
theorem look_del_same (m:Pairs) (a:Int):Go.Proofs.YtiijokopcgnokaaGreat.look (mdel m a) a=none:=Xhk (fun p hp=>by
 simp only [mdel,Yp,bne_iff_ne,ne_eq] at hp
 exact hp.2)
theorem mem_look {m:Pairs} {p:Int × Value} (hn:(m.map (·.1)).Nodup) (h:p∈m):Go.Proofs.YtiijokopcgnokaaGreat.look m p.1=some p.2:=by
 obtain ⟨j,hj,e⟩:=Xl h;exact look_at (j:=j) hn (by rw [Zc hj,e])
theorem put_new {m:Pairs} {a:Int} (h:Go.Proofs.YtiijokopcgnokaaGreat.look m a=none) (v:Value):mput m a v=m++[(a,v)]:=by
 unfold mput;rw [h];rfl
def Xci (w:World) (r b:Nat) (q:IntKind) (m left:Pairs):Prop :=
 ∃ es clock seen c0,w.heap[b]?=some (.map es clock)∧MapKept.Stamped es clock∧es.toList.map kv=m.map (pk q)∧w.heap[r]?=some (.mapIter (some b) clock seen c0)∧clock≤c0∧(leftOf es seen).toList.map kv=left.map (pk q)
theorem Xci.map (h:Xci w r b q m left):MapAt w b q m:=by
 obtain ⟨es,c,s,c0,h1,h2,h3,_⟩:=h;exact ⟨es,c,h1,h2,h3⟩
theorem Xci.lt (h:Xci w r b q m left):r<w.heap.size∧b<w.heap.size∧r≠b:=by
 obtain ⟨es,c,s,c0,h1,h2,h3,h4,_⟩:=h;exact ⟨(Array.getElem?_eq_some_iff.1 h4).1,(Array.getElem?_eq_some_iff.1 h1).1,fun e=>by subst e;rw [h1] at h4;cases h4⟩
theorem Xci.later {X:List Nat} (h:Xci w r b q m left) (hO:Only X w w') (hb:b∉X) (hr:r∉X):Xci w' r b q m left:=by
 have hl:=h.lt;obtain ⟨es,c,s,c0,h1,h2,h3,h4,h5⟩:=h;exact ⟨es,c,s,c0,(hO.block b hl.2.1 hb).trans h1,h2,h3,(hO.block r hl.1 hr).trans h4,h5⟩
theorem Xci.past (h:Xci w r b q m left) (hO:Only [] w w'):Xci w' r b q m left:=h.later hO (by simp) (by simp)
theorem Xci.sub (h:Xci w r b q m left):∀ p∈left,p∈m:=by
 obtain ⟨es,c,s,c0,h1,h2,h3,h4,h5,h6⟩:=h;intro p hp;have:pk q p∈left.map (pk q):=Yj hp;rw [←h6,Zi] at this;obtain ⟨e,he,hk⟩:=this
 have he2:e∈es.toList:=by
  simp only [leftOf,Array.toList_filter,Yp] at he;exact he.1
 have:kv e∈es.toList.map kv:=Yj he2;rw [h3,hk,Zi] at this;obtain ⟨p',hp',e'⟩:=this
 rw [←pk_inj e'];exact hp'
theorem Xci.nodup (h:Xci w r b q m left):(left.map (·.1)).Nodup:=by
 obtain ⟨es,c,s,c0,h1,h2,h3,h4,h5,h6⟩:=h
 have h7:((leftOf es s).toList.map (·.key))=left.map (fun p=>Value.int q p.1):=by
  have:=congrArg (List.map Prod.fst) h6
  simpa [Yw,Function.comp_def,kv,pk] using this
 have h8:((leftOf es s).toList.map (·.key)).Nodup:=by
  have:(leftOf es s).toList.Sublist es.toList:=by
   simp only [leftOf,Array.toList_filter];exact List.filter_sublist
  exact (this.map _).nodup h2.2.2
 rw [h7] at h8;exact Xf.2 ((Xf.1 h8).imp fun hne e=>hne (by rw [e]))
theorem MapAt.range {t k e:TypeId} (h:MapAt w b q m) (ht:P.underlying t=some (.map k e)) :
  ∃ w',(Instr.range t (.map (some b))).run P w=.ok (.pointer (some ⟨w.heap.size,0,none⟩)) w'∧Xci w' w.heap.size b q m m∧Only [] w w'∧w'.heap.size=w.heap.size+1:=by
 have hl:=h.lt;obtain ⟨es,clock,hb,hs,he⟩:=h;refine ⟨w.alloc (.mapIter (some b) clock #[] clock),?_,⟨es,clock,#[],clock,?_,hs,he,heap_alloc_new w _,Zq _,?_⟩,(Only.refl _ _).alloc _,by simp⟩
 ·simp [Instr.range,Sem.run_bind,run_underlying ht,Result.andThen,MapKept.run_getObj_map hb]
 ·rw [Below.heap_alloc _ _ _ hl];exact hb
 ·have:leftOf es #[]=es:=by simp [leftOf]
  rw [this,he]
theorem Xci.next (h:Xci w r b q m left) (ty:TypeId) :
  (left=[]∧(Instr.next (.pointer (some ⟨r,0,none⟩)) false ty).run P w=.ok (.tuple #[.bool false]) w) ∨
  ∃ p∈left,∃ w',(Instr.next (.pointer (some ⟨r,0,none⟩)) false ty).run P w=.ok (.tuple #[.bool true,.int q p.1,p.2]) w'∧Xci w' r b q m (mdel left p.1)∧Only [r] w w'∧w'.heap.size=w.heap.size ∧
   (Instr.entry (.pointer (some ⟨r,0,none⟩))).run P w'=.ok (.tuple #[.int q p.1,p.2]) w':=by
 have hne:=h.lt;have hnd:=h.nodup;obtain ⟨es,clock,seen,c0,hb,hs,he,hr,hc,hleft⟩:=h
 rcases run_next_at (P:=P) w ty r b clock c0 seen es clock hr hb hs.1 hc with ⟨h0,hrun⟩ | ⟨e,hmem,w1,hw1,hrun⟩
 ·left
  refine ⟨?_,hrun⟩
  have:(leftOf es seen).toList.length=left.length:=by simpa using congrArg List.length hleft
  rw [Array.length_toList,h0] at this;exact Xd this.symm
 ·right
  have hk:kv e∈left.map (pk q):=by rw [←hleft];exact Yj hmem
  rw [Zi] at hk;obtain ⟨p,hp,hpe⟩:=hk;simp only [pk,kv,Prod.mk.injEq] at hpe
  have hes:e∈es.toList:=by
   simp only [leftOf,Array.toList_filter,Yp] at hmem;exact hmem.1
  have hr1:w1.heap[r]?=some (.mapIter (some b) clock seen c0):=by rcases hw1 with rfl | rfl <;> exact hr
  have hb1:w1.heap[b]?=some (.map es clock):=by rcases hw1 with rfl | rfl <;> exact hb
  have hset:=MapKept.heap_set (o':=.mapIter (some b) clock (seen.push e.born) clock) hr1;have hb2:(ChangeMaps.setBlock w1 r (.mapIter (some b) clock (seen.push e.born) clock)).heap[b]?=some (.map es clock):=(hset.2 b (Ne.symm hne.2.2)).trans hb1
  have O1:Only [r] w w1:=by rcases hw1 with rfl | rfl;exact Only.refl _ _;exact (Only.refl _ _).drew
  refine ⟨p,hp,_,by rw [hrun,←hpe.1,←hpe.2],⟨es,clock,seen.push e.born,clock,hb2,hs,he,hset.1,Zq _,?_⟩,O1.trans (Xeu hr1) (by simp),?_,?_⟩
  ·have hbk:∀ x∈es.toList,(x.born=e.born↔x.key=e.key):=by
    intro x hx;obtain ⟨i,hi,rfl⟩:=Xl hx;obtain ⟨j,hj,rfl⟩:=Xl hes;have h2:=Yy.1 (Xf.1 hs.2.1);have h3:=Yy.1 (Xf.1 hs.2.2)
    rcases Wr i j with h | h | h
    ·exact ⟨fun e=>absurd e (h2 i j hi hj h),fun e=>absurd e (h3 i j hi hj h)⟩
    ·subst h;simp
    ·exact ⟨fun e=>absurd e.symm (h2 j i hj hi h),fun e=>absurd e.symm (h3 j i hj hi h)⟩
   have e1:(leftOf es (seen.push e.born)).toList=(leftOf es seen).toList.filter (fun x=>x.born≠e.born):=by
    simp only [leftOf,Array.toList_filter,List.filter_filter]
    apply List.filter_congr
    intro x hx;rw [Array.contains_push]
    cases seen.contains x.born <;> by_cases hxk:x.born=e.born <;> simp [hxk]
   rw [e1]
   have hmp:∀ (l:List MapEntry) (l':Pairs),(∀ x∈l,(x.born=e.born↔x.key=e.key))→l.map kv=l'.map (pk q)→(l.filter (fun x=>x.born≠e.born)).map kv=(l'.filter (fun x=>x.1≠p.1)).map (pk q):=by
    intro l
    induction l with
    | nil=>intro l' _ h;cases l' with
     | nil=>rfl
     | cons _ _=>simp at h
    | cons x l ih =>
     intro l' hl h
     cases l' with
     | nil=>simp at h
     | cons y l' =>
      simp only [Zx,List.cons.injEq] at h;have hk:x.key=.int q y.1:=congrArg Prod.fst h.1
      have hiff:x.born≠e.born↔y.1≠p.1:=by rw [ne_eq,hl x (by simp),hk,←hpe.1];simp
      by_cases hy:y.1≠p.1
      ·rw [List.filter_cons_of_pos (by simpa using hiff.2 hy),List.filter_cons_of_pos (by simpa using hy),Zx,Zx,h.1,ih l' (fun x hx=>hl x (by simp [hx])) h.2]
      ·rw [List.filter_cons_of_neg (by simpa using fun h=>hy (hiff.1 h)),List.filter_cons_of_neg (by simpa using hy),ih l' (fun x hx=>hl x (by simp [hx])) h.2]
   rw [←Xol];exact hmp _ _ (fun x hx=>hbk x (by simp only [leftOf,Array.toList_filter,Yp] at hx;exact hx.1)) hleft
  ·rcases hw1 with rfl | rfl <;> simp [ChangeMaps.setBlock]
  ·rw [hpe.1,hpe.2]
   exact run_entry_at (P:=P) _ r b clock seen es clock e hset.1 hb2 hes hs.2.1
theorem Xov {p:Int × Value} (hp:p∈left) (hn:(left.map (·.1)).Nodup):(mdel left p.1).length+1=left.length:=by
 rw [←Xol]
 induction left with
 | nil=>cases hp
 | cons x l ih =>
  simp only [Zx,Xn] at hn
  by_cases e:x.1=p.1
  ·have:(l.filter fun y=>y.1≠p.1)=l:=List.filter_eq_self.2 (fun y hy=>by
    have:y.1≠x.1:=fun h=>hn.1 (by rw [←h];exact Yj hy)
    simp [←e,this])
   rw [List.filter_cons_of_neg (by simpa using e),this];simp
  ·have hp':p∈l:=by
    rcases Zg.1 hp with h | h
    ·exact absurd (congrArg Prod.fst h.symm) e
    ·exact h
   rw [List.filter_cons_of_pos (by simpa using e)];have:=ih hp' hn.2;simp only [Zz];omega
end
section
variable {P : Program} {w : World} {ops : Array Oper} {rest : List Oper} {o : Oper} {a : Act} {Q : Exit → Act → World → Prop}
theorem wpList_look (hg:o.guard=none) (x k:Operand) (t:TypeId) (ok:Bool) (ho:o.op=Op.lookup t x k ok) {tk e:TypeId} {q:IntKind} (ht:P.underlying t=some (.map tk e)) (hk:P.underlying tk=some (.int q)) {z:Value} (hz:(zeroValue e).run P w=.ok z w)
  (b:Nat) (m:Pairs) (hx:a.eval x=.map (some b)) (hm:MapAt w b q m) (n:Int) (hn:a.eval k=.int q n)
  (h:wpList P ops Q rest (a.put o.dst (if ok then .tuple #[(look m n).getD z,.bool (look m n).isSome] else (look m n).getD z)) w):wpList P ops Q (o :: rest) a w:=by
 refine wpList_plain hg fun K' hK'=>?_
 unfold Oper.wp;simp only [execOp,ho,hx,hn,hm.look ht hk hz n ok,Sem.run_bind,Result.andThen];exact hK' _ _ h
theorem Xio (hg:o.guard=none) (x k v:Operand) (t:TypeId) (ho:o.op=Op.mapUpdate t x k v) {tk e:TypeId} {q:IntKind} (ht:P.underlying t=some (.map tk e)) (hk:P.underlying tk=some (.int q))
  (b:Nat) (m:Pairs) (hx:a.eval x=.map (some b)) (hm:MapAt w b q m) (n:Int) (hn:a.eval k=.int q n) (u:Value) (hu:a.eval v=u)
  (h:∀ w',MapAt w' b q (mput m n u)→Only [b] w w'→w'.heap.size=w.heap.size→wpList P ops Q rest (a.put o.dst undef) w'):wpList P ops Q (o :: rest) a w:=by
 refine wpList_plain hg fun K' hK'=>?_
 obtain ⟨w',hrun,h1,h2,h3⟩:=hm.put ht hk n u;unfold Oper.wp
 simp [execOp,ho,hx,hn,hu,hrun,Result.andThen]
 exact hK' _ _ (h w' h1 h2 h3)
theorem Xin (hg:o.guard=none) (x k:Operand) (t tk:TypeId) (ho:o.op=.call { callee:=.builtin .delete,args:=#[x,k],argTypes:=#[t,tk] }) {e:TypeId} {q:IntKind} (ht:P.underlying t=some (.map tk e)) (hk:P.underlying tk=some (.int q))
  (b:Nat) (m:Pairs) (hx:a.eval x=.map (some b)) (hm:MapAt w b q m) (n:Int) (hn:a.eval k=.int q n)
  (h:∀ w',MapAt w' b q (mdel m n)→Only [b] w w'→w'.heap.size=w.heap.size→wpList P ops Q rest (a.put o.dst (.tuple #[])) w'):wpList P ops Q (o :: rest) a w:=by
 refine wpList_plain hg fun K' hK'=>?_
 obtain ⟨w',hrun,h1,h2,h3⟩:=hm.del ht hk n o.type tk;unfold Oper.wp
 simp [execOp,ho,resolve,invoke,builtin,hx,hn,hrun,Result.andThen]
 exact hK' _ _ (h w' h1 h2 h3)
theorem Xqc (hg:o.guard=none) (x:Operand) (t:TypeId) (ho:o.op=Op.range t x) {tk e:TypeId} {q:IntKind} (ht:P.underlying t=some (.map tk e)) (b:Nat) (m:Pairs) (hx:a.eval x=.map (some b)) (hm:MapAt w b q m)
  (h:∀ w',Xci w' w.heap.size b q m m→Only [] w w'→w'.heap.size=w.heap.size+1→wpList P ops Q rest (a.put o.dst (.pointer (some ⟨w.heap.size,0,none⟩))) w'):wpList P ops Q (o :: rest) a w:=by
 refine wpList_plain hg fun K' hK'=>?_
 obtain ⟨w',hrun,h1,h2,h3⟩:=hm.range ht;unfold Oper.wp
 simp [execOp,ho,hx,hrun,Result.andThen]
 exact hK' _ _ (h w' h1 h2 h3)
theorem wpList_next (hg:o.guard=none) (x:Operand) (ho:o.op=Op.next x false) {q:IntKind} (r b:Nat) (m left:Pairs) (hx:a.eval x=.pointer (some ⟨r,0,none⟩)) (hm:Xci w r b q m left)
  (h0:left=[]→wpList P ops Q rest (a.put o.dst (.tuple #[.bool false])) w)
  (h:∀ (x:Int) (u:Value) w',(x,u)∈left→Xci w' r b q m (mdel left x)→Only [r] w w'→w'.heap.size=w.heap.size→(Instr.entry (.pointer (some ⟨r,0,none⟩))).run P w'=.ok (.tuple #[.int q x,u]) w' →
   wpList P ops Q rest (a.put o.dst (.tuple #[.bool true,.int q x,u])) w'):wpList P ops Q (o :: rest) a w:=by
 refine wpList_plain hg fun K' hK'=>?_
 unfold Oper.wp
 rcases hm.next (P:=P) o.type with ⟨h1,hrun⟩ | ⟨p,hp,w',hrun,h1,h2,h3,h4⟩
 ·simp [execOp,ho,hx,hrun,Result.andThen]
  exact hK' _ _ (h0 h1)
 ·simp [execOp,ho,hx,hrun,Result.andThen]
  exact hK' _ _ (h p.1 p.2 w' hp h1 h2 h3 h4)
end
end Go.Proofs.YtiijokopcgnokaaGreat
