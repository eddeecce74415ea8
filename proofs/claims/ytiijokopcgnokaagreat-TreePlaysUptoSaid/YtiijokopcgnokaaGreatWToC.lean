import Derived.Test.YtiijokopcgnokaaGreatWTnU
import Derived.BigRegion
set_option linter.unusedSimpArgs false
set_option linter.unusedVariables false
namespace Go.Proofs.YtiijokopcgnokaaGreat
namespace T
open Go Go.RowKit D B C G P H
def leafN (b:List Pr):Nd:=⟨0,true,b,[]⟩
structure PackL (l:List Pr) (i:Nat) (ms:List MNd) (Ls:List KV) (D:List (Pr × List Pr)) (f:Pr) (g:List Pr):Prop where
 go:D++packG f g (l.drop i)=packG ([],0) [] l
 fit:fitsP true g=true
 sub:∀ e∈g,e∈l
 ns:ms.map (·.n)=D.map (fun x=>leafN x.2)++[leafN g]
 fs:Ls.map (·.2)=D.map (·.1)++[f]
 roots:∀ m∈ms,m.root=false
 few:ms.length≤i+1
theorem PtrRow.get {w:World} {M:List Nat} {base:Nat} {v:Value} {ms:List MNd} (h:PtrRow w M base v ms) {i:Nat} {m:MNd} (hm:ms[i]?=some m):∃ g c,v=.slice (some ⟨g,0,none⟩) ms.length c∧ms.length≤c∧w.cell? ⟨g,i,none⟩=some (.pointer (some ⟨m.nb,0,none⟩)):=by
 have hi:=(Zh.1 hm).1;obtain ⟨ao,cap,h1,h2,h3⟩:=(RowOn.of h.own).shape;obtain ⟨g,rfl,hc⟩:=h3 (by omega);refine ⟨g,cap,h1,h2,?_⟩;have:=hc i (by omega);rw [Zr,hm] at this;exact this
theorem Xmq {w:World} {v:Value} {L:List KV} (h:w.ownsRow 0 43 2 v L.length (kvsC L)) {i:Nat} {p:KV} (hp:L[i]?=some p):∃ g c,v=.slice (some ⟨g,0,none⟩) L.length c∧L.length≤c∧w.cell? ⟨g,i*2,none⟩=some p.1∧w.cell? ⟨g,i*2+1,none⟩=some (.int .u64 p.2.2):=by
 have hi:=(Zh.1 hp).1;obtain ⟨ao,cap,h1,h2,h3⟩:=(RowOn.of h).shape;obtain ⟨g,rfl,hc⟩:=h3 (by omega);obtain ⟨e1,e2⟩:=Xfd hp;exact ⟨g,cap,h1,h2,by rw [hc _ (by omega)];exact e1,by rw [hc _ (by omega)];exact e2⟩
theorem snoc_of {α β:Type} {f:α→β} {l:List α} {A:List β} {b:β} (h:l.map f=A++[b]):∃ l0 a,l=l0++[a]∧l0.map f=A∧f a=b:=by
 obtain ⟨l0,x,h1,h2,h3⟩:=List.map_eq_append_iff.1 h;obtain ⟨a,y,h4,h5,h6⟩:=List.map_eq_cons_iff.1 h3;obtain rfl:=List.map_eq_nil_iff.1 h6;exact ⟨l0,a,by rw [h1,h4],h2,h5⟩
theorem packG_fit {f x:Pr} {g l:List Pr} (h:fitsP true (g++[x])=true):packG f g (x :: l)=packG f (g++[x]) l:=by rw [packG,if_pos h]
theorem packG_cut {f x:Pr} {g l:List Pr} (h:fitsP true (g++[x])=false):packG f g (x :: l)=(f,g) :: packG x [x] l:=by rw [packG,if_neg (by rw [h];decide)]
theorem ini_rows (w:World) (M:List Nat) (hM:∀ x∈M,x<w.heap.size):RowsAt w (((w.alloc (.cells #[.int .i64 0,.bool false,.bool true,.slice none 0 0,.slice none 0 0] 77)).alloc (.cells #[.pointer (some ⟨w.heap.size,0,none⟩)] 75)).alloc (.cells #[.slice none 0 0,.int .u64 0] 43)) M
  [(.slice (some ⟨w.heap.size+1,0,none⟩) 1 1,[⟨w.heap.size,false,leafN [],.slice none 0 0,.slice none 0 0,[]⟩])] [(.slice (some ⟨w.heap.size+1+1,0,none⟩) 1 1,[(.slice none 0 0,([],0))])] [⟨w.heap.size,false,leafN [],.slice none 0 0,.slice none 0 0,[]⟩]:=by
 have hO:Only [] w (((w.alloc (.cells #[.int .i64 0,.bool false,.bool true,.slice none 0 0,.slice none 0 0] 77)).alloc (.cells #[.pointer (some ⟨w.heap.size,0,none⟩)] 75)).alloc (.cells #[.slice none 0 0,.int .u64 0] 43)):=(((Only.refl _ _).alloc _).alloc _).alloc _;have b1:=((Blk.new [.int .i64 0,.bool false,.bool true,.slice none 0 0,.slice none 0 0] 77 w).alloc (.cells #[.pointer (some ⟨w.heap.size,0,none⟩)] 75)).alloc (.cells #[.slice none 0 0,.int .u64 0] 43);have b2:=(Blk.new' #[.pointer (some ⟨w.heap.size,0,none⟩)] 75 (w.alloc (.cells #[.int .i64 0,.bool false,.bool true,.slice none 0 0,.slice none 0 0] 77)) (n:=w.heap.size+1) (by simp)).alloc (.cells #[.slice none 0 0,.int .u64 0] 43)
 have b3:=Blk.new' #[.slice none 0 0,.int .u64 0] 43 ((w.alloc (.cells #[.int .i64 0,.bool false,.bool true,.slice none 0 0,.slice none 0 0] 77)).alloc (.cells #[.pointer (some ⟨w.heap.size,0,none⟩)] 75)) (n:=w.heap.size+1+1) (by simp)
 have hn:∀ x,w.heap.size≤x→x∉M:=fun x hx hm=>by have:=hM x hm;omega
 refine ⟨⟨fun m hm=>?_,fun m hm x hx=>?_,Xs _ _⟩,fun p hp=>?_,fun e he=>?_,Xs _ _,Xs _ _,hO⟩
 ·rw [Zo.1 hm]
  exact ⟨b1,rfl,⟨rfl,.inl ⟨rfl,rfl⟩⟩,⟨rfl,.inl ⟨rfl,rfl⟩⟩,fun p hp=>(by cases hp),fun x hx=>by simp [MNd.blocks,Value.ownBlock] at hx;exact hn x (by omega)⟩
 ·rw [Zo.1 hm] at hx
  simp [MNd.blocks,Value.ownBlock] at hx;omega
 ·rw [Zo.1 hp]
  refine ⟨Blk.owns b2 (by show 1≤maxLen;decide),fun k hk=>?_⟩
  simp [Value.ownBlock] at hk
  exact ⟨hn k (by omega),by omega⟩
 ·rw [Zo.1 he]
  refine ⟨I.blk_owns b3 rfl (Zq 1) (by decide) rfl rfl,fun q hq=>?_,fun k hk=>?_⟩
  ·rw [Zo.1 hq]
   exact ⟨⟨none,0,rfl,fun h=>by simp at h⟩,fun ao n c e=>by cases e;exact Zq _,fun g hg=>(by cases hg),by decide⟩
  ·simp [Value.ownBlock] at hk
   refine ⟨hn k (by omega),by omega,fun m hm=>?_⟩;rw [Zo.1 hm]
   simp [MNd.blocks,Value.ownBlock];omega
theorem owns_long {w:World} {e:TypeId} {size n k:Nat} {v:Value} {xs cs:List Value} {t:TypeId} (h:w.ownsRow 0 e size v n xs) (hk:v.ownBlock=some k) (hb:Blk w k cs t):n*size≤cs.length:=by
 rcases h.2 with ⟨rfl,_⟩ | ⟨g,cap,cur,rfl,_,hh,h3,_,h5,_⟩
 ·cases hk
 ·simp only [Value.ownBlock,Zw] at hk
  subst hk;have hb2:Blk w g cur.toList e:=hh;rw [(hb.inj hb2).1,Array.length_toList];have:=Wv size h3;omega
def LeafA (s:Nat) (te:TypeId) (nc:Nat→List Value) (w0:World) (X:List Nat) (lv:Value) (nl:Nat) (xs cells:List Value):Nat→List (Nat × Value)→World→Prop
 | 0,p,w=>p=[]∧Only X w0 w∧w.ownsRow 0 75 1 lv nl xs
 | 1,p,w=>∃ g1,p=[(s,.slice (some ⟨g1,0,none⟩) 1 1)]∧Only X w0 w∧w.ownsRow 0 75 1 lv nl xs∧w0.heap.size≤g1∧Blk w g1 cells te
 | 2,p,w=>∃ g1,p=[(s,.slice (some ⟨g1,0,none⟩) 1 1),(s+1,.agg (nc g1).toArray)]∧Only X w0 w∧w.ownsRow 0 75 1 lv nl xs∧w0.heap.size≤g1∧Blk w g1 cells te
 | 3,p,w=>∃ g1 g2,p=[(s,.slice (some ⟨g1,0,none⟩) 1 1),(s+1,.agg (nc g1).toArray),(s+2,.pointer (some ⟨g2,0,none⟩))]∧Only X w0 w∧w.ownsRow 0 75 1 lv nl xs∧w0.heap.size≤g1∧Blk w g1 cells te ∧
   w0.heap.size≤g2∧Blk w g2 (nc g1) 77
 | 4,p,w=>∃ g1 g2 g3,p=[(s,.slice (some ⟨g1,0,none⟩) 1 1),(s+1,.agg (nc g1).toArray),(s+2,.pointer (some ⟨g2,0,none⟩)),(s+3,.slice (some ⟨g3,0,none⟩) 1 1)]∧Only X w0 w∧w.ownsRow 0 75 1 lv nl xs∧w0.heap.size≤g1∧Blk w g1 cells te ∧
   w0.heap.size≤g2∧Blk w g2 (nc g1) 77∧w0.heap.size≤g3∧Blk w g3 [.pointer (some ⟨g2,0,none⟩)] 75
 | 5,p,w=>∃ g1 g2 g3 va vc,p=[(s,.slice (some ⟨g1,0,none⟩) 1 1),(s+1,.agg (nc g1).toArray),(s+2,.pointer (some ⟨g2,0,none⟩)),(s+3,.slice (some ⟨g3,0,none⟩) 1 1),(s+4,.slice va (nl+1) vc)]∧Only X w0 w∧w.ownsRow 0 75 1 (.slice va (nl+1) vc) (nl+1) (xs++[.pointer (some ⟨g2,0,none⟩)])∧w0.heap.size≤g1∧Blk w g1 cells te ∧
   w0.heap.size≤g2∧Blk w g2 (nc g1) 77∧∀ k,(Value.slice va (nl+1) vc).ownBlock=some k→lv.ownBlock=some k∨w0.heap.size≤k
 | _,_,_=>False
theorem LeafA.only {s:Nat} {te:TypeId} {nc:Nat→List Value} {w0 w:World} {X:List Nat} {lv:Value} {nl:Nat} {xs cells:List Value}:∀ {i:Nat} {p:List (Nat × Value)},LeafA s te nc w0 X lv nl xs cells i p w→Only X w0 w
 | 0,_,h=>h.2.1
 | 1,_,⟨_,h⟩=>h.2.1
 | 2,_,⟨_,h⟩=>h.2.1
 | 3,_,⟨_,_,h⟩=>h.2.1
 | 4,_,⟨_,_,_,h⟩=>h.2.1
 | 5,_,⟨_,_,_,_,_,h⟩=>h.2.1
 | _+6,_,h=>h.elim
theorem LeafA.slots {s:Nat} {te:TypeId} {nc:Nat→List Value} {w0 w:World} {X:List Nat} {lv:Value} {nl:Nat} {xs cells:List Value}:∀ {i:Nat} {p:List (Nat × Value)},LeafA s te nc w0 X lv nl xs cells i p w→∀ q∈p,q.1∈[s,s+1,s+2,s+3,s+4]
 | 0,_,h=>by rw [h.1];simp
 | 1,_,⟨_,h⟩=>by rw [h.1];simp
 | 2,_,⟨_,h⟩=>by rw [h.1];simp
 | 3,_,⟨_,_,h⟩=>by rw [h.1];simp
 | 4,_,⟨_,_,_,h⟩=>by rw [h.1];simp
 | 5,_,⟨_,_,_,_,_,h⟩=>by rw [h.1];simp
 | _+6,_,h=>h.elim
theorem LeafA.keep {s:Nat} {te:TypeId} {nc:Nat→List Value} {w0 w w':World} {X Y:List Nat} {lv:Value} {nl:Nat} {xs cells:List Value} (hO:Only Y w w') (hY:∀ y∈Y,y∈X∧y<w0.heap.size∧lv.ownBlock≠some y):∀ {i:Nat} {p:List (Nat × Value)},LeafA s te nc w0 X lv nl xs cells i p w→LeafA s te nc w0 X lv nl xs cells i p w':=by
 have hX:∀ {w1},Only X w0 w1→Only Y w1 w'→Only X w0 w':=fun a b=>a.trans b (fun x hx=>.inl (hY x hx).1)
 have hR:∀ {v n ys},(∀ k,v.ownBlock=some k→lv.ownBlock=some k∨w0.heap.size≤k)→w.ownsRow 0 75 1 v n ys→w'.ownsRow 0 75 1 v n ys:=fun hl h=>Xab h hO (fun k hk hm=>by
  rcases hl k hk with h1 | h1
  ·exact (hY k hm).2.2 h1
  ·have:=(hY k hm).2.1;omega)
 have hB:∀ {g cs t},w0.heap.size≤g→Blk w g cs t→Blk w' g cs t:=fun hg h=>hO.blk h (fun hm=>by have:=(hY _ hm).2.1;omega)
 intro i p h
 rcases i with _ | _ | _ | _ | _ | _ | i
 ·obtain ⟨a,b,c⟩:=h
  exact ⟨a,hX b hO,hR (fun _ h=>.inl h) c⟩
 ·obtain ⟨g1,a,b,c,d,e⟩:=h
  exact ⟨g1,a,hX b hO,hR (fun _ h=>.inl h) c,d,hB d e⟩
 ·obtain ⟨g1,a,b,c,d,e⟩:=h
  exact ⟨g1,a,hX b hO,hR (fun _ h=>.inl h) c,d,hB d e⟩
 ·obtain ⟨g1,g2,a,b,c,d,e,f,g⟩:=h
  exact ⟨g1,g2,a,hX b hO,hR (fun _ h=>.inl h) c,d,hB d e,f,hB f g⟩
 ·obtain ⟨g1,g2,g3,a,b,c,d,e,f,g,h,i⟩:=h
  exact ⟨g1,g2,g3,a,hX b hO,hR (fun _ h=>.inl h) c,d,hB d e,f,hB f g,h,hB h i⟩
 ·obtain ⟨g1,g2,g3,va,vc,a,b,c,d,e,f,g,h⟩:=h
  exact ⟨g1,g2,g3,va,vc,a,hX b hO,hR h c,d,hB d e,f,hB f g,h⟩
 ·exact h.elim
def RowB (s1 s2:Nat) (w0:World) (X:List Nat) (e:TypeId) (sz:Nat) (fv:Value) (nl:Nat) (xs cells:List Value):Nat→List (Nat × Value)→World→Prop
 | 0,p,w=>p=[]∧Only X w0 w∧w.ownsRow 0 e sz fv nl xs
 | 1,p,w=>∃ g1,p=[(s1,.slice (some ⟨g1,0,none⟩) 1 1)]∧Only X w0 w∧w.ownsRow 0 e sz fv nl xs∧w0.heap.size≤g1∧Blk w g1 cells e
 | 2,p,w=>∃ g1 va vc,p=[(s1,.slice (some ⟨g1,0,none⟩) 1 1),(s2,.slice va (nl+1) vc)]∧Only X w0 w∧w.ownsRow 0 e sz (.slice va (nl+1) vc) (nl+1) (xs++cells)∧∀ k,(Value.slice va (nl+1) vc).ownBlock=some k→fv.ownBlock=some k∨w0.heap.size≤k
 | _,_,_=>False
theorem RowB.only {s1 s2 sz:Nat} {w0 w:World} {X:List Nat} {e:TypeId} {fv:Value} {nl:Nat} {xs cells:List Value}:∀ {i:Nat} {p:List (Nat × Value)},RowB s1 s2 w0 X e sz fv nl xs cells i p w→Only X w0 w
 | 0,_,h=>h.2.1
 | 1,_,⟨_,h⟩=>h.2.1
 | 2,_,⟨_,_,_,h⟩=>h.2.1
 | _+3,_,h=>h.elim
theorem RowB.slots {s1 s2 sz:Nat} {w0 w:World} {X:List Nat} {e:TypeId} {fv:Value} {nl:Nat} {xs cells:List Value}:∀ {i:Nat} {p:List (Nat × Value)},RowB s1 s2 w0 X e sz fv nl xs cells i p w→∀ q∈p,q.1∈[s1,s2]
 | 0,_,h=>by rw [h.1];simp
 | 1,_,⟨_,h⟩=>by rw [h.1];simp
 | 2,_,⟨_,_,_,h⟩=>by rw [h.1];simp
 | _+3,_,h=>h.elim
theorem RowB.keep {s1 s2 sz:Nat} {w0 w w':World} {X Y:List Nat} {e:TypeId} {fv:Value} {nl:Nat} {xs cells:List Value} (hO:Only Y w w') (hY:∀ y∈Y,y∈X∧y<w0.heap.size∧fv.ownBlock≠some y):∀ {i:Nat} {p:List (Nat × Value)},RowB s1 s2 w0 X e sz fv nl xs cells i p w→RowB s1 s2 w0 X e sz fv nl xs cells i p w':=by
 have hX:∀ {w1},Only X w0 w1→Only Y w1 w'→Only X w0 w':=fun a b=>a.trans b (fun x hx=>.inl (hY x hx).1)
 have hR:∀ {v n ys},(∀ k,v.ownBlock=some k→fv.ownBlock=some k∨w0.heap.size≤k)→w.ownsRow 0 e sz v n ys→w'.ownsRow 0 e sz v n ys:=fun hl h=>Xab h hO (fun k hk hm=>by
  rcases hl k hk with h1 | h1
  ·exact (hY k hm).2.2 h1
  ·have:=(hY k hm).2.1;omega)
 have hB:∀ {g cs t},w0.heap.size≤g→Blk w g cs t→Blk w' g cs t:=fun hg h=>hO.blk h (fun hm=>by have:=(hY _ hm).2.1;omega)
 intro i p h
 rcases i with _ | _ | _ | i
 ·obtain ⟨a,b,c⟩:=h
  exact ⟨a,hX b hO,hR (fun _ h=>.inl h) c⟩
 ·obtain ⟨g1,a,b,c,d,e⟩:=h
  exact ⟨g1,a,hX b hO,hR (fun _ h=>.inl h) c,d,hB d e⟩
 ·obtain ⟨g1,va,vc,a,b,c,d⟩:=h
  exact ⟨g1,va,vc,a,hX b hO,hR d c,d⟩
 ·exact h.elim
theorem RowsAt.pperm {w0 w:World} {M:List Nat} {ps ps':List (Value × List MNd)} {es:List (Value × List KV)} {ns:List MNd} (h:RowsAt w0 w M ps es ns) (hp:ps.Perm ps'):RowsAt w0 w M ps' es ns :=
 ⟨h.nodes,fun p hm=>h.prow p (hp.mem_iff.2 hm),h.erow,hp.pairwise h.pdis (fun {a b} hab k hb ha=>hab k ha hb),h.edis,h.only⟩
theorem RowsAt.nilP {w0 w:World} {M:List Nat} {ps:List (Value × List MNd)} {es:List (Value × List KV)} {ns:List MNd} (h:RowsAt w0 w M ps es ns):RowsAt w0 w M ((.slice none 0 0,[]) :: ps) es ns :=
 ⟨h.nodes,(fun p hp=>by
  rcases Zg.1 hp with h1 | h1
  ·rw [h1];exact ⟨⟨rfl,.inl ⟨rfl,rfl⟩⟩,fun k hk=>(by cases hk)⟩
  ·exact h.prow p h1),h.erow,Yh.2 ⟨fun p _ k hk=>(by cases hk),h.pdis⟩,h.edis,h.only⟩
theorem RowsAt.nilE {w0 w:World} {M:List Nat} {ps:List (Value × List MNd)} {es:List (Value × List KV)} {ns:List MNd} (h:RowsAt w0 w M ps es ns):RowsAt w0 w M ps ((.slice none 0 0,[]) :: es) ns :=
 ⟨h.nodes,h.prow,(fun p hp=>by
  rcases Zg.1 hp with h1 | h1
  ·rw [h1];exact ⟨⟨rfl,.inl ⟨rfl,rfl⟩⟩,fun q hq=>(by cases hq),fun k hk=>(by cases hk)⟩
  ·exact h.erow p h1),h.pdis,Yh.2 ⟨fun p _ k hk=>(by cases hk),h.edis⟩,h.only⟩
theorem NodeAt.setBoth {w w1:World} {M:List Nat} {m:MNd} {ev' cv':Value} {L':List KV} {C':List Int} (h:NodeAt w M m) (hO:Only (m.ev.ownBlock.toList++m.cv.ownBlock.toList) w w1) (he:w1.ownsRow 0 43 2 ev' L'.length (kvsC L')) (hel:∀ k,ev'.ownBlock=some k→m.ev.ownBlock=some k∨w.heap.size≤k)
  (hc:w1.ownsRow 0 3 1 cv' C'.length (intsC C')) (hcl:∀ k,cv'.ownBlock=some k→m.cv.ownBlock=some k∨w.heap.size≤k) (hk:∀ p∈L',KeyOk w M p) (hM:∀ x∈M,x<w.heap.size) :
  (w1.cell? ⟨m.nb,3,none⟩=some m.ev∧w1.frozen? ⟨m.nb,3,none⟩=false∧(w1.setCell ⟨m.nb,3,none⟩ ev').cell? ⟨m.nb,4,none⟩=some m.cv∧(w1.setCell ⟨m.nb,3,none⟩ ev').frozen? ⟨m.nb,4,none⟩=false) ∧
  Turn w ((w1.setCell ⟨m.nb,3,none⟩ ev').setCell ⟨m.nb,4,none⟩ cv') M m { m with n:={ m.n with es:=L'.map (·.2),cs:=C' },ev:=ev',cv:=cv',L:=L' }:=by
 have hb1:Blk w1 m.nb [.int .i64 m.n.id,.bool m.root,.bool m.n.leaf,m.ev,m.cv] 77:=hO.blk h.blk (fun hm=>by
  rcases Za.1 hm with h1 | h1
  ·exact Xaj h.ents h.blk (by decide) (by simpa using h1)
  ·exact Xaj h.kids h.blk (by decide) (by simpa using h1))
 have hb2:=hb1.set 3 ev';have hOs:Only [m.nb] w1 ((w1.setCell ⟨m.nb,3,none⟩ ev').setCell ⟨m.nb,4,none⟩ cv'):=(Xbe _ _ _ _).setCell (.inl (by simp)) _;have hOa:Only m.blocks w ((w1.setCell ⟨m.nb,3,none⟩ ev').setCell ⟨m.nb,4,none⟩ cv'):=(hO.mono (M':=m.blocks) (fun x hx=>.inl (Yg _ hx))).trans hOs (fun x hx=>.inl (by simp at hx;simp [MNd.blocks,hx]))
 have hbl:∀ x∈(MNd.mk m.nb m.root { m.n with es:=L'.map (·.2),cs:=C' } ev' cv' L').blocks,x∈m.blocks∨w.heap.size≤x:=fun x hx=>by
  simp only [MNd.blocks,Zg,Za,Zk] at hx ⊢
  rcases hx with hx | hx | hx
  ·exact .inl (.inl hx)
  ·rcases hel x hx with h1 | h1
   ·exact .inl (.inr (.inl h1))
   ·exact .inr h1
  ·rcases hcl x hx with h1 | h1
   ·exact .inl (.inr (.inr h1))
   ·exact .inr h1
 refine ⟨⟨hb1.cell 3,hb1.frozen 3,hb2.cell 4,hb2.frozen 4⟩,⟨hb2.set 4 cv',rfl,?_,?_,fun p hp=>(hk p hp).later hOa h.foot,fun x hx hm=>?_⟩,rfl,rfl,hOa,hbl⟩
 ·exact Xab he hOs (fun k hk hm=>by
   simp at hm;subst hm
   exact Xaj he hb1 (by decide) hk)
 ·exact Xab hc hOs (fun k hk hm=>by
   simp at hm;subst hm
   exact Xaj hc hb1 (by decide) hk)
 ·rcases hbl x hx with h1 | h1
  ·exact h.off x h1 hm
  ·have:=hM x hm;omega
theorem Xmt {w:World} {M:List Nat} {m:MNd} (h:NodeAt w M m) (hM:∀ x∈M,x<w.heap.size) (i:Int):Turn w (w.setCell ⟨m.nb,0,none⟩ (.int .i64 i)) M m { m with n:={ m.n with id:=i } }:=by
 have hO:Only [m.nb] w (w.setCell ⟨m.nb,0,none⟩ (.int .i64 i)):=Xbe _ _ _ _;refine ⟨⟨h.blk.set 0 _,h.es,Xab h.ents hO (fun k hk hm=>?_),Xab h.kids hO (fun k hk hm=>?_),fun p hp=>(h.keys p hp).later hO (Off.one h.blk (by decide)),h.off⟩,rfl,rfl,hO.mono (fun x hx=>.inl (by simp at hx;simp [MNd.blocks,hx])),fun x hx=>.inl hx⟩
 ·simp at hm;subst hm
  exact Xaj h.ents h.blk (by decide) hk
 ·simp at hm;subst hm
  exact Xaj h.kids h.blk (by decide) hk
theorem root_at {w:World} {M:List Nat} {m:MNd} (h:NodeAt w M m):NodeAt (w.setCell ⟨m.nb,1,none⟩ (.bool true)) M { m with root:=true }:=by
 have hO:Only [m.nb] w (w.setCell ⟨m.nb,1,none⟩ (.bool true)):=Xbe _ _ _ _;refine ⟨h.blk.set 1 _,h.es,Xab h.ents hO (fun k hk hm=>?_),Xab h.kids hO (fun k hk hm=>?_),fun p hp=>(h.keys p hp).later hO (Off.one h.blk (by decide)),h.off⟩
 ·simp at hm;subst hm
  exact Xaj h.ents h.blk (by decide) hk
 ·simp at hm;subst hm
  exact Xaj h.kids h.blk (by decide) hk
theorem RowsAt.rooted {w0 w:World} {M:List Nat} {ps:List (Value × List MNd)} {A:List MNd} {m:MNd} (h:RowsAt w0 w M ps [] (A++[m])):RowsAt w0 (w.setCell ⟨m.nb,1,none⟩ (.bool true)) M ps [] (A++[{ m with root:=true }]):=by
 have hm:=h.nodes.at_ m (by simp);have hO:Only [m.nb] w (w.setCell ⟨m.nb,1,none⟩ (.bool true)):=Xbe _ _ _ _;have hpw:=Zn.1 h.nodes.apart;refine ⟨⟨fun x hx=>?_,fun x hx y hy=>?_,Zn.2 ⟨hpw.1,Xs _ _,fun x hx y hy=>?_⟩⟩,fun p hp=>⟨Xab (h.prow p hp).own hO (fun k hk hx=>?_),(h.prow p hp).off⟩,fun e he=>(by cases he),h.pdis,List.Pairwise.nil,h.only.trans hO (fun x hx=>.inr (by simp at hx;subst hx;exact h.nodes.new m (by simp) _ (by simp [MNd.blocks])))⟩
 ·rcases Za.1 hx with h1 | h1
  ·exact (h.nodes.at_ x (by simp [h1])).later hO (Off.one hm.blk (by decide)) (fun y hy hy2=>by simp at hy2;subst hy2;exact hpw.2.2 x h1 m (by simp) _ hy (by simp [MNd.blocks]))
  ·rw [Zo.1 h1];exact root_at hm
 ·rcases Za.1 hx with h1 | h1
  ·exact h.nodes.new x (by simp [h1]) y hy
  ·rw [Zo.1 h1] at hy;exact h.nodes.new m (by simp) y hy
 ·rw [Zo.1 hy];exact hpw.2.2 x hx m (by simp)
 ·simp at hx;subst hx
  obtain ⟨cs,hb⟩:=Xag (h.prow p hp).own hk;exact absurd (hb.inj hm.blk).2 (by decide)
abbrev Fl := Pr × List Pr × List Int
def levN (leaf:Bool) (x:Fl):Nd:=⟨0,leaf,x.2.1,x.2.2⟩
theorem seps_get : ∀ {l:List Fl} {m i:Nat} {x:Fl},l[i]?=some x→(seps m l)[i]?=some (x.1,-1-((m+i:Nat):Int))
 | [],m,i,x,h=>by simp at h
 | y :: l,m,0,x,h=>by simp at h;subst h;rfl
 | y :: l,m,i+1,x,h=>by
  have:=seps_get (m:=m+1) (l:=l) (i:=i) (by simpa using h);simp only [seps,Zd,this];rw [show m+1+i=m+(i+1) by omega]
theorem seps_len : ∀ (l:List Fl) (m:Nat),(seps m l).length=l.length
 | [],_=>rfl
 | x :: l,m=>by simp [seps,seps_len l]
theorem numb_get (leaf:Bool):∀ {l:List Fl} {m i:Nat} {x:Fl},l[i]?=some x→(numb leaf m l)[i]?=some ⟨-1-((m+i:Nat):Int),leaf,x.2.1,x.2.2⟩
 | [],m,i,x,h=>by simp at h
 | y :: l,m,0,x,h=>by simp at h;subst h;rfl
 | y :: l,m,i+1,x,h=>by
  have:=numb_get leaf (m:=m+1) (l:=l) (i:=i) (by simpa using h);simp only [numb,Zd,this];rw [show m+1+i=m+(i+1) by omega]
theorem Xpd {leaf:Bool} {level:List Fl} {out res:List Nd} (h:Packs leaf level out res):out.length<res.length∧level≠[]:=by
 induction h with
 | one=>simp
 | more h hp ih =>
  rw [Ze,Xbu] at ih;exact ⟨by omega,by rintro rfl;simp at h⟩
theorem Xlv {leaf:Bool} {level:List Fl} {out res:List Nd} (h:Packs leaf level out res) (h1:1<level.length):Packs false (upL (seps out.length level)) (out++numb leaf out.length level) res:=by
 cases h with
 | one=>simp at h1
 | more h hp=>exact hp
theorem Xpe {leaf:Bool} {level:List Fl} {out res:List Nd} (h:Packs leaf level out res) (h1:¬1<level.length):∃ x,level=[x]∧res=out++[levN leaf x]:=by
 cases h with
 | one=>exact ⟨_,rfl,rfl⟩
 | more h hp=>exact absurd h h1
theorem packs_few {leaf:Bool} {level:List Fl} {out res:List Nd} (h:Packs leaf level out res):out.length+level.length≤res.length:=by
 by_cases h1:1<level.length
 ·have:=(Xpd (Xlv h h1)).1
  rw [Ze,Xbu] at this;omega
 ·obtain ⟨x,rfl,rfl⟩:=Xpe h h1
  simp
structure LevelAt (leaf:Bool) (level:List Fl) (out:List Nd) (ms os:List MNd) (Ls:List KV):Prop where
 ns:ms.map (·.n)=level.map (levN leaf)
 outs:os.map (·.n)=out
 fs:Ls.map (·.2)=level.map (·.1)
 roots:∀ m∈os++ms,m.root=false
 keys:Keys (level.map (·.1))
structure UpSo (S:List (Pr × Int)) (i:Nat) (us:List MNd) (Bs:List KV) (D:List Fl) (f:Pr) (E:List Pr) (C:List Int):Prop where
 ns:us.map (·.n)=D.map (levN false)++[levN false (f,E,C)]
 bs:Bs.map (·.2)=D.map (·.1)++[f]
 go:D++upG f E C (S.drop i)=upL S
 fit:fitsP false E=true
 keys:Keys E
 long:C.length=E.length+1
structure UpFull (S:List (Pr × Int)) (i:Nat) (x:Pr × Int) (us:List MNd) (Bs:List KV) (D:List Fl):Prop where
 ns:us.map (·.n)=D.map (levN false)
 bs:Bs.map (·.2)=D.map (·.1)
 go:D++upG x.1 [] [x.2] (S.drop (i+1))=upL S
def UpAt (S:List (Pr × Int)) (i:Nat) (us:List MNd) (Bs:List KV):Prop:=(i=0∧us=[]∧Bs=[])∨∃ D f E C,UpSo S i us Bs D f E C
theorem Xdg {α:Type} {l:List α} {i:Nat} {x:α} (h:l[i]?=some x):l.drop i=x :: l.drop (i+1):=by
 obtain ⟨hi,e⟩:=Zh.1 h;rw [Vf hi,e]
theorem up_fit {f:Pr} {E:List Pr} {C:List Int} {x:Pr × Int} {l:List (Pr × Int)} (h:fitsP false (E++[x.1])=true):upG f E C (x :: l)=upG f (E++[x.1]) (C++[x.2]) l:=by rw [upG,if_pos h]
theorem up_cut {f:Pr} {E:List Pr} {C:List Int} {x:Pr × Int} {l:List (Pr × Int)} (h:fitsP false (E++[x.1])=false):upG f E C (x :: l)=(f,E,C) :: upG x.1 [] [x.2] l:=by rw [upG,if_neg (by rw [h];decide)]
theorem UpSo.fits {S:List (Pr × Int)} {i:Nat} {us:List MNd} {m m':MNd} {Bs:List KV} {D:List Fl} {f:Pr} {E:List Pr} {C:List Int} {x:Pr × Int} (h:UpSo S i (us++[m]) Bs D f E C) (hx:S[i]?=some x) (hf:fitsP false (E++[x.1])=true) (hk:Keys [x.1]) (hm:m'.n=levN false (f,E++[x.1],C++[x.2])):UpSo S (i+1) (us++[m']) Bs D f (E++[x.1]) (C++[x.2]):=by
 have h1:=h.ns;rw [Zs] at h1;have h2:=List.append_inj_left' h1 rfl;refine ⟨by simp [h2,hm],h.bs,?_,hf,h.keys.append hk,by simp [h.long]⟩;rw [←h.go,Xdg hx,up_fit hf]
theorem UpSo.full {S:List (Pr × Int)} {i:Nat} {us:List MNd} {m m':MNd} {Bs:List KV} {D:List Fl} {f:Pr} {E:List Pr} {C:List Int} {x:Pr × Int} (h:UpSo S i (us++[m]) Bs D f E C) (hx:S[i]?=some x) (hf:fitsP false (E++[x.1])=false) (hm:m'.n=levN false (f,E,C)):UpFull S i x (us++[m']) Bs (D++[(f,E,C)]):=by
 have h1:=h.ns;rw [Zs] at h1;have h2:=List.append_inj_left' h1 rfl;refine ⟨by simp [h2,hm],by simp [h.bs],?_⟩;rw [←h.go,Xdg hx,up_cut hf,Zu];rfl
theorem UpFull.zero {S:List (Pr × Int)} {x:Pr × Int} (hx:S[0]?=some x):UpFull S 0 x [] [] []:=by
 refine ⟨rfl,rfl,?_⟩
 cases S with
 | nil=>cases hx
 | cons y S=>simp at hx;subst hx;rfl
theorem UpFull.next {S:List (Pr × Int)} {i:Nat} {x:Pr × Int} {us:List MNd} {Bs:List KV} {D:List Fl} {m:MNd} {q:KV} (h:UpFull S i x us Bs D) (hm:m.n=levN false (x.1,[],[x.2])) (hq:q.2=x.1):UpSo S (i+1) (us++[m]) (Bs++[q]) D x.1 [] [x.2] :=
 ⟨by simp [h.ns,hm],by simp [h.bs,hq],h.go,by decide,(fun e he=>by cases he),rfl⟩
theorem UpSo.all {S:List (Pr × Int)} {us:List MNd} {Bs:List KV} {D:List Fl} {f:Pr} {E:List Pr} {C:List Int} (h:UpSo S S.length us Bs D f E C):us.map (·.n)=(upL S).map (levN false)∧Bs.map (·.2)=(upL S).map (·.1):=by
 have h1:=h.go;rw [List.drop_length] at h1;simp only [upG] at h1;rw [←h1];exact ⟨by simp [h.ns],by simp [h.bs]⟩
theorem Xfw : ∀ (l:List Pr) (f:Pr) (g:List Pr),∀ y∈packG f g l,y.1=f∨y.1∈l
 | [],f,g,y,hy=>by simp [packG] at hy;exact .inl (by rw [hy])
 | x :: l,f,g,y,hy=>by
  unfold packG at hy;split at hy
  ·rcases Xfw l f _ y hy with h | h
   ·exact .inl h
   ·exact .inr (Yg _ h)
  ·rcases Zg.1 hy with h | h
   ·exact .inl (by rw [h])
   ·rcases Xfw l x _ y h with h | h
    ·exact .inr (by rw [h];simp)
    ·exact .inr (Yg _ h)
theorem Xil {α:Type}:∀ (l:List (Pr × α)) (f:Pr) (E:List Pr) (C:List α),∀ y∈upG f E C l,y.1=f∨y.1∈l.map (·.1)
 | [],f,E,C,y,hy=>by simp [upG] at hy;exact .inl (by rw [hy])
 | x :: l,f,E,C,y,hy=>by
  unfold upG at hy;split at hy
  ·rcases Xil l f _ _ y hy with h | h
   ·exact .inl h
   ·exact .inr (by simp only [Zx];exact Yg _ h)
  ·rcases Zg.1 hy with h | h
   ·exact .inl (by rw [h])
   ·rcases Xil l x.1 _ _ y h with h | h
    ·exact .inr (by rw [h];simp)
    ·exact .inr (by simp only [Zx];exact Yg _ h)
theorem upL_keys {l:List Fl} {m:Nat} (hk:Keys (l.map (·.1))):Keys ((upL (seps m l)).map (·.1)):=by
 rw [←Xch l m] at hk;refine hk.sub (fun e he=>?_);obtain ⟨y,hy,rfl⟩:=Zi.1 he;generalize seps m l=S at *
 cases S with
 | nil=>cases hy
 | cons x S =>
  rcases Xil S x.1 _ _ y hy with h | h
  ·rw [h];simp
  ·simp only [Zx];exact Yg _ h
end T
namespace T
open Go Go.RowKit D B C G P H
theorem prs_of {w:World} {v:Value} {L:List KV} (h:w.ownsRow 0 43 2 v L.length (kvsC L)) (hk:∀ q∈L,Xae w q.1 q.2.1):PrsAt w v L:=by
 obtain ⟨ao,cap,h1,h2,h3⟩:=(RowOn.of h).shape;refine ⟨⟨ao,cap,h1,h2,fun h0=>?_⟩,hk⟩;obtain ⟨g,rfl,hc⟩:=h3 h0;refine ⟨g,0,rfl,fun i p hp=>?_⟩;have hi:=(Zh.1 hp).1;obtain ⟨e1,e2⟩:=Xfd hp;rw [Yd];exact ⟨by rw [hc _ (by omega)];exact e1,by rw [hc _ (by omega)];exact e2⟩
theorem kid_turn {w:World} {M:List Nat} {m:MNd} {g cap i:Nat} (h:NodeAt w M m) (hcv:m.cv=.slice (some ⟨g,0,none⟩) m.n.cs.length cap) (hi:i<m.n.cs.length) (x:Int) :
  Turn w (w.setCell ⟨g,i,none⟩ (.int .i64 x)) M m { m with n:={ m.n with cs:=m.n.cs.set i x } }:=by
 have hg:g∈m.blocks:=by simp [MNd.blocks,hcv,Value.ownBlock]
 have hO:Only [g] w (w.setCell ⟨g,i,none⟩ (.int .i64 x)):=Xbe _ _ _ _;have hk:=h.kids;rw [hcv] at hk;obtain ⟨cs,hb⟩:=Xag hk (k:=g) rfl;refine ⟨⟨hO.blk h.blk (fun hm=>?_),h.es,Xab h.ents hO (fun k hk2 hm=>?_),?_,fun p hp=>(h.keys p hp).later hO (Off.one hb (by decide)),h.off⟩,rfl,rfl,hO.mono (fun y hy=>.inl (by simp at hy;rw [hy];exact hg)),fun y hy=>.inl hy⟩
 ·simp at hm
  exact absurd ((hm ▸ h.blk).inj hb).2 (by decide)
 ·simp at hm;subst hm
  exact Xaj h.ents hb (by decide) hk2
 ·have h1:=owns_set hk i hi (.int .i64 x)
  simp only [Yz];rw [hcv]
  have e:intsC (m.n.cs.set i x)=(intsC m.n.cs).set i (.int .i64 x):=by simp [intsC,List.map_set]
  rw [e];exact h1
theorem ren_step {res:List Nd} {φ:Int→Int} {i:Nat} {ms:List MNd} {m':MNd} {nd:Nd} (hns:ms.map (·.n)=(res.take i).map (mapN φ)++res.drop i) (hnd:res[i]?=some nd) (hm:m'.n=mapN φ nd):(ms.take i++m' :: ms.drop (i+1)).map (·.n)=(res.take (i+1)).map (mapN φ)++res.drop (i+1):=by
 have hi:=(Zh.1 hnd).1
 have hl:((res.take i).map (mapN φ)).length=i:=by rw [Zl,Zj,Yt (by omega)]
 rw [Zs,Zx,Xx,Wk,hns,Wx hl,List.drop_append,hl,Xq (by omega),hm,Xg,hnd];simp only [Ym,Option.toList_some,Zs,Zx,Wu,Zu,Xa];rw [List.drop_drop,show i+(i+1-i)=i+1 by omega]
theorem Xhm {α:Type} {f:MNd→α} {ms:List MNd} {m m':MNd} {i:Nat} (hs:ms=ms.take i++m :: ms.drop (i+1)) (h:f m'=f m):(ms.take i++m' :: ms.drop (i+1)).map f=ms.map f:=by
 conv=>rhs;rw [hs]
 rw [Zs,Zx,Zs,Zx,h]
theorem ents_in : ∀ {h:Nat} {t:Tr h} {e:Pr},Wf h t→e∈entsT t→∃ n∈nodes h t,e∈n.es
 | 0,t,e,_,he=>by
  obtain ⟨i,E,rfl⟩:=Tr.is_leaf t;rw [Xdv] at he;exact ⟨_,by rw [Xan];exact Xw _,he⟩
 | h+1,t,e,hw,he=>by
  obtain ⟨i,E,K,rfl⟩:=Tr.is_node t;rw [Xce] at hw;rw [Xgg hw.1] at he;obtain ⟨k,hk,hek⟩:=Yl.1 he;obtain ⟨n,hn,hen⟩:=ents_in (hw.2 k hk) hek;exact ⟨n,by rw [Xbr];exact Yg _ (Yl.2 ⟨k,hk,hn⟩),hen⟩
theorem InPages.keys {u:List Bool} {pg:Nat→List UInt8} {root H:Nat} {T:Tr H} (h:InPages u pg root T):Keys (entsT T):=fun e he=>by
 obtain ⟨n,hn,hen⟩:=ents_in h.wf he;exact (h.fit n hn).2 e hen
theorem InPages.up {u:List Bool} {pg:Nat→List UInt8} {root H:Nat} {T:Tr H} (h:InPages u pg root T):Up (entsT T):=ents_up h.ris
theorem InPages.nums {u:List Bool} {pg:Nat→List UInt8} {root H:Nat} {T:Tr H} (h:InPages u pg root T):∃ nums:List Nat,(nodes H T).map (·.id)=natsI (root :: nums)∧(root :: nums).Nodup∧∀ j∈root :: nums,u.getD j false=true:=by
 have hall:∀ n∈nodes H T,∃ id:Nat,n.id=(id:Nat)∧u.getD id false=true:=fun n hn=>by
  obtain ⟨id,h1,h2,_⟩:=h.page n hn;exact ⟨id,h1,h2⟩
 have hg:∀ l:List Nd,(∀ n∈l,∃ id:Nat,n.id=(id:Nat)∧u.getD id false=true)→∃ ns:List Nat,l.map (·.id)=natsI ns∧∀ j∈ns,u.getD j false=true:=by
  intro l
  induction l with
  | nil=>exact fun _=>⟨[],rfl,fun _ h=>(by cases h)⟩
  | cons a l ih =>
   intro hl;obtain ⟨id,h1,h2⟩:=hl a (by simp)
   obtain ⟨ns,h3,h4⟩:=ih fun n hn=>hl n (by simp [hn])
   refine ⟨id :: ns,by simp [natsI,h1] at h3 ⊢;exact h3,fun j hj=>?_⟩
   rcases Zg.1 hj with e | hj
   ·rw [e];exact h2
   ·exact h4 j hj
 obtain ⟨ns,h1,h2⟩:=hg (nodes H T) hall
 have htop:(nodes H T).map (·.id)=(root:Int) :: (below H T).map (·.id):=by
  show T.top.id :: _=_;rw [Tr.top_id,h.top]
 have hns:∃ nums,ns=root :: nums:=by
  rw [htop] at h1
  cases ns with
  | nil=>simp [natsI] at h1
  | cons a t =>
   simp only [natsI,Zx,List.cons.injEq] at h1;exact ⟨t,by rw [show a=root by omega]⟩
 obtain ⟨nums,rfl⟩:=hns;refine ⟨nums,h1,?_,h2⟩;have h3:=h.once;rw [h1] at h3;unfold natsI at h3
 exact (Xf.1 h3).imp fun hab e=>hab (by rw [e])
structure WrJ (w:World) (p:Nat) (M:List Nat) (u:List Bool) (pg:Nat→List UInt8) (k:Nat) (ms:List MNd) (i:Nat) (M':List Nat) (pg':Nat→List UInt8) (w':World):Prop where
 pool:PoolV w' p M' u pg' (k+2*i)
 step:Step M M' w w'
 done:∀ (j:Nat) (m:MNd),j<i→ms[j]?=some m→∀ id:Nat,m.n.id=(id:Nat)→Xel m.root m.n (pg' id)
 same:∀ x:Nat,(∀ m∈ms,m.n.id≠(x:Nat))→pg' x=pg x
theorem WrJ.start {w:World} {p:Nat} {M:List Nat} {u:List Bool} {pg:Nat→List UInt8} {k:Nat} (ms:List MNd) (h:PoolV w p M u pg k):WrJ w p M u pg k ms 0 M pg w:=⟨h,Step.refl _ _,fun j m hj=>absurd hj (Nat.not_lt_zero _),fun _ _=>rfl⟩
theorem WrJ.next {w w1 w2:World} {p:Nat} {M M1 M2:List Nat} {u:List Bool} {pg pg1:Nat→List UInt8} {k i id:Nat} {ms:List MNd} {m:MNd} {q:List UInt8} (h:WrJ w p M u pg k ms i M1 pg1 w1) (hn:(ms.map (·.n.id)).Nodup) (hm:ms[i]?=some m) (hid:m.n.id=(id:Nat))
  (hq:Xel m.root m.n q) (hP:PoolV w2 p M2 u (upd pg1 id q) (k+2*i+2)) (hS:Step M1 M2 w1 w2):WrJ w p M u pg k ms (i+1) M2 (upd pg1 id q) w2:=by
 refine ⟨hP,h.step.trans hS,fun j y hj hy x hx=>?_,fun x hx=>?_⟩
 ·by_cases e:j=i
  ·subst e
   rw [hm] at hy;obtain rfl:=Option.some.inj hy;rw [hid] at hx
   obtain rfl:id=x:=by omega
   rw [Xjh];exact hq
  ·rw [Xiw]
   ·exact h.done j y (by omega) hy x hx
   ·intro e2
    subst e2;have h1:=(Zh.1 hy).1;have h2:=(Zh.1 hm).1
    have h3:(ms.map (·.n.id))[j]?=(ms.map (·.n.id))[i]?:=by rw [Zr,Zr,hy,hm];simp [hx,hid]
    exact e ((List.getElem?_inj (by simpa using h1) hn).1 h3)
 ·rw [Xiw]
  ·exact h.same x hx
  ·intro e
   subst e;exact hx m (Zm hm) hid
def Xeb (u:List Bool) (l:List Nat):List Bool:=l.foldl (fun u i=>u.set i false) u
theorem Xjw : ∀ (l:List Nat) (u:List Bool),(Xeb u l).length=u.length
 | [],u=>rfl
 | i :: l,u=>by show (Xeb (u.set i false) l).length=_;rw [Xjw l,Yz]
theorem Xfa : ∀ (l:List Nat) (u:List Bool) (j:Nat),(Xeb u l).getD j false=true↔u.getD j false=true∧j∉l
 | [],u,j=>by simp [Xeb]
 | i :: l,u,j=>by
  show (Xeb (u.set i false) l).getD j false=true↔_;rw [Xfa l]
  by_cases e:i=j
  ·subst e
   have:(u.set i false).getD i false=false:=by
    rw [Zf,List.getElem?_set];simp only [if_true]
    split <;> rfl
   rw [this];simp
  ·rw [P.getD_set_ne _ _ _ _ _ e,Zg]
   constructor
   ·rintro ⟨h1,h2⟩
    exact ⟨h1,fun h=>h.elim (fun h=>e h.symm) h2⟩
   ·rintro ⟨h1,h2⟩
    exact ⟨h1,fun h=>h2 (.inr h)⟩
theorem Xon (u:List Bool) (l:List Nat) (i:Nat):Xeb u (l++[i])=(Xeb u l).set i false:=by unfold Xeb;rw [List.foldl_append];rfl
theorem ents_all {Q:Pr→Prop}:∀ {h:Nat} {t:Tr h},Wf h t→AllQ Q (nodes h t)→∀ e∈entsT t,Q e
 | 0,t,_,hq,e,he=>by
  obtain ⟨i,E,rfl⟩:=Tr.is_leaf t;rw [Xdv] at he;exact hq _ (by rw [Xan];exact Xw _) e he
 | h+1,t,hw,hq,e,he=>by
  obtain ⟨i,E,K,rfl⟩:=Tr.is_node t;have hwf:=(Xce i E K).1 hw;rw [Xgg hwf.1] at he;obtain ⟨k,hk,hek⟩:=Yl.1 he;exact ents_all (hwf.2 k hk) (hq.sub fun n hn=>by rw [Xbr];exact Yg _ (Yl.2 ⟨k,hk,hn⟩)) e hek
structure TidyRes (w w':World) (p:Nat) (M:List Nat) (u:List Bool) (pg:Nat→List UInt8) (k root:Nat) {H:Nat} (T:Tr H) (M':List Nat) (u':List Bool) (pg':Nat→List UInt8) {H':Nat} (T':Tr H'):Prop where
 pool:PoolV w' p M' u' pg' (k+2*(nodes H T).length+2*(nodes H' T').length)
 tree:InPages u' pg' root T'
 ents:entsT T'=entsT T
 few:(nodes H' T').length≤mostP (entsT T)
 len:u'.length=u.length
 used:∀ j:Nat,u'.getD j false=true↔(u.getD j false=true∧∀ n∈nodes H T,n.id≠(j:Nat))∨∃ n∈nodes H' T',n.id=(j:Nat)
 same:∀ j:Nat,(∀ n∈nodes H T,n.id≠(j:Nat))→pg' j=pg j
 mine:∀ j:Nat,(∃ n∈nodes H' T',n.id=(j:Nat))→∃ n∈nodes H T,n.id=(j:Nat)
 kept:∀ Q:Pr→Prop,AllQ Q (nodes H T)→AllQ Q (nodes H' T')
 step:Step M M' w w'
theorem packed_kids {root:Nat} {nums:List Nat} {G:List Nd} {H':Nat} {t':Tr H'} (hids:G.map (·.id)=ids 0 G.length) (hw:Wf H' t') (hp:(nodes H' t').Perm (G++[t'.top])) (hl:G.length≤nums.length) (hu:∀ j∈nums.take G.length,j<65536) :
  ∀ m∈(G++[t'.top]).map (mapN (ren nums fun _=>(root:Int))),Kids m:=fun m hm=>by
 have hbel:(below H' t').Perm G:=by
  have h1:(t'.top :: below H' t').Perm (G++[t'.top]):=hp;exact List.Perm.cons_inv (h1.trans (List.perm_append_singleton _ _))
 obtain ⟨n,h1,rfl⟩:=Zi.1 hm;have h2:=Xdb hw (hp.mem_iff.2 h1);refine ⟨by show (n.cs.map _).length=_;rw [Zl];exact h2,fun c hc=>?_⟩
 obtain ⟨c0,hc0,rfl⟩:=Zi.1 hc;have h3:=Xdw (hp.mem_iff.2 h1) hc0;have h4:=(hbel.map (·.id)).mem_iff.1 h3;rw [hids] at h4;obtain ⟨i,hi,rfl⟩:=Xie h4;rw [Yd,Xfy]
 have h5:nums.getD i 0∈nums.take G.length:=by
  rw [Zf,Zc (by omega)];exact Xr.2 ⟨i,by rw [Yq,if_pos hi,Zc (by omega)];rfl⟩
 have:=hu _ h5;omega
theorem packed_ids {root:Nat} {nums:List Nat} {G:List Nd} {H':Nat} {t':Tr H'} (h0:t'.id=0) (hids:G.map (·.id)=ids 0 G.length) (hl:G.length≤nums.length):((G++[t'.top]).map (mapN (ren nums fun _=>(root:Int)))).map (·.id)=natsI (nums.take G.length++[root]):=by
 have htop0:t'.top.id=0:=by rw [Tr.top_id,h0]
 rw [Yw,show ((·.id) ∘ mapN (ren nums fun _=>(root:Int)))=(ren nums fun _=>(root:Int)) ∘ (·.id) from rfl,←Yw,Zs,hids,Zs,Xmu _ _ _ _ (by omega),Xp]
 simp [natsI,htop0,Xeg]
theorem packed_in {root:Nat} {nums:List Nat} {G:List Nd} {H':Nat} {t':Tr H'} {u:List Bool} {pg:Nat→List UInt8} (h0:t'.id=0) (hids:G.map (·.id)=ids 0 G.length) (hw:Wf H' t') (hr:Ris (seq H' t')) (hp:(nodes H' t').Perm (G++[t'.top])) (hf:∀ m∈G++[t'.top],fitsP m.leaf m.es=true∧Keys m.es)
  (hn:(root :: nums).Nodup) (hl:G.length≤nums.length) (hu:∀ j∈root :: nums.take G.length,u.getD j false=true∧j<65536)
  (hpg:∀ m∈(G++[t'.top]).map (mapN (ren nums fun _=>root)),∀ id:Nat,m.id=(id:Nat)→Xel (decide (id=root)) m (pg id)) :
  InPages u pg root (mapT (ren nums fun _=>root) t')∧(nodes H' (mapT (ren nums fun _=>root) t')).map (·.id)=(nodes H' (mapT (ren nums fun _=>root) t')).map (·.id)∧((nodes H' (mapT (ren nums fun _=>root) t')).map (·.id)).Perm (natsI (nums.take G.length++[root])):=by
 have hperm:(nodes H' (mapT (ren nums fun _=>(root:Int)) t')).Perm ((G++[t'.top]).map (mapN (ren nums fun _=>root))):=by
  rw [Xdc];exact hp.map _
 have htop0:t'.top.id=0:=by rw [Tr.top_id,h0]
 have hgid:((G++[t'.top]).map (mapN (ren nums fun _=>(root:Int)))).map (·.id)=natsI (nums.take G.length++[root]):=by
  rw [Yw,show ((·.id) ∘ mapN (ren nums fun _=>(root:Int)))=(ren nums fun _=>(root:Int)) ∘ (·.id) from rfl,←Yw,Zs,hids,Zs,Xmu _ _ _ _ (by omega),Xp]
  simp [natsI,htop0,Xeg]
 have hpid:=(hperm.map (·.id)).trans (List.Perm.of_eq hgid)
 have hnd:(nums.take G.length++[root]).Nodup:=by
  refine Xi.2 ⟨(Xn.1 hn).2.sublist (List.take_sublist _ _),by simp,fun a ha b hb e=>?_⟩;simp at hb
  subst hb;subst e
  exact (Xn.1 hn).1 (Yn ha)
 have hmem:∀ m,m∈nodes H' (mapT (ren nums fun _=>(root:Int)) t')→∃ n∈G++[t'.top],m=mapN (ren nums fun _=>root) n:=fun m hm=>by
  obtain ⟨n,h1,h2⟩:=Zi.1 (hperm.mem_iff.1 hm);exact ⟨n,h1,h2.symm⟩
 have hid:∀ m,m∈nodes H' (mapT (ren nums fun _=>(root:Int)) t')→∃ id:Nat,m.id=(id:Nat)∧id∈nums.take G.length++[root]:=fun m hm=>by
  have h1:=hpid.mem_iff.1 (Zi.2 ⟨m,hm,rfl⟩);unfold natsI at h1;obtain ⟨id,h2,h3⟩:=Zi.1 h1;exact ⟨id,h3.symm,h2⟩
 have hbel:(below H' t').Perm G:=by
  have h1:(t'.top :: below H' t').Perm (G++[t'.top]):=hp;exact List.Perm.cons_inv (h1.trans (List.perm_append_singleton _ _))
 refine ⟨⟨?_,fun m hm=>?_,fun m hm=>?_,fun m hm=>?_,mapT_wf _ hw,by rw [Xhl];exact hr,?_⟩,rfl,hpid⟩
 ·rw [mapT_id,h0,Xeg _ _ (Int.le_refl 0)]
 ·obtain ⟨id,h1,h2⟩:=hid m hm
  refine ⟨id,h1,(hu id ?_).1,hpg m (hperm.mem_iff.1 hm) id h1⟩
  rcases Za.1 h2 with h | h
  ·exact Yg _ h
  ·simp at h;rw [h];simp
 ·obtain ⟨n,h1,rfl⟩:=hmem m hm
  exact hf n h1
 ·obtain ⟨n,h1,rfl⟩:=hmem m hm
  have h2:=Xdb hw (hp.mem_iff.2 h1);refine ⟨by show (n.cs.map _).length=_;rw [Zl];exact h2,fun c hc=>?_⟩
  obtain ⟨c0,hc0,rfl⟩:=Zi.1 hc;have h3:=Xdw (hp.mem_iff.2 h1) hc0;have h4:=(hbel.map (·.id)).mem_iff.1 h3;rw [hids] at h4;obtain ⟨i,hi,rfl⟩:=Xie h4;rw [Yd,Xfy]
  have h5:nums.getD i 0∈nums.take G.length:=by
   rw [Zf,Zc (by omega)];exact Xr.2 ⟨i,by rw [Yq,if_pos hi,Zc (by omega)];rfl⟩
  have:=(hu _ (Yg _ h5)).2;omega
 ·refine hpid.nodup_iff.2 ?_
  unfold natsI;exact Xf.2 (hnd.imp fun hab e=>hab (by omega))
end T
namespace T
open Go Go.RowKit D B C G P H
theorem Xnj {H:Nat}:∀ {h:Nat} (c:Ctx H h) (t t':Tr h),t.id=t'.id→(plug c t).id=(plug c t').id
 | _,.nil,t,t',h=>h
 | _,.cons f c,t,t',_=>Xnj c _ _ rfl
theorem Xfx {H:Nat} (c:Ctx H 0) (hg:Good c) (i:Int) (E:List Pr):entsT (plug c (.leaf i E))=ents (pre c)++E++ents (post c):=by
 unfold entsT;rw [Xco c _ hg,Xby,Xby,Xcn,Xfn]
theorem sep_not {H:Nat} {c:Ctx H 0} {x:Pr} (hs:Sep c x):x∉ents (pre c)∧x∉ents (post c) :=
 ⟨fun h=>Xme _ (hs.1 _ (Xmz.1 h)),fun h=>Xme _ (hs.2 _ (Xmz.1 h))⟩
theorem mem_plug {H:Nat} {c:Ctx H 0} {x:Pr} {i:Int} {E:List Pr} (hg:Good c) (hs:Sep c x):x∈entsT (plug c (.leaf i E))↔x∈E:=by
 rw [Xfx c hg,Za,Za];have:=sep_not hs
 constructor
 ·rintro ((h | h) | h)
  ·exact absurd h this.1
  ·exact h
  ·exact absurd h this.2
 ·exact fun h=>.inl (.inr h)
theorem Xey {H:Nat} {T:Tr H} (h:Ris (seq H T)):Up (entsT T):=ents_up h
theorem Xhh {H:Nat} {c:Ctx H 0} {x:Pr} {i:Int} {E:List Pr} (hg:Good c) (hs:Sep c x) (hr:Ris (seq H (plug c (.leaf i E)))) (hE:Up E):has (entsT (plug c (.leaf i E))) x=has E x:=by
 rw [Bool.eq_iff_iff,Xjy (Xey hr),Xjy hE,mem_plug hg hs]
theorem up_insP {l:List Pr} {x:Pr} (hl:Up l) (hx:has l x=false):Up (insP l x):=by
 have h:=ris_ins (A:=[]) (B:=[]) (E:=l) (x:=x) (by
  unfold Ris;simp only [Ym,Xj];rw [Xf]
  exact hl.imp fun h=>.inl h) (by simp) (by simp) hx
 have h2:=ents_up h;simp only [Ym,Xj,Xfn] at h2;exact h2
theorem up_del {l:List Pr} {x:Pr} (hl:Up l):Up (delP l x):=hl.sublist (Wa _ _)
theorem mem_delP {l:List Pr} {x y:Pr} (hl:Up l) (hx:has l x=true):y∈delP l x↔y∈l∧y≠x:=by
 have h1:l[low l x]?=some x:=by simpa [has] using hx
 obtain ⟨h2,h3⟩:=Zh.1 h1;unfold delP
 have hne:∀ a b (ha:a<l.length) (hb:b<l.length),l[a]=l[b]→a=b:=fun a b ha hb e=>by
  rcases Wr a b with h | h | h
  ·have:=Yy.1 hl a b ha hb h
   rw [e] at this;exact absurd this (lt_irrefl _)
  ·exact h
  ·have:=Yy.1 hl b a hb ha h
   rw [e] at this;exact absurd this (lt_irrefl _)
 rw [List.mem_eraseIdx_iff_getElem?]
 constructor
 ·rintro ⟨j,hj,e⟩
  obtain ⟨h4,h5⟩:=Zh.1 e;refine ⟨Zm e,fun hy=>hj ?_⟩;subst hy;exact hne _ _ h4 h2 (h5.trans h3.symm)
 ·rintro ⟨hy,hyx⟩
  obtain ⟨j,e⟩:=Xr.1 hy;refine ⟨j,fun hj=>hyx ?_,e⟩;rw [hj,h1] at e;exact (Option.some.inj e).symm
theorem ents_insert {H:Nat} {c:Ctx H 0} {x:Pr} {i j:Int} {E:List Pr} (hg:Good c) (hs:Sep c x) (hr:Ris (seq H (plug c (.leaf i E)))) (hE:Up E) (hx:has E x=false) :
  Ris (seq H (plug c (.leaf j (insP E x))))∧entsT (plug c (.leaf j (insP E x)))=insP (entsT (plug c (.leaf i E))) x:=by
 have h1:Ris (seq H (plug c (.leaf j (insP E x)))):=by
  rw [Xco c _ hg,Xcn] at hr ⊢;exact ris_ins hr hs.1 hs.2 hx
 refine ⟨h1,up_ext (Xey h1) (up_insP (Xey hr) (by rw [Xhh hg hs hr hE];exact hx)) (fun y=>?_)⟩;rw [Xdt,Xfx c hg,Xfx c hg];simp only [Za,Xdt]
 constructor
 ·rintro ((h | h | h) | h)
  ·exact .inr (.inl (.inl h))
  ·exact .inl h
  ·exact .inr (.inl (.inr h))
  ·exact .inr (.inr h)
 ·rintro (h | (h | h) | h)
  ·exact .inl (.inr (.inl h))
  ·exact .inl (.inl h)
  ·exact .inl (.inr (.inr h))
  ·exact .inr h
theorem ents_delete {H:Nat} {c:Ctx H 0} {x:Pr} {i j:Int} {E:List Pr} (hg:Good c) (hs:Sep c x) (hr:Ris (seq H (plug c (.leaf i E)))) (hE:Up E) (hx:has E x=true) :
  Ris (seq H (plug c (.leaf j (delP E x))))∧entsT (plug c (.leaf j (delP E x)))=delP (entsT (plug c (.leaf i E))) x:=by
 have h1:Ris (seq H (plug c (.leaf j (delP E x)))):=by
  rw [Xco c _ hg,Xcn] at hr ⊢;exact List.Pairwise.sublist (((((Wa E (low E x)).map en).append_left (pre c)).append_right (post c))) hr
 refine ⟨h1,up_ext (Xey h1) (up_del (Xey hr)) (fun y=>?_)⟩;rw [mem_delP (Xey hr) (by rw [Xhh hg hs hr hE];exact hx),Xfx c hg,Xfx c hg]
 simp only [Za,mem_delP hE hx];have hn:=sep_not hs
 constructor
 ·rintro ((h | h) | h)
  ·exact ⟨.inl (.inl h),fun e=>hn.1 (e ▸ h)⟩
  ·exact ⟨.inl (.inr h.1),h.2⟩
  ·exact ⟨.inr h,fun e=>hn.2 (e ▸ h)⟩
 ·rintro ⟨(h | h) | h,h2⟩
  ·exact .inl (.inl h)
  ·exact .inl (.inr ⟨h,h2⟩)
  ·exact .inr h
theorem leaf_in {u:List Bool} {pg pg1:Nat→List UInt8} {root H id:Nat} {c:Ctx H 0} {i:Int} {E E':List Pr} (hI:InPages u pg root (plug c (.leaf i E))) (hg:Good c) (hid:i=(id:Nat)) (hf:fitsP true E'=true) (hk:Keys E') (hr:Ris (seq H (plug c (.leaf i E'))))
  (hq:Xel (decide (id=root)) ⟨i,true,E',[]⟩ (pg1 id)) (hs:∀ x:Nat,x≠id→pg1 x=pg x):InPages u pg1 root (plug c (.leaf i E')):=by
 have hp1:=Xbb c (.leaf i E);have hp2:=Xbb c (.leaf i E');rw [Tr.leaf_id,Xan] at hp1 hp2;have honce:=hI.once;rw [(hp1.map (·.id)).nodup_iff] at honce
 have hold:∀ n,n∈path c i∨n∈rest c→n∈nodes H (plug c (.leaf i E))∧n.id≠i:=fun n hn=>by
  refine ⟨hp1.mem_iff.2 (by rcases hn with h | h <;> simp [h]),fun e=>?_⟩;rw [Zu,Zs,Zs] at honce;have h1:=Xi.1 honce
  rcases hn with h | h
  ·exact h1.2.2 n.id (Zi.2 ⟨n,h,rfl⟩) i (by simp) e
  ·have h2:=Xi.1 h1.2.1
   exact h2.2.2 i (by simp) n.id (Zi.2 ⟨n,h,rfl⟩) e.symm
 have hin:∀ n∈nodes H (plug c (.leaf i E')),n=⟨i,true,E',[]⟩∨(n∈path c i∨n∈rest c):=fun n hn=>by
  have:=hp2.mem_iff.1 hn;simp only [Za,Zo] at this
  rcases this with (h | h) | h
  ·exact .inr (.inl h)
  ·exact .inl h
  ·exact .inr (.inr h)
 have hleaf:(⟨i,true,E,[]⟩:Nd)∈nodes H (plug c (.leaf i E)):=hp1.mem_iff.2 (by simp);refine ⟨by rw [←hI.top];exact Xnj c _ _ rfl,fun n hn=>?_,fun n hn=>?_,fun n hn=>?_,wf_plug c _ hg trivial,hr,?_⟩
 ·rcases hin n hn with h | h
  ·rw [h]
   obtain ⟨id2,h1,h2,_⟩:=hI.page _ hleaf;have h1':i=(id2:Nat):=h1
   obtain rfl:id2=id:=by omega
   exact ⟨id2,hid,h2,hq⟩
  ·obtain ⟨h1,h2⟩:=hold n h
   obtain ⟨id2,h3,h4,h5⟩:=hI.page n h1;exact ⟨id2,h3,h4,by rw [hs id2 (fun e=>h2 (by rw [h3,hid,e]))];exact h5⟩
 ·rcases hin n hn with h | h
  ·rw [h];exact ⟨hf,hk⟩
  ·exact hI.fit n (hold n h).1
 ·rcases hin n hn with h | h
  ·rw [h];exact ⟨rfl,by simp⟩
  ·exact hI.kids n (hold n h).1
 ·rw [(hp2.map (·.id)).nodup_iff]
  simpa using honce
theorem Xph {H:Nat}:∀ {h:Nat} (c:Ctx H h) (t:Tr h),((path c t.id++[t.top])[0]?.map (·.id))=some (plug c t).id
 | _,.nil,t=>by simp [path,plug,Tr.top_id]
 | h,.cons f c,t=>by
  have:=Xph c (f.tree t);rw [Fr.top,show (f.tree t).id=f.id from rfl] at this;show ((path c f.id++[f.nd t.id]++[t.top])[0]?.map (·.id))=some (plug c (f.tree t)).id;rw [←this,Xo (by simp)]
theorem Xkh {H:Nat}:∀ {h:Nat} (c:Ctx H h) (i:Int),∀ u∈path c i,u.leaf=false
 | _,.nil,i,u,hu=>by simp [path] at hu
 | h,.cons f c,i,u,hu=>by
  simp only [path,Za,Zo] at hu
  rcases hu with hu | hu
  ·exact Xkh c f.id u hu
  ·rw [hu];rfl
theorem path_up {H:Nat}:∀ {h:Nat} (c:Ctx H h) (t:Tr h),Good c→Wf h t→Ris (seq H (plug c t))→∀ u∈path c t.id,Up u.es
 | _,.nil,t,_,_,_,u,hu=>by simp [path] at hu
 | h,.cons f c,t,hg,hw,hr,u,hu=>by
  obtain ⟨h1,h2,h3,h4,h5⟩:=hg;have hwt:=wf_tree f t h1 h2 h3 h4 hw;simp only [path,Za,Zo] at hu
  rcases hu with hu | hu
  ·exact path_up c (f.tree t) h5 hwt hr u hu
  ·have hr2:Ris (seq H (plug c (f.tree t))):=hr
   rw [Xco c _ h5] at hr2;unfold Ris at hr2;have h6:=(Zn.1 (Zn.1 hr2).1).2.1;rw [hu];exact Xpv hwt h6
theorem fits_few {E:List Pr} (h:fitsP false E=true):E.length≤40:=by
 rw [Xcf] at h;have h1:=Xkt false E;simp only [baseE,Bool.false_eq_true,if_false] at h h1;omega
theorem split_in {u:List Bool} {pg:Nat→List UInt8} {root H H':Nat} {c:Ctx H 0} {i:Int} {E E':List Pr} {W' F':List Nd} {t':Tr H'} {nums:List Nat} (hI:InPages u pg root (plug c (.leaf i E))) (hg:Good c) (hR:Res c (.leaf i E') [] W' F' t') (hn:nums.length=F'.length) (hnd:nums.Nodup)
  (hnu:∀ j∈nums,j<u.length∧u.getD j false=false) (hul:u.length≤65536) :
  (∀ n∈W'++F',∀ x∈n.id :: n.cs,0≤x∨∃ j,j<F'.length∧x = -1-(j:Int)) ∧
  (∀ n∈(W'++F').map (mapN (ren nums fun x=>x)),∃ id:Nat,n.id=((id:Nat):Int)∧(Xbv u nums).getD id false=true∧Keys n.es∧Kids n∧fitsP n.leaf n.es=true) ∧
  (((W'++F').map (mapN (ren nums fun x=>x))).map (·.id)).Nodup ∧
  (∀ pg1:Nat→List UInt8,(∀ n∈(W'++F').map (mapN (ren nums fun x=>x)),∀ id:Nat,n.id=((id:Nat):Int)→Xel (decide (id=root)) n (pg1 id))→(∀ x:Nat,u.getD x false=true→(∀ n∈(W'++F').map (mapN (ren nums fun x=>x)),n.id≠((x:Nat):Int))→pg1 x=pg x)→InPages (Xbv u nums) pg1 root (mapT (ren nums fun x=>x) t')) ∧
  (nodes H' (mapT (ren nums fun x=>x) t')).Perm ((W'++F').map (mapN (ren nums fun x=>x))++rest c)∧W'.map (·.id)=i :: (path c i).reverse.map (·.id)∧F'.map (·.id)=ids 0 F'.length ∧
  ((nodes H' (mapT (ren nums fun x=>x) t')).map (·.id)).Perm ((nodes H (plug c (.leaf i E))).map (·.id)++natsI nums)∧(∀ n∈W'++F',n.cs.length≤51):=by
 obtain ⟨r1,r2,r3,r4,G,hF,r5,r6,r7,r8⟩:=hR;rw [Ym] at hF;subst hF;rw [Tr.leaf_id] at r7;rw [show below 0 (Tr.leaf i E')=[] from rfl,Xj] at r6;simp only [Wn] at r5;have hp1:=Xbb c (.leaf i E);rw [Tr.leaf_id,Xan] at hp1;have honce:=hI.once;rw [(hp1.map (·.id)).nodup_iff] at honce
 have hpos:∀ n∈nodes H (plug c (.leaf i E)),0≤n.id∧∀ x∈n.cs,0≤x:=fun n hn=>by
  obtain ⟨id,h1,_⟩:=hI.page n hn;exact ⟨by rw [h1];omega,fun x hx=>((hI.kids n hn).small x hx).1⟩
 have hrest:∀ n∈rest c,n∈nodes H (plug c (.leaf i E)):=fun n hn=>hp1.mem_iff.2 (by simp [hn])
 have hWid:∀ n∈W',∃ n0∈nodes H (plug c (.leaf i E)),n.id=n0.id:=fun n hn=>by
  have h1:n.id∈i :: (path c i).reverse.map (·.id):=by rw [←r7];exact Zi.2 ⟨n,hn,rfl⟩
  rcases Zg.1 h1 with h2 | h2
  ·exact ⟨⟨i,true,E,[]⟩,hp1.mem_iff.2 (by simp),h2⟩
  ·obtain ⟨m,hm,e⟩:=Zi.1 h2
   exact ⟨m,hp1.mem_iff.2 (by simp [List.mem_reverse.1 hm]),e.symm⟩
 have hGid:∀ n∈F',∃ j,j<F'.length∧n.id = -1-(j:Int):=fun n hn=>by
  have h1:n.id∈ids 0 F'.length:=by rw [←r5];exact Zi.2 ⟨n,hn,rfl⟩
  obtain ⟨j,hj,e⟩:=Xie h1;exact ⟨j,hj,by rw [e,Yd]⟩
 have hall:∀ n∈nodes H' t',0≤n.id∨∃ j,j<F'.length∧n.id = -1-(j:Int):=fun n hn=>by
  have h1:=r6.mem_iff.1 hn
  rcases Za.1 h1 with h2 | h2
  ·rcases Za.1 h2 with h3 | h3
   ·obtain ⟨n0,h4,h5⟩:=hWid n h3
    exact .inl (by rw [h5];exact (hpos n0 h4).1)
   ·exact .inr (hGid n h3)
  ·exact .inl (hpos n (hrest n h2)).1
 have hin:∀ n∈W'++F',n∈nodes H' t':=fun n hn=>r6.mem_iff.2 (Yb _ hn)
 have hkid:∀ n∈nodes H' t',∀ x∈n.cs,0≤x∨∃ j,j<F'.length∧x = -1-(j:Int):=fun n hn x hx=>by
  obtain ⟨m,hm,e⟩:=Zi.1 (Xdw hn hx);have:=hall m (by simp [nodes,hm]);rw [e] at this;exact this
 have hget:∀ j,j<F'.length→nums.getD j 0∈nums:=fun j hj=>by
  rw [Zf,Zc (by omega)];exact Yx _
 have hused:∀ j:Nat,u.getD j false=true→(Xbv u nums).getD j false=true∧j<65536:=fun j hj=>⟨(Xdy _ _ _ (fun x hx=>(hnu x hx).1)).2 (.inl hj),by have:=Xgc hj;omega⟩
 have hnew:∀ j∈nums,(Xbv u nums).getD j false=true∧j<65536:=fun j hj=>⟨(Xdy _ _ _ (fun x hx=>(hnu x hx).1)).2 (.inr hj),by have:=(hnu j hj).1;omega⟩
 have hren:∀ x:Int,(∃ j:Nat,x=(j:Nat)∧u.getD j false=true)∨(∃ j,j<F'.length∧x = -1-(j:Int))→∃ id:Nat,ren nums (fun x=>x) x=((id:Nat):Int)∧(Xbv u nums).getD id false=true∧id<65536:=fun x hx=>by
  rcases hx with ⟨j,rfl,hj⟩ | ⟨j,hj,rfl⟩
  ·exact ⟨j,Xeg _ _ (by omega),hused j hj⟩
  ·exact ⟨nums.getD j 0,Xfy _ _ _,hnew _ (hget j hj)⟩
 have hidu:∀ n∈nodes H' t',(∃ j:Nat,n.id=(j:Nat)∧u.getD j false=true)∨(∃ j,j<F'.length∧n.id = -1-(j:Int)):=fun n hn=>by
  have h1:=r6.mem_iff.1 hn
  rcases Za.1 h1 with h2 | h2
  ·rcases Za.1 h2 with h3 | h3
   ·obtain ⟨n0,h4,h5⟩:=hWid n h3
    obtain ⟨id,h6,h7,_⟩:=hI.page n0 h4;exact .inl ⟨id,by rw [h5,h6],h7⟩
   ·exact .inr (hGid n h3)
  ·obtain ⟨id,h6,h7,_⟩:=hI.page n (hrest n h2)
   exact .inl ⟨id,h6,h7⟩
 have hkids:∀ n∈nodes H' t',Kids (mapN (ren nums fun x=>x) n):=fun n hn=>by
  refine ⟨by show (n.cs.map _).length=_;rw [Zl];exact Xdb r1 hn,fun x hx=>?_⟩;obtain ⟨x0,hx0,rfl⟩:=Zi.1 hx;obtain ⟨m,hm,e⟩:=Zi.1 (Xdw hn hx0);have:=hidu m (by simp [nodes,hm]);rw [e] at this;obtain ⟨id,h1,_,h3⟩:=hren x0 this;omega
 have hperm:(nodes H' (mapT (ren nums fun x=>x) t')).Perm ((W'++F').map (mapN (ren nums fun x=>x))++rest c):=by
  rw [Xdc];refine (r6.map _).trans (List.Perm.of_eq ?_);rw [Zs];congr 1
  conv=>rhs;rw [←List.map_id (rest c)]
  refine Xc fun n hn=>?_
  have h1:=hpos n (hrest n hn);obtain ⟨nid,nl,ne,nc⟩:=n;simp only [mapN,id];rw [Xeg _ _ h1.1];congr 1
  conv=>rhs;rw [←List.map_id nc]
  exact Xc fun x hx=>Xeg _ _ (h1.2 x hx)
 have hids2:((W'++F').map (mapN (ren nums fun x=>x))).map (·.id)=i :: (path c i).reverse.map (·.id)++natsI nums:=by
  rw [Yw,show ((·.id) ∘ mapN (ren nums fun x=>x))=(ren nums fun x=>x) ∘ (·.id) from rfl,←Yw,Zs,r7,r5,Zs,Xmu _ _ _ _ (by omega),Xp,Ya (by omega)];congr 1
  conv=>rhs;rw [←List.map_id (i :: (path c i).reverse.map (·.id))]
  refine Xc fun x hx=>Xeg _ _ ?_
  rw [←r7] at hx;obtain ⟨n,hn,rfl⟩:=Zi.1 hx;obtain ⟨n0,h4,h5⟩:=hWid n hn
  rw [h5];exact (hpos n0 h4).1
 have hndall:(((W'++F').map (mapN (ren nums fun x=>x))++rest c).map (·.id)).Nodup:=by
  rw [Zs,hids2]
  have hq:(i :: (path c i).reverse.map (·.id)++natsI nums++(rest c).map (·.id)).Perm (natsI nums++(path c i++[(⟨i,true,E,[]⟩:Nd)]++rest c).map fun n:Nd=>n.id):=by
   rw [Wz];intro a;simp only [Zs,Vh,List.count_cons,List.map_reverse,List.count_reverse,Xa,Zx,Wu,List.count_nil];omega
  refine hq.nodup_iff.2 (Xi.2 ⟨Xf.2 (hnd.imp fun hab e=>hab (by omega)),honce,fun a ha b hb e=>?_⟩);obtain ⟨j,hj,rfl⟩:=Zi.1 ha;obtain ⟨n,hn,rfl⟩:=Zi.1 hb;obtain ⟨id,h1,h2,_⟩:=hI.page n (hp1.mem_iff.2 hn);rw [h1] at e
  obtain rfl:j=id:=by omega
  have:=(hnu j hj).2
  rw [h2] at this;cases this
 have hndW:(((W'++F').map (mapN (ren nums fun x=>x))).map (·.id)).Nodup:=by
  rw [Zs] at hndall;exact (Xi.1 hndall).1
 refine ⟨fun n hn x hx=>?_,fun n hn=>?_,hndW,fun pg1 hw hs=>?_,hperm,r7,r5,?_,fun n hn=>?_⟩
 ·rcases Zg.1 hx with h | h
  ·rw [h];exact hall n (hin n hn)
  ·exact hkid n (hin n hn) x h
 ·obtain ⟨n0,hn0,rfl⟩:=Zi.1 hn
  obtain ⟨id,h1,h2,_⟩:=hren n0.id (hidu n0 (hin n0 hn0));exact ⟨id,h1,h2,(r8 n0 hn0).2,hkids n0 (hin n0 hn0),(r8 n0 hn0).1⟩
 ·have hmem:∀ n∈nodes H' (mapT (ren nums fun x=>x) t'),n∈(W'++F').map (mapN (ren nums fun x=>x))∨n∈rest c:=fun n hn=>Za.1 (hperm.mem_iff.1 hn)
  refine ⟨?_,fun n hn=>?_,fun n hn=>?_,fun n hn=>?_,mapT_wf _ r1,by rw [Xhl];exact r2,?_⟩
  ·rw [mapT_id,r4,Xnj c (.leaf i E') (.leaf i E) rfl,hI.top,Xeg _ _ (by omega)]
  ·rcases hmem n hn with h | h
   ·obtain ⟨n0,hn0,rfl⟩:=Zi.1 h
    obtain ⟨id,h1,h2,_⟩:=hren n0.id (hidu n0 (hin n0 hn0));exact ⟨id,h1,h2,hw _ h id h1⟩
   ·obtain ⟨id,h1,h2,h3⟩:=hI.page n (hrest n h)
    refine ⟨id,h1,(hused id h2).1,?_⟩;rw [hs id h2 (fun m hm e=>?_)]
    ·exact h3
    ·rw [Zs] at hndall
     exact (Xi.1 hndall).2.2 m.id (Zi.2 ⟨m,hm,rfl⟩) n.id (Zi.2 ⟨n,h,rfl⟩) (by rw [e,h1])
  ·rcases hmem n hn with h | h
   ·obtain ⟨n0,hn0,rfl⟩:=Zi.1 h
    exact r8 n0 hn0
   ·exact hI.fit n (hrest n h)
  ·rcases hmem n hn with h | h
   ·obtain ⟨n0,hn0,rfl⟩:=Zi.1 h
    exact hkids n0 (hin n0 hn0)
   ·exact hI.kids n (hrest n h)
  ·rw [(hperm.map (·.id)).nodup_iff];exact hndall
 ·refine (hperm.map (·.id)).trans ?_
  rw [Zs,hids2];have h2:=(hp1.map (·.id)).symm
  refine List.Perm.trans ?_ (h2.append_right _)
  rw [Wz];intro a;simp only [Zs,Vh,List.count_cons,List.map_reverse,List.count_reverse,Xa,Zx,Wu,List.count_nil];omega
 ·have h1:=Xdb r1 (hin n hn)
  have h2:=Xca (r8 n hn).1;rw [h1]
  split <;> omega
end T
end Go.Proofs.YtiijokopcgnokaaGreat
