import Derived.Test.YtiijokopcgnokaaGreatWPush
import Derived.Deep.Upon
set_option linter.unusedSimpArgs false
set_option linter.unusedVariables false
namespace Go.Proofs.YtiijokopcgnokaaGreat
open Go.RowKit
structure Grew (w w':World) (e:TypeId) (size:Nat) (v v':Value) (n:Nat) (xs:List Value):Prop where
 own:w'.ownsRow 0 e size v' n xs
 only:Only v.ownBlock.toList w w'
 lies:∀ k,v'.ownBlock=some k→v.ownBlock=some k∨w.heap.size≤k
 shape:∃ ao cap,v'=.slice ao n cap
theorem Grew.trans {w w1 w2:World} {e:TypeId} {size n1 n2:Nat} {v v1 v2:Value} {xs xs1:List Value} (h:Grew w w1 e size v v1 n1 xs) (k:Grew w1 w2 e size v1 v2 n2 xs1):Grew w w2 e size v v2 n2 xs1 where
 own:=k.own
 only:=h.only.trans k.only (fun x hx=>by
  rcases h.lies x (by simpa using hx) with h1 | h1
  ·exact .inl (by simp [h1])
  ·exact .inr h1)
 lies:=fun x hx=>by
  rcases k.lies x hx with h1 | h1
  ·exact h.lies x h1
  ·right;have:=h.only.size;omega
 shape:=k.shape
theorem Grew.refl {w:World} {e:TypeId} {size n:Nat} {v:Value} {xs:List Value} (h:w.ownsRow 0 e size v n xs):Grew w w e size v v n xs where
 own:=h
 only:=Only.refl _ _
 lies:=fun _ h=>.inl h
 shape:=by
  rcases h.2 with ⟨rfl,rfl⟩ | ⟨g,cap,cur,rfl,_⟩
  ·exact ⟨none,0,rfl⟩
  ·exact ⟨_,cap,rfl⟩
theorem Grew.to {w w1:World} {e:TypeId} {size n n':Nat} {v v1:Value} {xs xs':List Value} (h:Grew w w1 e size v v1 n xs) (e1:n=n') (e2:xs=xs'):Grew w w1 e size v v1 n' xs':=by subst e1;subst e2;exact h
theorem Grew.pre {w0 w w1:World} {e:TypeId} {size n:Nat} {v v1:Value} {xs:List Value} (hO:Only [] w0 w) (h:Grew w w1 e size v v1 n xs):Grew w0 w1 e size v v1 n xs where
 own:=h.own
 only:=(hO.mono (by simp)).trans h.only (fun x hx=>.inl hx)
 lies:=fun x hx=>by
  rcases h.lies x hx with h1 | h1
  ·exact .inl h1
  ·right;have:=hO.size;omega
 shape:=h.shape
theorem wp_grow {P:Program} {w:World} {o:Oper} {a:Act} {K:Act→World→Prop} {Q:Exit→Act→World→Prop} (s x:Operand) (t:TypeId)
  (ho:o.op=.call { callee:=.builtin .append,args:=#[s,x],argTypes:=#[t,t] })
  (e:TypeId) (ht:P.underlying t=some (.slice e)) {z:Value} {size bytes:Nat} (hi:∃ i,P.info? e=some i∧i.zero=some z∧i.size=size∧i.bytes=bytes) (hzs:z.cells.size=size) (hsz:0<size)
  (v:Value) (n:Nat) (xs:List Value) (hs:a.eval s=v) (hown:w.ownsRow 0 e size v n xs) (so:Option Addr) (m c:Nat) (hx:a.eval x=.slice so m c) (news:List Value) (hl:news.length=m*size)
  (hcell:0<m→∃ ad,so=some ad∧∀ j u,news[j]?=some u→w.cell? (ad.add j)=some u) (h1:∀ u∈news,u.oneCell'=true) (hnm:n+m≤16777216) (hb:bytes≤1024)
  (h:∀ v' w',Grew w w' e size v v' (n+m) (xs++news)→K (a.put o.dst v') w'):o.wp P a w K Q:=by
 obtain ⟨i,hi,hz,hs1,hby⟩:=hi
 by_cases h0:m=0
 ·subst h0
  obtain rfl:news=[]:=Xd (by omega)
  obtain ⟨base,cap,rfl,hcap⟩:∃ base cap,v=.slice base n cap∧n≤cap:=by
   rcases hown.2 with ⟨rfl,rfl⟩ | ⟨g,cap,cur,rfl,_,_,h3,_⟩
   ·exact ⟨none,0,rfl,Zq _⟩
   ·exact ⟨_,cap,rfl,h3⟩
  have hr:(Builtin.append_ #[t,t] o.type #[.slice base n cap,.slice so 0 c]).run P w=.ok (.slice base n cap) w :=
   run_append_nothing (P:=P) w t t o.type e i ht hi base n cap hcap _ (by
    cases so with
    | none=>exact Src.ofNil w ht c
    | some ad=>exact Src.ofSlice w ht ad 0 c [] (by simp) (fun j u hj=>by simp at hj) (fun u hu=>by cases hu))
  unfold Oper.wp execOp;simp only [ho,resolve,invoke,builtin,Sem.run_bind,Sem.run_pure,Result.andThen_ok,List.map_toArray,Zx,Wu,hs,hx,hr];exact h (.slice base n cap) w ⟨by simpa using hown,Only.refl _ _,fun k hk=>.inl hk,base,cap,rfl⟩
 ·obtain ⟨ad,rfl,hnews⟩:=hcell (by omega)
  refine wp_append_lies w s x t ho 0 e i z size bytes ht hi hz hs1 hby hzs hsz v n xs hs hown ad m c news hx hl hnews h1 (by omega) (by unfold maxLen;omega) ?_ (Yc _) _ rfl ?_
  ·calc (n+m)*bytes≤16777216*1024:=Nat.mul_le_mul hnm hb
    _≤_:=by omega
  ·intro g cap w' h2 h3 h4 h5
   refine h _ w' ⟨h2,Only.ofGrown h3,fun k hk=>?_,_,cap,rfl⟩;simp only [Value.ownBlock,Zw] at hk;subst hk
   rcases h4 with h4 | h4
   ·exact .inl h4
   ·right;omega
theorem Xap {P:Program} {w:World} {ops:Array Oper} {rest:List Oper} {o:Oper} {a:Act} {Q:Exit→Act→World→Prop} (hgd:o.guard=none) (s x:Operand) (t:TypeId)
  (ho:o.op=.call { callee:=.builtin .append,args:=#[s,x],argTypes:=#[t,t] })
  (e:TypeId) (ht:P.underlying t=some (.slice e)) {z:Value} {size bytes:Nat} (hi:∃ i,P.info? e=some i∧i.zero=some z∧i.size=size∧i.bytes=bytes) (hzs:z.cells.size=size) (hsz:0<size)
  (v:Value) (n:Nat) (xs:List Value) (hs:a.eval s=v) (hown:w.ownsRow 0 e size v n xs) (so:Option Addr) (m c:Nat) (hx:a.eval x=.slice so m c) (news:List Value) (hl:news.length=m*size)
  (hcell:0<m→∃ ad,so=some ad∧∀ j u,news[j]?=some u→w.cell? (ad.add j)=some u) (h1:∀ u∈news,u.oneCell'=true) (hnm:n+m≤16777216) (hb:bytes≤1024)
  (h:∀ v' w',Grew w w' e size v v' (n+m) (xs++news)→wpList P ops Q rest (a.put o.dst v') w'):wpList P ops Q (o :: rest) a w :=
 wpList_plain hgd fun _ hK=>wp_grow s x t ho e ht hi hzs hsz v n xs hs hown so m c hx news hl hcell h1 hnm hb fun v' w' hg=>hK _ _ (h v' w' hg)
end Go.Proofs.YtiijokopcgnokaaGreat
namespace Go.Proofs.YtiijokopcgnokaaGreat
open Go Go.RowKit
def RowOn (w:World) (e:TypeId) (size:Nat) (v:Value) (n:Nat) (xs:List Value):Prop :=
  xs.length=n*size ∧
  ((v=.slice none 0 0∧n=0) ∨
   ∃ g cap cur,v=.slice (some ⟨g,0,none⟩) n cap∧Blk w g cur e∧n≤cap∧cap*size≤cur.length∧cur.take (n*size)=xs)
section
variable {w w' : World} {e : TypeId} {size n : Nat} {v : Value} {xs : List Value}
theorem RowOn.nil (w:World) (e:TypeId) (size:Nat):RowOn w e size (.slice none 0 0) 0 []:=⟨by simp,.inl ⟨rfl,rfl⟩⟩
theorem RowOn.later (h:RowOn w e size v n xs) {M:List Nat} (hO:Only M w w') (hM:∀ k,v.ownBlock=some k→k∉M):RowOn w' e size v n xs:=by
 refine ⟨h.1,?_⟩
 rcases h.2 with h2 | ⟨g,cap,cur,rfl,hb,r⟩
 ·exact .inl h2
 ·exact .inr ⟨g,cap,cur,rfl,hO.blk hb (hM g rfl),r⟩
theorem RowOn.past (h:RowOn w e size v n xs) (hO:Only [] w w'):RowOn w' e size v n xs:=h.later hO (by simp)
theorem RowOn.lt (h:RowOn w e size v n xs) {k:Nat} (hk:v.ownBlock=some k):k<w.heap.size:=by
 rcases h.2 with ⟨rfl,_⟩ | ⟨g,cap,cur,rfl,hb,_⟩
 ·cases hk
 ·simp only [Value.ownBlock,Zw] at hk
  subst hk;exact hb.lt
theorem RowOn.ne (h:RowOn w e size v n xs) {b:Nat} {cs:List Value} {t:TypeId} (hb:Blk w b cs t) (hne:t≠e):v.ownBlock≠some b:=fun hk=>by
 rcases h.2 with ⟨rfl,_⟩ | ⟨g,cap,cur,rfl,hg,_⟩
 ·cases hk
 ·simp only [Value.ownBlock,Zw] at hk
  subst hk;exact hb.ne hg hne rfl
theorem RowOn.shape (h:RowOn w e size v n xs):∃ ao cap,v=.slice ao n cap∧n≤cap∧(0<n→∃ g,ao=some ⟨g,0,none⟩∧∀ j,j<n*size→w.cell? ⟨g,j,none⟩=xs[j]?):=by
 rcases h.2 with ⟨rfl,rfl⟩ | ⟨g,cap,cur,rfl,hb,hc,hs,ht⟩
 ·exact ⟨none,0,rfl,Zq _,fun h0=>by omega⟩
 ·refine ⟨_,cap,rfl,hc,fun _=>⟨g,rfl,fun j hj=>?_⟩⟩
  rw [hb.cell,←ht,Yq,if_pos hj]
theorem RowOn.of (h:w.ownsRow 0 e size v n xs):RowOn w e size v n xs:=by
 refine ⟨h.1,?_⟩
 rcases h.2 with h2 | ⟨g,cap,cur,rfl,_,hg,hc,_,hs,ht⟩
 ·exact .inl h2
 ·exact .inr ⟨g,cap,cur.toList,rfl,by unfold Blk;rw [Array.toArray_toList];exact hg,hc,by rw [Array.length_toList,hs];exact Zq _,ht⟩
theorem RowOn.cut (h:RowOn w e size v n xs) {k:Nat} (hk:k≤n):∃ ao cap,v=.slice ao n cap∧k≤cap∧RowOn w e size (.slice ao k k) k (xs.take (k*size)):=by
 have hks:k*size≤n*size:=Wv size hk
 rcases h.2 with ⟨rfl,rfl⟩ | ⟨g,cap,cur,rfl,hb,hc,hs,ht⟩
 ·obtain rfl:k=0:=by omega
  exact ⟨none,0,rfl,Zq _,by simp,.inl ⟨rfl,rfl⟩⟩
 ·refine ⟨_,cap,rfl,by omega,by rw [Zj,h.1];omega,.inr ⟨g,k,cur,rfl,hb,Zq _,?_,?_⟩⟩
  ·have:=Wv size (show k≤cap by omega);omega
  ·rw [←ht,Wb,Yt hks]
structure GrewOn (w w':World) (e:TypeId) (size:Nat) (v v':Value) (n:Nat) (xs:List Value):Prop where
 own:RowOn w' e size v' n xs
 only:Only v.ownBlock.toList w w'
 lies:∀ k,v'.ownBlock=some k→v.ownBlock=some k∨w.heap.size≤k
end
theorem run_grow_on {P:Program} (w:World) (t ty e:TypeId) (i:TypeInfo) (z:Value) (ht:P.underlying t=some (.slice e)) (hi:P.info? e=some i) (hz:i.zero=some z) (hzs:z.cells.size=i.size)
  (v:Value) (n:Nat) (xs:List Value) (hown:RowOn w e i.size v n xs)
  (a:Addr) (m c:Nat) (news:List Value) (hl:news.length=m*i.size) (hnews:∀ j u,news[j]?=some u→w.cell? (a.add j)=some u) (h1:∀ u∈news,u.oneCell'=true)
  (hm:0<m) (h63:n+m≤maxLen) (hbytes:(n+m)*i.bytes≤140737488355328) :
  ∃ v' w',(Builtin.append_ #[t,t] ty #[v,.slice (some a) m c]).run P w=.ok v' w'∧GrewOn w w' e i.size v v' (n+m) (xs++news):=by
 have hsmall:n+m≤9223372036854775807:=by simp only [maxLen] at h63;omega
 have hlen:(xs++news).length=(n+m)*i.size:=by rw [Ze,hown.1,hl,Nat.add_mul]
 have grown:∀ (old:Nat),old<n+m→∀ (v0:Value),
   GrewOn w (w.drew.alloc (.cells (xs.toArray++news.toArray++Builtin.zeroCells z.cells (grownCap w (n+m) old e-(n+m))) e)) e i.size v0
    (.slice (some ⟨w.heap.size,0,none⟩) (n+m) (grownCap w (n+m) old e)) (n+m) (xs++news):=by
  intro old ho v0;have hge:=grownCap_ge w (n+m) old e;refine ⟨⟨hlen,.inr ⟨w.heap.size,_,_,rfl,Blk.new' _ _ w.drew rfl,hge,?_,?_⟩⟩,((Only.refl v0.ownBlock.toList w).drew).alloc _,fun k hk=>?_⟩
  ·simp only [Array.length_toList,Array.size_append,List.size_toArray,size_zeroCells,hzs,hown.1,hl,←Nat.add_mul]
   apply Nat.le_of_eq
   congr 1;omega
  ·simp only [Array.toList_append,Zu]
   rw [←Zu,←hlen];exact List.take_left
  ·simp only [Value.ownBlock,Zw] at hk
   right;omega
 rcases hown.2 with ⟨rfl,rfl⟩ | ⟨g,cap,cur,rfl,hb,hnc,hcs,htake⟩
 ·have hx:xs=[]:=Xd (by simpa using hown.1)
  subst hx;have hr:=run_append_nil (P:=P) w t ty e i z ht hi hz a m c news hl hnews (by omega) (by omega) (by have hb:=hbytes;simp only [Yd] at hb;omega)
  have hgr:=grown 0 (by omega) (.slice none 0 0);simp only [Yd,Ym,Array.empty_append] at hgr ⊢;exact ⟨_,_,hr,hgr⟩
 ·by_cases hroom:n+m≤cap
  ·have hle:(n+m)*i.size≤cap*i.size:=Wv _ hroom
   have hfit:n*i.size+news.length≤cur.toArray.size:=by rw [hl,←Nat.add_mul,List.size_toArray];omega
   have hr:=run_append_room (P:=P) w t ty e i ht hi g n cap cur.toArray hb a m c news hl hnews h1 hroom hfit;refine ⟨_,_,hr,⟨hlen,.inr ⟨g,cap,_,rfl,setRow_heap w g cur.toArray _ e _ hb,hroom,?_,?_⟩⟩,⟨rfl,rfl,rfl,by simp,fun k _ hk=>setRow_other w g k _ (fun e=>hk (by simp [Value.ownBlock,e]))⟩,fun k hk=>.inl hk⟩
   ·simp only [Ze,Zj,Zy]
    rw [List.size_toArray] at hfit;omega
   ·simp only
    rw [htake,←hlen];exact List.take_left
  ·have holds:∀ j u,xs[j]?=some u→w.cell? ((⟨g,0,none⟩:Addr).add j)=some u:=fun j u hu=>by
    have hadd:(⟨g,0,none⟩:Addr).add j=⟨g,j,none⟩:=by unfold Addr.add;split <;> simp_all
    rw [hadd,hb.cell];rw [←htake,Yq] at hu;split at hu
    ·exact hu
    ·cases hu
   have hr:=run_append_grow (P:=P) w t ty e i z ht hi hz ⟨g,0,none⟩ n cap xs hown.1 holds a m c news hl hnews (by omega) (by omega) (growslice_fits (by omega) hbytes);exact ⟨_,_,hr,grown cap (by omega) _⟩
theorem wp_on {P:Program} {w:World} {o:Oper} {a:Act} {K:Act→World→Prop} {Q:Exit→Act→World→Prop} (s x:Operand) (t:TypeId)
  (ho:o.op=.call { callee:=.builtin .append,args:=#[s,x],argTypes:=#[t,t] })
  (e:TypeId) (ht:P.underlying t=some (.slice e)) {z:Value} {size bytes:Nat} (hi:∃ i,P.info? e=some i∧i.zero=some z∧i.size=size∧i.bytes=bytes) (hzs:z.cells.size=size)
  (v:Value) (n:Nat) (xs:List Value) (hs:a.eval s=v) (hown:RowOn w e size v n xs) (so:Option Addr) (m c:Nat) (hx:a.eval x=.slice so m c) (news:List Value) (hl:news.length=m*size)
  (hcell:0<m→∃ ad,so=some ad∧∀ j u,news[j]?=some u→w.cell? (ad.add j)=some u) (h1:∀ u∈news,u.oneCell'=true) (hnm:n+m≤16777216) (hb:bytes≤1024)
  (h:∀ v' w',GrewOn w w' e size v v' (n+m) (xs++news)→(∃ ao cap,v'=.slice ao (n+m) cap)→K (a.put o.dst v') w'):o.wp P a w K Q:=by
 obtain ⟨i,hi,hz,hs1,hby⟩:=hi;subst hs1
 by_cases h0:m=0
 ·subst h0
  obtain rfl:news=[]:=Xd (by omega);obtain ⟨base,cap,rfl,hcap,_⟩:=hown.shape
  have hr:(Builtin.append_ #[t,t] o.type #[.slice base n cap,.slice so 0 c]).run P w=.ok (.slice base n cap) w :=
   run_append_nothing (P:=P) w t t o.type e i ht hi base n cap hcap _ (by
    cases so with
    | none=>exact Src.ofNil w ht c
    | some ad=>exact Src.ofSlice w ht ad 0 c [] (by simp) (fun j u hj=>by simp at hj) (fun u hu=>by cases hu))
  unfold Oper.wp execOp;simp only [ho,resolve,invoke,builtin,Sem.run_bind,Sem.run_pure,Result.andThen_ok,List.map_toArray,Zx,Wu,hs,hx,hr];exact h (.slice base n cap) w ⟨by simpa using hown,Only.refl _ _,fun k hk=>.inl hk⟩ ⟨base,cap,rfl⟩
 ·obtain ⟨ad,rfl,hnews⟩:=hcell (by omega)
  obtain ⟨v',w',hr,hg⟩:=run_grow_on (P:=P) w t o.type e i z ht hi hz hzs v n xs hown ad m c news hl hnews h1 (by omega) (by unfold maxLen;omega) (by
   rw [hby]
   calc (n+m)*bytes≤16777216*1024:=Nat.mul_le_mul hnm hb
    _≤_:=by omega)
  unfold Oper.wp execOp;simp only [ho,resolve,invoke,builtin,Sem.run_bind,Sem.run_pure,Result.andThen_ok,List.map_toArray,Zx,Wu,hs,hx,hr];obtain ⟨ao,cap,e1,_⟩:=hg.own.shape;exact h v' w' hg ⟨ao,cap,e1⟩
theorem Xlc {P:Program} {w:World} {ops:Array Oper} {rest:List Oper} {o:Oper} {a:Act} {Q:Exit→Act→World→Prop} (hgd:o.guard=none) (s x:Operand) (t:TypeId)
  (ho:o.op=.call { callee:=.builtin .append,args:=#[s,x],argTypes:=#[t,t] })
  (e:TypeId) (ht:P.underlying t=some (.slice e)) {z:Value} {size bytes:Nat} (hi:∃ i,P.info? e=some i∧i.zero=some z∧i.size=size∧i.bytes=bytes) (hzs:z.cells.size=size)
  (v:Value) (n:Nat) (xs:List Value) (hs:a.eval s=v) (hown:RowOn w e size v n xs) (so:Option Addr) (m c:Nat) (hx:a.eval x=.slice so m c) (news:List Value) (hl:news.length=m*size)
  (hcell:0<m→∃ ad,so=some ad∧∀ j u,news[j]?=some u→w.cell? (ad.add j)=some u) (h1:∀ u∈news,u.oneCell'=true) (hnm:n+m≤16777216) (hb:bytes≤1024)
  (h:∀ v' w',GrewOn w w' e size v v' (n+m) (xs++news)→(∃ ao cap,v'=.slice ao (n+m) cap)→wpList P ops Q rest (a.put o.dst v') w'):wpList P ops Q (o :: rest) a w :=
 wpList_plain hgd fun _ hK=>wp_on s x t ho e ht hi hzs v n xs hs hown so m c hx news hl hcell h1 hnm hb fun v' w' hg hsh=>hK _ _ (h v' w' hg hsh)
end Go.Proofs.YtiijokopcgnokaaGreat
