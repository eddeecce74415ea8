/-
  What the pages have behind the pool's calls; when a frame can be had.
-/
import Derived.Test.YtmgifohjoakdjaaPoolH
namespace Go.Proofs.Ytmgifohjoakdjaa.P
set_option linter.unusedSimpArgs false
open Go Go.RowKit Go.Proofs.Ytmgifohjoakdjaa Go.Proofs.Ytmgifohjoakdjaa.D Go.Proofs.Ytmgifohjoakdjaa.B
set_option linter.unusedVariables false
variable {w w' : World} {p d ub hm pm asked k : Nat} {MD M : List Nat} {L : List Pl} {S : PS}

/-! ### pages -/
theorem page_of {H : List Fr} {s : DS} {first frames n : Nat} {u : List Bool} (hn : (H.map (·.id)).Nodup) {f : Fr} (hf : f ∈ H) : (⟨s, first, frames, u, H, n⟩ : PS).page f.id = f.b := PS.page_in (S := ⟨s, first, frames, u, H, n⟩) hn hf
theorem Frees.page {r : Int} {S1 : PS} (h : Frees S r S1) (hf : S.Fine k) (hl : S.first + S.used.length ≤ S.d.now.length) (j : Nat) : S1.page j = S.page j := by
  cases h with
  | room => rfl
  | none => rfl
  | one h f hm hr =>
    have hn1 : ((S.giveUp f).held.map (·.id)).Nodup := (hf.giveUp f).once
    by_cases hj : j = f.id
    · subst hj
      have e1 : (S.giveUp f).page f.id = (S.giveUp f).d.now.getD (S.first + f.id) [] := PS.page_out (fun x hx => by have := (List.mem_filter.1 hx).2; simpa using this)
      rw [e1, PS.page_in hf.once hm]
      unfold PS.giveUp
      cases hd : f.dirty with
      | false => exact hf.clean f hm hd
      | true =>
        show (S.d.now.set (S.first + f.id) f.b).getD (S.first + f.id) [] = f.b
        exact getD_set_self _ _ _ _ (by have := hf.ids f hm; omega)
    · by_cases hg : ∃ g ∈ S.held, g.id = j
      · obtain ⟨g, hg, rfl⟩ := hg
        have hg2 : g ∈ (S.giveUp f).held := List.mem_filter.2 ⟨hg, by simpa using hj⟩
        rw [PS.page_in hn1 hg2, PS.page_in hf.once hg]
      · have hno : ∀ g ∈ S.held, g.id ≠ j := fun g h1 h2 => hg ⟨g, h1, h2⟩
        rw [PS.page_out hno, PS.page_out (S := S.giveUp f) (fun g h1 => hno g (List.mem_filter.1 h1).1)]
        unfold PS.giveUp
        cases hd : f.dirty with
        | false => rfl
        | true =>
          show (S.d.now.set (S.first + f.id) f.b).getD (S.first + j) [] = _
          exact getD_set_ne _ _ _ _ _ (by omega)
theorem setF_ids (S : PS) (f : Fr) : (S.setF f).held.map (·.id) = S.held.map (·.id) := by
  show (S.held.map _).map _ = _
  rw [List.map_map]
  apply List.map_congr_left
  intro x _
  show (if x.id = f.id then f else x).id = x.id
  split
  · next e => exact e.symm
  · rfl
theorem setF_page (hn : (S.held.map (·.id)).Nodup) {f f0 : Fr} (hf : f0 ∈ S.held) (hi : f0.id = f.id) (j : Nat) : (S.setF f).page j = if j = f.id then f.b else S.page j := by
  have hn1 : ((S.setF f).held.map (·.id)).Nodup := by rw [setF_ids]; exact hn
  by_cases hj : j = f.id
  · rw [if_pos hj, hj]
    exact PS.page_in hn1 (List.mem_map.2 ⟨f0, hf, if_pos hi⟩)
  · rw [if_neg hj]
    by_cases hg : ∃ g ∈ S.held, g.id = j
    · obtain ⟨g, hg, rfl⟩ := hg
      rw [PS.page_in hn hg, PS.page_in hn1 (List.mem_map.2 ⟨g, hg, if_neg hj⟩)]
    · have hno : ∀ g ∈ S.held, g.id ≠ j := fun g h1 h2 => hg ⟨g, h1, h2⟩
      rw [PS.page_out hno, PS.page_out (S := S.setF f) (fun g h1 => ?_)]
      · rfl
      · obtain ⟨x, hx, rfl⟩ := List.mem_map.1 h1
        split
        · exact fun e => hj e.symm
        · exact hno x hx
theorem addF_page {f : Fr} (hn : ((S.held ++ [f]).map (·.id)).Nodup) (j : Nat) : ({ S with held := S.held ++ [f] } : PS).page j = if j = f.id then f.b else S.page j := by
  have hn0 : (S.held.map (·.id)).Nodup := by rw [List.map_append] at hn; exact (List.nodup_append.1 hn).1
  by_cases hj : j = f.id
  · rw [if_pos hj, hj]
    exact PS.page_in (S := { S with held := S.held ++ [f] }) hn (by simp)
  · rw [if_neg hj]
    by_cases hg : ∃ g ∈ S.held, g.id = j
    · obtain ⟨g, hg, rfl⟩ := hg
      rw [PS.page_in hn0 hg, PS.page_in (S := { S with held := S.held ++ [f] }) hn (f := g) (by simp [hg])]
    · have hno : ∀ g ∈ S.held, g.id ≠ j := fun g h1 h2 => hg ⟨g, h1, h2⟩
      rw [PS.page_out hno, PS.page_out (S := { S with held := S.held ++ [f] }) (fun g h1 => ?_)]
      rcases List.mem_append.1 h1 with h1 | h1
      · exact hno g h1
      · simp at h1; subst h1; exact fun e => hj e.symm
theorem more_once {f : Fr} (hn : (S.held.map (·.id)).Nodup) (h : ∀ x ∈ S.held, x.id ≠ f.id) : ((S.held ++ [f]).map (·.id)).Nodup := by
  rw [List.map_append, List.nodup_append]
  refine ⟨hn, by simp, ?_⟩
  intro a ha b hb
  obtain ⟨x, hx, rfl⟩ := List.mem_map.1 ha
  simp at hb
  subst hb
  exact h x hx
theorem Lays.page {id : Nat} {b : List UInt8} {lsn : Nat} {S' : PS} (h : Lays S id b lsn 0 S') (hf : S.Fine k) (j : Nat) : S'.page j = if j = id then b else S.page j := by
  cases h with
  | held f hm hi => exact setF_page hf.once hm hi j
  | more hi hfr =>
    rename_i S1
    have h1 := addF_page (S := S1) (f := ⟨id, b, lsn, true⟩) (more_once (hfr.fine hf).once (fun x hx => hi x (hfr.held x hx))) j
    rw [h1, hfr.page hf hf.room]
theorem Holds.page {id : Nat} {r : Int} {S' : PS} (h : Holds S id r S') (hf : S.Fine k) (j : Nat) : S'.page j = S.page j := by
  cases h with
  | held f hm hi => rfl
  | full hi hfr => rfl
  | more hi hfr =>
    rename_i S1
    have h1 := addF_page (S := S1) (f := ⟨id, S.page id, 0, false⟩) (more_once (hfr.fine hf).once (fun x hx => hi x (hfr.held x hx))) j
    rw [h1, hfr.page hf hf.room]
    by_cases hj : j = id
    · rw [if_pos hj, hj]
    · rw [if_neg hj]
theorem Holds.same {id : Nat} {r : Int} {S' : PS} (h : Holds S id r S') : S'.used = S.used ∧ S'.first = S.first ∧ S'.frames = S.frames ∧ S'.durable = S.durable := by
  cases h with
  | held f hf hi => exact ⟨rfl, rfl, rfl, rfl⟩
  | full hi h => exact ⟨rfl, rfl, rfl, rfl⟩
  | more hi h => exact h.same

/-! ### all frames may be given up -/
def PS.Easy (S : PS) : Prop := ∀ f ∈ S.held, f.free S.durable = true
theorem Frees.easy {r : Int} {S1 : PS} (h : Frees S r S1) (hf : S.Fine k) (he : S.Easy) : r = 0 ∧ S1.Easy := by
  cases h with
  | room => exact ⟨rfl, he⟩
  | none h1 h2 =>
    have h3 := hf.frames.1
    cases hh : S.held with
    | nil => rw [hh] at h1; simp at h1; omega
    | cons f l =>
      have h4 := h2 f (by rw [hh]; simp)
      rw [he f (by rw [hh]; simp)] at h4; cases h4
  | one h1 f hm hr => exact ⟨rfl, fun x hx => he x (List.mem_filter.1 hx).1⟩
theorem Lays.easy {id : Nat} {b : List UInt8} {lsn : Nat} {r : Int} {S' : PS} (h : Lays S id b lsn r S') (hf : S.Fine k) (he : S.Easy) (hl : lsn ≤ S.durable) : r = 0 ∧ S'.Easy := by
  cases h with
  | held f hm hi =>
    obtain ⟨n', hn', hle⟩ : ∃ n', (if f.dirty = true then max lsn f.lsn else lsn) = n' ∧ n' ≤ S.durable := by
      refine ⟨_, rfl, ?_⟩
      have := he f hm
      unfold Fr.free at this
      cases hd : f.dirty with
      | false => simpa using hl
      | true =>
        rw [hd] at this
        simp at this
        simp
        omega
    rw [hn']
    refine ⟨rfl, fun x hx => ?_⟩
    obtain ⟨y, hy, rfl⟩ := List.mem_map.1 hx
    by_cases hyi : y.id = id
    · rw [if_pos hyi]
      show (!(true && decide (S.durable < n'))) = true
      simp
      omega
    · rw [if_neg hyi]; exact he y hy
  | full hi hfr => exact absurd (hfr.easy hf he).1 (by decide)
  | more hi hfr =>
    refine ⟨rfl, fun x hx => ?_⟩
    have hd := hfr.same.2.2.2
    rcases List.mem_append.1 hx with hx | hx
    · exact (hfr.easy hf he).2 x hx
    · simp at hx
      subst hx
      unfold Fr.free
      show (!(true && decide (_ < lsn))) = true
      rw [hd]
      simp
      omega
theorem Holds.easy {id : Nat} {r : Int} {S' : PS} (h : Holds S id r S') (hf : S.Fine k) (he : S.Easy) : r = 0 ∧ S'.Easy := by
  cases h with
  | held f hm hi => exact ⟨rfl, he⟩
  | full hi hfr => exact absurd (hfr.easy hf he).1 (by decide)
  | more hi hfr =>
    refine ⟨rfl, fun x hx => ?_⟩
    rcases List.mem_append.1 hx with hx | hx
    · exact (hfr.easy hf he).2 x hx
    · simp at hx
      subst hx
      rfl

/-! ### the helper's Bytes -/
theorem bytesf_any {w : World} {x y : Value} {a b : List UInt8} (hx : BytesAt w x a) (hy : BytesAt w y b) :
    Calls Try.prog 12 #[x, y] w fun e w' => e = .returned (.bool (a == b)) ∧ w = w' := by
  have c1 := bytes_string hx
  have c2 := bytes_string hy
  go_enter Try.func12, Try.ntmps12
  go_wp2
  go_ret
  exact ⟨rfl, rfl⟩
end Go.Proofs.Ytmgifohjoakdjaa.P
