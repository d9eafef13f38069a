/-
  A REGION THAT DRAWS ITS ORDER, walked.
-/
import Derived.Test.YtlecfiofljigbaaA15
set_option linter.unusedSimpArgs false
set_option linter.unusedVariables false
set_option linter.unnecessarySimpa false
set_option linter.unusedSectionVars false
namespace Go.Abs
open Go.RowKit

section
variable {D : Type} {P : Program} {cfg : D → HRep} {C : CallT D} {ext : FuncId → Option Ext1} {n : Nat}

theorem reads_op {i : AIns} {x : Opd} (hx : x ∈ i.op.opds) {tm tm' : Nat → Value} (h : ∀ t ∈ i.reads, tm t = tm' t) : x.ev tm = x.ev tm' := by
  cases x with
  | t k => exact h k (by
      unfold AIns.reads
      exact List.mem_append_left _ (List.mem_flatMap.2 ⟨.t k, hx, by simp [Opd.tmp?]⟩))
  | k v => rfl
  | f g => rfl

theorem reads_guard {i : AIns} {t : Nat} {want : Bool} (hg : i.guard = some (t, want)) {tm tm' : Nat → Value} (h : ∀ t ∈ i.reads, tm t = tm' t) : tm t = tm' t := by
  exact h t (by unfold AIns.reads; rw [hg]; simp)

/-- What has been yielded is yielded again, where nothing that it reads has turned. -/
theorem again_congr {i : AIns} {tm tm' : Nat → Value} {H : AH D} (h : i.again tm H) (hr : ∀ t ∈ i.reads, tm' t = tm t) (hd : ∀ d, i.dst = some d → tm' d = tm d) : i.again tm' H := by
  unfold AIns.again at h ⊢
  split at h
  · rename_i d op hdst hop
    try rw [hdst, hop]
    try simp only
    have hs : op.step tm' H = op.step tm H := step_congr (fun x hx => reads_op (i := i) (by rw [hop]; exact hx) hr) H
    split at h
    · rename_i hg
      try rw [hg]
      try simp only
      rw [hs, hd d hdst]; exact h
    · rename_i t want hg
      try rw [hg]
      try simp only
      rw [reads_guard hg hr, hs, hd d hdst]
      exact h
  · exact h.elim

theorem again_heap {i : AIns} {tm : Nat → Value} {H H' : AH D} (h : i.again tm H) (hp : ∃ o, i.op = .op o ∧ o.pureB = true) : i.again tm H' := by
  obtain ⟨o, ho, hp⟩ := hp
  unfold AIns.again at h ⊢
  split at h
  · rename_i d op hdst hop
    try rw [hdst, hop]
    rw [ho] at hop
    cases hop
    try simp only
    split at h
    · rename_i hg
      try rw [hg]
      exact (pure_any hp h).2 H'
    · rename_i t want hg
      try rw [hg]
      try simp only
      split at h
      · rename_i b hb
        try rw [hb]
        try simp only
        split at h
        · rename_i hbw; try rw [if_pos hbw]
          exact (pure_any hp h).2 H'
        · rename_i hbw; try rw [if_neg hbw]
          exact h
      · exact h.elim
  · exact h.elim

/-- A quiet operation of the plain form: its slot is written; it yields it again. -/
theorem quiet_wp {i : AIns} (hq : i.op.quietB = true) {d : Nat} (hd : i.dst = some d) (hself : d ∉ i.reads) {tm : Nat → Value} {H : AH D} {K : (Nat → Value) → AH D → Prop} {E : Value → AH D → Prop} (h : i.wp C tm H K E) :
    ∃ v, K (upd tm d v) H ∧ i.again (upd tm d v) H := by
  obtain ⟨op, hop, hpr⟩ := quiet_same hq
  have hsame : ∀ {v H1}, op.step tm H = some (v, H1) → H1 = H := fun h => by
    rcases hpr with hp | hp
    · exact (pure_any hp h).1
    · exact read_same hp h
  have hne : ∀ (v : Value) (t : Nat), t ∈ i.reads → upd tm d v t = tm t := fun v t ht => by
    unfold upd
    rw [if_neg (by rintro rfl; exact hself ht)]
  have hst : ∀ v, op.step (upd tm d v) H = op.step tm H := fun v => step_congr (fun x hx => reads_op (i := i) (by rw [hop]; exact hx) (hne v)) H
  unfold AIns.wp at h
  split at h
  · rename_i hg
    rw [hop] at h
    simp only [AK.wp] at h
    split at h
    · rename_i v H1 hs
      have := hsame hs
      subst this
      refine ⟨v, by simpa [hd, putD] using h, ?_⟩
      unfold AIns.again
      rw [hd, hop, hg]
      simp only
      rw [hst, hs]
      simp [upd]
    · exact h.elim
  · rename_i t want hg
    split at h
    case h_2 => exact h.elim
    rename_i b hb
    have hgt : ∀ v, upd tm d v t = .bool b := fun v => by
      rw [hne v t (by unfold AIns.reads; rw [hg]; simp)]; exact hb
    split at h
    · rename_i hbw
      rw [hop] at h
      simp only [AK.wp] at h
      split at h
      · rename_i v H1 hs
        have := hsame hs
        subst this
        refine ⟨v, by simpa [hd, putD] using h, ?_⟩
        unfold AIns.again
        rw [hd, hop, hg]
        simp only
        rw [hgt, hst, hs]
        simp [upd, hbw]
      · exact h.elim
    · rename_i hbw
      refine ⟨undef, by simpa [hd, putD] using h, ?_⟩
      unfold AIns.again
      rw [hd, hop, hg]
      simp only
      rw [hgt]
      simp [upd, hbw]

/-- What an operation comes to hangs on what it reads. -/
theorem wp_congr {i : AIns} {tm tm2 : Nat → Value} (hr : ∀ t ∈ i.reads, tm t = tm2 t) {H : AH D} {K : (Nat → Value) → AH D → Prop} {E : Value → AH D → Prop} (mono : ∀ f args H (K K' : AEnd → AH D → Prop), (∀ r H', K r H' → K' r H') → C f args H K → C f args H K') (h : i.wp C tm H K E) :
    i.wp C tm2 H (fun tm' H' => ∃ v, tm' = putD i.dst tm2 v ∧ K (putD i.dst tm v) H') E := by
  have hk : ∀ (K1 K2 : Value → AH D → Prop), (∀ v H', K1 v H' → K2 v H') → i.op.wp C tm H K1 E → i.op.wp C tm2 H K2 E := by
    intro K1 K2 h12 hw
    have ho : ∀ x ∈ i.op.opds, x.ev tm = x.ev tm2 := fun x hx => reads_op hx hr
    unfold AK.wp at hw ⊢
    split at hw
    · rename_i f args hop
      rw [hop] at ho
      try rw [hop]
      simp only [AK.opds, List.mem_cons, forall_eq_or_imp] at ho
      try simp only
      rw [← ho.1]
      have ha : args.map (·.ev tm2) = args.map (·.ev tm) := List.map_congr_left fun x hx => (ho.2 x hx).symm
      split at hw
      · rename_i g x y he
        try rw [he]
        try simp only
        rw [ha]
        refine mono _ _ _ _ _ (fun r H' hh => ?_) hw
        cases r with
        | ret v => exact h12 _ _ hh
        | pan v => exact hh
      · exact hw.elim
    · rename_i x hop
      rw [hop] at ho
      try rw [hop]
      simp only [AK.opds, List.mem_cons, List.not_mem_nil, or_false, forall_eq] at ho
      try simp only
      rw [← ho]; exact hw
    · rename_i op hop
      rw [hop] at ho
      try rw [hop]
      try simp only
      rw [← step_congr ho H]
      split at hw
      · rename_i v H' hs; try rw [hs]
        exact h12 _ _ hw
      · exact hw.elim
  unfold AIns.wp at h ⊢
  split at h
  · rename_i hg
    try rw [hg]
    exact hk _ _ (fun v H' hh => ⟨v, rfl, hh⟩) h
  · rename_i t want hg
    try rw [hg]
    try simp only
    rw [← reads_guard hg hr]
    split at h
    · rename_i b hb
      try rw [hb]
      try simp only
      split at h
      · rename_i hbw; try rw [if_pos hbw]
        exact hk _ _ (fun v H' hh => ⟨v, rfl, hh⟩) h
      · rename_i hbw; try rw [if_neg hbw]
        exact ⟨undef, rfl, h⟩
    · exact h.elim

/-- A quiet operation that yields what it has yielded, as a condition. -/
theorem again_wp {i : AIns} {d : Nat} (hd : i.dst = some d) {tm : Nat → Value} {H : AH D} (h : i.again tm H) {K : (Nat → Value) → AH D → Prop} {E : Value → AH D → Prop} (hK : K (upd tm d (tm d)) H) : i.wp C tm H K E := by
  unfold AIns.again at h
  rw [hd] at h
  split at h
  · rename_i d' op hdd hop
    cases hdd
    unfold AIns.wp
    rw [hop]
    split at h
    · rename_i hg
      try rw [hg]
      simp only [AK.wp, h, hd, putD]
      exact hK
    · rename_i t want hg
      try rw [hg]
      try simp only
      split at h
      · rename_i b hb
        try rw [hb]
        try simp only
        split at h
        · rename_i hbw
          try rw [if_pos hbw]
          simp only [AK.wp, h, hd, putD]
          exact hK
        · rename_i hbw
          try rw [if_neg hbw]
          rw [h] at hK
          simpa [hd, putD] using hK
      · exact h.elim
  · exact h.elim

end
end Go.Abs
