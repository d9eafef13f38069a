/-
  A STEP OF THE PLAIN FORM IS A STEP OF THE LOADED PROGRAM.
-/
import Derived.Test.YtlecfiofljigbaaA10
set_option linter.unusedSimpArgs false
set_option linter.unusedVariables false
set_option linter.unnecessarySimpa false
set_option linter.unusedSectionVars false
namespace Go.Abs
open Go.RowKit

section
variable {D : Type} {P : Program} {cfg : D → HRep} {ρ : Env} {own : Nat → Nat → Prop} {H : AH D} {w : World} {n : Nat} {tm : Nat → Value} {a : Act} {ext : FuncId → Option Ext1}

theorem faddr_ok (htm : TmRel ρ n tm a.tmps) (hr : Rel P cfg ρ own H w) {s : TypeId} {x : Operand} {f : Nat} {fs : Array Field} (hu : P.underlying s = some (.struct fs)) {g : Field} (hg : fs[f]? = some g) {z : Nat} (hz : szOf P g.type = some z) (hz0 : z ≠ 0)
    {y : Opd} (hy : opdOf n x = some y) {o : Oper} (ho : o.op = .fieldAddr s x f) {k off : Nat} (he : y.ev tm = .pointer (some ⟨k, off, none⟩)) : StepOk P cfg ρ own w ((execOp a.eval o).run P w) (.pointer (some ⟨k, off + g.offset, none⟩)) H := by
  have hv := opd_ok htm hy
  rw [he] at hv
  obtain ⟨l, e1, e2⟩ := hv.ptr_inv
  refine StepOk.pure hr (v' := .pointer (some ⟨l.b, l.base + off + g.offset, none⟩)) ?_ (by
    have := VR.ptr (ρ := ρ) k (off + g.offset) l e1
    rwa [← Nat.add_assoc] at this)
  simp only [execOp, ho]
  refine exec_v ?_ ()
  simp only [Instr.fieldAt, Sem.run_bind, und_run hu, Result.andThen_ok, hg, e2, Instr.sureAddr, Sem.run_pure, fieldPlace, size_run hz, if_neg hz0, Addr.add_lit]

theorem lookup_ok (htm : TmRel ρ n tm a.tmps) (hr : Rel P cfg ρ own H w) {t kt et : TypeId} (hu : P.underlying t = some (.map kt et)) {s : Bool} (hk : keyKind P kt = some s) {z : Value} (hz : zeroOf P et = some z) {m k : Operand} {m' k' : Opd}
    (hm : opdOf n m = some m') (hkk : opdOf n k = some k') {ok : Bool} {o : Oper} (ho : o.op = .lookup t m k ok) {v : Value} {H' : AH D} (hs : (AOp.lookup s z ok m' k').step tm H = some (v, H')) :
    StepOk P cfg ρ own w ((execOp a.eval o).run P w) v H' := by
  obtain ⟨d, hd, hkd⟩ := key_desc hk
  obtain ⟨z1, z2, z3, _⟩ := zero_run hz w
  have hmv := opd_ok htm hm
  have hkv := opd_ok htm hkk
  have hzz := VR.of_ground ρ z z2
  have fin : ∀ (q q' : Option Value), (match q, q' with | some x, some x' => VR ρ x x' | none, none => True | _, _ => False) →
      (Instr.lookup t (a.eval m) (a.eval k) ok).run P w = .ok (match q' with | some x => (if ok then .tuple #[x, .bool true] else x) | none => (if ok then .tuple #[z, .bool false] else z)) w →
      StepOk P cfg ρ own w ((execOp a.eval o).run P w) (lookV z ok q) H := by
    intro q q' hq hL
    refine StepOk.pure hr (by simp only [execOp, ho]; exact exec_v hL ()) ?_
    cases q <;> cases q' <;> simp only at hq
    · cases ok
      · exact hzz
      · exact .tuple _ _ (.cons _ _ _ _ hzz (.cons _ _ _ _ (.bool _) .nil))
    · cases ok
      · exact hq
      · exact .tuple _ _ (.cons _ _ _ _ hq (.cons _ _ _ _ (.bool _) .nil))
  have hchk : ∀ b, (Instr.checkKey b 10000 kt (a.eval k)).run P w = .ok () w := fun b => check_ok (P := P) hd hkd b (a.eval k) w
  simp only [AOp.step] at hs
  split at hs
  · rename_i he
    simp only [Option.some.injEq, Prod.mk.injEq] at hs
    obtain ⟨rfl, rfl⟩ := hs
    rw [he] at hmv
    refine fin none none trivial ?_
    generalize a.eval m = M at hmv ⊢
    generalize a.eval k = K at hchk ⊢
    cases hmv
    cases ok <;> simp [Instr.lookup, und_run hu, hchk, Instr.findKey, und_run hd, Instr.findNow, z1]
  · rename_i r he
    split at hs
    case h_2 => cases hs
    rename_i es c hmap
    simp only [Option.map_eq_some_iff] at hs
    obtain ⟨q, hq, hs⟩ := hs
    rw [he] at hmv
    obtain ⟨hg, l, es', e1, e2, e3, e4⟩ := hr.mapAt hmap
    obtain ⟨l', e1', hx⟩ := hmv.map_inv
    rw [e1] at e1'; cases e1'
    have hf := find_ok hkd hkv e4 0 q hq
    cases q with
    | none =>
      simp only [Prod.mk.injEq] at hs
      obtain ⟨rfl, rfl⟩ := hs
      refine fin none none trivial ?_
      rw [hx]
      simp only at hf
      generalize a.eval k = K at hchk hf ⊢
      cases ok <;> simp [Instr.lookup, und_run hu, hchk, Instr.findKey, und_run hd, hf, z1, getObj, Sem.run, e3]
    | some x =>
      simp only [Prod.mk.injEq] at hs
      obtain ⟨rfl, rfl⟩ := hs
      obtain ⟨j, x', hj, hxx⟩ := hf
      refine fin (some x) (some x') hxx ?_
      rw [hx]
      generalize a.eval k = K at hchk hj ⊢
      cases ok <;> simp [Instr.lookup, und_run hu, hchk, Instr.findKey, und_run hd, hj, getObj, Sem.run, e3]
  · cases hs

theorem bytes_beq (b : ByteArray) : (b == b) = true := by rw [beq_toListBytes]; simp

theorem mapupd_ok (htm : TmRel ρ n tm a.tmps) (hr : Rel P cfg ρ own H w) {t kt et : TypeId} (hu : P.underlying t = some (.map kt et)) {s : Bool} (hk : keyKind P kt = some s) {m k v : Operand} {m' k' v' : Opd}
    (hm : opdOf n m = some m') (hkk : opdOf n k = some k') (hv : opdOf n v = some v') {o : Oper} (ho : o.op = .mapUpdate t m k v ∨ o.op = .insert t m k v) {u : Value} {H' : AH D} (hs : (AOp.mapupd s m' k' v').step tm H = some (u, H')) :
    StepOk P cfg ρ own w ((execOp a.eval o).run P w) u H' := by
  obtain ⟨d, hd, hkd⟩ := key_desc hk
  have hmv := opd_ok htm hm
  have hkv := opd_ok htm hkk
  have hvv := opd_ok htm hv
  simp only [AOp.step] at hs
  split at hs
  case h_2 => cases hs
  rename_i r he
  split at hs
  case h_2 => cases hs
  rename_i es c hmap
  simp only [Option.map_eq_some_iff, Prod.mk.injEq] at hs
  obtain ⟨x, hx, rfl, rfl⟩ := hs
  rw [he] at hmv
  obtain ⟨hg, l, es', e1, e2, e3, e4⟩ := hr.mapAt hmap
  obtain ⟨l', e1', hxm⟩ := hmv.map_inv
  rw [e1] at e1'; cases e1'
  have hchk := check_ok (P := P) hd hkd false (a.eval k) w
  have hex : ∀ w', (Instr.mapUpdate t (a.eval m) (a.eval k) (a.eval v)).run P w = .ok () w' → (execOp a.eval o).run P w = .ok .skip w' := by
    intro w' h
    rcases ho with ho | ho
    · simp only [execOp, ho]; exact exec_u h
    · simp only [execOp, ho]; exact exec_u h
  rcases put_ok hkd hkv hvv c e4 0 x hx with ⟨f1, f2, f3⟩ | ⟨j, y, f1, ⟨e, g1, g2⟩, f2, f3⟩
  · obtain ⟨q1, q2⟩ := hr.setMap (c' := x.2) hg e1 (es' := es'.push ⟨a.eval k, a.eval v, c⟩) (by simpa using f2)
    refine ⟨undef, _, ρ, own, .inr ⟨hex _ ?_, rfl⟩, q1, VR.undef ρ, q2⟩
    rw [hxm]
    generalize a.eval k = K at *
    simp [Instr.mapUpdate, und_run hu, getObj, setObj, Sem.run, e3, hchk, Instr.findKey, und_run hd, f1, f3]
  · obtain ⟨q1, q2⟩ := hr.setMap (c' := x.2) hg e1 (es' := es'.modify j fun e => { e with key := a.eval k, val := a.eval v }) (by simpa using f2)
    have hkind : (∃ j a', a.eval k = .int j a') ∨ (∃ b, a.eval k = .string b) := by
      simp only [Nat.zero_add] at f1
      have : ∃ e0 q, Instr.sameNow d (a.eval k) e0 = some q := by
        cases hes : es'.toList with
        | nil => rw [hes] at f1; simp [Instr.findNow] at f1
        | cons e0 l0 =>
          rw [hes] at f1
          unfold Instr.findNow at f1
          split at f1
          · exact ⟨_, _, ‹_›⟩
          · exact ⟨_, _, ‹_›⟩
          · cases f1
      obtain ⟨e0, q, hq⟩ := this
      generalize a.eval k = K at hq ⊢
      unfold Instr.sameNow at hq
      split at hq
      · exact .inl ⟨_, _, rfl⟩
      · exact .inr ⟨_, rfl⟩
      · rename_i h; exfalso; cases s
        · obtain ⟨kk, hh⟩ := hkd; cases hh
        · cases hkd
      · cases hq
    have hsb : ∀ mm, Instr.sameBits mm (a.eval k) (a.eval k) = true := fun mm => by
      rcases hkind with ⟨j, a', e⟩ | ⟨b, e⟩
      · rw [e]; cases mm <;> simp [Instr.sameBits]
      · rw [e]; cases mm <;> simp [Instr.sameBits, bytes_beq]
    refine ⟨undef, _, ρ, own, .inr ⟨hex _ ?_, rfl⟩, q1, VR.undef ρ, q2⟩
    rw [hxm]
    have g1' : es'[j]? = some e := by simpa using g1
    simp only [Nat.zero_add] at f1
    generalize a.eval k = K at *
    simp [Instr.mapUpdate, und_run hu, getObj, setObj, Sem.run, e3, hchk, Instr.findKey, und_run hd, f1, f3, g1', g2, Instr.keyThatStays, hsb]

theorem mkslice_ok (htm : TmRel ρ n tm a.tmps) (hr : Rel P cfg ρ own H w) {t e : TypeId} (ht : P.underlying t = some (.slice e)) {i : TypeInfo} (hi : P.info? e = some i) {z : Value} (hz : zeroOf P e = some z) {l c : Operand} {l' c' : Opd} (hl : opdOf n l = some l') (hc : opdOf n c = some c')
    {o : Oper} (ho : o.op = .makeSlice t l c) {v : Value} {H' : AH D} (hs : (AOp.mkslice e z.cells.toList i.bytes l' c').step tm H = some (v, H')) : StepOk P cfg ρ own w ((execOp a.eval o).run P w) v H' := by
  have hlv := opd_ok htm hl
  have hcv := opd_ok htm hc
  obtain ⟨_, z2, z3, z4⟩ := zero_run hz w
  have hzs : z.cells.size = i.size := by simpa [szOf, hi] using z4.symm
  have hz0 : i.zero = some z := by
    simp only [zeroOf, Option.bind_eq_some_iff] at hz
    obtain ⟨i', hi', z', hz', hcc⟩ := hz
    rw [hi] at hi'; cases hi'
    split at hcc
    · cases hcc; exact hz'
    · cases hcc
  simp only [AOp.step] at hs
  split at hs
  case h_2 => cases hs
  rename_i kl lv kc cv he1 he2
  split at hs
  case isFalse => cases hs
  rename_i hb
  simp only [Option.some.injEq, Prod.mk.injEq] at hs
  obtain ⟨rfl, rfl⟩ := hs
  rw [he1] at hlv; rw [he2] at hcv
  have hmk := run_make (P := P) w t e i z ht hi hz0 kl kc lv cv hb.1 hb.2.1 (by omega) hb.2.2.2
  have hcells : (madeCells z.cells (cv.toNat * i.size)).toList = (List.replicate cv.toNat z.cells.toList).flatten := by
    rw [← cells_rep z.cells cv.toNat i.size hzs]; rfl
  obtain ⟨ρ', own', e1, e2, e3⟩ := hr.newRow (cfg := cfg) e (cs := (List.replicate cv.toNat z.cells.toList).flatten) (cs' := madeCells z.cells (cv.toNat * i.size)) (by rw [← hcells]; simp) (VRs.take_all (by rw [hcells]; exact rep_ground z2 _)) (rep_one z3 _)
  have hle : lv.toNat ≤ cv.toNat := by omega
  refine ⟨.slice (some ⟨w.heap.size, 0, none⟩) lv.toNat cv.toNat, _, ρ', own', .inl ?_, e2, .slice _ _ _ _ _ _ _ e1 hle (fun _ => rfl) (fun _ => ⟨rfl, rfl, rfl, ?_, ?_⟩) (fun q hq => by omega), e3⟩
  · simp only [execOp, ho]
    refine exec_v ?_ ()
    rw [hlv.int_eq, hcv.int_eq]; exact hmk
  · have : (madeCells z.cells (cv.toNat * i.size)).size = cv.toNat * i.size := by simp [madeCells]
    rw [this]; simp [Program.cellsOf, hi]
  · simp only [maxLen]; omega

end
end Go.Abs
