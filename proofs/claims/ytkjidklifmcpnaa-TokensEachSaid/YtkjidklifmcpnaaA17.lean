/- A plainer machine, seventeen: an operation that leaves all objects alone answers alike whatever else there is. -/
import Derived.Test.YtkjidklifmcpnaaA16
namespace Go.Proofs.Ytkjidklifmcpnaa.AD
set_option linter.unusedVariables false
set_option linter.unusedSimpArgs false

/-! Readers: what is asked is asked of one thing. -/

theorem dropK_in {α : Type} : ∀ (n : Nat) (l : List α) (k : List α → Prop), n ≤ l.length → k (l.drop n) → dropK n l k
  | 0, l, k, _, h => h
  | n + 1, [], k, h, _ => absurd h (by simp)
  | n + 1, x :: r, k, h, h2 => dropK_in n r k (by simpa using h) h2
theorem atK_in {α : Type} : ∀ (n : Nat) (l : List α) (k : α → Prop) (x : α), l[n]? = some x → k x → atK n l k
  | 0, [], k, x, h, _ => by simp at h
  | _ + 1, [], k, x, h, _ => by simp at h
  | 0, y :: r, k, x, h, h2 => by simp at h; subst h; exact h2
  | n + 1, y :: r, k, x, h, h2 => atK_in n r k x (by simpa using h) h2
theorem spliceK_in {α : Type} : ∀ (n : Nat) (vs l : List α) (k : List α → Prop), n + vs.length ≤ l.length → k (l.take n ++ vs ++ l.drop (n + vs.length)) → spliceK n vs l k
  | 0, [], [], k, _, h => by simpa [spliceK] using h
  | 0, v :: vs, [], k, h, _ => by simp at h
  | n + 1, vs, [], k, h, _ => by simp at h
  | 0, [], x :: r, k, _, h => by simpa [spliceK] using h
  | 0, v :: vs, x :: r, k, h, h2 => spliceK_in 0 vs r _ (by simp at h ⊢; omega) (by simpa [Nat.add_comm] using h2)
  | n + 1, vs, x :: r, k, h, h2 => spliceK_in n vs r _ (by simp at h ⊢; omega) (by
      have e : n + 1 + vs.length = (n + vs.length) + 1 := by omega
      rw [e] at h2
      simpa using h2)
theorem setAtK_in {α : Type} : ∀ (n : Nat) (l : List α) (v : α) (k : List α → Prop), n < l.length → k (l.set n v) → setAtK n l v k
  | 0, [], v, k, h, _ => by simp at h
  | _ + 1, [], v, k, h, _ => by simp at h
  | 0, x :: r, v, k, _, h => h
  | n + 1, x :: r, v, k, h, h2 => setAtK_in n r v _ (by simpa using h) h2

theorem atK_ext {α : Type} {n : Nat} {l X : List α} {k : α → Prop} (h : atK n l k) : atK n (l ++ X) k := by
  obtain ⟨x, h1, h2⟩ := atK_out n l k h
  exact atK_in _ _ _ x (by rw [List.getElem?_append_left (get_lt h1)]; exact h1) h2

theorem allPK_map : ∀ (ps : List PV) (k : List PV → Prop) (e : Prop), allPK (ps.map AV.p) k e = k ps
  | [], k, e => rfl
  | p :: r, k, e => allPK_map r _ _

theorem allPK_pt : ∀ (cs : List AV), (∃ ps, cs = ps.map AV.p ∧ ∀ (k : List PV → Prop) (e : Prop), allPK cs k e = k ps) ∨ ∀ (k : List PV → Prop) (e : Prop), allPK cs k e = e
  | [] => .inl ⟨[], rfl, fun k e => rfl⟩
  | a :: r => by
    cases a with
    | p c =>
      rcases allPK_pt r with ⟨ps, h1, h2⟩ | h
      · exact .inl ⟨c :: ps, by rw [h1]; rfl, fun k e => h2 _ _⟩
      · exact .inr fun k e => h _ _
    | _ => exact .inr fun k e => rfl
theorem mkAggK_pt (cs : List AV) : ∃ a, ∀ k, mkAggK cs k = k a := by
  rcases allPK_pt cs with ⟨ps, h1, h2⟩ | h
  · exact ⟨_, fun k => h2 _ _⟩
  · exact ⟨_, fun k => h _ _⟩
theorem scalarsK_pt : ∀ (cs : List AV) (k : List AV → Prop), scalarsK cs k → ∀ k' : List AV → Prop, k' cs → scalarsK cs k'
  | [], k, h, k', h2 => h2
  | a :: r, k, h, k', h2 => by
    simp only [scalarsK] at h ⊢
    split at h
    · exact scalarsK_pt r _ h _ h2
    · exact h.elim
theorem cellsK_pt {v : AV} {k : List AV → Prop} (h : cellsK v k) : ∃ cs, k cs ∧ ∀ k' : List AV → Prop, k' cs → cellsK v k' := by
  unfold cellsK at h ⊢
  split at h
  · rw [upPK_eq] at h
    exact ⟨_, (scalarsK_out _ _ h).2, fun k' h2 => by rw [upPK_eq]; exact scalarsK_pt _ _ h _ h2⟩
  · exact ⟨_, (scalarsK_out _ _ h).2, fun k' h2 => scalarsK_pt _ _ h _ h2⟩
  · exact ⟨_, (scalarsK_out _ _ h).2, fun k' h2 => scalarsK_pt _ _ h _ h2⟩
theorem cellsPK_pt {e : PV} {k : List PV → Prop} (h : cellsPK e k) : ∃ cs, k cs ∧ ∀ k' : List PV → Prop, k' cs → cellsPK e k' := by
  unfold cellsPK at h ⊢
  split at h
  · exact ⟨_, h, fun k' h2 => h2⟩
  · exact h.elim
  · exact h.elim
  · exact ⟨_, h, fun k' h2 => h2⟩
theorem readPK_pt {n : Option Nat} {cs : List PV} {k : AV → Prop} (h : readPK n cs k) : ∃ v, k v ∧ ∀ k' : AV → Prop, k' v → readPK n cs k' := by
  unfold readPK at h ⊢
  cases n with
  | none => obtain ⟨x, r, rfl, hk⟩ := headK_out h; exact ⟨_, hk, fun k' h2 => h2⟩
  | some n => obtain ⟨h1, h2⟩ := takeK_out _ _ _ h; exact ⟨_, h2, fun k' h3 => takeK_in _ _ _ h1 h3⟩
theorem readAK_pt {n : Option Nat} {cs : List AV} {k : AV → Prop} (h : readAK n cs k) : ∃ v, k v ∧ ∀ k' : AV → Prop, k' v → readAK n cs k' := by
  unfold readAK at h ⊢
  cases n with
  | none => obtain ⟨x, r, rfl, hk⟩ := headK_out h; exact ⟨_, hk, fun k' h2 => h2⟩
  | some n =>
    obtain ⟨h1, h2⟩ := takeK_out _ _ _ h
    obtain ⟨a, h3⟩ := mkAggK_pt (cs.take n)
    simp only [h3] at h2
    exact ⟨_, h2, fun k' h4 => takeK_in _ _ _ h1 (by rw [h3]; exact h4)⟩
theorem fillK_pt : ∀ (l : List (Nat × Nat × AV)) (cs : List AV) {k : List AV → Prop}, fillK l cs k → ∃ v, k v ∧ ∀ k' : List AV → Prop, k' v → fillK l cs k'
  | [], cs, k, h => ⟨_, h, fun k' h2 => h2⟩
  | (off, n, v) :: r, cs, k, h => by
    simp only [fillK] at h ⊢
    obtain ⟨news, h, h1⟩ := cellsK_pt h
    cases hb : Nat.beq news.length n with
    | false => rw [hb] at h; exact h.elim
    | true =>
      rw [hb] at h
      obtain ⟨h2, h⟩ := spliceK_out _ _ _ _ h
      obtain ⟨v, hk, h3⟩ := fillK_pt r _ h
      exact ⟨v, hk, fun k' h4 => h1 _ (by rw [hb]; exact spliceK_in _ _ _ _ h2 (h3 _ h4))⟩
theorem litK_pt (sz : Nat) : ∀ (l : List (Nat × Rv)) (fr : FR) (es : List PV) {k : List PV → Prop}, litK sz l fr es k → ∃ v, k v ∧ ∀ k' : List PV → Prop, k' v → litK sz l fr es k'
  | [], fr, es, k, h => ⟨_, h, fun k' h2 => h2⟩
  | (i, x) :: r, fr, es, k, h => by
    simp only [litK, evK_eq] at h ⊢
    split at h
    · rename_i e he
      obtain ⟨cs, h, h1⟩ := cellsPK_pt h
      cases hb : Nat.beq cs.length sz with
      | false => rw [hb] at h; exact h.elim
      | true =>
        rw [hb] at h
        obtain ⟨h2, h⟩ := setAtK_out _ _ _ _ h
        obtain ⟨v, hk, h3⟩ := litK_pt sz r fr _ h
        exact ⟨v, hk, fun k' h4 => by
          exact h1 _ (by rw [hb]; exact setAtK_in _ _ _ _ h2 (h3 _ h4))⟩
    · exact h.elim

theorem kindK_pt {j k : IntKind} {K : Prop} (h : kindK j k K) : K ∧ ∀ K' : Prop, K' → kindK j k K' := by
  cases j <;> cases k <;> first | exact ⟨h, fun K' h => h⟩ | exact h.elim
theorem binI_pt {op : BinOp} {k : IntKind} {a b : Int} {K : AV → Prop} (h : binI op k a b K) : ∃ v, K v ∧ ∀ K' : AV → Prop, K' v → binI op k a b K' := by
  cases op <;> simp only [binI] at h ⊢ <;> first
    | exact ⟨_, h.2, fun K' h2 => ⟨h.1, h2⟩⟩
    | exact ⟨_, h, fun K' h2 => h2⟩
theorem binS_pt {op : BinOp} {a b : ByteArray} {K : AV → Prop} (h : binS op a b K) : ∃ v, K v ∧ ∀ K' : AV → Prop, K' v → binS op a b K' := by
  cases op <;> simp only [binS] at h ⊢ <;> first
    | exact ⟨_, h.2, fun K' h2 => ⟨h.1, h2⟩⟩
    | exact ⟨_, h, fun K' h2 => h2⟩
    | exact h.elim
theorem binK_pt {op : BinOp} {x y : AV} {K : AV → Prop} (h : binK op x y K) : ∃ v, K v ∧ ∀ K' : AV → Prop, K' v → binK op x y K' := by
  unfold binK at h ⊢
  split at h
  · cases hs : isShift op with
    | true => rw [hs] at h; exact binI_pt h
    | false =>
      rw [hs] at h
      obtain ⟨h1, h2⟩ := kindK_pt h
      obtain ⟨v, h3, h4⟩ := binI_pt h1
      exact ⟨v, h3, fun K' h5 => h2 _ (h4 _ h5)⟩
  · exact binS_pt h
  · exact h.elim

theorem aliveV_ext {r : Rf} {g : Nat} {ba lo X : List Ob} (h : aliveV r g ba lo) : aliveV r g ba (lo ++ X) := by
  cases r with
  | l m => exact atK_ext h
  | b id => exact h
theorem aliveE_ext {r : Rf} {g : Nat} {ba lo X : List Ob} (h : aliveE r g ba lo) : aliveE r g ba (lo ++ X) := by
  cases r with
  | l m => exact atK_ext h
  | b id => exact h

theorem contK_pt {sz : Nat} {y : AV} {ba lo : List Ob} {k : List PV → Prop} (h : contK sz y ba lo k) : ∃ ys, k ys ∧ ∀ (X : List Ob) (k' : List PV → Prop), k' ys → contK sz y ba (lo ++ X) k' := by
  unfold contK at h ⊢
  split at h
  · exact ⟨_, h, fun X k' h2 => h2⟩
  · exact ⟨_, h.2, fun X k' h2 => ⟨h.1, h2⟩⟩
  · exact ⟨_, h.2, fun X k' h2 => ⟨h.1, h2⟩⟩
  · obtain ⟨o, ho, h⟩ := atK_out _ _ _ h
    split at h
    · obtain ⟨h1, ys, h2, h3⟩ := h
      exact ⟨ys, h3, fun X k' h4 => atK_in _ _ _ _ (by rw [List.getElem?_append_left (get_lt ho)]; exact ho) (by exact ⟨h1, ys, h2, h4⟩)⟩
    · exact h.elim
  · obtain ⟨o, ho, h⟩ := atK_out _ _ _ h
    split at h
    · obtain ⟨h1, ys, h2, h3⟩ := h
      exact ⟨ys, h3, fun X k' h4 => atK_in _ _ _ _ ho (by exact ⟨h1, ys, h2, h4⟩)⟩
    · exact h.elim
  · exact h.elim

variable {P : Program}

theorem opV_quiet {d : Bool} {i : IOp} (he : effect i = 0) {fr : FR} {ba lo : List Ob} {K : AV → List Ob → List Ob → Prop} (h : opV P d i fr ba lo K) : ∃ v, K v ba lo ∧ ∀ (ba2 lo2 : List Ob) (K' : AV → List Ob → List Ob → Prop), K' v ba2 lo2 → opV P false i fr ba2 lo2 K' := by
  cases i <;> simp only [effect] at he <;> try (cases he; done)
  case mv x => simp only [opV, evK_eq] at h ⊢; exact ⟨_, h, fun _ _ _ h => h⟩
  case build zero parts =>
    simp only [opV, partsK_eq, upPK_eq] at h ⊢
    obtain ⟨cs, h, h1⟩ := fillK_pt _ _ h
    obtain ⟨a, h2⟩ := mkAggK_pt cs
    simp only [h2] at h
    exact ⟨a, h, fun _ _ K' hk => h1 _ (by rw [h2]; exact hk)⟩
  case lit own sz zero len parts =>
    cases own with
    | true => simp at he
    | false =>
      simp only [opV, repK_eq] at h ⊢
      obtain ⟨es, h, h1⟩ := litK_pt _ _ _ _ h
      exact ⟨_, h, fun _ _ K' hk => h1 _ hk⟩
  case bin op x y =>
    simp only [opV, evK_eq] at h ⊢
    obtain ⟨v, h, h1⟩ := binK_pt h
    exact ⟨v, h, fun _ _ K' hk => h1 _ hk⟩
  case fld off n x =>
    simp only [opV, evK_eq] at h ⊢
    split at h
    · rename_i cs e
      obtain ⟨h1, h⟩ := dropK_out _ _ _ h
      obtain ⟨v, h, h2⟩ := readPK_pt h
      exact ⟨v, h, fun _ _ K' hk => dropK_in _ _ _ h1 (h2 _ hk)⟩
    · rename_i cs e
      obtain ⟨h1, h⟩ := dropK_out _ _ _ h
      obtain ⟨v, h, h2⟩ := readAK_pt h
      exact ⟨v, h, fun _ _ K' hk => dropK_in _ _ _ h1 (h2 _ hk)⟩
    · exact h.elim
  case max2 x y =>
    simp only [opV, evK_eq] at h ⊢
    split at h
    · rename_i k a j b e1 e2
      obtain ⟨h1, h2⟩ := kindK_pt h
      exact ⟨_, h1, fun _ _ K' hk => h2 _ hk⟩
    · exact h.elim
  case min2 x y =>
    simp only [opV, evK_eq] at h ⊢
    split at h
    · rename_i k a j b e1 e2
      obtain ⟨h1, h2⟩ := kindK_pt h
      exact ⟨_, h1, fun _ _ K' hk => h2 _ hk⟩
    · exact h.elim
  case ext x j =>
    simp only [opV, evK_eq] at h ⊢
    split at h
    · rename_i vs e
      obtain ⟨v, h1, h2⟩ := atK_out _ _ _ h
      exact ⟨_, h2, fun _ _ K' hk => atK_in _ _ _ _ h1 hk⟩
    · rename_i vs e
      obtain ⟨v, h1, h2⟩ := atK_out _ _ _ h
      exact ⟨_, h2, fun _ _ K' hk => atK_in _ _ _ _ h1 hk⟩
    · exact h.elim
  case idxA sz len n x j =>
    simp only [opV, evK_eq] at h ⊢
    split at h
    · rename_i cs k j' e1 e2
      obtain ⟨h1, h⟩ := h
      cases n with
      | some n => exact ⟨_, h.2, fun _ _ K' hk => ⟨h1, h.1, hk⟩⟩
      | none => obtain ⟨c, h2, h⟩ := h; exact ⟨_, h, fun _ _ K' hk => ⟨h1, c, h2, hk⟩⟩
    · exact h.elim
  case idxS x j =>
    simp only [opV, evK_eq] at h ⊢
    split at h
    · rename_i t k j' e1 e2
      obtain ⟨c, h1, h⟩ := h
      exact ⟨_, h, fun _ _ K' hk => ⟨c, h1, hk⟩⟩
    · exact h.elim
  case cutS x l0 h0 =>
    simp only [opV, evK_eq, evOK_eq] at h ⊢
    split at h
    · rename_i t e1
      split at h
      all_goals first
        | exact h.elim
        | exact ⟨_, h.2, fun _ _ K' hk => ⟨h.1, hk⟩⟩
        | exact ⟨_, h, fun _ _ K' hk => hk⟩
    · exact h.elim
  case xcall f args =>
    simp only [opV, evsK_eq] at h ⊢
    rcases allPK_pt (args.map fun x => evF x fr) with ⟨ps, h1, h2⟩ | h2
    · simp only [h2] at h ⊢
      obtain ⟨e, hx, hk⟩ := h
      exact ⟨_, hk, fun _ _ K' hk => ⟨e, hx, hk⟩⟩
    · simp only [h2] at h
  case eqs neg x y =>
    simp only [opV, evK_eq] at h ⊢
    split at h
    · obtain ⟨q, h1, h⟩ := h
      exact ⟨_, h, fun _ _ K' hk => ⟨q, h1, hk⟩⟩
    · exact h.elim
  all_goals simp only [opV, evK_eq, evsK_eq] at h ⊢
  all_goals (repeat' split at h)
  all_goals first
    | exact h.elim
    | exact ⟨_, h.2, fun _ _ K' hk => ⟨h.1, hk⟩⟩
    | exact ⟨_, h, fun _ _ K' hk => hk⟩

theorem flat_append (ba lo X : List Ob) : flat ba (lo ++ X) = flat ba lo ++ X.map (Ob.close ba.length) := by simp [flat]

theorem callD_ext {f : Nat} {args : List AV} {ba lo : List Ob} {K : AV → List Ob → List Ob → Prop} (h : CallD P f args ba lo K) : ∃ v, K v ba lo ∧ ∀ (X : List Ob) (K' : AV → List Ob → List Ob → Prop), K' v ba (lo ++ X) → CallVC P f args ba (lo ++ X) K' := by
  obtain ⟨e, h1, h2⟩ := h.out
  exact ⟨_, h2, fun X K' hk => .pure (by rw [flat_append]; exact h1 _) hk⟩

theorem opV_reader {i : IOp} (he : effect i = 1) {fr : FR} {ba lo : List Ob} {K : AV → List Ob → List Ob → Prop} (h : opV P true i fr ba lo K) : ∃ v, K v ba lo ∧ ∀ (X : List Ob) (K' : AV → List Ob → List Ob → Prop), K' v ba (lo ++ X) → opV P false i fr ba (lo ++ X) K' := by
  have ext : ∀ {m : Nat} {o : Ob} {X : List Ob}, lo[m]? = some o → (lo ++ X)[m]? = some o := fun {m o X} h => by rw [List.getElem?_append_left (get_lt h)]; exact h
  cases i <;> simp only [effect] at he <;> try (cases he; done)
  case lit own sz zero len parts => cases own <;> simp at he
  case ofBytes x =>
    simp only [opV, evK_eq] at h ⊢
    obtain ⟨ys, ⟨l, h1, h⟩, h2⟩ := contK_pt h
    exact ⟨_, h, fun X K' hk => h2 _ _ ⟨l, h1, hk⟩⟩
  case load n x =>
    simp only [opV, evK_eq] at h ⊢
    split at h
    · obtain ⟨v, h, h2⟩ := readPK_pt h
      exact ⟨v, h, fun X K' hk => h2 _ hk⟩
    · obtain ⟨o, ho, h⟩ := atK_out _ _ _ h
      split at h
      · obtain ⟨h1, h⟩ := dropK_out _ _ _ h
        obtain ⟨v, h, h2⟩ := readAK_pt h
        exact ⟨v, h, fun X K' hk => atK_in _ _ _ _ (ext ho) (dropK_in _ _ _ h1 (h2 _ hk))⟩
      · exact h.elim
    · obtain ⟨o, ho, h⟩ := atK_out _ _ _ h
      split at h
      · obtain ⟨h1, h⟩ := dropK_out _ _ _ h
        obtain ⟨v, h, h2⟩ := readAK_pt h
        exact ⟨v, h, fun X K' hk => atK_in _ _ _ _ ho (dropK_in _ _ _ h1 (h2 _ hk))⟩
      · exact h.elim
    · obtain ⟨o, ho, h⟩ := atK_out _ _ _ h
      split at h
      · obtain ⟨h0, e, h1, h⟩ := h
        obtain ⟨cs, h, h2⟩ := cellsPK_pt h
        obtain ⟨h3, h⟩ := dropK_out _ _ _ h
        obtain ⟨v, h, h4⟩ := readPK_pt h
        exact ⟨v, h, fun X K' hk => atK_in _ _ _ _ (ext ho) (by exact ⟨h0, e, h1, h2 _ (dropK_in _ _ _ h3 (h4 _ hk))⟩)⟩
      · exact h.elim
    · obtain ⟨o, ho, h⟩ := atK_out _ _ _ h
      split at h
      · obtain ⟨h0, e, h1, h⟩ := h
        obtain ⟨cs, h, h2⟩ := cellsPK_pt h
        obtain ⟨h3, h⟩ := dropK_out _ _ _ h
        obtain ⟨v, h, h4⟩ := readPK_pt h
        exact ⟨v, h, fun X K' hk => atK_in _ _ _ _ ho (by exact ⟨h0, e, h1, h2 _ (dropK_in _ _ _ h3 (h4 _ hk))⟩)⟩
      · exact h.elim
    · exact h.elim
  case len x =>
    simp only [opV, evK_eq] at h ⊢
    split at h
    all_goals first
      | exact h.elim
      | exact ⟨_, h.2, fun X K' hk => ⟨aliveV_ext h.1, hk⟩⟩
      | exact ⟨_, h, fun X K' hk => hk⟩
  case fieldA off x =>
    simp only [opV, evK_eq] at h ⊢
    split at h
    all_goals first
      | exact h.elim
      | exact ⟨_, h.2, fun X K' hk => ⟨aliveE_ext h.1, hk⟩⟩
      | exact ⟨_, h, fun X K' hk => hk⟩
      | (obtain ⟨h1, h⟩ := dropK_out _ _ _ h; exact ⟨_, h, fun X K' hk => dropK_in _ _ _ h1 hk⟩)
  case elemA sz x j =>
    simp only [opV, evK_eq] at h ⊢
    split at h
    · obtain ⟨h0, e, h1, h⟩ := h
      obtain ⟨cs, h, h2⟩ := cellsPK_pt h
      exact ⟨_, h, fun X K' hk => ⟨h0, e, h1, h2 _ hk⟩⟩
    · obtain ⟨h0, e, h1, h⟩ := h
      obtain ⟨cs, h, h2⟩ := cellsPK_pt h
      exact ⟨_, h, fun X K' hk => ⟨h0, e, h1, h2 _ hk⟩⟩
    · exact ⟨_, h.2.2, fun X K' hk => ⟨h.1, aliveV_ext h.2.1, hk⟩⟩
    · exact h.elim
  case cutL sz x l0 h0 mx =>
    simp only [opV, evK_eq, evOK_eq] at h ⊢
    split at h
    · exact h.elim
    · split at h
      · obtain ⟨h1, h⟩ := h
        split at h
        all_goals first
          | exact h.elim
          | exact ⟨_, h.2, fun X K' hk => ⟨h1, h.1, hk⟩⟩
          | exact ⟨_, h, fun X K' hk => ⟨h1, hk⟩⟩
      · split at h
        all_goals first
          | exact h.elim
          | exact ⟨_, h.2, fun X K' hk => ⟨h.1, hk⟩⟩
          | exact ⟨_, h, fun X K' hk => hk⟩
      · obtain ⟨h1, h⟩ := h
        split at h
        all_goals first
          | exact h.elim
          | exact ⟨_, h.2, fun X K' hk => ⟨h1, h.1, hk⟩⟩
      · obtain ⟨h1, h⟩ := h
        split at h
        all_goals first
          | exact h.elim
          | exact ⟨_, h.2, fun X K' hk => ⟨aliveV_ext h1, h.1, hk⟩⟩
          | exact ⟨_, h, fun X K' hk => ⟨aliveV_ext h1, hk⟩⟩
      · exact h.elim
  case call f args =>
    simp only [opV, evsK_eq] at h ⊢
    obtain ⟨v, h, h1⟩ := callD_ext h
    exact ⟨v, h, fun X K' hk => h1 X K' hk⟩
  case callv x args =>
    simp only [opV, evK_eq, evsK_eq] at h ⊢
    split at h
    · exact h.elim
    · obtain ⟨h0, h⟩ := h
      obtain ⟨v, h, h1⟩ := callD_ext h
      exact ⟨v, h, fun X K' hk => ⟨h0, h1 X K' hk⟩⟩
    · obtain ⟨h0, h⟩ := h
      obtain ⟨v, h, h1⟩ := callD_ext h
      exact ⟨v, h, fun X K' hk => ⟨h0, h1 X K' hk⟩⟩
    · exact h.elim
  case look kk zero ok x j =>
    simp only [opV, evK_eq] at h ⊢
    split at h
    · obtain ⟨h0, h⟩ := h
      split at h
      · exact ⟨_, h, fun X K' hk => ⟨h0, hk⟩⟩
      · obtain ⟨o, ho, h⟩ := atK_out _ _ _ h
        split at h
        · obtain ⟨q, hq, h⟩ := h
          exact ⟨_, h, fun X K' hk => ⟨h0, atK_in _ _ _ _ (ext ho) (by exact ⟨q, hq, hk⟩)⟩⟩
        · exact h.elim
      · obtain ⟨o, ho, h⟩ := atK_out _ _ _ h
        split at h
        · obtain ⟨q, hq, h⟩ := h
          exact ⟨_, h, fun X K' hk => ⟨h0, atK_in _ _ _ _ ho (by exact ⟨q, hq, hk⟩)⟩⟩
        · exact h.elim
      · exact h.elim
    · exact h.elim

end Go.Proofs.Ytkjidklifmcpnaa.AD
