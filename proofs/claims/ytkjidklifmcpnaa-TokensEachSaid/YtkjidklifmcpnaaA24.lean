/- A plainer machine, twenty-four: functions that work on own objects, told once. -/
import Derived.Test.YtkjidklifmcpnaaA23
namespace Go.Proofs.Ytkjidklifmcpnaa.AD
set_option linter.unusedVariables false
section
variable {P : Program}

/-- A function called on objects of the caller's own, which stand first; it answers a plain value and leaves them so. -/
def Meth (P : Program) (f : Nat) (args : List AV) (os : List Ob) (r : PV) (os' : List Ob) : Prop := ∀ rest, callA P f args (os ++ rest) fun r' H' => r' = .p r ∧ H' = os' ++ rest

theorem Meth.of {own : List Nat} {f : Nat} {ir : IF} {args : List AV} {os os' : List Ob} {r : PV} (hc : compF P own f = some ir.bare) (h : ∀ rest, fnV P ir args (os ++ rest) fun r' H' => r' = .p r ∧ H' = os' ++ rest) : Meth P f args os r os' :=
  fun rest => sound hc (h rest)

def AV.clB (n : Nat) : AV → Bool
  | .p _ => true
  | .ref (.b i) _ => Nat.blt i n
  | .view (.b i) _ _ _ => Nat.blt i n
  | .elt (.b i) _ _ _ _ => Nat.blt i n
  | .mapr (.b i) => Nat.blt i n
  | _ => false
def avsCl (n : Nat) : List AV → Bool
  | [] => true
  | a :: r => a.clB n && avsCl n r
def obsCl (n : Nat) : List Ob → Bool
  | [] => true
  | .cells cs :: r => avsCl n cs && obsCl n r
  | .loop _ _ _ cs _ :: r => avsCl n cs && obsCl n r
  | _ :: r => obsCl n r

theorem blt_lt {i n : Nat} (h : Nat.blt i n = true) : i < n := by
  have : Nat.ble (i + 1) n = true := h
  exact Nat.le_of_ble_eq_true this

theorem clB_low {n m : Nat} (hm : n ≤ m) {a : AV} (h : a.clB n = true) : AV.Low m a ∧ a.lowL 0 = true := by
  unfold AV.clB at h
  split at h
  · exact ⟨.p _, rfl⟩
  · exact ⟨.ref _ _ (Nat.lt_of_lt_of_le (blt_lt h) hm), rfl⟩
  · exact ⟨.view _ _ _ _ (Nat.lt_of_lt_of_le (blt_lt h) hm), rfl⟩
  · exact ⟨.elt _ _ _ _ _ (Nat.lt_of_lt_of_le (blt_lt h) hm), rfl⟩
  · exact ⟨.mapr _ (Nat.lt_of_lt_of_le (blt_lt h) hm), rfl⟩
  · cases h
theorem avsCl_low {n m : Nat} (hm : n ≤ m) : ∀ {l : List AV}, avsCl n l = true → ∀ a, a ∈ l → AV.Low m a ∧ a.lowL 0 = true
  | [], _, a, h => by cases h
  | b :: r, h, a, ha => by
    simp only [avsCl, Bool.and_eq_true] at h
    cases ha with
    | head => exact clB_low hm h.1
    | tail _ ha => exact avsCl_low hm h.2 a ha
theorem obsCl_low {n m : Nat} (hm : n ≤ m) : ∀ {l : List Ob}, obsCl n l = true → ∀ o, o ∈ l → o.LowB m
  | [], _, o, h => by cases h
  | o1 :: r, h, o, ho => by
    have hr : obsCl n r = true := by cases o1 <;> simp only [obsCl, Bool.and_eq_true] at h <;> first | exact h.2 | exact h
    cases ho with
    | head =>
      cases o1 <;> first | trivial | skip
      · simp only [obsCl, Bool.and_eq_true] at h
        exact avsCl_low hm h.1
      · simp only [obsCl, Bool.and_eq_true] at h
        exact avsCl_low hm h.1
    | tail _ ho => exact obsCl_low hm hr o ho

/-- From one such function to another, on the same objects. -/
theorem CallVC.same {f : Nat} {args : List AV} {os os' rest lo : List Ob} {K : AV → List Ob → List Ob → Prop} {r : PV} (h : Meth P f args os r os') (ha : AV.closes (os ++ rest).length args = args) (hl : os'.length = os.length) (hc : obsCl os.length os' = true) (k : K (.p r) (os' ++ rest) lo) : CallVC P f args (os ++ rest) lo K := by
  have hlen : (os' ++ rest).length = (os ++ rest).length := by simp [hl]
  refine CallX.to ⟨?_⟩
  rw [ha]
  have e1 : flat (os ++ rest) lo = os ++ (rest ++ lo.map (Ob.close (os ++ rest).length)) := by rw [flat, List.append_assoc]
  rw [e1]
  refine (h _).mono fun r' H' ⟨h1, h2⟩ => ⟨.p r, os' ++ rest, lo, by rw [h1, AV.close], .p _, by rw [h2, List.append_assoc], hlen, fun o ho => ?_, fun o ho => .inl ho, k⟩
  rw [List.mem_append] at ho
  rcases ho with ho | ho
  · exact .inr (obsCl_low (by simp) hc o ho)
  · exact .inl (List.mem_append.2 (.inr ho))

/-- Where the objects are local ones, in another order. -/
theorem CallVC.methM {f : Nat} {args args' : List AV} {lo os os' lo' : List Ob} {K : AV → List Ob → List Ob → Prop} {r : PV} (π : List Nat) (h : Meth P f args' os r os')
    (ea : AV.rens (posOf π) args = args') (eo : (π.map fun i => (lo.getD i .gone).ren (posOf π)).take os.length = os) (ol : os'.length = os.length)
    (el : ((List.range lo.length).map fun i => ((os' ++ (π.map fun i => (lo.getD i .gone).ren (posOf π)).drop os.length).getD (posN i π) .gone).ren (backOf π)) = lo')
    (p1 : π.Nodup) (p2 : ∀ k, k < lo.length → k ∈ π) (p3 : π.length = lo.length) (k : K (.p r) [] lo') : CallVC P f args [] lo K := by
  have hd : (π.map fun i => (lo.getD i .gone).ren (posOf π)) = os ++ (π.map fun i => (lo.getD i .gone).ren (posOf π)).drop os.length := by
    conv => lhs; rw [← List.take_append_drop os.length (π.map fun i => (lo.getD i .gone).ren (posOf π)), eo]
  have hlen : os.length + ((π.map fun i => (lo.getD i .gone).ren (posOf π)).drop os.length).length = lo.length := by
    have := congrArg List.length hd
    rw [List.length_map, List.length_append] at this
    omega
  refine CallVC.meth (H0 := os ++ (π.map fun i => (lo.getD i .gone).ren (posOf π)).drop os.length) π (h _) ea hd el (by rw [List.length_append, ol]; exact hlen) p1 p2 p3 (by rw [AV.ren]; exact k)

/-- The same, where what is answered names one of the objects. -/
def MethV (P : Program) (f : Nat) (args : List AV) (os : List Ob) (r : AV) (os' : List Ob) : Prop := ∀ rest, callA P f args (os ++ rest) fun r' H' => r' = r ∧ H' = os' ++ rest

theorem MethV.of {own : List Nat} {f : Nat} {ir : IF} {args : List AV} {os os' : List Ob} {r : AV} (hc : compF P own f = some ir.bare) (h : ∀ rest, fnV P ir args (os ++ rest) fun r' H' => r' = r ∧ H' = os' ++ rest) : MethV P f args os r os' :=
  fun rest => sound hc (h rest)

theorem CallVC.methV {f : Nat} {args args' : List AV} {lo os os' lo' : List Ob} {K : AV → List Ob → List Ob → Prop} {r : AV} (π : List Nat) (h : MethV P f args' os r os')
    (ea : AV.rens (posOf π) args = args') (eo : (π.map fun i => (lo.getD i .gone).ren (posOf π)).take os.length = os) (ol : os'.length = os.length)
    (el : ((List.range lo.length).map fun i => ((os' ++ (π.map fun i => (lo.getD i .gone).ren (posOf π)).drop os.length).getD (posN i π) .gone).ren (backOf π)) = lo')
    (p1 : π.Nodup) (p2 : ∀ k, k < lo.length → k ∈ π) (p3 : π.length = lo.length) (k : K (r.ren (backOf π)) [] lo') : CallVC P f args [] lo K := by
  have hd : (π.map fun i => (lo.getD i .gone).ren (posOf π)) = os ++ (π.map fun i => (lo.getD i .gone).ren (posOf π)).drop os.length := by
    conv => lhs; rw [← List.take_append_drop os.length (π.map fun i => (lo.getD i .gone).ren (posOf π)), eo]
  have hlen : os.length + ((π.map fun i => (lo.getD i .gone).ren (posOf π)).drop os.length).length = lo.length := by
    have := congrArg List.length hd
    rw [List.length_map, List.length_append] at this
    omega
  exact CallVC.meth (H0 := os ++ (π.map fun i => (lo.getD i .gone).ren (posOf π)).drop os.length) π (h _) ea hd el (by rw [List.length_append, ol]; exact hlen) p1 p2 p3 k

/-- The same two, with everything told. -/
theorem CallVC.methM' {f : Nat} {args args' : List AV} {lo os os' : List Ob} {K : AV → List Ob → List Ob → Prop} {r : PV} (π : List Nat) (n : Nat) (lo' : List Ob) (h : Meth P f args' os r os') (hn : lo.length = n)
    (ea : AV.rens (posOf π) args = args') (eo : (π.map fun i => (lo.getD i .gone).ren (posOf π)).take os.length = os) (ol : os'.length = os.length)
    (el : ((List.range n).map fun i => ((os' ++ (π.map fun i => (lo.getD i .gone).ren (posOf π)).drop os.length).getD (posN i π) .gone).ren (backOf π)) = lo')
    (p1 : π.Nodup) (p2 : ∀ k, k < n → k ∈ π) (p3 : π.length = n) (k : K (.p r) [] lo') : CallVC P f args [] lo K := by
  subst hn
  exact CallVC.methM π h ea eo ol el p1 p2 p3 k
theorem CallVC.methV' {f : Nat} {args args' : List AV} {lo os os' : List Ob} {K : AV → List Ob → List Ob → Prop} {r : AV} (π : List Nat) (n : Nat) (lo' : List Ob) (r' : AV) (h : MethV P f args' os r os') (hn : lo.length = n)
    (ea : AV.rens (posOf π) args = args') (eo : (π.map fun i => (lo.getD i .gone).ren (posOf π)).take os.length = os) (ol : os'.length = os.length) (er : r.ren (backOf π) = r')
    (el : ((List.range n).map fun i => ((os' ++ (π.map fun i => (lo.getD i .gone).ren (posOf π)).drop os.length).getD (posN i π) .gone).ren (backOf π)) = lo')
    (p1 : π.Nodup) (p2 : ∀ k, k < n → k ∈ π) (p3 : π.length = n) (k : K r' [] lo') : CallVC P f args [] lo K := by
  subst hn; subst er
  exact CallVC.methV π h ea eo ol el p1 p2 p3 k

theorem Lend.all {ba lo : List Ob} (r : Rf) (g sz len : Nat) {es : List PV} (h : findO ba lo r = some (.buf g sz es)) (hl : len = es.length) : Lend ba lo (.view r g sz len) (.list sz es) := by
  have := Lend.view r g sz len es h (by omega)
  rw [hl, List.take_length] at this
  rw [hl]
  exact this

theorem Meth.args {f : Nat} {xs ys : List AV} {os os' : List Ob} {r : PV} (h : Meth P f ys os r os') (hl : AVles xs ys) : Meth P f xs os r os' := fun rest => (h rest).args hl

end
end Go.Proofs.Ytkjidklifmcpnaa.AD
