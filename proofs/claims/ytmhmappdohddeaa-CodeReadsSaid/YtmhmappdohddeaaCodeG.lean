/- More of what is read: an error has a code and a place in the bytes; the texts read are no longer than the bytes. -/
import Derived.Test.YtmhmappdohddeaaCodeF
namespace Go.Proofs.Ytmhmappdohddeaa.CodeG
open Go.RowKit Go.Proofs.YtmhmappdohddeaaW.PrintWords Go.Proofs.Ytmhmappdohddeaa.H Go.Proofs.Ytmhmappdohddeaa.CodeA Go.Proofs.Ytmhmappdohddeaa.CodeB Go.Proofs.Ytmhmappdohddeaa.CodeC Go.Proofs.Ytmhmappdohddeaa.CodeD Go.Proofs.Ytmhmappdohddeaa.CodeE Go.Proofs.Ytmhmappdohddeaa.CodeF
set_option linter.unusedVariables false
set_option linter.unusedSimpArgs false

/-- An answer within the bytes. -/
def Sane {α : Type} (b : List Int) : Out α → Prop
  | .ok _ q => q ≤ b.length
  | .er e f => e ≠ 0 ∧ f ≤ b.length

theorem sane_bind {α β : Type} {b : List Int} {o : Out α} {g : α → Nat → Out β} (h : Sane b o) (hg : ∀ a q, q ≤ b.length → Sane b (g a q)) : Sane b (o.bind g) := by
  cases o with
  | ok a q => exact hg a q h
  | er e f => exact h
theorem sane_oct (b : List Int) (p : Int → Bool) (pos : Nat) (hp : pos ≤ b.length) : Sane b (oct b p pos) := by
  unfold oct
  split
  · rename_i c hc
    obtain ⟨hl, _⟩ := List.getElem?_eq_some_iff.1 hc
    split
    · exact hl
    · exact ⟨by decide, hp⟩
  · exact ⟨by decide, hp⟩
theorem sane_numL (b : List Int) (most start : Nat) (hs : start ≤ b.length) (k : Nat) : ∀ (pos u sh : Nat), pos ≤ b.length → Sane b (numL b most start k pos u sh) := by
  induction k with
  | zero => intro pos u sh hp; exact ⟨by decide, hs⟩
  | succ k ih =>
    intro pos u sh hp
    unfold numL
    split
    · exact ⟨by decide, hp⟩
    · rename_i c hc
      obtain ⟨hl, _⟩ := List.getElem?_eq_some_iff.1 hc
      dsimp only
      split
      · split
        · exact ⟨by decide, hs⟩
        · split
          · exact ⟨by decide, hs⟩
          · exact hl
      · exact ih _ _ _ hl
theorem sane_num (b : List Int) (most pos : Nat) (hp : pos ≤ b.length) : Sane b (num b most pos) := sane_numL b most pos hp 5 pos 0 0 hp
theorem sane_text (b : List Int) (pos : Nat) (hp : pos ≤ b.length) : Sane b (text b pos) := by
  unfold text
  refine sane_bind (sane_num b _ pos hp) (fun n q hq => ?_)
  split
  · exact ⟨by decide, Nat.le_refl _⟩
  · show q + n ≤ b.length
    omega
theorem sane_many {α : Type} (b : List Int) (f : Nat → Out α) (hf : ∀ p, p ≤ b.length → Sane b (f p)) (n : Nat) : ∀ p, p ≤ b.length → Sane b (many f n p) := by
  induction n with
  | zero => intro p hp; exact hp
  | succ n ih =>
    intro p hp
    unfold many
    exact sane_bind (hf p hp) (fun a q hq => sane_bind (ih q hq) (fun l r hr => hr))
theorem sane_instr (b : List Int) (pos : Nat) (hp : pos ≤ b.length) : Sane b (instr b pos) := by
  unfold instr
  refine sane_bind (sane_oct b _ pos hp) (fun op p hp => ?_)
  refine sane_bind (by split; exact sane_num b _ _ hp; exact hp) (fun x p hp => ?_)
  exact sane_bind (by split; exact sane_num b _ _ hp; exact hp) (fun y p hp => hp)
theorem sane_dec (b : List Int) : Sane b (dec b) := by
  unfold dec dec0
  refine sane_bind ?_ (fun r p hp => by split; exact ⟨by decide, hp⟩; exact hp)
  refine sane_bind (sane_oct b _ 0 (by omega)) (fun _ p hp => ?_)
  refine sane_bind (sane_oct b _ p hp) (fun _ p hp => ?_)
  refine sane_bind (sane_oct b _ p hp) (fun _ p hp => ?_)
  refine sane_bind (sane_num b _ p hp) (fun _ p hp => ?_)
  refine sane_bind (sane_num b _ p hp) (fun _ p hp => ?_)
  refine sane_bind (sane_many b _ (fun p hp => sane_text b p hp) _ p hp) (fun _ p hp => ?_)
  refine sane_bind (sane_num b _ p hp) (fun _ p hp => ?_)
  exact sane_bind (sane_many b _ (fun p hp => sane_instr b p hp) _ p hp) (fun _ p hp => hp)

/-- Each text is no longer than the bytes. -/
theorem text_le_enc (kd : Int) (ts : List ByteArray) (xs : List S41) (st : Int) : ∀ s ∈ ts, s.size ≤ (enc kd ts xs st).length := by
  intro s hs
  obtain ⟨l, r, rfl⟩ := List.append_of_mem hs
  unfold enc
  simp only [List.flatMap_append, List.flatMap_cons, List.length_append, txt, bytesOf_length]
  omega
/-- Bytes of a program are bytes. -/
theorem enc_by {kd : Int} {ts : List ByteArray} {xs : List S41} {st : Int} (hm : may kd ts xs st = 0) : ∀ b ∈ enc kd ts xs st, 0 ≤ b ∧ b ≤ 255 := by
  obtain ⟨_, _, k, _, o⟩ := may_zero hm
  exact enc_bytes kd ts xs st (by omega) (fun x hx => by have := okI_parts (o x hx); omega)
end Go.Proofs.Ytmhmappdohddeaa.CodeG
