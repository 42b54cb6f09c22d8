/- The evaluator 'Ev': specs weakened; own rows that are plain data for who called. -/
import Derived.Test.YtollfgfhepjfkaaDoorEv21
namespace Go.Ev
open Go Go.RowKit

variable {P : Program}

theorem HSound.weak {f : Nat} {hs hs' : HSpc} (h : HSound P f hs) (hw : ∀ ts ob r, (hs' ts ob).leaf = some r → (hs ts ob).leaf = some r) : HSound P f hs' :=
  ⟨h.fn, fun b S E ob ts vs t obr hH hv hl => h.run b S E ob ts vs t obr hH hv (hw _ _ _ hl)⟩

theorem Sound.weak {f : Nat} {sp sp' : Spc} (h : Sound P f sp) (hw : ∀ ds, sp'.pre ds = true → sp.pre ds = true ∧ sp'.val ds = sp.val ds) : Sound P f sp' :=
  ⟨h.fn, fun w S vs ds htab hin hvs hp => by rw [(hw ds hp).2]; exact h.run w S vs ds htab hin hvs (hw ds hp).1⟩

/-- a call whose result the callee made: plain data. -/
theorem sound_ofH {f : Nat} {hs : HSpc} (h : HSound P f hs) {sp : Spc} (hsp : ∀ ds, sp.pre ds = true → ∃ k e sz xs, (hs (ds.map T.d) []).leaf = some (.vec k, [(k, .vec e sz xs)]) ∧ sp.val ds = .sl sz xs) : Sound P f sp := by
  refine ⟨h.fn, fun w S vs ds htab hin hvs hp => ?_⟩
  obtain ⟨k, e, sz, xs, hleaf, hval⟩ := hsp ds hp
  let b : Base P := ⟨w, w.heap.size, fun g => g < w.heap.size, fun _ => undef, fun _ hg => hg, fun _ hg => hg, Nat.le_refl _, htab, htab.lt⟩
  have hH0 : RelH b S S (fun _ => undef) [] w := ⟨Snap.le.refl S, fun _ _ hu => .inl hu, hin, fun k o hk => by simp [look] at hk, fun k k' g hk => by simp [look] at hk, ⟨rfl, rfl, rfl, Nat.le_refl _, fun _ _ => rfl⟩, fun k g hk => by simp [look] at hk, fun _ _ => rfl⟩
  have htv : TVs S (fun _ => undef) vs (ds.map T.d) := by
    refine ⟨by have := hvs.1; simpa using this, fun j u x hu hx => ?_⟩
    simp only [List.getElem?_map, Option.map_eq_some_iff] at hx
    obtain ⟨d, hd, rfl⟩ := hx
    exact ⟨hvs.2 j u d (by simpa using hu) hd, rfl⟩
  refine (h.run b S (fun _ => undef) [] (ds.map T.d) vs (.vec k) [(k, .vec e sz xs)] hH0 htv hleaf).mono fun e' w' hh => ?_
  obtain ⟨v, S', E', rfl, hle, hH, hv, _⟩ := hh
  have hvk : v = E' k := hv
  have hr : Rel 0 b S S' E' ⟨[], [(k, .vec e sz xs)]⟩ { tmps := #[], defers := [] } w' := hH.toRel rfl (Nat.zero_le _) (fun t x hx => by simp [look] at hx) (fun t x hx => by simp [look] at hx)
  obtain ⟨S'', hle', hr2, hV⟩ := hr.stow (k := k) (e := e) (sz := sz) (xs := xs) (by simp [look_cons])
  refine ⟨v, S'', rfl, ⟨⟨hr2.below.os, hr2.below.tape, hr2.below.output, hr2.below.size, hr2.below.block⟩, hr2.le, fun a' u hu => (hr2.new a' u hu).imp id And.left, hr2.inn⟩, ?_⟩
  rw [hval, hvk]; exact hV

end Go.Ev
