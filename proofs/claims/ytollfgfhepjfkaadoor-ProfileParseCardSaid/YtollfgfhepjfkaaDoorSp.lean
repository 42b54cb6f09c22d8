/- specs of the library's functions, out of the kit's shelf. -/
import Derived.Test.YtollfgfhepjfkaaDoorRd
import Derived.Test.YtollfgfhepjfkaaDoorSh
import Derived.Lib.AppendIntMem
namespace Go.Ev
open Go Go.Proofs Go.RowKit Go.Sort

theorem arg_int {S : Snap} {vs : Array Value} {k : IntKind} {n : Int} (h : Vs S vs.toList [.int k n]) : vs = #[.int k n] := by
  have hl := h.1
  obtain ⟨l⟩ := vs
  match l, hl, h with
  | [v], _, h =>
    have := h.2 0 v _ rfl rfl
    cases this
    rfl
/-- strconv.Itoa -/
def sp54 : Spc where
  pre ds := match ds with | [.int .i64 n] => decide (-9223372036854775808 ≤ n) && decide (n ≤ 9223372036854775807) | _ => false
  val ds := match ds with | [.int .i64 n] => .str (Lib.itoa n) | _ => .undef
theorem snd54 : Sound Tryd.prog 54 sp54 := ⟨⟨Tryd.f54, Tryd.func54, by kernel_rfl, by kernel_rfl⟩, fun w S vs ds htab hin hvs hp => by
  unfold sp54 at hp ⊢
  simp only at hp ⊢
  split at hp
  · rename_i n
    simp only [Bool.and_eq_true, decide_eq_true_eq] at hp
    have := arg_int hvs; subst this
    have hsome : (Tryd.prog.globalNamed tabName).isSome = true := by kernel_rfl
    obtain ⟨g, hg⟩ := Option.isSome_iff_exists.1 hsome
    refine (Tryd.strconv_Itoa n hp.1 hp.2 w (htab g hg)).mono fun e w' h => ?_
    obtain ⟨rfl, k, os, rfl⟩ := h
    have hb : Below w.heap.size w (Sort.grow (w.drewN k) os) := Lib.below_grow w.heap.size w (Nat.le_refl _) k os
    exact ⟨_, S, rfl, ⟨hb, Snap.le.refl S, fun _ _ hu => .inl hu, hin.below hb⟩, V.str _⟩
  · cases hp⟩
/-- strings.IndexByte -/
def sp59 : Spc where
  pre ds := match ds with | [.str _, .int .u8 _] => true | _ => false
  val ds := match ds with | [.str l, .int .u8 c] => .int .i64 (Lib.indexByte l c.toNat.toUInt8) | _ => .undef
theorem snd59 : Sound Tryd.prog 59 sp59 := ⟨⟨Tryd.f59, Tryd.func59, by kernel_rfl, by kernel_rfl⟩, fun w S vs ds _ hin hvs hp => by
  unfold sp59 at hp ⊢
  simp only at hp ⊢
  split at hp
  · rename_i l c
    have : vs = #[.string ⟨l.toArray⟩, .int .u8 c] := by
      have hl := hvs.1
      obtain ⟨q⟩ := vs
      match q, hl, hvs with
      | [u, v], _, h =>
        have h1 := h.2 0 u _ rfl rfl
        have h2 := h.2 1 v _ rfl rfl
        cases h1; cases h2
        rfl
    subst this
    refine (Tryd.strings_IndexByte ⟨l.toArray⟩ c w).mono fun e w' h => ?_
    obtain ⟨rfl, rfl⟩ := h
    exact ⟨_, S, rfl, Grew.refl hin, V.int _ _⟩
  · cases hp⟩
end Go.Ev
