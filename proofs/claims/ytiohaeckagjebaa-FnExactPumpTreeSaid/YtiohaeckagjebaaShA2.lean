/- append to a row of the call's own, once more: the row stays in its block, or is new. -/
import Derived.Test.YtiohaeckagjebaaShT
import Derived.ArgAppend
set_option linter.unusedVariables false
set_option linter.unusedSimpArgs false
set_option maxRecDepth 100000
namespace Go.Sh
open Go
/-- Same block, or a new one. -/
def Moved (w : World) (X X' : Option Addr) : Prop := blk X' = blk X ∨ ∀ q, blk X' = some q → w.heap.size ≤ q
section
variable {P : Program} {k : Value → World → Prop} {w : World}
theorem do_append2 {t e u sz by' : Nat} {z : Value} (ht : P.underlying t = some (.slice e)) (H : Inf P e z sz by') (hzs : z.cells.size = sz) (hsz : 0 < sz)
    {cs : List Bool} {B n c m d : Nat} {X Y : Option Addr} {cells news : List Value} (hO : Row w B e sz X n c cells) (hS : Src w Y news) (hl : news.length = m * sz) (h1 : ∀ v ∈ news, v.oneCell' = true) (hm : (n + m) * by' ≤ 140737488355328) (hmax : n + m ≤ 9223372036854775807) (hB : B ≤ w.heap.size)
    (h : ∀ X' c' w', Row w' B e sz X' (n + m) c' (cells ++ news) → w.grownBy w' (blk X) → Moved w X X' → k (.slice X' (n + m) c') w') : Do P (sBuiltin .append #[t, t] u cs [.slice X n c, .slice Y m d]) k w := by
  obtain ⟨i, hi, hz, hsize, hby⟩ := H
  have hfin : ∀ (v' : Value) (w' : World), (Builtin.append_ #[t, t] u #[.slice X n c, .slice Y m d]).run P w = .ok v' w' → w'.ownsRow B e sz v' (n + m) (cells ++ news) → w.grownBy w' (blk X) → (v'.ownBlock = blk X ∨ ∀ q, v'.ownBlock = some q → w.heap.size ≤ q) → Do P (sBuiltin .append #[t, t] u cs [.slice X n c, .slice Y m d]) k w := by
    intro v' w' hr ho hg hv
    have e' : (sBuiltin .append #[t, t] u cs [.slice X n c, .slice Y m d]).run P w = .ok (.value v') w' := by
      simp only [sBuiltin, builtin, Sem.run_bind]
      rw [show [Value.slice X n c, Value.slice Y m d].toArray = #[.slice X n c, .slice Y m d] from rfl, hr]
      rfl
    rw [do_value e']
    rcases ho.2 with ⟨rfl, hn⟩ | ⟨g, cap, cur, rfl, rest⟩
    · have := h none 0 w' (by rw [hn] at ho ⊢; exact ho) hg hv
      rwa [hn] at this
    · exact h _ _ _ ho hg hv
  cases Y with
  | none =>
    have hn : news = [] := by
      cases news with
      | nil => rfl
      | cons v vs => have := hS.ptr (by simp); cases this
    subst hn
    have hm0 : m = 0 := by
      rcases Nat.mul_eq_zero.1 (show m * sz = 0 from hl.symm) with h | h
      · exact h
      · omega
    subst hm0
    exact hfin _ _ (run_append_none ht ⟨i, hi, hsize⟩ hO.cap.1) (by rw [List.append_nil, Nat.add_zero]; exact hO) (gr_any (Gr.refl w) _) (.inl own_eq)
  | some a =>
    have h63 : n + m ≤ maxLen := by unfold maxLen; omega
    rcases hO.at_ with ⟨rfl, rfl, rfl⟩ | ⟨g, rfl, hbg, hgl⟩
    · have hnil : cells = [] := List.eq_nil_of_length_eq_zero (by rw [hO.len]; omega)
      subst hnil
      obtain ⟨v', w', h1', h2', h3', _⟩ := run_append_own (P := P) (w := w) w.heap.size t u e i z sz by' ht hi hz hsize hby hzs hsz (.slice none 0 0) 0 [] (Row.nil w w.heap.size e sz) a m d news hl (fun j u hu => hS.cell j u hu) h1 h63 hm (Nat.le_refl _)
      refine hfin v' w' h1' ?_ h3' (.inr fun q hq => ?_)
      · rcases h2'.2 with ⟨rfl, hn⟩ | ⟨g, cap, cur, rfl, e2, rest⟩
        · exact ⟨h2'.1, .inl ⟨rfl, hn⟩⟩
        · exact ⟨h2'.1, .inr ⟨g, cap, cur, rfl, Nat.le_trans hB e2, rest⟩⟩
      · rcases h2'.2 with ⟨rfl, hn⟩ | ⟨g, cap, cur, rfl, e2, rest⟩
        · cases hq
        · have : g = q := by simpa [Value.ownBlock] using hq
          omega
    · by_cases hroom : n + m ≤ c
      · obtain ⟨v', w', h1', h2', h3', _⟩ := run_append_own (P := P) (w := w) B t u e i z sz by' ht hi hz hsize hby hzs hsz _ n cells hO a m d news hl (fun j u hu => hS.cell j u hu) h1 h63 hm hB
        refine hfin v' w' h1' h2' (by rw [← own_eq]; exact h3') (.inl ?_)
        rcases hO.2 with ⟨hbad, _⟩ | ⟨g', cap', cur, e1, e2, e3, e4, e5, e6, e7⟩
        · simp at hbad
        obtain ⟨rfl, _, rfl⟩ : g = g' ∧ n = n ∧ c = cap' := by simpa using e1
        subst hsize
        have hr := run_append_room (P := P) w t u e i ht hi g n c cur e3 a m d news hl (fun j u hu => hS.cell j u hu) h1 hroom (by rw [hl, e6, ← Nat.add_mul]; exact Nat.mul_le_mul_right _ hroom)
        rw [hr] at h1'
        injection h1' with hv _
        rw [← hv]
        rfl
      · obtain ⟨v', w', h1', h2', h3'⟩ := run_append_arg_grows (P := P) (w := w) t u e i z sz by' ht hi hz hsize hby hzs hsz ⟨g, 0, none⟩ n c cells hO.len (fun j u hu => by
          have := hO.src.cell j u hu
          exact this) a m d news hl (fun j u hu => hS.cell j u hu) (by omega) h63 hm
        refine hfin v' w' h1' ?_ (gr_any h3' _) (.inr fun q hq => ?_)
        · rcases h2'.2 with ⟨rfl, hn⟩ | ⟨g, cap, cur, rfl, e2, rest⟩
          · exact ⟨h2'.1, .inl ⟨rfl, hn⟩⟩
          · exact ⟨h2'.1, .inr ⟨g, cap, cur, rfl, Nat.le_trans hB e2, rest⟩⟩
        · rcases h2'.2 with ⟨rfl, hn⟩ | ⟨g, cap, cur, rfl, e2, rest⟩
          · cases hq
          · have : g = q := by simpa [Value.ownBlock] using hq
            omega
end
end Go.Sh
