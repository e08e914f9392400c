/- The abstract machine: an array of our own grows by what a very value's object holds; more to look at. -/
import Derived.Test.YteoiohkdhdpkoaaAmHL
namespace Go.Am
open Go

/-- The very value is a slice that holds these rows. -/
def ReadX (σ : S) (ty sz : Nat) (rows : List (List D)) (v : Value) : Prop := ∀ w0 A locs β a w, Sim w0 A locs β σ a w → ∃ F, FlatI ty sz rows v w F
theorem read_flat {σ : S} {id ty sz : Nat} {rows : List (List D)} {v : Value} {I : World → (Nat → Prop) → Prop} (hm : σ.m id = some (.ext I)) (hI : ∀ w F, I w F → FlatI ty sz rows v w F) : ReadX σ ty sz rows v := fun _ _ _ β _ w hS => by
  have hob : ExtAt I w (foot (β id)) := hS.ob id _ hm
  exact ⟨_, hI _ _ hob.now⟩
theorem read_inn {σ : S} {id ty sz : Nat} {xs : List (Value × List (List D))} {x : Value × List (List D)} (hm : σ.m id = some (.ext (InnI ty sz xs))) (hx : x ∈ xs) : ReadX σ ty sz x.2 x.1 := fun _ _ _ β _ w hS => by
  have hob : ExtAt _ w (foot (β id)) := hS.ob id _ hm
  obtain ⟨G, _, _, g3⟩ := hob.now
  obtain ⟨j, hj⟩ := List.getElem?_of_mem hx
  exact ⟨_, g3 j x hj⟩
/-- One of many flat arrays, looked at. -/
theorem look_inn {σ : S} {ids : List Nat} {id ty sz : Nat} {xs : List (Value × List (List D))} {x : Value × List (List D)} (hm : σ.m id = some (.ext (InnI ty sz xs))) (hid : id ∈ ids) (hx : x ∈ xs) : LookA σ ids (.imm (.other x.1)) (.list x.2) :=
  look_ext hm hid fun w F B hI hB => by
    obtain ⟨G, g1, _, g3⟩ := hI
    obtain ⟨j, hj⟩ := List.getElem?_of_mem hx
    exact (g3 j x hj).rep fun b hb => hB b (g1 j b hb)

section
variable {P : Program} {T : TypeId → Option TI} {t : Nat → AV} {m : Nat → Option O} {ep n : Nat} {pm : List Nat} {k : S → Prop}
variable {ops : Array Oper} {rest : List Oper} {d : Nat} {oty : TypeId} {pos : String} {after : Array Edge} {g : Option (Nat × Bool)}

theorem ext_appX (hT : TOk P T) {x y : Operand} {tt e a1 b1 id off len sz : Nat} {z1 : List D} {te : TI} {rows rows' : List (List D)} {v : Value} (ht : T tt = some ⟨.slice e, a1, b1, z1⟩) (hE : T e = some te) (hx : evT t x = .own id off len) (hm : m id = some (.arr e sz rows)) (hsz : sz = te.size) (hfull : off + len = rows.length)
    (hy : evT t y = .imm (.other v)) (hR : ReadX ⟨t, m, ep, n, pm⟩ e te.size rows' v) (hone : rows'.all (fun r => r.all D.one) = true) (hby : (len + rows'.length) * te.bytes ≤ 140737488355328) (hmax : len + rows'.length ≤ 4611686018427387904) (hn : m (nid ep d) = none) (hd : dstOk (some d) n = true)
    (h : forceM m [(id, .gone), (nid ep d, .arr e te.size (rows.drop off ++ rows'))] fun m' => amOps P T ops rest ⟨putT t (some d) (.own (nid ep d) 0 (len + rows'.length)), m', ep, n, pm⟩ k) :
    ExtOp P ⟨some d, .call { callee := .builtin .append, args := #[x, y], argTypes := #[tt, tt] }, oty, pos, after, g⟩ ⟨t, m, ep, n, pm⟩ fun σ' => amOps P T ops rest σ' k := by
  subst hsz
  rw [forceM_eq] at h
  intro w0 A locs β a w hs next Q hnext
  have hu := hT.slice ht rfl
  have hxv := evT_eval hs x
  rw [hx] at hxv
  have hyv := evT_other hs hy
  obtain ⟨F, q1, q2, q3⟩ := hR _ _ _ _ _ _ hs
  have hgo : ∃ (ad : Option Addr) (c : Nat) (gg : Nat → Value), v = .slice ad rows'.length c ∧ (0 < rows'.length → ∃ b : Addr, ad = some b ∧ ∀ (j : Nat) (dd : D), rows'.flatten[j]? = some dd → w.cell? (b.add j) = some (gg j)) ∧ ∀ (j : Nat) (dd : D), rows'.flatten[j]? = some dd → Rep w (Bl A β m) (gg j) dd := by
    rcases q3 with ⟨rfl, rfl⟩ | ⟨b, base, tot, cs, ad, f1, rfl, f3, f4, f5, f6, f7, f8⟩
    · exact ⟨none, 0, fun _ => Go.undef, rfl, fun h => by simp at h, fun j dd h => by simp at h⟩
    · refine ⟨some ad, tot, fun j => cs.getD (base + j) Go.undef, rfl, fun h0 => ⟨ad, rfl, fun j dd hj => ?_⟩, fun j dd hj => f8 j dd hj _ _⟩
      have had := f3 (by omega)
      subst had
      have hjl := (List.getElem?_eq_some_iff.1 hj).1
      have hfl : rows'.flatten.length = rows'.length * te.size := flat_len rows' q1
      have hmul : rows'.length * te.size ≤ tot * te.size := Nat.mul_le_mul_right _ f6
      rw [add_spot rfl]
      exact run_load_at f4 (by show base + j < _; omega)
  obtain ⟨ad, c, gg, rfl, h1, h2⟩ := hgo
  obtain ⟨v', w', β', hr, hs2, hav⟩ := append_sim (ty' := oty) (c := c) hT hs hu hE hm hfull hn hxv rfl q1 (fun r hr => List.all_eq_true.1 hone r hr) gg h1 h2 hby hmax
  have hrun : (execOp a.eval ⟨some d, .call { callee := .builtin .append, args := #[x, y], argTypes := #[tt, tt] }, oty, pos, after, g⟩).run P w = .ok (.value v') w' := by
    simp only [execOp, resolve, invoke, builtin, Sem.run_bind, Sem.run_pure, Result.andThen_ok, List.map_toArray, List.map_cons, List.map_nil, hyv, hr]
  unfold Oper.wp
  rw [hrun]
  exact hnext _ h β' _ _ (hs2.put (dst := some d) (dst_lt' hd) hav)
end
end Go.Am

