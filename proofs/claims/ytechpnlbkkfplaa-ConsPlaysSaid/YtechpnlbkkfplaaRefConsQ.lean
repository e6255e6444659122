/- The document's rows of texts: one put in where it belongs; the queues that have a consumer. -/
import Derived.Test.YtechpnlbkkfplaaRefCons
set_option linter.unusedVariables false
set_option linter.unusedSimpArgs false
namespace Go.Proofs.Ytechpnlbkkfplaa.Pr
open Go Go.Lift Go.Proofs

abbrev fS (x : List UInt8) : List Value := [strV x]
theorem fS1 : ∀ x, (fS x).length = 1 := fun _ => rfl
theorem fS_one : ∀ x, ∀ w ∈ fS x, one w = true := fun x => by simp [one]
theorem mapS : ∀ xs : List (List UInt8), xs.flatMap fS = xs.map strV
  | [] => rfl
  | x :: r => by rw [List.flatMap_cons, mapS r]; rfl
abbrev SUp (zs : List (List UInt8)) : Prop := zs.Pairwise fun a b => sort_string.o.lt a b = true
theorem s_lt_of {a b : List UInt8} (h : sort_string.o.lt a b = false) (e : a ≠ b) : sort_string.o.lt b a = true := by
  cases h2 : sort_string.o.lt b a with
  | true => rfl
  | false => exact absurd (sort_string.le_anti a b h2 h) e
theorem s_trans {a b c : List UInt8} (h : sort_string.o.lt a b = true) (k : sort_string.o.lt b c = true) : sort_string.o.lt a c = true := by
  cases h2 : sort_string.o.lt a c with
  | true => rfl
  | false =>
    have h3 : sort_string.o.le c b := sort_string.o.le_trans h2 (sort_string.o.asym _ _ h)
    have h3 : sort_string.o.lt b c = false := h3
    rw [k] at h3; cases h3
theorem SUp.ins {zs : List (List UInt8)} (u : SUp zs) {q : List UInt8} {k : Nat} (h1 : ∀ x ∈ zs.take k, sort_string.o.lt x q = true) (h2 : ∀ x, zs[k]? = some x → sort_string.o.lt x q = false ∧ x ≠ q) : SUp (zs.take k ++ q :: zs.drop k) := by
  have hd : ∀ y ∈ zs.drop k, sort_string.o.lt q y = true := fun y hy => by
    obtain ⟨j, hj, rfl⟩ := List.mem_iff_getElem.1 hy
    simp only [List.length_drop] at hj
    rw [List.getElem_drop]
    have h3 := h2 zs[k] (List.getElem?_eq_getElem (by omega))
    have h4 := s_lt_of h3.1 h3.2
    cases j with
    | zero => exact h4
    | succ j => exact s_trans h4 (List.pairwise_iff_getElem.1 u k (k + (j + 1)) (by omega) (by omega) (by omega))
  refine List.pairwise_append.2 ⟨u.sublist (List.take_sublist ..), List.pairwise_cons.2 ⟨hd, u.sublist (List.drop_sublist ..)⟩, fun a ha b hb => ?_⟩
  rcases List.mem_cons.1 hb with e | e
  · subst e; exact h1 a ha
  · exact s_trans (h1 a ha) (hd b e)

section
variable {K : KT} {L : List Asr} {h : Heap} {w : Addr} {C : List CN} {s : SV}
section
variable {R R' : List Asr} {p q : OA} {l c l' c' k : Nat} {ys : List Value} {X : List (List UInt8)} {ty : TypeId}
theorem sAppP (S : St L h) [Has (Ow 1 (p, l, c)) L ys R] [In (Im 1 (q, l', c')) L (X.flatMap fS)] (hk : k ≤ X.length) (hx : l + X.length ≤ 1099511627776) (hK : ∀ p' c2 h', St (Ow 1 (p', l + k, c2) (ys ++ (X.take k).flatMap fS) :: R) h' → K (.slice p' (l + k) c2) h') :
    SemH P (Builtin.append_ #[T.sl_string, T.sl_string] ty #[.slice p l c, .slice (slA q 0 c' 1) k c']) K h :=
  St.appP (l' := l') fS1 fS_one (by decide) (by decide) sl_str rfl u_sls (fun k e => by cases e) S hk hx hK
theorem sAppT (S : St L h) [Has (Ow 1 (p, l, c)) L ys R] [In (Im 1 (q, l', c')) L (X.flatMap fS)] (hk : k ≤ X.length) (hx : l + X.length ≤ 1099511627776) (hK : ∀ p' c2 h', St (Ow 1 (p', l + (l' - k), c2) (ys ++ (X.drop k).flatMap fS) :: R) h' → K (.slice p' (l + (l' - k)) c2) h') :
    SemH P (Builtin.append_ #[T.sl_string, T.sl_string] ty #[.slice p l c, .slice (slA q k c' 1) (l' - k) (c' - k)]) K h :=
  St.appT fS1 fS_one (by decide) (by decide) sl_str rfl u_sls (fun k e => by cases e) S hk hx hK
theorem sAppB (S : St L h) [Has (Ow 1 (p, l, c)) L ys R] {a : Addr} {x : List UInt8} [Has (Bx a) L (fS x) R'] (hx : l ≤ 1099511627776) (hK : ∀ p' c2 h', St (Ow 1 (p', l + 1, c2) (ys ++ fS x) :: R) h' → K (.slice p' (l + 1) c2) h') :
    SemH P (Builtin.append_ #[T.sl_string, T.sl_string] ty #[.slice p l c, .slice (some a) 1 1]) K h :=
  St.appB fS_one (by decide) sl_str rfl u_sls (fun k e => by cases e) S fS1 hx hK
end
theorem finS {L0 R : List Asr} {zs : List (List UInt8)} (S : St L0 h) {p : OA} {l c : Nat} {vs : List Value} [H : Has (Ow 1 (p, l, c)) L0 vs R] [HL : Lift.Sub L R] (hv : vs = zs.map strV) (hK : ∀ h' o, St (Im 1 o (zs.map strV) :: L) h' → K (.slice o.1 o.2.1 o.2.2) h') : K (.slice p l c) h := by
  have S1 : St (Ow 1 (p, l, c) vs :: R) h := S.get (Ow 1 (p, l, c))
  rw [hv] at S1
  obtain ⟨D, hD⟩ := HL.ex
  exact hK h (p, l, c) (St.left (L := Im 1 (p, l, c) (zs.map strV) :: L) (D := D) (S1.im.perm (List.Perm.cons _ hD)))

set_option maxHeartbeats 4000000 in
theorem with16 {t : SV} {zs : List (List UInt8)} {q : List UInt8} [I : In (Im 1 t) L (zs.map strV)] (S : St L h) (u : SUp zs) (hl : zs.length < 1000000)
    (hK : ∀ h' o (zs' : List (List UInt8)), SUp zs' → (∀ x, x ∈ zs' ↔ x ∈ zs ∨ x = q) → zs'.length ≤ zs.length + 1 → St (Im 1 o (zs'.map strV) :: L) h' → K (.slice o.1 o.2.1 o.2.2) h') :
    CallsH P F.waybillref16_with [.slice t.1 t.2.1 t.2.2, .string (mkS q)] K h := by
  refine waybillref16_with.ok ?_
  unfold waybillref16_with.p0
  have m := S.isl 1 t
  have e2 := S.ile 1 t
  have e1 : t.2.1 = zs.length := by have := m.1; simpa using this.symm
  have S0 : St (Im 1 t (zs.map strV) :: L) h := S.idup 1 t
  have put : ∀ k, k ≤ zs.length → (∀ x ∈ zs.take k, sort_string.o.lt x q = true) → (∀ x, zs[k]? = some x → sort_string.o.lt x q = false ∧ x ≠ q) → waybillref16_with.j2 K t.1 t.2.1 t.2.2 q k false h := fun k hk h1 h2 => by
    unfold waybillref16_with.j2
    refine ifF rfl ?_
    have fin : ∀ h' o, St (Im 1 o ((zs.take k ++ q :: zs.drop k).map strV) :: L) h' → K (.slice o.1 o.2.1 o.2.2) h' := fun h' o S' => hK h' o _ (u.ins h1 h2) (fun x => by
      rw [List.mem_append, List.mem_cons, ← or_assoc, or_right_comm, ← List.mem_append, List.take_append_drop]) (by simp; omega) S'
    have ev : ([] ++ (zs.take k).flatMap fS ++ fS q ++ (zs.drop k).flatMap fS) = (zs.take k ++ q :: zs.drop k).map strV := by
      rw [mapS, mapS, List.map_append, List.map_cons]; simp
    rw [← mapS] at S0
    have S := S0
    simp only [Int.toNat_natCast]
    repeat' first
      | with_reducible refine And.intro ?_ ?_
      | with_reducible refine St.bd0 (sz := 1) S fun S => ?_
      | with_reducible refine St.bd1 (cs := fS q) S fun S => ?_
      | (with_reducible refine finS (L := L) (zs := zs.take k ++ q :: zs.drop k) S ?_ fin; exact ev)
      | with_reducible refine sAppP (q := t.1) (l' := t.2.1) (c' := t.2.2) (X := zs) S hk ?_ fun p c h S => ⟨_, _, _, rfl, ?_⟩
      | with_reducible refine sAppT (q := t.1) (l' := t.2.1) (c' := t.2.2) (X := zs) S hk ?_ fun p c h S => ⟨_, _, _, rfl, ?_⟩
      | with_reducible refine sAppB (x := q) S ?_ fun p c h S => ⟨_, _, _, rfl, ?_⟩
      | omega
      | exact ⟨by omega, by omega⟩
  have go : ∀ (fuel k : Nat), zs.length - k < fuel → k ≤ zs.length → (∀ x ∈ zs.take k, sort_string.o.lt x q = true) → waybillref16_with.L3 K fuel t.1 t.2.1 t.2.2 q k h := by
    intro fuel
    induction fuel with
    | zero => intro k hf; omega
    | succ fuel ih =>
      intro k hf hk hall
      unfold waybillref16_with.L3
      by_cases hlt : k < zs.length
      · have hx : zs[k]? = some zs[k] := List.getElem?_eq_getElem hlt
        refine ifT (by simp; omega) (ixV (n := k) (w := strV zs[k]) m rfl (by simp [hlt]) fun p ep cp => ⟨_, cp, ?_⟩)
        unfold waybillref16_with.j4
        cases hb : Op.bytesLess zs[k] q with
        | true =>
          refine ifT rfl ?_
          unfold bd
          rw [show IntKind.i64.wrap ((k : Int) + 1) = ((k + 1 : Nat) : Int) from wrapS (by omega) (by omega)]
          refine ih (k + 1) (by omega) (by omega) fun x hxm => ?_
          rw [List.take_add_one, hx] at hxm
          rcases List.mem_append.1 hxm with h3 | h3
          · exact hall x h3
          · simp at h3; subst h3; exact hb
        | false =>
          refine ifF rfl ?_
          unfold waybillref16_with.j1
          refine ifT (by simp; omega) (ixV (n := k) (w := strV zs[k]) m rfl (by simp [hlt]) fun p ep cp => ⟨_, cp, ?_⟩)
          cases he : (zs[k] == q) with
          | true =>
            have he : zs[k] = q := by simpa using he
            unfold waybillref16_with.j2
            exact ifT rfl (hK h t zs u (fun x => ⟨.inl, fun e => e.elim id fun e => by rw [e, ← he]; exact List.getElem_mem hlt⟩) (by omega) S0)
          | false =>
            exact put k hk hall fun x e => by
              rw [hx] at e
              cases e
              exact ⟨hb, by simpa using he⟩
      · refine ifF (by simp; omega) ?_
        unfold waybillref16_with.j4
        refine ifF rfl ?_
        unfold waybillref16_with.j1
        exact ifF (by simp; omega) (put k hk hall fun x e => by rw [List.getElem?_eq_none (by omega)] at e; cases e)
  exact ⟨_, go (zs.length + 1) 0 (by omega) (by omega) (by simp)⟩

theorem queues19 (S : St (DcW w C :: L) h) (hl : C.length < 100000)
    (hK : ∀ h' o (zs : List (List UInt8)), SUp zs → (∀ q, q ∈ zs ↔ q ∈ C.map quC) → zs.length ≤ C.length → St (Im 1 o (zs.map strV) :: DcW w C :: L) h' → K (.slice o.1 o.2.1 o.2.2) h') :
    CallsH P F.waybillref16_Cons_Queues [.pointer (some w)] K h := by
  obtain ⟨s, S⟩ := DcW.out S
  obtain ⟨e1, e2⟩ := DcL.len S
  refine waybillref16_Cons_Queues.ok ?_
  unfold waybillref16_Cons_Queues.p0
  have go : ∀ (fuel i : Nat) (o : SV) (zs : List (List UInt8)) (h : Heap), C.length - i < fuel → i ≤ C.length → SUp zs → (∀ q, q ∈ zs ↔ q ∈ (C.take i).map quC) → zs.length ≤ i → St (Im 1 o (zs.map strV) :: DcL w s C L) h → waybillref16_Cons_Queues.L1 K fuel (some w) o.1 o.2.1 o.2.2 i h := by
    intro fuel
    induction fuel with
    | zero => intro i o zs h hf; omega
    | succ fuel ih =>
      intro i o zs h hf hi uz mz lz S
      unfold waybillref16_Cons_Queues.L1
      refine ⟨w, rfl, _, _, _, S.p1.c 0 rfl, ?_⟩
      by_cases hlt : i < C.length
      · have hx : C[i]? = some C[i] := List.getElem?_eq_getElem hlt
        obtain ⟨p, ep, p0, p1, pc⟩ := cc_get hx (S.tl.isl 5 s)
        refine ifT (by simp; omega) ⟨w, rfl, _, _, _, S.p1.c 0 rfl, p, ep, p0, p1, _, pc 3 _ rfl, ?_⟩
        refine with16 (L := Im 1 o (zs.map strV) :: DcL w s C L) (t := o) (zs := zs) (q := quC C[i]) S uz (by omega) fun h' o' zs' u' m' l' S' => ⟨_, _, _, rfl, ?_⟩
        unfold bd
        rw [show IntKind.i64.wrap ((i : Int) + 1) = ((i + 1 : Nat) : Int) from wrapS (by omega) (by omega)]
        refine ih (i + 1) o' zs' h' (by omega) (by omega) u' (fun q => ?_) (by omega) S'.d1
        rw [m', mz, List.take_add_one, hx, List.map_append, List.mem_append]
        simp
      · refine ifF (by simp; omega) (hK h o zs uz (fun q => by rw [mz, List.take_of_length_le (by omega)]) (by omega) ?_)
        exact (DcW.inn (s := s) S.p2.p2).p1
  exact ⟨_, go (C.length + 1) 0 (none, 0, 0) [] h (by omega) (by omega) List.Pairwise.nil (by simp) (by simp) (S.imNil 1 0)⟩
end
end Go.Proofs.Ytechpnlbkkfplaa.Pr
