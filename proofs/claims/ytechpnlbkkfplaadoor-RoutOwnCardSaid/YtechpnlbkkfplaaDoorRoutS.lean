/- Rows that rise strictly by a key; rout: exchanges and bindings, as two such rows. -/
import Derived.Test.YtechpnlbkkfplaaDoorLiftPm
import Derived.Test.YtechpnlbkkfplaaDoorKeysBnd
import Derived.Test.YtechpnlbkkfplaaDoorKeysString
import Derived.Test.YtechpnlbkkfplaaDoorLiftD
import Derived.Test.YtechpnlbkkfplaaDoorLiftW
import Derived.Test.YtechpnlbkkfplaaDoorPrRout
set_option linter.unusedVariables false
set_option linter.unusedSimpArgs false
namespace Go.Lift.Ord
variable {κ α : Type} (o : Ord κ) (f : α → κ)

/-- Rising strictly. -/
abbrev Ups (l : List α) : Prop := l.Pairwise fun a b => o.lt (f a) (f b) = true
/-- Put in where it belongs. -/
def ins : List α → α → List α
  | [], a => [a]
  | y :: r, a => if o.lt (f y) (f a) then y :: ins r a else a :: y :: r

variable {o f}
theorem lt_irrefl (x : κ) : o.lt x x = false := by
  cases h : o.lt x x with
  | false => rfl
  | true => have := o.asym x x h; rw [h] at this; exact this
theorem lt_trans {x y z : κ} (h : o.lt x y = true) (k : o.lt y z = true) : o.lt x z = true := by
  cases e : o.lt x z with
  | true => rfl
  | false =>
    have := o.trans z x y e (o.asym x y h)
    rw [k] at this; cases this
theorem Ups.nodup {l : List α} (u : Ups o f l) : (l.map f).Nodup := by
  rw [List.nodup_iff_pairwise_ne, List.pairwise_map]
  exact u.imp fun h e => by rw [e, lt_irrefl] at h; cases h
theorem Ups.filter {l : List α} (u : Ups o f l) (p : α → Bool) : Ups o f (l.filter p) := u.sublist List.filter_sublist
theorem mem_ins {l : List α} {a x : α} : x ∈ ins o f l a ↔ x = a ∨ x ∈ l := by
  induction l with
  | nil => simp [ins]
  | cons y r ih =>
    unfold ins
    split
    · rw [List.mem_cons, ih, List.mem_cons]
      exact ⟨fun h => by rcases h with h | h | h <;> simp [h], fun h => by rcases h with h | h | h <;> simp [h]⟩
    · rw [List.mem_cons]
theorem len_ins (l : List α) (a : α) : (ins o f l a).length = l.length + 1 := by
  induction l with
  | nil => rfl
  | cons y r ih => unfold ins; split <;> simp [ih]
theorem Ups.ins {l : List α} {a : α} (anti : ∀ x y, o.le x y → o.le y x → x = y) (u : Ups o f l) (ha : f a ∉ l.map f) : Ups o f (Ord.ins o f l a) := by
  induction l with
  | nil => unfold Ord.ins; exact List.pairwise_singleton ..
  | cons y r ih =>
    have uy := List.pairwise_cons.1 u
    simp only [List.map_cons, List.mem_cons, not_or] at ha
    unfold Ord.ins
    split
    · rename_i h
      refine List.pairwise_cons.2 ⟨fun z hz => ?_, ih uy.2 ha.2⟩
      rcases mem_ins.1 hz with e | e
      · subst e; exact h
      · exact uy.1 z e
    · rename_i h
      have hy : o.lt (f a) (f y) = true := by
        cases e : o.lt (f a) (f y) with
        | true => rfl
        | false => exact absurd (anti (f a) (f y) (by simpa [Ord.le] using h) e) ha.1
      refine List.pairwise_cons.2 ⟨fun z hz => ?_, u⟩
      rcases List.mem_cons.1 hz with e | e
      · subst e; exact hy
      · exact lt_trans hy (uy.1 z e)
/-- Two that rise strictly and have the same are one. -/
theorem Ups.ext {l m : List α} (u : Ups o f l) (v : Ups o f m) (h : ∀ x, x ∈ l ↔ x ∈ m) : l = m := by
  induction l generalizing m with
  | nil =>
    cases m with
    | nil => rfl
    | cons y s => have := (h y).2 (by simp); cases this
  | cons x r ih =>
    cases m with
    | nil => have := (h x).1 (by simp); cases this
    | cons y s =>
      have ux := List.pairwise_cons.1 u
      have vy := List.pairwise_cons.1 v
      have e : x = y := by
        rcases List.mem_cons.1 ((h x).1 (by simp)) with e | e
        · exact e
        · rcases List.mem_cons.1 ((h y).2 (by simp)) with e2 | e2
          · exact e2.symm
          · have h1 := ux.1 _ e2
            have h2 := vy.1 _ e
            rw [o.asym _ _ h1] at h2; cases h2
      subst e
      rw [ih ux.2 vy.2 fun z => ⟨fun hz => ?_, fun hz => ?_⟩]
      · rcases List.mem_cons.1 ((h z).1 (List.mem_cons_of_mem _ hz)) with e | e
        · subst e; have := ux.1 _ hz; rw [lt_irrefl] at this; cases this
        · exact e
      · rcases List.mem_cons.1 ((h z).2 (List.mem_cons_of_mem _ hz)) with e | e
        · subst e; have := vy.1 _ hz; rw [lt_irrefl] at this; cases this
        · exact e
/-- What rises, no key twice, rises strictly. -/
theorem ups_of_le {l : List κ} (anti : ∀ x y, o.le x y → o.le y x → x = y) (s : l.Pairwise o.le) (n : l.Nodup) : Ups o id l := by
  induction l with
  | nil => exact List.Pairwise.nil
  | cons x r ih =>
    have sx := List.pairwise_cons.1 s
    have nx := List.nodup_cons.1 n
    refine List.pairwise_cons.2 ⟨fun y hy => ?_, ih sx.2 nx.2⟩
    show o.lt x y = true
    cases e : o.lt x y with
    | true => rfl
    | false => exact absurd ((anti x y (sx.1 y hy) e) ▸ hy) nx.1
end Go.Lift.Ord
set_option linter.unusedVariables false
set_option linter.unusedSimpArgs false
namespace Go.Proofs.YtechpnlbkkfplaaDoor.Pr
open Go Go.Lift Go.Proofs

/-- An exchange: its name, its kind, whether it lasts. -/
abbrev XN := List UInt8 × Int × Bool
abbrev xc (x : XN) : List Value := [.string (mkS x.1), .int .i64 x.2.1, .bool x.2.2]
abbrev zx : List Value := [.string (mkS []), .int .i64 0, .bool false]
abbrev zb : List Value := [.string (mkS []), .string (mkS []), .string (mkS [])]
abbrev vvX : XN → Value := fun x => .agg #[.string (mkS x.1), .int .i64 x.2.1, .bool x.2.2]
abbrev vvO : Int → Value := fun n => .int .i64 n
theorem xc3 : ∀ x : XN, (xc x).length = 3 := fun _ => rfl
theorem xc_one (x : XN) : ∀ w ∈ xc x, one w = true := by simp [one]
theorem umX : P.underlying T.map_string_api_Exch = some (.map T.string T.api_Exch) := by kernel_rfl
theorem umB : P.underlying T.map_api_Bind_int = some (.map T.api_Bind T.int) := by kernel_rfl
theorem zX : (P.info? T.api_Exch).bind (·.zero) = some (.agg #[.string (mkS []), .int .i64 0, .bool false]) := by kernel_rfl
theorem zI : (P.info? T.int).bind (·.zero) = some (.int .i64 0) := by kernel_rfl
theorem klS : KeyL P T.string encS := KeyL.str (by kernel_rfl)
theorem sl_bind : SlT P T.sl_api_Bind T.api_Bind 3 48 zb := slT (by kernel_rfl) (by kernel_rfl)
theorem u_slb : P.underlying T.sl_api_Bind = some (.slice T.api_Bind) := by kernel_rfl
theorem bld_bind' : (fun a b c : Value => Instr.fill (Lift.places P (P.underlying T.sl_api_Bind)) (zrow (zcl P T.api_Bind).toList 1 (P.cellsOf T.api_Bind)).toArray [(0, .agg (List.toArray [a, b, c]))]) = fun a b c => some (List.toArray [a, b, c]) := by kernel_rfl
theorem bld_bind (x : BN) : bldS P T.sl_api_Bind T.api_Bind 1 [(0, .agg (List.toArray (bc x)))] (bc x) := congrFun (congrFun (congrFun bld_bind' _) _) _

/-! ### Bindings as keys -/
theorem bind_held : P.stoodInHeld T.api_Bind = false := by kernel_rfl
theorem eqFields_step' {d : Nat} {xs ys : Array Value} {f : Field} {fs : List Field} {u v : Value} {c : Bool} {w : World} (hn : f.name ≠ "_") (h1 : (part f.type xs f.offset).run P w = .ok u w) (h2 : (part f.type ys f.offset).run P w = .ok v w)
    (h3 : (Op.equalIn d f.type u v).run P w = .ok c w) : (Op.eqFields d xs ys (f :: fs)).run P w = if c = true then (Op.eqFields d xs ys fs).run P w else .ok false w := by
  conv => lhs; unfold Op.eqFields
  rw [if_pos hn, Sem.run_bind, h1, Result.andThen_ok, Sem.run_bind, h2, Result.andThen_ok, Sem.run_bind, h3, Result.andThen_ok]
  cases c <;> simp
theorem bp0 (z : BN) (w : World) : (part T.string (List.toArray (bc z)) 0).run P w = .ok (.string (mkS z.1)) w := run_part_scalar (by kernel_rfl) rfl
theorem bp1 (z : BN) (w : World) : (part T.string (List.toArray (bc z)) 1).run P w = .ok (.string (mkS z.2.1)) w := run_part_scalar (by kernel_rfl) rfl
theorem bp2 (z : BN) (w : World) : (part T.string (List.toArray (bc z)) 2).run P w = .ok (.string (mkS z.2.2)) w := run_part_scalar (by kernel_rfl) rfl
theorem bindFields (a b : BN) (w : World) : (Op.eqFields 9999 (List.toArray (bc a)) (List.toArray (bc b)) (P.fieldsOf T.api_Bind).toList).run P w = .ok (decide (a = b)) w := by
  have i0 := run_equalIn_string (P := P) w 9998 T.string (mkS a.1) (mkS b.1) str_und
  have i1 := run_equalIn_string (P := P) w 9998 T.string (mkS a.2.1) (mkS b.2.1) str_und
  have i2 := run_equalIn_string (P := P) w 9998 T.string (mkS a.2.2) (mkS b.2.2) str_und
  rw [bind_fields]
  have s0 := fun fs => eqFields_step' (w := w) (f := ⟨"Exch", T.string, 0, false, "", "", 0⟩) (fs := fs) (by decide) (bp0 a w) (bp0 b w) i0
  have s1 := fun fs => eqFields_step' (w := w) (f := ⟨"Queue", T.string, 1, false, "", "", 16⟩) (fs := fs) (by decide) (bp1 a w) (bp1 b w) i1
  have s2 := fun fs => eqFields_step' (w := w) (f := ⟨"Key", T.string, 2, false, "", "", 32⟩) (fs := fs) (by decide) (bp2 a w) (bp2 b w) i2
  have s3 : (Op.eqFields 9999 (List.toArray (bc a)) (List.toArray (bc b)) []).run P w = .ok true w := by simp [Op.eqFields]
  show (Op.eqFields 9999 _ _ [⟨"Exch", T.string, 0, false, "", "", 0⟩, ⟨"Queue", T.string, 1, false, "", "", 16⟩, ⟨"Key", T.string, 2, false, "", "", 32⟩]).run P w = _
  rw [s0, s1, s2, s3]
  obtain ⟨a0, a1, a2⟩ := a
  obtain ⟨b0, b1, b2⟩ := b
  by_cases h0 : a0 = b0 <;> by_cases h1 : a1 = b1 <;> by_cases h2 : a2 = b2 <;> simp [ByteArray.toList_eq, mkS, h0, h1, h2]
theorem bindCheck (b : Bool) (a : BN) (w : World) : (Instr.checkKey b 10000 T.api_Bind (kkB a)).run P w = .ok () w := by
  have h2 : ∀ (x : List UInt8) (w : World), (Instr.checkKey b 9999 T.string (.string (mkS x))).run P w = .ok () w := fun x w => _root_.Go.MapKept.run_checkKey str_und (by simp [_root_.Go.MapKept.IsKey]) b 9998
  rw [Instr.checkKey.eq_def]
  simp only [Sem.run_bind, Go.run_underlying bind_und, Result.andThen_ok, bind_fields]
  simp [bp0, bp1, bp2, h2]
theorem klB : KeyL P T.api_Bind kkB :=
  KeyL.ask bind_und (fun a v => by cases v <;> rfl) (fun a b w => by
    show (Op.equalIn (9999 + 1) T.api_Bind (.agg (List.toArray (bc a))) (.agg (List.toArray (bc b)))).run P w = _
    rw [run_equalIn_agg _ _ _ _ _ bind_und bind_held]
    exact bindFields a b w) bindCheck (fun x => by
    show Instr.sameBits (9999 + 1) (kkB x) (kkB x) = true
    have e : ∀ s : List UInt8, ((mkS s).toList == (mkS s).toList) = true := fun s => beq_self_eq_true _
    simp [kkB, bc, Instr.sameBits, (_root_.Go.MapKept.bytes_beq _ _).2])

/-! ### The state -/
/-- The maps stand for two rows. -/
structure RRel (X : List XN) (B : List BN) (kx : List (List UInt8 × XN)) (kb : List (BN × Int)) : Prop where
  ux : Ord.Ups sort_string.o Prod.fst X
  ub : Ord.Ups sort_bind.o id B
  ndx : (kx.map Prod.fst).Nodup
  ndb : (kb.map Prod.fst).Nodup
  x : ∀ n x, get? kx n = some x ↔ x ∈ X ∧ x.1 = n
  b : ∀ b v, get? kb b = some v ↔ b ∈ B ∧ v = 1
  okx : ∀ x ∈ X, x.1.length ≤ maxLen
  okb : ∀ b ∈ B, okB b

abbrev RtA (r : Addr) (mx mb : Nat) (kx : List (List UInt8 × XN)) (kb : List (BN × Int)) (L : List Asr) : List Asr := Bx r [.map (some mx), .map (some mb)] :: Mq encS vvX mx kx :: Mq kkB vvO mb kb :: L
def RtW (r : Addr) (X : List XN) (B : List BN) : Asr := ex fun y : Nat × Nat × List (List UInt8 × XN) × List (BN × Int) => sep (fact (RRel X B y.2.2.1 y.2.2.2)) (stars [Bx r [.map (some y.1), .map (some y.2.1)], Mq encS vvX y.1 y.2.2.1, Mq kkB vvO y.2.1 y.2.2.2])

section
variable {K : KT} {L : List Asr} {h : Heap} {r : Addr} {X : List XN} {B : List BN}
theorem RtW.out (S : St (RtW r X B :: L) h) : ∃ mx mb kx kb, RRel X B kx kb ∧ St (RtA r mx mb kx kb L) h := by
  obtain ⟨⟨mx, mb, kx, kb⟩, S1⟩ := St.ex S
  obtain ⟨q, S2⟩ := S1.split.fact
  exact ⟨mx, mb, kx, kb, q, S2.open⟩
theorem RtW.inn {mx mb : Nat} {kx : List (List UInt8 × XN)} {kb : List (BN × Int)} (q : RRel X B kx kb) (S : St (RtA r mx mb kx kb L) h) : St (RtW r X B :: L) h :=
  St.ex' (mx, mb, kx, kb) (St.join (St.fact' q (St.close (As := [Bx r [.map (some mx), .map (some mb)], Mq encS vvX mx kx, Mq kkB vvO mb kb]) S)))

theorem RRel.nil : RRel [] [] [] [] := ⟨List.Pairwise.nil, List.Pairwise.nil, by simp, by simp, by simp [get?, fnd], by simp [get?, fnd], by simp, by simp⟩
/-- What a row holds under a name. -/
def xget (X : List XN) (n : List UInt8) : Option XN := X.find? fun x => x.1 == n
theorem xget_iff {X : List XN} (u : Ord.Ups sort_string.o Prod.fst X) {n : List UInt8} {x : XN} : xget X n = some x ↔ x ∈ X ∧ x.1 = n := by
  unfold xget
  constructor
  · intro h
    exact ⟨List.mem_of_find?_eq_some h, by have := List.find?_some h; simpa using this⟩
  · rintro ⟨hm, rfl⟩
    have hn := u.nodup
    clear u
    induction X with
    | nil => cases hm
    | cons y s ih =>
      simp only [List.map_cons, List.nodup_cons] at hn
      rw [List.find?_cons]
      by_cases e : y.1 = x.1
      · rw [show (y.1 == x.1) = true by simpa using e]
        rcases List.mem_cons.1 hm with h | h
        · rw [h]
        · exact absurd (List.mem_map.2 ⟨x, h, e.symm⟩) hn.1
      · rw [show (y.1 == x.1) = false by simpa using e]
        rcases List.mem_cons.1 hm with h | h
        · subst h; exact absurd rfl e
        · exact ih h hn.2
theorem RRel.xg {kx kb} (q : RRel X B kx kb) (n : List UInt8) : get? kx n = xget X n := by
  cases h : xget X n with
  | none =>
    cases k : get? kx n with
    | none => rfl
    | some x => rw [(xget_iff q.ux).2 ((q.x n x).1 k)] at h; cases h
  | some x => exact (q.x n x).2 ((xget_iff q.ux).1 h)
theorem RRel.bg {kx kb} (q : RRel X B kx kb) (b : BN) : get? kb b = if b ∈ B then some 1 else none := by
  by_cases hm : b ∈ B
  · rw [if_pos hm]; exact (q.b b 1).2 ⟨hm, rfl⟩
  · rw [if_neg hm]
    cases k : get? kb b with
    | none => rfl
    | some v => exact absurd ((q.b b v).1 k).1 hm
/-- Of exchanges, one more. -/
abbrev insX (X : List XN) (x : XN) : List XN := Ord.ins sort_string.o Prod.fst X x
abbrev insB (B : List BN) (b : BN) : List BN := Ord.ins sort_bind.o id B b
theorem xget_none {X : List XN} {n : List UInt8} (h : xget X n = none) : n ∉ X.map Prod.fst := fun hm => by
  obtain ⟨x, hx, rfl⟩ := List.mem_map.1 hm
  have := List.find?_eq_none.1 h x hx
  simp at this
theorem RRel.addX {kx kb} (q : RRel X B kx kb) {x : XN} (h : xget X x.1 = none) (hl : x.1.length ≤ maxLen) : RRel (insX X x) B (Lift.upd kx x.1 x) kb := by
  have hn := xget_none h
  have ui := q.ux.ins (a := x) sort_string.le_anti hn
  refine ⟨ui, q.ub, (upd_keys q.ndx).1, q.ndb, fun n y => ?_, q.b, fun y hy => ?_, q.okb⟩
  · rw [get?_upd]
    by_cases e : n = x.1
    · subst e
      rw [if_pos rfl, Ord.mem_ins]
      constructor
      · intro h; cases h; exact ⟨.inl rfl, rfl⟩
      · rintro ⟨h1 | h1, h2⟩
        · rw [h1]
        · exact absurd (List.mem_map.2 ⟨y, h1, h2⟩) hn
    · rw [if_neg e, q.x, Ord.mem_ins]
      exact ⟨fun h => ⟨.inr h.1, h.2⟩, fun h => ⟨h.1.elim (fun e2 => absurd (by rw [← h.2, e2]) e) id, h.2⟩⟩
  · rcases Ord.mem_ins.1 hy with e | e
    · rw [e]; exact hl
    · exact q.okx y e
theorem RRel.addB {kx kb} (q : RRel X B kx kb) {b : BN} (h : b ∉ B) (hl : okB b) : RRel X (insB B b) kx (Lift.upd kb b 1) := by
  refine ⟨q.ux, q.ub.ins (a := b) sort_bind.le_anti (by rw [List.map_id]; exact h), q.ndx, (upd_keys q.ndb).1, q.x, fun c v => ?_, q.okx, fun c hc => ?_⟩
  · rw [get?_upd]
    by_cases e : c = b
    · subst e
      rw [if_pos rfl, Ord.mem_ins]
      exact ⟨fun h => (by cases h; exact ⟨.inl rfl, rfl⟩), fun h => (by rw [h.2])⟩
    · rw [if_neg e, q.b, Ord.mem_ins]
      exact ⟨fun h => ⟨.inr h.1, h.2⟩, fun h => ⟨h.1.elim (fun e2 => absurd e2 e) id, h.2⟩⟩
  · rcases Ord.mem_ins.1 hc with e | e
    · rw [e]; exact hl
    · exact q.okb c e
theorem RRel.delB {kx kb} (q : RRel X B kx kb) (b : BN) : RRel X (B.filter fun c => decide (c ≠ b)) kx (del kb b) := by
  refine ⟨q.ux, q.ub.filter _, q.ndx, del_keys q.ndb, q.x, fun c v => ?_, q.okx, fun c hc => q.okb c (List.mem_filter.1 hc).1⟩
  rw [get?_del _ _ _ q.ndb, List.mem_filter, decide_eq_true_eq]
  by_cases e : c = b
  · rw [if_pos e]
    exact ⟨fun h => (by cases h), fun h => absurd e h.1.2⟩
  · rw [if_neg e, q.b]
    exact ⟨fun h => ⟨⟨h.1, e⟩, h.2⟩, fun h => ⟨h.1.1, h.2⟩⟩
theorem RRel.delX {kx kb} (q : RRel X B kx kb) (n : List UInt8) : RRel (X.filter fun x => decide (x.1 ≠ n)) B (del kx n) kb := by
  refine ⟨q.ux.filter _, q.ub, del_keys q.ndx, q.ndb, fun m x => ?_, q.b, fun x hx => q.okx x (List.mem_filter.1 hx).1, q.okb⟩
  rw [get?_del _ _ _ q.ndx, List.mem_filter, decide_eq_true_eq]
  by_cases e : m = n
  · rw [if_pos e]
    exact ⟨fun h => (by cases h), fun h => absurd (h.2.trans e) h.1.2⟩
  · rw [if_neg e, q.x]
    exact ⟨fun h => ⟨⟨h.1, fun e2 => e (h.2.symm.trans e2)⟩, h.2⟩, fun h => ⟨h.1.1, h.2⟩⟩
theorem RRel.permX {kx kb} (q : RRel X B kx kb) : (kx.map Prod.fst).Perm (X.map Prod.fst) := by
  rw [List.perm_ext_iff_of_nodup q.ndx q.ux.nodup]
  intro n
  constructor
  · intro h
    obtain ⟨y, hy, rfl⟩ := List.mem_map.1 h
    have := (q.x y.1 y.2).1 ((get?_iff q.ndx).2 hy)
    exact List.mem_map.2 ⟨y.2, this.1, this.2⟩
  · intro h
    obtain ⟨x, hx, rfl⟩ := List.mem_map.1 h
    exact List.mem_map.2 ⟨_, get?_mem ((q.x x.1 x).2 ⟨hx, rfl⟩), rfl⟩
theorem RRel.permB {kx kb} (q : RRel X B kx kb) : (kb.map Prod.fst).Perm B := by
  have nb : B.Nodup := by have := q.ub.nodup; rwa [List.map_id] at this
  rw [List.perm_ext_iff_of_nodup q.ndb nb]
  intro b
  constructor
  · intro h
    obtain ⟨y, hy, rfl⟩ := List.mem_map.1 h
    exact ((q.b y.1 y.2).1 ((get?_iff q.ndb).2 hy)).1
  · intro h
    exact List.mem_map.2 ⟨_, get?_mem ((q.b b 1).2 ⟨h, rfl⟩), rfl⟩
end
end Go.Proofs.YtechpnlbkkfplaaDoor.Pr
