/- THE ENGINE, part 14: a struct of a truth and three numbers, as a row's argument. No statement is proved here. -/
import Derived.Test.YtnpcejiijhgkjaaDoorEng13
import Derived.Lib.SmallJoins
namespace Go.Proofs.YtnpcejiijhgkjaaDoor.Eng
open Go Go.RowKit Go.ChangeShapes Go.WideShapes
set_option linter.unusedVariables false
def okP (a : Bool × Int × Int × Int) : Prop := okN .i64 a.2.1 ∧ okN .i64 a.2.2.1 ∧ okN .u64 a.2.2.2
section
variable {H : Type} {enc : TypeId × Value → H} {P : Program} {W : World} {t e : TypeId} {r : Reach} {b0 : Nat} {v : Value} {d : DataW H} {ps : List MemPlace} {sp : Nat → Bool} {held : Bool}
theorem arg_parts (hu : P.underlying t = some (.struct (fieldsOf P t))) (hsz : (fieldsOf P t).size = 4) (hone : Deep.oneCellFields P (fieldsOf P t) = true) (hC : P.cellsOf t = 4)
    (u0 : ((fieldsOf P t)[0]?).bind (fun f => P.underlying f.type) = some .bool) (u1 : ((fieldsOf P t)[1]?).bind (fun f => P.underlying f.type) = some (.int .i64))
    (u2 : ((fieldsOf P t)[2]?).bind (fun f => P.underlying f.type) = some (.int .i64)) (u3 : ((fieldsOf P t)[3]?).bind (fun f => P.underlying f.type) = some (.int .u64))
    (hv : Value.okWide P W r b0 t v) (h : DataW.Trod enc P W 0 sp held t v d ps) :
    ∃ a : Bool × Int × Int × Int, okP a ∧ CR (fun _ => False) W ((cSt (fC lBool (fC (lInt .i64) (fC (lInt .i64) (fO (lInt .u64)))))).enc a) v := by
  generalize fieldsOf P t = fs at *
  obtain ⟨f0, f1, f2, f3, rfl⟩ : ∃ f0 f1 f2 f3, fs = #[f0, f1, f2, f3] := by
    obtain ⟨l⟩ := fs
    match l, hsz with
    | [f0, f1, f2, f3], _ => exact ⟨f0, f1, f2, f3, rfl⟩
  obtain ⟨v0, v1, v2, v3, y0, y1, y2, y3, n, rfl, _, _, h0, h1, h2, h3⟩ := Joins.open_agg4 hu hone hC hv h
  obtain ⟨a, ea, _⟩ := DataW.trod_bool (show P.underlying f0.type = some .bool by simpa using u0) h0
  obtain ⟨b, eb, _, wb⟩ := DataW.trod_int (show P.underlying f1.type = some (.int .i64) by simpa using u1) h1
  obtain ⟨c, ec, _, wc⟩ := DataW.trod_int (show P.underlying f2.type = some (.int .i64) by simpa using u2) h2
  obtain ⟨g, eg, _, wg⟩ := DataW.trod_int (show P.underlying f3.type = some (.int .u64) by simpa using u3) h3
  injection ea with ea _
  injection eb with eb _
  injection ec with ec _
  injection eg with eg _
  subst ea; subst eb; subst ec; subst eg
  exact ⟨(a, b, c, g), ⟨wb, wc, wg⟩, [.bool a, .int .i64 b, .int .i64 c, .int .u64 g], rfl, rfl, rfl, rfl, rfl, trivial⟩
end
end Go.Proofs.YtnpcejiijhgkjaaDoor.Eng
