/- The law FnExactConstants holds: every exported constant of the program has the value that the document gives. No condition. -/
import Derived.Test.YtlfbhelaehdemaaPFnExactConstantsx1
namespace Go.Proofs.Ytlfbhelaehdemaa.Pure
open Go.RowKit Go.Proofs.Ytlfbhelaehdemaa.PFnExactConstants Go.Proofs.YtlfbhelaehdemaaW.PrintWords Go.Proofs.YtlfbhelaehdemaaW.PrintLast

theorem FnExactConstants : laws_FnExactConstants.Pure := by
  unfold laws_FnExactConstants.Pure laws_FnExactConstants.f
  rfl

end Go.Proofs.Ytlfbhelaehdemaa.Pure
