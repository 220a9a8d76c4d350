import Derived.Test.YtmgheiagnleeiaaMD
set_option linter.all false
section
/-! Plain models: maps as nodes; a name put in or taken out by the reference's steps; merged nodes' rows. -/
namespace Go.Rs
end Go.Rs
end
section
/-! Plain laws: merged nodes' names. -/
namespace Go.Rs
end Go.Rs
end
section
/-! Plain models: the patch that leads from a node to a plain one. -/
namespace Go.Rs
end Go.Rs
end
section
/-! Plain laws: patches lead from node to node. -/
namespace Go.Rs
end Go.Rs
end
section
/-! Plain models: the reference's steps towards the patch. -/
namespace Go.Rs
end Go.Rs
end
